/-
  The executor of Sx.lean is sound: operations, code, functions. Conditions: none.
-/
import Derived.Test.YthihffgmmkhlhaaSxW
namespace Go.SX

section
variable {P : Program} {E : World} {Γ : Ty} {n : Nat}

theorem run_len_str {t ty : TypeId} (h : P.underlying t = some .string) (s : ByteArray) (w : World) : (Builtin.len_ #[t] ty #[.string s]).run P w = .ok (goInt s.size) w := by
  simp [Builtin.len_, run_underlying h]
theorem run_len_sl {t ty e : TypeId} (h : P.underlying t = some (.slice e)) (a : Option Addr) (m c : Nat) (w : World) : (Builtin.len_ #[t] ty #[.slice a m c]).run P w = .ok (goInt m) w := by
  simp [Builtin.len_, run_underlying h]

theorem run_callFunc {f : FuncId} {fn : Func} (hf : P.funcs[f]? = some fn) (hn : fn.name ≠ "runtime.NumGoroutine") (hb : fn.body.isSome = true) (args : Array Value) (w : World) :
    (callFunc f args).run P w = .ok (.enter f args) w := by
  unfold callFunc
  have h1 : (fn.name == "runtime.NumGoroutine") = false := by simpa using hn
  have h2 : fn.body.isNone = false := by cases h : fn.body <;> simp_all
  simp only [Sem.run_bind, run_program, Result.andThen_ok, hf, h1, h2, Bool.false_eq_true, if_false, Sem.run_pure]

set_option maxHeartbeats 1000000 in
theorem exOp_sound (hΓ : TyOk P Γ) {o : Oper} {fr : Fr} {bl : List Blk} {R : List Hp} {K : St → Prop} {a : Act} {w : World} (h : exOp P E Γ n o fr bl R K) (hr : Rel E n ⟨fr, bl, R⟩ a w)
    {Q : Exit → Act → World → Prop} : o.wp P a w (Lands E n K) Q := by
  obtain ⟨dst, op, ty, pos, after, guard⟩ := o
  have raw : ∀ {o : Oper}, VCraw P E n o ⟨fr, bl, R⟩ K → o.wp P a w (Lands E n K) Q := fun h => h.use hr
  cases op with
  | move x =>
    obtain ⟨s, h1, h2, h3⟩ := getK_sound hr h
    exact wp_value (v := a.eval x) rfl hr h1 h2 h3
  | assign x =>
    obtain ⟨s, h1, h2, h3⟩ := getK_sound hr h
    exact wp_value (v := a.eval x) rfl hr h1 h2 h3
  | pick c x y =>
    obtain ⟨s, h1, h2, h3⟩ := getK_sound hr h
    have hpick : ∀ (t : Bool) (z : Operand), a.eval c = .bool t → z = (if t then x else y) → (execOp a.eval ⟨dst, .pick c x y, ty, pos, after, guard⟩).run P w = .ok (.value (a.eval z)) w := by
      intro t z ht hz
      subst hz
      simp only [execOp, ht, asBool, Sem.run_bind, Sem.run_pure, Result.andThen_ok]
      cases t <;> rfl
    split at h3
    · obtain ⟨s2, h4, h5, h6⟩ := getK_sound hr h3
      exact wp_value (hpick true x h1 rfl) hr h4 h5 h6
    · obtain ⟨s2, h4, h5, h6⟩ := getK_sound hr h3
      exact wp_value (hpick false y h1 rfl) hr h4 h5 h6
    · rename_i t
      obtain ⟨ht, hf⟩ := h3
      cases t with
      | true =>
        obtain ⟨s2, h4, h5, h6⟩ := getK_sound hr (ht rfl)
        exact wp_value (hpick true x h1 rfl) hr h4 h5 h6
      | false =>
        obtain ⟨s2, h4, h5, h6⟩ := getK_sound hr (hf rfl)
        exact wp_value (hpick false y h1 rfl) hr h4 h5 h6
    · exact raw h3
  | box t x =>
    obtain ⟨s, h1, h2, h3⟩ := getK_sound hr h
    have h4 := cellsK_sound h3
    obtain ⟨h4⟩ := h4
    have h5 := h4 w.heap.size
    rw [pushBlk_eq] at h5
    have h6 := hr.push (s.den bl).cells.toList t
    refine wp_value (s := .p bl.length 0) (v := .pointer (some ⟨w.heap.size, 0, none⟩)) ?_ h6 ?_ ?_ h5
    · simp only [execOp, Instr.box, newVar, newRow, Sem.run_bind, run_newObj, Result.andThen_ok, Sem.run_pure, h1]; rfl
    · simp only [SV.den]; rw [idOf_at]
    · show bl.length < (bl ++ [_]).length
      simp
  | alloc t =>
    simp only [exOp] at h
    split at h
    · exact h.elim
    · rename_i ti ht
      obtain ⟨u, sz, by_, z⟩ := ti
      have h4 := cellsK_nil h
      obtain ⟨h4⟩ := h4
      have h5 := h4 w.heap.size
      rw [pushBlk_eq] at h5
      have h6 := hr.push z.cells.toList t
      refine wp_value (s := .p bl.length 0) (v := .pointer (some ⟨w.heap.size, 0, none⟩)) ?_ h6 ?_ ?_ h5
      · simp only [execOp, Instr.alloc, newVar, newRow, Sem.run_bind, run_newObj, Result.andThen_ok, Sem.run_pure, ty_zero hΓ ht]; rfl
      · simp only [SV.den]; rw [idOf_at]
      · show bl.length < (bl ++ [_]).length
        simp
  | binOp op xt x y yt =>
    obtain ⟨sx, h1, h2, h3⟩ := getK_sound hr h
    obtain ⟨sy, h4, h5, h6⟩ := getK_sound hr h3
    rcases exBin_sound (P := P) hΓ bl h6 with h7 | ⟨s, h8, h9⟩
    · exact raw h7
    · obtain ⟨h10, h11⟩ := h9 x y
      refine wp_value (v := s.den bl) ?_ hr rfl h10 h8
      have := h11 w
      rw [← h1, ← h4] at this
      simp only [execOp, Sem.run_bind, Sem.run_pure] at this ⊢
      rw [this]; rfl
  | unOp op t x =>
    obtain ⟨sx, h1, h2, h3⟩ := getK_sound hr h
    rcases exUn_sound (P := P) bl h3 with h7 | ⟨s, h8, h9, h10⟩
    · exact raw h7
    · refine wp_value (v := s.den bl) ?_ hr rfl h9 h8
      have := h10 w
      rw [← h1] at this
      simp only [execOp, Sem.run_bind, Sem.run_pure] at this ⊢
      rw [this]; rfl
  | load t x =>
    simp only [exOp] at h
    split at h
    · exact h.elim
    · rename_i ti ht
      obtain ⟨s, h1, h2, h3⟩ := getK_sound hr h
      have hlv := fun b o => run_loadVar_rd (P := P) (b := b) (o := o) hΓ hr.sat ht
      have hex : ∀ (b o : Nat) (v : Value), a.eval x = .pointer (some ⟨b, o, none⟩) → (loadVar t ⟨b, o, none⟩).run P w = .ok v w →
          (execOp a.eval ⟨dst, .load t x, ty, pos, after, guard⟩).run P w = .ok (.value v) w := by
        intro b o v e1 e2
        simp only [execOp, Instr.loadAt, e1, Instr.sureAddr, Sem.run_bind, Sem.run_pure, Result.andThen_ok, e2]
      unfold exLoad at h3
      split at h3
      · rename_i hh off
        split at h3
        · exact h3.elim
        · rename_i b hb
          obtain ⟨bi, cs, bt⟩ := b
          simp only at h3
          split at h3
          · rename_i hag
            split at h3
            · exact h3.elim
            · rename_i l hl
              exact wp_value (s := .v (.agg ⟨l⟩)) (hex _ _ _ h1 ((hlv _ _).1 l hag (hr.load hb hl))) hr rfl trivial h3
          · rename_i hag
            split at h3
            · rename_i c hl
              exact wp_value (s := .v c) (hex _ _ _ h1 ((hlv _ _).2 c hag (hr.load hb hl))) hr rfl trivial h3
            · exact h3.elim
      · rename_i b o
        split at h3
        · rename_i hag
          obtain ⟨l, h4, h5⟩ := h3
          have h4' : RdCells (St.hall ⟨fr, bl, R⟩) b o ti.size l := h4
          exact wp_value (s := .v (.agg ⟨l⟩)) (hex _ _ _ h1 ((hlv _ _).1 l hag h4')) hr rfl trivial h5
        · rename_i hag
          obtain ⟨l, h4, h5⟩ := h3
          split at h5
          · rename_i c
            have h4' : RdCells (St.hall ⟨fr, bl, R⟩) b o 1 [c] := h4
            exact wp_value (s := .v c) (hex _ _ _ h1 ((hlv _ _).2 c hag h4')) hr rfl trivial h5
          · exact h5.elim
      · exact raw h3
  | store t x y =>
    simp only [exOp] at h
    split at h
    · exact h.elim
    · rename_i ti ht
      split at h
      · exact h.elim
      · obtain ⟨s, h1, h2, h3⟩ := getK_sound hr h
        obtain ⟨s', h4, h5, h6⟩ := getK_sound hr h3
        unfold exStore at h6
        have h7 := cellsK_sound h6
        have hex : ∀ (b o : Nat) (w' : World), a.eval x = .pointer (some ⟨b, o, none⟩) → lenIs (s'.den bl).cells.toList ti.size = true → (storeCells ⟨b, o, none⟩ (s'.den bl).cells.toList).run P w = .ok () w' →
            (execOp a.eval ⟨none, .store t x y, ty, pos, after, guard⟩).run P w = .ok .skip w' := by
          intro b o w' e1 e3 e2
          simp only [execOp, Instr.storeAt, e1, Instr.sureAddr, Sem.run_bind, Sem.run_pure, Result.andThen_ok]
          rw [h4, run_storeVar_of hΓ ht e3, e2]; rfl
        split at h7
        · exact raw h7
        · rename_i hlen
          split at h7
          · exact raw h7
          · rename_i hone
            split at h7
            · rename_i hh off
              split at h7
              · exact h7.elim
              · rename_i b hb
                obtain ⟨bi, cs, bt⟩ := b
                simp only at h7
                split at h7
                · exact h7.elim
                · rename_i cs' hcs
                  split at h7
                  · exact h7.elim
                  · rename_i bl' hbl
                    obtain ⟨w', h8, h9⟩ := hr.store (P := P) hb hcs hone hbl
                    exact wp_none (hex _ _ _ h1 hlen h8) rfl h9 h7
            · rename_i b o
              obtain ⟨R', h8, h9⟩ := h7
              obtain ⟨w', h10, h11⟩ := hr.storeR (P := P) h8 hone
              exact wp_none (hex _ _ _ h1 hlen h10) rfl h11 h9
            · exact raw h7
  | fieldAddr t x f =>
    simp only [exOp] at h
    split at h
    · rename_i fs hu
      split at h
      · exact h.elim
      · rename_i fd hfd
        obtain ⟨off, ft⟩ := fd
        simp only at h
        split at h
        · exact h.elim
        · exact h.elim
        · rename_i k hk
          obtain ⟨s, h1, h2, h3⟩ := getK_sound hr h
          have hex : ∀ (b o : Nat), a.eval x = .pointer (some ⟨b, o, none⟩) → (execOp a.eval ⟨dst, .fieldAddr t x f, ty, pos, after, guard⟩).run P w = .ok (.value (.pointer (some ⟨b, o + off, none⟩))) w := by
            intro b o e1
            simp only [execOp, Sem.run_bind, run_fieldAt hΓ hu hfd hk e1, Result.andThen_ok, Sem.run_pure]
          split at h3
          · exact wp_value (s := .p _ _) (hex _ _ h1) hr rfl h2 h3
          · exact wp_value (s := .v _) (hex _ _ h1) hr rfl trivial h3
          · exact raw h3
    · exact h.elim
  | build t parts =>
    obtain ⟨parts⟩ := parts
    simp only [exOp] at h
    split at h
    · exact h.elim
    · rename_i ti ht
      obtain ⟨u, sz, by_, z⟩ := ti
      simp only at h
      split at h
      · rename_i fs
        split at h
        · exact h.elim
        · rename_i hfo
          have h4 := cellsK_nil h
          obtain ⟨cs, h5, h6⟩ := run_build hΓ ht hfo hr h4
          refine wp_value (s := .v (.agg ⟨cs⟩)) (v := .agg ⟨cs⟩) ?_ hr rfl trivial h5
          simp only [execOp, Sem.run_bind]
          rw [h6]; rfl
      · exact raw h
  | extract x i =>
    obtain ⟨s, h1, h2, h3⟩ := getK_sound hr h
    split at h3
    · rename_i vs
      split at h3
      · rename_i v hv
        refine wp_value (s := .v v) (v := v) ?_ hr rfl trivial h3
        rw [nthV_eq] at hv
        have hv' : (⟨vs⟩ : Array Value)[i]? = some v := by simpa using hv
        simp only [execOp, h1, SV.den, Instr.extract, hv', Sem.run_bind, Sem.run_pure, Result.andThen_ok]
      · exact h3.elim
    · exact raw h3
  | field t x f =>
    simp only [exOp] at h
    split at h
    · rename_i fs hu
      split at h
      · exact h.elim
      · rename_i fd hfd
        obtain ⟨off, ft⟩ := fd
        simp only at h
        split at h
        · exact h.elim
        · rename_i ti ht
          obtain ⟨s, h1, h2, h3⟩ := getK_sound hr h
          split at h3
          · rename_i cs
            have hp := run_part (P := P) (cs := cs) (off := off) (w := w) hΓ ht
            have hex : ∀ v, (part ft ⟨cs⟩ off).run P w = .ok v w → (execOp a.eval ⟨dst, .field t x f, ty, pos, after, guard⟩).run P w = .ok (.value v) w := by
              intro v e
              simp only [execOp, h1, SV.den, Sem.run_bind, run_field hΓ hu hfd, e, Result.andThen_ok, Sem.run_pure]
            split at h3
            · rename_i hag
              split at h3
              · rename_i l hl
                exact wp_value (s := .v (.agg ⟨l⟩)) (hex _ (hp.1 l hag hl)) hr rfl trivial h3
              · exact h3.elim
            · rename_i hag
              split at h3
              · rename_i c hl
                exact wp_value (s := .v c) (hex _ (hp.2 c hag hl)) hr rfl trivial h3
              · exact h3.elim
          · exact raw h3
    · exact h.elim
  | convert t u x =>
    simp only [exOp] at h
    split at h
    · rename_i k1 hu1
      split at h
      · rename_i k hu2
        obtain ⟨s, h1, h2, h3⟩ := getK_sound hr h
        split at h3
        · rename_i k2 m
          refine wp_value (s := .v (.int k (k.wrap m))) (v := .int k (k.wrap m)) ?_ hr rfl trivial h3
          simp only [execOp, h1, SV.den, convert, Conv.intToInt, Sem.run_bind, run_underlying (undOf_ok hΓ hu1), run_underlying (undOf_ok hΓ hu2), Result.andThen_ok, Sem.run_pure]
        · exact raw h3
      · exact raw h
    · exact raw h
  | indexAddr t x ix =>
    simp only [exOp] at h
    split at h
    · rename_i elem hu
      split at h
      · exact h.elim
      · rename_i sz hsz
        obtain ⟨s, h1, h2, h3⟩ := getK_sound hr h
        obtain ⟨si, h4, h5, h6⟩ := getK_sound hr h3
        split at h6
        · rename_i base len cap
          split at h6
          · rename_i k i
            obtain ⟨b, o, h7, h8, h9, h10⟩ := h6
            refine wp_value (s := .v _) (v := .pointer (some ⟨b, o + i.toNat * sz, none⟩)) ?_ hr rfl trivial h10
            simp only [execOp, h1, h4, SV.den, Instr.indexAt, asIntOf, Sem.run_bind, Sem.run_pure, Result.andThen_ok, run_underlying (undOf_ok hΓ hu), h7]
            rw [if_pos ⟨h8, h9⟩]
            simp only [Sem.run_bind, siz_size hΓ hsz, Result.andThen_ok, Sem.run_pure, addr_add]
          · exact raw h6
        · exact raw h6
    · exact raw h
  | index t x ix =>
    simp only [exOp] at h
    split at h
    · rename_i hu
      obtain ⟨s, h1, h2, h3⟩ := getK_sound hr h
      obtain ⟨si, h4, h5, h6⟩ := getK_sound hr h3
      split at h6
      · rename_i bs
        split at h6
        · rename_i k i
          obtain ⟨⟨h8, h9⟩, h10⟩ := h6
          refine wp_value (s := .v _) (v := .int .u8 ((bs[i.toNat]?).getD 0).toNat) ?_ hr rfl trivial h10
          have hi : i.toNat < bs.size := by omega
          simp only [execOp, h1, h4, SV.den, Instr.index, asIntOf, Sem.run_bind, Sem.run_pure, Result.andThen_ok, run_underlying (undOf_ok hΓ hu)]
          rw [if_pos h8]
          simp [hi]
        · exact raw h6
      · exact raw h6
    · exact raw h
  | slice t x lo hi mx =>
    cases mx with
    | some _ => exact raw h
    | none =>
    simp only [exOp] at h
    split at h
    · rename_i hu
      obtain ⟨s, h1, h2, h3⟩ := getK_sound hr h
      split at h3
      · rename_i bs
        rcases exBounds_sound (P := P) hr false h3 with h4 | ⟨l, hh, h5, h6⟩
        · exact raw h4
        · refine wp_value (s := .v _) (v := .string (bs.extract l hh)) ?_ hr rfl trivial h5
          simp only [execOp, h1, SV.den, Instr.sliceAt, Instr.slice, Sem.run_bind, run_underlying (undOf_ok hΓ hu), Result.andThen_ok, Option.map_none, Option.isSome_none, Bool.false_eq_true, if_false, Sem.run_pure, h6]
      · exact raw h3
    · rename_i elem hu
      split at h
      · exact h.elim
      · rename_i sz hsz
        obtain ⟨s, h1, h2, h3⟩ := getK_sound hr h
        split at h3
        · rename_i aa len cap
          rcases exBounds_sound (P := P) hr true h3 with h4 | ⟨l, hh, h5, h6⟩
          · exact raw h4
          · refine wp_value (s := .v _) (v := .slice (if cap = l then aa else aa.map (·.add (l * sz))) (hh - l) (cap - l)) ?_ hr rfl trivial h5
            simp only [execOp, h1, SV.den, Instr.sliceAt, Instr.slice, Sem.run_bind, run_underlying (undOf_ok hΓ hu), Result.andThen_ok, Option.map_none, Sem.run_pure, h6, siz_size hΓ hsz]
        · exact raw h3
    · exact raw h
  | call c =>
    obtain ⟨callee, ⟨args⟩, ⟨tys⟩⟩ := c
    simp only [exOp] at h
    split at h
    · rename_i f
      have h1 := getsK_sound hr h
      obtain ⟨⟨fn, hf, hn, hb⟩, h2⟩ := h1
      have h3 := h2 w hr.sat
      unfold Oper.wp
      have hrun : (execOp a.eval ⟨dst, .call ⟨.value (.func f), ⟨args⟩, ⟨tys⟩⟩, ty, pos, after, guard⟩).run P w = .ok (.enter f ⟨args.map a.eval⟩) w := by
        rw [execOp_call_go, run_callFunc hf hn hb]
        congr 2
        apply Array.ext'
        simp
      rw [hrun, Oper.upon_enter]
      refine h3.mono ?_
      rintro e w' ⟨v, bl', R', rfl, h4, h5, h6⟩
      simp only
      have h7 := hr.ids h5 h4
      obtain ⟨fr', h8, h9⟩ := putK_sound (s := .v v) h7 trivial h6
      exact ⟨_, h9, h8⟩
    · split at h
      · rename_i x
        split at h
        · rename_i t
          split at h
          · rename_i hu
            obtain ⟨s, h1, h2, h3⟩ := getK_sound hr h
            split at h3
            · rename_i bs
              refine wp_value (s := .v _) (v := .int .i64 bs.size) ?_ hr rfl trivial h3
              have := run_len_str (ty := ty) (undOf_ok hΓ hu) bs w
              simp only [execOp, resolve, invoke, builtin, Sem.run_bind, Sem.run_pure, Result.andThen_ok]
              rw [show (⟨[x]⟩ : Array Operand).map a.eval = #[a.eval x] from by apply Array.ext'; simp, h1]
              simp only [SV.den]
              rw [show (⟨[t]⟩ : Array TypeId) = #[t] from rfl, this]; rfl
            · exact raw h3
          · rename_i el hu
            obtain ⟨s, h1, h2, h3⟩ := getK_sound hr h
            split at h3
            · rename_i aa m cc
              refine wp_value (s := .v _) (v := .int .i64 m) ?_ hr rfl trivial h3
              have := run_len_sl (ty := ty) (undOf_ok hΓ hu) aa m cc w
              simp only [execOp, resolve, invoke, builtin, Sem.run_bind, Sem.run_pure, Result.andThen_ok]
              rw [show (⟨[x]⟩ : Array Operand).map a.eval = #[a.eval x] from by apply Array.ext'; simp, h1]
              simp only [SV.den]
              rw [show (⟨[t]⟩ : Array TypeId) = #[t] from rfl, this]; rfl
            · exact raw h3
          · exact raw h
        · exact h.elim
      · exact h.elim
    · exact raw h
  | _ => exact raw h


theorem guardSlotL_eq : ∀ (l : List Oper) (j : Nat), guardSlotL l j = (l[j]?).bind (·.dst)
  | [], _ => by simp [guardSlotL]
  | _ :: _, 0 => rfl
  | _ :: r, j + 1 => by simp only [guardSlotL, List.getElem?_cons_succ]; exact guardSlotL_eq r j

theorem yielded_eq {l : List Oper} {j d : Nat} (h : guardSlotL l j = some d) {tmps : Array Value} {t : Bool} (ht : tmps[d]? = some (.bool t)) : yielded ⟨l⟩ tmps j = some t := by
  unfold yielded
  rw [guardSlotL_eq] at h
  have : (((⟨l⟩ : Array Oper)[j]?).bind (·.dst)).bind (tmps[·]?) = some (.bool t) := by
    rw [show (⟨l⟩ : Array Oper)[j]? = l[j]? by simp, h]
    exact ht
  rw [this]

theorem Rel.know {fr : Fr} {bl : List Blk} {R : List Hp} {a : Act} {w : World} (hr : Rel E n ⟨fr, bl, R⟩ a w) {d : Nat} {t : Bool} (h : look fr d = some (.v (.bool t))) :
    Rel E n ⟨(d, .b t) :: fr, bl, R⟩ a w := by
  refine ⟨hr.size, hr.defers, fun k sv hk => ?_, hr.sat⟩
  simp only [look] at hk
  split at hk
  · rename_i hb
    have := Nat.eq_of_beq_eq_true hb
    subst this
    cases hk
    exact ⟨(hr.val _ _ h).1, trivial⟩
  · exact hr.val _ _ hk


theorem wpList_do {ops : Array Oper} {Q : Exit → Act → World → Prop} {a : Act} {w : World} {rest : List Oper} {o : Oper} (hw : Region.wanted o (yielded ops a.tmps) = true)
    (h : o.wp P a w (wpList P ops Q rest) Q) : wpList P ops Q (o :: rest) a w := by
  unfold wpList
  rw [if_pos hw]; exact .inl h
theorem wpList_not {ops : Array Oper} {Q : Exit → Act → World → Prop} {a : Act} {w : World} {rest : List Oper} {o : Oper} (hw : Region.wanted o (yielded ops a.tmps) = false)
    (h : wpList P ops Q rest (a.put o.dst undef) w) : wpList P ops Q (o :: rest) a w := by
  unfold wpList
  rw [if_neg (by simp [hw])]; exact h

theorem Oper.wp_next {o : Oper} {a : Act} {w : World} {K K' : Act → World → Prop} {Q : Exit → Act → World → Prop} (h : o.wp P a w K Q) (hK : ∀ a w, K a w → K' a w) : o.wp P a w K' Q := by
  unfold Oper.wp Oper.upon at *
  split at h
  · exact hK _ _ h
  · exact hK _ _ h
  · exact hK _ _ h
  · refine h.mono ?_
    intro e w' he
    cases e with
    | returned v => exact hK _ _ he
    | panicked c => exact he
    | outgrown => exact he
  · refine h.mono ?_
    intro v w' he
    exact hK _ _ he
  · exact h
  · exact h.elim

theorem exOps_sound (hΓ : TyOk P Γ) {ops : List Oper} {Q : Exit → Act → World → Prop} : ∀ (l : List Oper) (st : St) (K : St → Prop) (a : Act) (w : World),
    exOps P E Γ n ops l st K → Rel E n st a w → (∀ st a w, Rel E n st a w → K st → Q .normal a w) → wpList P ⟨ops⟩ Q l a w
  | [], st, K, a, w, h, hr, hQ => hQ st a w hr h
  | o :: rest, ⟨fr, bl, R⟩, K, a, w, h, hr, hQ => by
    have key : ∀ fr, Rel E n ⟨fr, bl, R⟩ a w → Region.wanted o (yielded ⟨ops⟩ a.tmps) = true → (exOp P E Γ n o fr bl R fun st => exOps P E Γ n ops rest st K) → wpList P ⟨ops⟩ Q (o :: rest) a w := by
      intro fr hr hw h
      refine wpList_do hw (Oper.wp_next (exOp_sound hΓ h hr) ?_)
      rintro a' w' ⟨st', h1, h2⟩
      exact exOps_sound hΓ rest st' K a' w' h2 h1 hQ
    have skip : ∀ fr, Rel E n ⟨fr, bl, R⟩ a w → Region.wanted o (yielded ⟨ops⟩ a.tmps) = false → (putK n fr o.dst (.v undef) fun fr => exOps P E Γ n ops rest ⟨fr, bl, R⟩ K) → wpList P ⟨ops⟩ Q (o :: rest) a w := by
      intro fr hr hw h
      obtain ⟨fr', h1, h2⟩ := putK_sound (s := .v undef) hr trivial h
      exact wpList_not hw (exOps_sound hΓ rest _ K _ w h1 h2 hQ)
    simp only [exOps] at h
    split at h
    · rename_i hg
      exact key fr hr (by simp [Region.wanted, hg]) h
    · rename_i j want hg
      split at h
      · exact h.elim
      · rename_i d hd
        have hy : ∀ t : Bool, a.tmps[d]? = some (.bool t) → ∀ b : Bool, decide (t = want) = b → Region.wanted o (yielded ⟨ops⟩ a.tmps) = b := by
          intro t ht b hb
          simp only [Region.wanted, hg, yielded_eq hd ht]
          rw [← hb]
          cases t <;> cases want <;> rfl
        split at h
        · rename_i t ht
          have h1 := (hr.val _ _ ht).1
          split at h
          · rename_i hb
            exact key fr hr (hy t h1 _ hb) h
          · rename_i hb
            exact skip fr hr (hy t h1 _ hb) h
        · rename_i t ht
          have h1 := (hr.val _ _ ht).1
          obtain ⟨htr, hfa⟩ := h
          have h2 := hr.know ht
          cases t with
          | true =>
            have h3 := htr rfl
            cases want with
            | true => exact key _ h2 (hy true h1 _ rfl) h3
            | false => exact skip _ h2 (hy true h1 _ rfl) h3
          | false =>
            have h3 := hfa rfl
            cases want with
            | true => exact skip _ h2 (hy false h1 _ rfl) h3
            | false => exact key _ h2 (hy false h1 _ rfl) h3
        · exact h.elim

theorem getK_tmp {fr : Fr} {d : Nat} {K : SV → Prop} (h : getK fr (.tmp d) K) : ∃ s, look fr d = some s := by
  simp only [getK] at h
  split at h
  · rename_i s hs; exact ⟨s, hs⟩
  · exact h.elim

theorem lift_mono {Q Q' : Exit → St → Prop} (h : ∀ e st, Q e st → Q' e st) : ∀ e a w, lift E n Q e a w → lift E n Q' e a w :=
  fun e _ _ ⟨st, h1, h2⟩ => ⟨st, h1, h e st h2⟩

theorem exC_sound (hΓ : TyOk P Γ) : ∀ (c : Code) (st : St) (Q : Exit → St → Prop) (a : Act) (w : World), exC P E Γ n c st Q → Rel E n st a w → c.wp P (lift E n Q) a w
  | .skip, st, Q, a, w, h, hr => wp_skip ⟨st, hr, h⟩
  | .region id ops draw, st, Q, a, w, h, hr => by
    cases draw with
    | false =>
      obtain ⟨l⟩ := ops
      exact wp_region_list (exOps_sound hΓ l st _ a w h hr fun st a w h1 h2 => ⟨st, h1, h2⟩)
    | true =>
      obtain ⟨h⟩ := h
      exact h a w hr Q fun st h => h
  | .seq x y, st, Q, a, w, h, hr => by
    refine wp_seq (wp_mono (exC_sound hΓ x st _ a w h hr) ?_)
    rintro e a' w' ⟨st', h1, h2⟩
    cases e with
    | normal => exact exC_sound hΓ y st' Q a' w' h2 h1
    | _ => exact ⟨st', h1, h2⟩
  | .cond c x y, ⟨fr, bl, R⟩, Q, a, w, h, hr => by
    have h' : getK fr c fun s => match s with
      | .b true => exC P E Γ n x ⟨fr, bl, R⟩ Q
      | .b false => exC P E Γ n y ⟨fr, bl, R⟩ Q
      | .v (.bool t) => VCsplit t (exC P E Γ n x ⟨know fr c true, bl, R⟩ Q) (exC P E Γ n y ⟨know fr c false, bl, R⟩ Q)
      | _ => False := h
    obtain ⟨s, h1, h2, h3⟩ := getK_sound hr h'
    split at h3
    · exact wp_cond_true h1 (exC_sound hΓ x _ Q a w h3 hr)
    · exact wp_cond_false h1 (exC_sound hΓ y _ Q a w h3 hr)
    · rename_i t
      obtain ⟨ht, hf⟩ := h3
      have hk : ∀ b, t = b → Rel E n ⟨know fr c b, bl, R⟩ a w := by
        intro b hb
        subst hb
        unfold know
        split
        · rename_i d
          refine ⟨hr.size, hr.defers, fun k sv hk => ?_, hr.sat⟩
          simp only [look] at hk
          split at hk
          · rename_i hbq
            have := Nat.eq_of_beq_eq_true hbq
            subst this
            cases hk
            obtain ⟨s', hl⟩ := getK_tmp h'
            have h5 := (hr.val _ _ hl).1
            refine ⟨?_, trivial⟩
            have h8 : a.eval (.tmp d) = s'.den bl := by
              show a.tmps.getD d undef = _
              rw [Array.getD_eq_getD_getElem?, h5]; rfl
            rw [h8] at h1
            rw [h5, h1]; rfl
          · exact hr.val _ _ hk
        · exact hr
      exact wp_cond_split h1 (fun e => exC_sound hΓ x _ Q a w (ht e) (hk true e)) (fun e => exC_sound hΓ y _ Q a w (hf e) (hk false e))
    · exact h3.elim
  | .block id b, st, Q, a, w, h, hr => by
    refine wp_block (wp_mono (exC_sound hΓ b st _ a w h hr) ?_)
    rintro e a' w' ⟨st', h1, h2⟩
    cases e with
    | exit id' =>
      simp only [Exit.inBlock]
      simp only [blockQ] at h2
      split at h2
      · rename_i hb
        rw [if_pos (Nat.eq_of_beq_eq_true hb)]
        exact ⟨st', h1, h2⟩
      · rename_i hb
        rw [if_neg (fun e => by subst e; simp at hb)]
        exact ⟨st', h1, h2⟩
    | _ => exact ⟨st', h1, h2⟩
  | .loop b, st, Q, a, w, h, hr => by
    obtain ⟨h⟩ := h
    exact h a w hr
  | .exit id, st, Q, a, w, h, hr => wp_exit ⟨st, hr, h⟩
  | .ret, st, Q, a, w, h, hr => wp_ret ⟨st, hr, h⟩
  | .rangeFunc _ _ _ _, st, Q, a, w, h, hr => by obtain ⟨h⟩ := h; exact h a w hr
  | .scope _, st, Q, a, w, h, hr => by obtain ⟨h⟩ := h; exact h a w hr
  | .label _, st, Q, a, w, h, hr => by obtain ⟨h⟩ := h; exact h a w hr
  | .goto _, st, Q, a, w, h, hr => by obtain ⟨h⟩ := h; exact h a w hr
  | .refuse _, st, Q, a, w, h, hr => by obtain ⟨h⟩ := h; exact h a w hr

end
end Go.SX
