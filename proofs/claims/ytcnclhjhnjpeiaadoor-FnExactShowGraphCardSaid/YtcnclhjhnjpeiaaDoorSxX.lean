/-
  The executor of Sx.lean is sound: operations, code, functions. Conditions: none.
-/
import Derived.Test.YtcnclhjhnjpeiaaDoorSxW
namespace Go.SX

section
variable {P : Program} {E : World} {Γ : Ty} {n : Nat}

theorem run_len_str {t ty : TypeId} (h : P.underlying t = some .string) (s : ByteArray) (w : World) : (Builtin.len_ #[t] ty #[.string s]).run P w = .ok (goInt s.size) w := by
  simp [Builtin.len_, run_underlying h]
theorem run_len_sl {t ty e : TypeId} (h : P.underlying t = some (.slice e)) (a : Option Addr) (m c : Nat) (w : World) : (Builtin.len_ #[t] ty #[.slice a m c]).run P w = .ok (goInt m) w := by
  simp [Builtin.len_, run_underlying h]

theorem run_cap_sl {t ty e : TypeId} (h : P.underlying t = some (.slice e)) (a : Option Addr) (m c : Nat) (w : World) :
    (Builtin.cap_ #[t] ty #[.slice a m c]).run P w = .ok (goInt c) w := by
  simp [Builtin.cap_, run_underlying h]

theorem run_callFunc {f : FuncId} {fn : Func} (hf : P.funcs[f]? = some fn) (hn : fn.name ≠ "runtime.NumGoroutine") (hb : fn.body.isSome = true) (args : Array Value) (w : World) :
    (callFunc f args).run P w = .ok (.enter f args) w := by
  unfold callFunc
  have h1 : (fn.name == "runtime.NumGoroutine") = false := by simpa using hn
  have h2 : fn.body.isNone = false := by cases h : fn.body <;> simp_all
  simp only [Sem.run_bind, run_program, Result.andThen_ok, hf, h1, h2, Bool.false_eq_true, if_false, Sem.run_pure]

abbrev Yv (P : Program) (E : World) (n : Nat) (fr : Fr) (bl : List Blk) (R : List Hp) (op : Op) (s : SV) : Prop :=
  ∀ a w, Rel E n ⟨fr, bl, R⟩ a w → s.ok bl ∧ ∀ dst ty pos after guard, (execOp a.eval ⟨dst, op, ty, pos, after, guard⟩).run P w = .ok (.value (s.den bl)) w

set_option maxHeartbeats 1000000 in
theorem exP_sound (hΓ : TyOk P Γ) {op : Op} {fr : Fr} {bl : List Blk} {R : List Hp} {K : SV → Prop} {raw : Prop} (h : exP Γ op fr bl R K raw) :
    raw ∨ ∃ s, K s ∧ Yv P E n fr bl R op s := by
  cases op with
  | move x =>
    obtain ⟨s, h1, h2⟩ := getK_uni (E := E) (n := n) (bl := bl) (R := R) h
    refine .inr ⟨s, h1, fun a w hr => ⟨(h2 a w hr).2, fun dst ty pos after guard => ?_⟩⟩
    rw [← (h2 a w hr).1]; rfl
  | assign x =>
    obtain ⟨s, h1, h2⟩ := getK_uni (E := E) (n := n) (bl := bl) (R := R) h
    refine .inr ⟨s, h1, fun a w hr => ⟨(h2 a w hr).2, fun dst ty pos after guard => ?_⟩⟩
    rw [← (h2 a w hr).1]; rfl
  | makeFunc fn first captured =>
    cases fn with
    | func f =>
      obtain ⟨first⟩ := first
      obtain ⟨captured⟩ := captured
      obtain ⟨vs, h1, h2⟩ := getsK_uni (E := E) (n := n) (R := R) h
      obtain ⟨us, h3, h4⟩ := getsK_uni (E := E) (n := n) (R := R) h1
      refine .inr ⟨_, h3, fun a w hr => ⟨trivial, fun dst ty pos after guard => ?_⟩⟩
      have e1 : (⟨first⟩ : Array Operand).map a.eval = ⟨vs⟩ := by apply Array.ext'; simpa using h2 a w hr
      have e2 : (⟨captured⟩ : Array Operand).map a.eval = ⟨us⟩ := by apply Array.ext'; simpa using h4 a w hr
      simp only [execOp, Instr.makeFunc, e1, e2, Sem.run_bind, Sem.run_pure, Result.andThen_ok, SV.den]
    | _ => exact .inl h
  | nilCheck x =>
    obtain ⟨s, h1, h2⟩ := getK_uni (E := E) (n := n) (bl := bl) (R := R) h
    split at h1
    · refine .inr ⟨_, h1, fun a w hr => ⟨(h2 a w hr).2, fun dst ty pos after guard => ?_⟩⟩
      simp only [execOp, (h2 a w hr).1, SV.den, Sem.run_pure]
    · refine .inr ⟨_, h1, fun a w hr => ⟨(h2 a w hr).2, fun dst ty pos after guard => ?_⟩⟩
      simp only [execOp, (h2 a w hr).1, SV.den, Sem.run_pure]
    · refine .inr ⟨_, h1, fun a w hr => ⟨(h2 a w hr).2, fun dst ty pos after guard => ?_⟩⟩
      simp only [execOp, (h2 a w hr).1, SV.den, Sem.run_pure]
    · exact .inl h1
  | pick c x y =>
    obtain ⟨s, h3, h1⟩ := getK_uni (E := E) (n := n) (bl := bl) (R := R) h
    have hpick : ∀ (t : Bool) (z : Operand), z = (if t then x else y) → (∀ a w, Rel E n ⟨fr, bl, R⟩ a w → a.eval c = .bool t) → getK fr z K → ∃ s, K s ∧ Yv P E n fr bl R (.pick c x y) s := by
      intro t z hz ht hk
      obtain ⟨s2, h4, h5⟩ := getK_uni (E := E) (n := n) (bl := bl) (R := R) hk
      refine ⟨s2, h4, fun a w hr => ⟨(h5 a w hr).2, fun dst ty pos after guard => ?_⟩⟩
      rw [← (h5 a w hr).1]
      subst hz
      simp only [execOp, ht a w hr, asBool, Sem.run_bind, Sem.run_pure, Result.andThen_ok]
      cases t <;> rfl
    split at h3
    · exact .inr (hpick true x rfl (fun a w hr => (h1 a w hr).1) h3)
    · exact .inr (hpick false y rfl (fun a w hr => (h1 a w hr).1) h3)
    · rename_i t
      obtain ⟨ht, hf⟩ := h3
      cases t with
      | true => exact .inr (hpick true x rfl (fun a w hr => (h1 a w hr).1) (ht rfl))
      | false => exact .inr (hpick false y rfl (fun a w hr => (h1 a w hr).1) (hf rfl))
    · exact .inl h3
  | binOp op xt x y yt =>
    obtain ⟨sx, h3, h1⟩ := getK_uni (E := E) (n := n) (bl := bl) (R := R) h
    obtain ⟨sy, h6, h4⟩ := getK_uni (E := E) (n := n) (bl := bl) (R := R) h3
    rcases exBin_sound (P := P) hΓ bl h6 with h7 | ⟨s, h8, h9⟩
    · exact .inl h7
    · obtain ⟨h10, h11⟩ := h9 x y
      refine .inr ⟨s, h8, fun a w hr => ⟨h10, fun dst ty pos after guard => ?_⟩⟩
      have := h11 w
      rw [← (h1 a w hr).1, ← (h4 a w hr).1] at this
      simp only [execOp, Sem.run_bind, Sem.run_pure] at this ⊢
      rw [this]; rfl
  | unOp op t x =>
    obtain ⟨sx, h3, h1⟩ := getK_uni (E := E) (n := n) (bl := bl) (R := R) h
    rcases exUn_sound (P := P) bl h3 with h7 | ⟨s, h8, h9, h10⟩
    · exact .inl h7
    · refine .inr ⟨s, h8, fun a w hr => ⟨h9, fun dst ty pos after guard => ?_⟩⟩
      have := h10 w
      rw [← (h1 a w hr).1] at this
      simp only [execOp, Sem.run_bind, Sem.run_pure] at this ⊢
      rw [this]; rfl
  | load t x =>
    simp only [exP] at h
    split at h
    · exact h.elim
    · rename_i ti ht
      obtain ⟨s, h3, h1⟩ := getK_uni (E := E) (n := n) (bl := bl) (R := R) h
      have hex : ∀ (a : Act) (w : World) (b o : Nat) (v : Value), a.eval x = .pointer (some ⟨b, o, none⟩) → (loadVar t ⟨b, o, none⟩).run P w = .ok v w →
          ∀ dst ty pos after guard, (execOp a.eval ⟨dst, .load t x, ty, pos, after, guard⟩).run P w = .ok (.value v) w := by
        intro a w b o v e1 e2 dst ty pos after guard
        simp only [execOp, Instr.loadAt, e1, Instr.sureAddr, Sem.run_bind, Sem.run_pure, Result.andThen_ok, e2]
      have hlv := fun (a : Act) (w : World) (hr : Rel E n ⟨fr, bl, R⟩ a w) b o => run_loadVar_rd (P := P) (b := b) (o := o) hΓ hr.sat ht
      unfold exLoad at h3
      split at h3
      · rename_i hh off
        split at h3
        · exact h3.elim
        · rename_i b hb
          obtain ⟨bi, cs, bt⟩ := b
          simp only at h3
          split at h3
          · rename_i hag
            split at h3
            · exact h3.elim
            · rename_i l hl
              exact .inr ⟨.v (.agg ⟨l⟩), h3, fun a w hr => ⟨trivial, hex a w _ _ _ (h1 a w hr).1 ((hlv a w hr _ _).1 l hag (hr.load hb hl))⟩⟩
          · rename_i hag
            split at h3
            · rename_i c hl
              exact .inr ⟨.v c, h3, fun a w hr => ⟨trivial, hex a w _ _ _ (h1 a w hr).1 ((hlv a w hr _ _).2 c hag (hr.load hb hl))⟩⟩
            · exact h3.elim
      · rename_i b o
        split at h3
        · rename_i hag
          obtain ⟨l, h4, h5⟩ := h3
          have h4' : RdCells (St.hall ⟨fr, bl, R⟩) b o ti.size l := h4
          exact .inr ⟨.v (.agg ⟨l⟩), h5, fun a w hr => ⟨trivial, hex a w _ _ _ (h1 a w hr).1 ((hlv a w hr _ _).1 l hag h4')⟩⟩
        · rename_i hag
          obtain ⟨l, h4, h5⟩ := h3
          split at h5
          · rename_i c
            have h4' : RdCells (St.hall ⟨fr, bl, R⟩) b o 1 [c] := h4
            exact .inr ⟨.v c, h5, fun a w hr => ⟨trivial, hex a w _ _ _ (h1 a w hr).1 ((hlv a w hr _ _).2 c hag h4')⟩⟩
          · exact h5.elim
      · exact .inl h3
  | fieldAddr t x f =>
    simp only [exP] at h
    split at h
    · rename_i fs hu
      split at h
      · exact h.elim
      · rename_i fd hfd
        obtain ⟨off, ft⟩ := fd
        simp only at h
        split at h
        · exact h.elim
        · exact h.elim
        · rename_i k hk
          obtain ⟨s, h3, h1⟩ := getK_uni (E := E) (n := n) (bl := bl) (R := R) h
          have hex : ∀ (a : Act) (w : World) (b o : Nat), a.eval x = .pointer (some ⟨b, o, none⟩) → ∀ dst ty pos after guard, (execOp a.eval ⟨dst, .fieldAddr t x f, ty, pos, after, guard⟩).run P w = .ok (.value (.pointer (some ⟨b, o + off, none⟩))) w := by
            intro a w b o e1 dst ty pos after guard
            simp only [execOp, Sem.run_bind, run_fieldAt hΓ hu hfd hk e1, Result.andThen_ok, Sem.run_pure]
          split at h3
          · exact .inr ⟨.p _ _, h3, fun a w hr => ⟨(h1 a w hr).2, hex a w _ _ (h1 a w hr).1⟩⟩
          · exact .inr ⟨.v _, h3, fun a w hr => ⟨trivial, hex a w _ _ (h1 a w hr).1⟩⟩
          · exact .inl h3
    · exact h.elim
  | build t parts =>
    obtain ⟨parts⟩ := parts
    simp only [exP] at h
    split at h
    · exact h.elim
    · rename_i ti ht
      obtain ⟨u, sz, by_, z⟩ := ti
      simp only at h
      split at h
      · rename_i fs
        split at h
        · exact h.elim
        · rename_i hfo
          have h4 := cellsK_nil h
          obtain ⟨cs, h5, h6⟩ := run_build (P := P) (E := E) (n := n) (R := R) hΓ ht hfo h4
          refine .inr ⟨.v (.agg ⟨cs⟩), h5, fun a w hr => ⟨trivial, fun dst ty pos after guard => ?_⟩⟩
          simp only [execOp, Sem.run_bind]
          rw [h6 a w hr]; rfl
      · exact .inl h
  | extract x i =>
    obtain ⟨s, h3, h1⟩ := getK_uni (E := E) (n := n) (bl := bl) (R := R) h
    split at h3
    · rename_i vs
      split at h3
      · rename_i v hv
        refine .inr ⟨.v v, h3, fun a w hr => ⟨trivial, fun dst ty pos after guard => ?_⟩⟩
        rw [nthV_eq] at hv
        have hv' : (⟨vs⟩ : Array Value)[i]? = some v := by simpa using hv
        simp only [execOp, (h1 a w hr).1, SV.den, Instr.extract, hv', Sem.run_bind, Sem.run_pure, Result.andThen_ok]
      · exact h3.elim
    · exact .inl h3
  | field t x f =>
    simp only [exP] at h
    split at h
    · rename_i fs hu
      split at h
      · exact h.elim
      · rename_i fd hfd
        obtain ⟨off, ft⟩ := fd
        simp only at h
        split at h
        · exact h.elim
        · rename_i ti ht
          obtain ⟨s, h3, h1⟩ := getK_uni (E := E) (n := n) (bl := bl) (R := R) h
          split at h3
          · rename_i cs
            have hp := fun w => run_part (P := P) (cs := cs) (off := off) (w := w) hΓ ht
            have hex : ∀ (a : Act) (w : World) v, a.eval x = .agg ⟨cs⟩ → (part ft ⟨cs⟩ off).run P w = .ok v w → ∀ dst ty pos after guard, (execOp a.eval ⟨dst, .field t x f, ty, pos, after, guard⟩).run P w = .ok (.value v) w := by
              intro a w v e0 e dst ty pos after guard
              simp only [execOp, e0, Sem.run_bind, run_field hΓ hu hfd, e, Result.andThen_ok, Sem.run_pure]
            split at h3
            · rename_i hag
              split at h3
              · rename_i l hl
                exact .inr ⟨.v (.agg ⟨l⟩), h3, fun a w hr => ⟨trivial, hex a w _ (h1 a w hr).1 ((hp w).1 l hag hl)⟩⟩
              · exact h3.elim
            · rename_i hag
              split at h3
              · rename_i c hl
                exact .inr ⟨.v c, h3, fun a w hr => ⟨trivial, hex a w _ (h1 a w hr).1 ((hp w).2 c hag hl)⟩⟩
              · exact h3.elim
          · exact .inl h3
    · exact h.elim
  | convert t u x =>
    simp only [exP] at h
    split at h
    · rename_i k1 hu1
      split at h
      · rename_i k hu2
        obtain ⟨s, h3, h1⟩ := getK_uni (E := E) (n := n) (bl := bl) (R := R) h
        split at h3
        · refine .inr ⟨.v _, h3, fun a w hr => ⟨trivial, fun dst ty pos after guard => ?_⟩⟩
          simp only [execOp, (h1 a w hr).1, SV.den, convert, Conv.intToInt, Sem.run_bind, run_underlying (undOf_ok hΓ hu1), run_underlying (undOf_ok hΓ hu2), Result.andThen_ok, Sem.run_pure]
        · exact .inl h3
      · exact .inl h
    · exact .inl h
  | indexAddr t x ix =>
    simp only [exP] at h
    split at h
    · rename_i elem hu
      split at h
      · exact h.elim
      · rename_i sz hsz
        obtain ⟨s, h3, h1⟩ := getK_uni (E := E) (n := n) (bl := bl) (R := R) h
        obtain ⟨si, h6, h4⟩ := getK_uni (E := E) (n := n) (bl := bl) (R := R) h3
        split at h6
        · split at h6
          · obtain ⟨b, o, h7, h8, h9, h10⟩ := h6
            refine .inr ⟨.v _, h10, fun a w hr => ⟨trivial, fun dst ty pos after guard => ?_⟩⟩
            simp only [execOp, (h1 a w hr).1, (h4 a w hr).1, SV.den, Instr.indexAt, asIntOf, Sem.run_bind, Sem.run_pure, Result.andThen_ok, run_underlying (undOf_ok hΓ hu), h7]
            rw [if_pos ⟨h8, h9⟩]
            simp only [Sem.run_bind, siz_size hΓ hsz, Result.andThen_ok, Sem.run_pure, addr_add]
          · exact .inl h6
        · exact .inl h6
    · exact .inl h
  | index t x ix =>
    simp only [exP] at h
    split at h
    · rename_i hu
      obtain ⟨s, h3, h1⟩ := getK_uni (E := E) (n := n) (bl := bl) (R := R) h
      obtain ⟨si, h6, h4⟩ := getK_uni (E := E) (n := n) (bl := bl) (R := R) h3
      split at h6
      · rename_i bs
        split at h6
        · rename_i k i
          obtain ⟨⟨h8, h9⟩, h10⟩ := h6
          refine .inr ⟨.v _, h10, fun a w hr => ⟨trivial, fun dst ty pos after guard => ?_⟩⟩
          have hi : i.toNat < bs.size := by omega
          simp only [execOp, (h1 a w hr).1, (h4 a w hr).1, SV.den, Instr.index, asIntOf, Sem.run_bind, Sem.run_pure, Result.andThen_ok, run_underlying (undOf_ok hΓ hu)]
          rw [if_pos h8]
          simp [hi]
        · exact .inl h6
      · exact .inl h6
    · exact .inl h
  | slice t x lo hi mx =>
    cases mx with
    | some mx =>
      cases hi with
      | none => exact .inl h
      | some hi =>
        simp only [exP] at h
        split at h
        · rename_i elem hu
          split at h
          · exact h.elim
          · rename_i sz hsz
            obtain ⟨s, h3, h1⟩ := getK_uni (E := E) (n := n) (bl := bl) (R := R) h
            split at h3
            · rename_i a0 len0 cap0
              rcases exBounds3_sound (P := P) (E := E) (n := n) (bl := bl) (R := R) (len := len0) h3 with h4 | ⟨l, hh, m, h5, h6⟩
              · exact .inl h4
              · refine .inr ⟨.v _, h5, fun a w hr => ⟨trivial, fun dst ty pos after guard => ?_⟩⟩
                simp only [execOp, (h1 a w hr).1, SV.den, Instr.sliceAt, Instr.slice, Sem.run_bind, run_underlying (undOf_ok hΓ hu), Result.andThen_ok, Option.map_some, Sem.run_pure, h6 a w hr, siz_size hΓ hsz, subBase_eq]
            · exact .inl h3
        · exact .inl h
    | none =>
    simp only [exP] at h
    split at h
    · rename_i hu
      obtain ⟨s, h3, h1⟩ := getK_uni (E := E) (n := n) (bl := bl) (R := R) h
      split at h3
      · rename_i bs
        rcases exBounds_sound (P := P) (E := E) (n := n) (bl := bl) (R := R) false h3 with h4 | ⟨l, hh, h5, h6⟩
        · exact .inl h4
        · refine .inr ⟨.v _, h5, fun a w hr => ⟨trivial, fun dst ty pos after guard => ?_⟩⟩
          simp only [execOp, (h1 a w hr).1, SV.den, Instr.sliceAt, Instr.slice, Sem.run_bind, run_underlying (undOf_ok hΓ hu), Result.andThen_ok, Option.map_none, Option.isSome_none, Bool.false_eq_true, if_false, Sem.run_pure, h6 a w hr]
      · exact .inl h3
    · rename_i elem hu
      split at h
      · exact h.elim
      · rename_i sz hsz
        obtain ⟨s, h3, h1⟩ := getK_uni (E := E) (n := n) (bl := bl) (R := R) h
        split at h3
        · rcases exBounds_sound (P := P) (E := E) (n := n) (bl := bl) (R := R) true h3 with h4 | ⟨l, hh, h5, h6⟩
          · exact .inl h4
          · refine .inr ⟨.v _, h5, fun a w hr => ⟨trivial, fun dst ty pos after guard => ?_⟩⟩
            simp only [execOp, (h1 a w hr).1, SV.den, Instr.sliceAt, Instr.slice, Sem.run_bind, run_underlying (undOf_ok hΓ hu), Result.andThen_ok, Option.map_none, Sem.run_pure, h6 a w hr, siz_size hΓ hsz, subBase_eq]
        · exact .inl h3
    · exact .inl h
  | call c =>
    obtain ⟨callee, ⟨args⟩, ⟨tys⟩⟩ := c
    simp only [exP] at h
    split at h
    · split at h
      · rename_i x
        split at h
        · rename_i t
          split at h
          · rename_i hu
            obtain ⟨s, h3, h1⟩ := getK_uni (E := E) (n := n) (bl := bl) (R := R) h
            split at h3
            · rename_i bs
              refine .inr ⟨.v _, h3, fun a w hr => ⟨trivial, fun dst ty pos after guard => ?_⟩⟩
              have := run_len_str (ty := ty) (undOf_ok hΓ hu) bs w
              simp only [execOp, resolve, invoke, builtin, Sem.run_bind, Sem.run_pure, Result.andThen_ok]
              rw [show (⟨[x]⟩ : Array Operand).map a.eval = #[a.eval x] from by apply Array.ext'; simp, (h1 a w hr).1]
              simp only [SV.den]
              rw [show (⟨[t]⟩ : Array TypeId) = #[t] from rfl, this]; rfl
            · exact .inl h3
          · rename_i el hu
            obtain ⟨s, h3, h1⟩ := getK_uni (E := E) (n := n) (bl := bl) (R := R) h
            split at h3
            · rename_i aa m cc
              refine .inr ⟨.v _, h3, fun a w hr => ⟨trivial, fun dst ty pos after guard => ?_⟩⟩
              have := run_len_sl (ty := ty) (undOf_ok hΓ hu) aa m cc w
              simp only [execOp, resolve, invoke, builtin, Sem.run_bind, Sem.run_pure, Result.andThen_ok]
              rw [show (⟨[x]⟩ : Array Operand).map a.eval = #[a.eval x] from by apply Array.ext'; simp, (h1 a w hr).1]
              simp only [SV.den]
              rw [show (⟨[t]⟩ : Array TypeId) = #[t] from rfl, this]; rfl
            · exact .inl h3
          · exact .inl h
        · exact h.elim
      · exact h.elim
    · split at h
      · rename_i x y
        obtain ⟨s, h3, h1⟩ := getK_uni (E := E) (n := n) (bl := bl) (R := R) h
        obtain ⟨s', h4, h2⟩ := getK_uni (E := E) (n := n) (bl := bl) (R := R) h3
        split at h4
        · split at h4
          · refine .inr ⟨.v _, h4, fun a w hr => ⟨trivial, fun dst ty pos after guard => ?_⟩⟩
            simp only [execOp, resolve, invoke, builtin, Sem.run_bind, Sem.run_pure, Result.andThen_ok]
            rw [show (⟨[x, y]⟩ : Array Operand).map a.eval = #[a.eval x, a.eval y] from by apply Array.ext'; simp, (h1 a w hr).1, (h2 a w hr).1]
            rfl
          · exact .inl h4
        · exact .inl h4
      · exact .inl h
    · split at h
      · rename_i x y
        obtain ⟨s, h3, h1⟩ := getK_uni (E := E) (n := n) (bl := bl) (R := R) h
        obtain ⟨s', h4, h2⟩ := getK_uni (E := E) (n := n) (bl := bl) (R := R) h3
        split at h4
        · split at h4
          · refine .inr ⟨.v _, h4, fun a w hr => ⟨trivial, fun dst ty pos after guard => ?_⟩⟩
            simp only [execOp, resolve, invoke, builtin, Sem.run_bind, Sem.run_pure, Result.andThen_ok]
            rw [show (⟨[x, y]⟩ : Array Operand).map a.eval = #[a.eval x, a.eval y] from by apply Array.ext'; simp, (h1 a w hr).1, (h2 a w hr).1]
            rfl
          · exact .inl h4
        · exact .inl h4
      · exact .inl h
    · split at h
      · rename_i x
        split at h
        · rename_i t
          split at h
          · rename_i el hu
            obtain ⟨s, h3, h1⟩ := getK_uni (E := E) (n := n) (bl := bl) (R := R) h
            split at h3
            · rename_i aa m cc
              refine .inr ⟨.v _, h3, fun a w hr => ⟨trivial, fun dst ty pos after guard => ?_⟩⟩
              have := run_cap_sl (ty := ty) (undOf_ok hΓ hu) aa m cc w
              simp only [execOp, resolve, invoke, builtin, Sem.run_bind, Sem.run_pure, Result.andThen_ok]
              rw [show (⟨[x]⟩ : Array Operand).map a.eval = #[a.eval x] from by apply Array.ext'; simp, (h1 a w hr).1]
              simp only [SV.den]
              rw [show (⟨[t]⟩ : Array TypeId) = #[t] from rfl, this]; rfl
            · exact .inl h3
          · exact .inl h
        · exact h.elim
      · exact h.elim
    · exact .inl h
  | _ => exact .inl h

set_option maxHeartbeats 1000000 in
theorem exOp_sound (hΓ : TyOk P Γ) {o : Oper} {fr : Fr} {bl : List Blk} {R : List Hp} {K : St → Prop} {a : Act} {w : World} (h : exOp P E Γ n o fr bl R K) (hr : Rel E n ⟨fr, bl, R⟩ a w)
    {Q : Exit → Act → World → Prop} : o.wp P a w (Lands E n K) Q := by
  obtain ⟨dst, op, ty, pos, after, guard⟩ := o
  have raw : ∀ {o : Oper}, VCraw P E n o ⟨fr, bl, R⟩ K → o.wp P a w (Lands E n K) Q := fun h => h.use hr
  have pure_ : exP Γ op fr bl R (fun s => putK n fr dst s fun fr => K ⟨fr, bl, R⟩) (VCraw P E n ⟨dst, op, ty, pos, after, guard⟩ ⟨fr, bl, R⟩ K) → Oper.wp P ⟨dst, op, ty, pos, after, guard⟩ a w (Lands E n K) Q := by
    intro h
    rcases exP_sound (P := P) (E := E) (n := n) hΓ h with h1 | ⟨s, h1, h2⟩
    · exact raw h1
    · exact wp_value ((h2 a w hr).2 dst ty pos after guard) hr rfl (h2 a w hr).1 h1
  cases op with
  | box t x =>
    obtain ⟨s, h1, h2, h3⟩ := getK_sound hr h
    have h4 := cellsK_sound h3
    obtain ⟨h4⟩ := h4
    have h5 := h4 w.heap.size
    rw [pushBlk_eq] at h5
    have h6 := hr.push (s.den bl).cells.toList t
    refine wp_value (s := .p bl.length 0) (v := .pointer (some ⟨w.heap.size, 0, none⟩)) ?_ h6 ?_ ?_ h5
    · simp only [execOp, Instr.box, newVar, newRow, Sem.run_bind, run_newObj, Result.andThen_ok, Sem.run_pure, h1]; rfl
    · simp only [SV.den]; rw [idOf_at]
    · show bl.length < (bl ++ [_]).length
      simp
  | alloc t =>
    simp only [exOp] at h
    split at h
    · exact h.elim
    · rename_i ti ht
      obtain ⟨u, sz, by_, z⟩ := ti
      have h4 := cellsK_nil h
      obtain ⟨h4⟩ := h4
      have h5 := h4 w.heap.size
      rw [pushBlk_eq] at h5
      have h6 := hr.push z.cells.toList t
      refine wp_value (s := .p bl.length 0) (v := .pointer (some ⟨w.heap.size, 0, none⟩)) ?_ h6 ?_ ?_ h5
      · simp only [execOp, Instr.alloc, newVar, newRow, Sem.run_bind, run_newObj, Result.andThen_ok, Sem.run_pure, ty_zero hΓ ht]; rfl
      · simp only [SV.den]; rw [idOf_at]
      · show bl.length < (bl ++ [_]).length
        simp
  | store t x y =>
    simp only [exOp] at h
    split at h
    · exact h.elim
    · rename_i ti ht
      split at h
      · exact h.elim
      · obtain ⟨s, h1, h2, h3⟩ := getK_sound hr h
        obtain ⟨s', h4, h5, h6⟩ := getK_sound hr h3
        unfold exStore at h6
        have h7 := cellsK_sound h6
        have hex : ∀ (b o : Nat) (w' : World), a.eval x = .pointer (some ⟨b, o, none⟩) → lenIs (s'.den bl).cells.toList ti.size = true → (storeCells ⟨b, o, none⟩ (s'.den bl).cells.toList).run P w = .ok () w' →
            (execOp a.eval ⟨none, .store t x y, ty, pos, after, guard⟩).run P w = .ok .skip w' := by
          intro b o w' e1 e3 e2
          simp only [execOp, Instr.storeAt, e1, Instr.sureAddr, Sem.run_bind, Sem.run_pure, Result.andThen_ok]
          rw [h4, run_storeVar_of hΓ ht e3, e2]; rfl
        split at h7
        · exact raw h7
        · rename_i hlen
          split at h7
          · exact raw h7
          · rename_i hone
            split at h7
            · rename_i hh off
              split at h7
              · exact h7.elim
              · rename_i b hb
                obtain ⟨bi, cs, bt⟩ := b
                simp only at h7
                split at h7
                · exact h7.elim
                · rename_i cs' hcs
                  split at h7
                  · exact h7.elim
                  · rename_i bl' hbl
                    obtain ⟨w', h8, h9⟩ := hr.store (P := P) hb hcs hone hbl
                    exact wp_none (hex _ _ _ h1 hlen h8) rfl h9 h7
            · rename_i b o
              rcases h7 with ⟨R0, R1, R', h8a, h8, h8b, h9⟩ | ⟨R0, R1, R', h8a, h8, h8b, h9⟩
              · obtain ⟨w', h10, h11⟩ := (hr.repart h8a).storeR (P := P) h8 hone
                exact wp_none (hex _ _ _ h1 hlen h10) rfl (h11.repart h8b) h9
              · obtain ⟨w', h10, h11⟩ := (hr.repart h8a).storeF (P := P) h8 hone
                exact wp_none (hex _ _ _ h1 hlen h10) rfl (h11.repart h8b) h9
            · exact raw h7
  | buildSlice t len parts =>
    obtain ⟨parts⟩ := parts
    simp only [exOp] at h
    split at h
    · rename_i e hu
      split at h
      · exact h.elim
      · rename_i ti ht
        obtain ⟨u, sz, by_, z⟩ := ti
        simp only at h
        split at h
        · exact h.elim
        · rename_i hle
          have h4 := cellsK_nil h
          split at h4
          · exact h4.elim
          · rename_i hzl
            obtain ⟨cs, h5, h6⟩ := exBuildS_sound hr _ _ _ h4
            obtain ⟨h5⟩ := h5
            have hrun := run_buildSlice (P := P) (w := w) hΓ (undOf_ok hΓ hu) ht (lenIs_spec hzl) (Nat.le_of_ble_eq_true hle) h6
            refine wp_value (s := .v _) (v := .slice (some ⟨w.heap.size, 0, none⟩) len len) ?_ (hr.pushR (.cells ⟨cs⟩ e)) rfl trivial (h5 w.heap.size)
            simp only [execOp, Sem.run_bind]
            have e1 : (⟨parts⟩ : Array (Nat × Operand)).map (fun x => (x.1, a.eval x.2)) = ⟨parts.map fun p => (p.1, a.eval p.2)⟩ := by apply Array.ext'; simp
            rw [e1, hrun]; rfl
    · exact raw h
  | makeSlice t l c =>
    simp only [exOp] at h
    split at h
    · rename_i e hu
      split at h
      · exact h.elim
      · rename_i ti ht
        obtain ⟨u, sz, by_, z⟩ := ti
        simp only at h
        have h4 := cellsK_nil h
        split at h4
        · exact h4.elim
        · rename_i hzl
          obtain ⟨sl, h5, h6, h7⟩ := getK_sound hr h4
          obtain ⟨sc, h8, h9, h10⟩ := getK_sound hr h7
          split at h10
          · split at h10
            · obtain ⟨g0, g1, g2, g3, g4⟩ := h10
              have hrun := fun k k' => run_makeSlice (P := P) (w := w) (k := k) (k' := k') hΓ (undOf_ok hΓ hu) ht (lenIs_spec hzl) g0 g1 g2 g3
              refine wp_value (s := .v _) ?_ (hr.pushR _) rfl trivial (g4 w.heap.size)
              simp only [execOp, Sem.run_bind, h5, h8, SV.den]
              rw [hrun]; rfl
            · exact raw h10
          · exact raw h10
    · exact raw h
  | call c =>
    obtain ⟨callee, ⟨args⟩, ⟨tys⟩⟩ := c
    cases callee with
    | value v =>
      cases v with
      | func f =>
        have h1 := getsK_sound hr h
        rcases h1 with ⟨⟨fn, hf, hn, hb⟩, h2⟩ | h2
        case ext =>
          obtain ⟨v, w', bl', R', h3, h4, h5, h6⟩ := h2 w hr.sat
          refine wp_value (s := .v v) (v := v) ?_ (hr.ids h5 h4) rfl trivial h6
          rw [execOp_call_go, ← h3]
          congr 2
          apply Array.ext'
          simp
        have h3 := h2 w hr.sat
        unfold Oper.wp
        have hrun : (execOp a.eval ⟨dst, .call ⟨.value (.func f), ⟨args⟩, ⟨tys⟩⟩, ty, pos, after, guard⟩).run P w = .ok (.enter f ⟨args.map a.eval⟩) w := by
          rw [execOp_call_go, run_callFunc hf hn hb]
          congr 2
          apply Array.ext'
          simp
        rw [hrun, Oper.upon_enter]
        refine h3.mono ?_
        rintro e w' ⟨v, bl', R', rfl, h4, h5, h6⟩
        simp only
        have h7 := hr.ids h5 h4
        obtain ⟨fr', h8, h9⟩ := putK_sound (s := .v v) h7 trivial h6
        exact ⟨_, h9, h8⟩
      | tmp t =>
        simp only [exOp] at h
        obtain ⟨s, h0, _, h⟩ := getK_sound hr h
        split at h
        · rename_i f fs cs _
          have h1 := getsK_sound hr h
          rcases h1 with ⟨⟨fn, hf, hn, hb⟩, h2⟩ | h2
          case ext =>
            obtain ⟨v, w', bl', R', h3, h4, h5, h6⟩ := h2 w hr.sat
            refine wp_value (s := .v v) (v := v) ?_ (hr.ids h5 h4) rfl trivial h6
            simp only [execOp, resolve, h0, SV.den, Deferred.ofValue, Sem.run_bind, Sem.run_pure, Result.andThen_ok, invoke]
            rw [← h3]
            congr 2
            apply Array.ext'
            simp
          have h3 := h2 w hr.sat
          unfold Oper.wp
          have hrun : (execOp a.eval ⟨dst, .call ⟨.value (.tmp t), ⟨args⟩, ⟨tys⟩⟩, ty, pos, after, guard⟩).run P w = .ok (.enter f ⟨fs ++ args.map a.eval ++ cs⟩) w := by
            simp only [execOp, resolve, h0, SV.den, Deferred.ofValue, Sem.run_bind, Sem.run_pure, Result.andThen_ok, invoke]
            rw [run_callFunc hf hn hb]
            congr 2
            apply Array.ext'
            simp
          rw [hrun, Oper.upon_enter]
          refine h3.mono ?_
          rintro e w' ⟨v, bl', R', rfl, h4, h5, h6⟩
          simp only
          have h7 := hr.ids h5 h4
          obtain ⟨fr', h8, h9⟩ := putK_sound (s := .v v) h7 trivial h6
          exact ⟨_, h9, h8⟩
        · exact raw h
      | _ => exact pure_ h
    | _ => exact pure_ h
  | _ => exact pure_ h

theorem guardSlotL_eq : ∀ (l : List Oper) (j : Nat), guardSlotL l j = (l[j]?).bind (·.dst)
  | [], _ => by simp [guardSlotL]
  | _ :: _, 0 => rfl
  | _ :: r, j + 1 => by simp only [guardSlotL, List.getElem?_cons_succ]; exact guardSlotL_eq r j

theorem yielded_eq {l : List Oper} {j d : Nat} (h : guardSlotL l j = some d) {tmps : Array Value} {t : Bool} (ht : tmps[d]? = some (.bool t)) : yielded ⟨l⟩ tmps j = some t := by
  unfold yielded
  rw [guardSlotL_eq] at h
  have : (((⟨l⟩ : Array Oper)[j]?).bind (·.dst)).bind (tmps[·]?) = some (.bool t) := by
    rw [show (⟨l⟩ : Array Oper)[j]? = l[j]? by simp, h]
    exact ht
  rw [this]

theorem yielded_un {l : List Oper} {j d : Nat} (h : guardSlotL l j = some d) {tmps : Array Value} (ht : tmps[d]? = some (.tuple ⟨[]⟩)) : yielded ⟨l⟩ tmps j = none := by
  unfold yielded
  rw [guardSlotL_eq] at h
  have : (((⟨l⟩ : Array Oper)[j]?).bind (·.dst)).bind (tmps[·]?) = some (.tuple ⟨[]⟩) := by
    rw [show (⟨l⟩ : Array Oper)[j]? = l[j]? by simp, h]
    exact ht
  rw [this]

theorem Rel.know {fr : Fr} {bl : List Blk} {R : List Hp} {a : Act} {w : World} (hr : Rel E n ⟨fr, bl, R⟩ a w) {d : Nat} {t : Bool} (h : look fr d = some (.v (.bool t))) :
    Rel E n ⟨(d, .b t) :: fr, bl, R⟩ a w := by
  refine ⟨hr.size, hr.defers, fun k sv hk => ?_, hr.sat⟩
  simp only [look] at hk
  split at hk
  · rename_i hb
    have := Nat.eq_of_beq_eq_true hb
    subst this
    cases hk
    exact ⟨(hr.val _ _ h).1, trivial⟩
  · exact hr.val _ _ hk


theorem wpList_do {ops : Array Oper} {Q : Exit → Act → World → Prop} {a : Act} {w : World} {rest : List Oper} {o : Oper} (hw : Region.wanted o (yielded ops a.tmps) = true)
    (h : o.wp P a w (wpList P ops Q rest) Q) : wpList P ops Q (o :: rest) a w := by
  unfold wpList
  rw [if_pos hw]; exact .inl h
theorem wpList_not {ops : Array Oper} {Q : Exit → Act → World → Prop} {a : Act} {w : World} {rest : List Oper} {o : Oper} (hw : Region.wanted o (yielded ops a.tmps) = false)
    (h : wpList P ops Q rest (a.put o.dst undef) w) : wpList P ops Q (o :: rest) a w := by
  unfold wpList
  rw [if_neg (by simp [hw])]; exact h

theorem Oper.wp_next {o : Oper} {a : Act} {w : World} {K K' : Act → World → Prop} {Q : Exit → Act → World → Prop} (h : o.wp P a w K Q) (hK : ∀ a w, K a w → K' a w) : o.wp P a w K' Q := by
  unfold Oper.wp Oper.upon at *
  split at h
  · exact hK _ _ h
  · exact hK _ _ h
  · exact hK _ _ h
  · refine h.mono ?_
    intro e w' he
    cases e with
    | returned v => exact hK _ _ he
    | panicked c => exact he
    | outgrown => exact he
  · refine h.mono ?_
    intro v w' he
    exact hK _ _ he
  · exact h
  · exact h.elim

theorem exOps_sound (hΓ : TyOk P Γ) {ops : List Oper} {Q : Exit → Act → World → Prop} : ∀ (l : List Oper) (st : St) (K : St → Prop) (a : Act) (w : World),
    exOps P E Γ n ops l st K → Rel E n st a w → (∀ st a w, Rel E n st a w → K st → Q .normal a w) → wpList P ⟨ops⟩ Q l a w
  | [], st, K, a, w, h, hr, hQ => hQ st a w hr h
  | o :: rest, ⟨fr, bl, R⟩, K, a, w, h, hr, hQ => by
    have key : ∀ fr, Rel E n ⟨fr, bl, R⟩ a w → Region.wanted o (yielded ⟨ops⟩ a.tmps) = true → (exOp P E Γ n o fr bl R fun st => exOps P E Γ n ops rest st K) → wpList P ⟨ops⟩ Q (o :: rest) a w := by
      intro fr hr hw h
      refine wpList_do hw (Oper.wp_next (exOp_sound hΓ h hr) ?_)
      rintro a' w' ⟨st', h1, h2⟩
      exact exOps_sound hΓ rest st' K a' w' h2 h1 hQ
    have skip : ∀ fr, Rel E n ⟨fr, bl, R⟩ a w → Region.wanted o (yielded ⟨ops⟩ a.tmps) = false → (putK n fr o.dst (.v undef) fun fr => exOps P E Γ n ops rest ⟨fr, bl, R⟩ K) → wpList P ⟨ops⟩ Q (o :: rest) a w := by
      intro fr hr hw h
      obtain ⟨fr', h1, h2⟩ := putK_sound (s := .v undef) hr trivial h
      exact wpList_not hw (exOps_sound hΓ rest _ K _ w h1 h2 hQ)
    simp only [exOps] at h
    split at h
    · rename_i hg
      exact key fr hr (by simp [Region.wanted, hg]) h
    · rename_i j want hg
      split at h
      · exact h.elim
      · rename_i d hd
        have hy : ∀ t : Bool, a.tmps[d]? = some (.bool t) → ∀ b : Bool, decide (t = want) = b → Region.wanted o (yielded ⟨ops⟩ a.tmps) = b := by
          intro t ht b hb
          simp only [Region.wanted, hg, yielded_eq hd ht]
          rw [← hb]
          cases t <;> cases want <;> rfl
        split at h
        · rename_i t ht
          have h1 := (hr.val _ _ ht).1
          split at h
          · rename_i hb
            exact key fr hr (hy t h1 _ hb) h
          · rename_i hb
            exact skip fr hr (hy t h1 _ hb) h
        · rename_i t ht
          have h1 := (hr.val _ _ ht).1
          obtain ⟨htr, hfa⟩ := h
          have h2 := hr.know ht
          cases t with
          | true =>
            have h3 := htr rfl
            cases want with
            | true => exact key _ h2 (hy true h1 _ rfl) h3
            | false => exact skip _ h2 (hy true h1 _ rfl) h3
          | false =>
            have h3 := hfa rfl
            cases want with
            | true => exact skip _ h2 (hy false h1 _ rfl) h3
            | false => exact key _ h2 (hy false h1 _ rfl) h3
        · rename_i ht
          have h1 := (hr.val _ _ ht).1
          refine skip fr hr ?_ h
          simp only [Region.wanted, hg, yielded_un hd h1]
          cases want <;> rfl
        · exact h.elim

theorem getK_tmp {fr : Fr} {d : Nat} {K : SV → Prop} (h : getK fr (.tmp d) K) : ∃ s, look fr d = some s := by
  simp only [getK] at h
  split at h
  · rename_i s hs; exact ⟨s, hs⟩
  · exact h.elim

theorem lift_mono {Q Q' : Exit → St → Prop} (h : ∀ e st, Q e st → Q' e st) : ∀ e a w, lift E n Q e a w → lift E n Q' e a w :=
  fun e _ _ ⟨st, h1, h2⟩ => ⟨st, h1, h e st h2⟩

theorem exC_sound (hΓ : TyOk P Γ) : ∀ (c : Code) (st : St) (Q : Exit → St → Prop) (a : Act) (w : World), exC P E Γ n c st Q → Rel E n st a w → c.wp P (lift E n Q) a w
  | .skip, st, Q, a, w, h, hr => wp_skip ⟨st, hr, h⟩
  | .region id ops draw, st, Q, a, w, h, hr => by
    cases draw with
    | false =>
      obtain ⟨l⟩ := ops
      exact wp_region_list (exOps_sound hΓ l st _ a w h hr fun st a w h1 h2 => ⟨st, h1, h2⟩)
    | true =>
      obtain ⟨h⟩ := h
      exact h a w hr Q fun st h => h
  | .seq x y, st, Q, a, w, h, hr => by
    refine wp_seq (wp_mono (exC_sound hΓ x st _ a w h hr) ?_)
    rintro e a' w' ⟨st', h1, h2⟩
    cases e with
    | normal => exact exC_sound hΓ y st' Q a' w' h2 h1
    | _ => exact ⟨st', h1, h2⟩
  | .cond c x y, ⟨fr, bl, R⟩, Q, a, w, h, hr => by
    have h' : getK fr c fun s => match s with
      | .b true => exC P E Γ n x ⟨fr, bl, R⟩ Q
      | .b false => exC P E Γ n y ⟨fr, bl, R⟩ Q
      | .v (.bool t) => VCsplit t (exC P E Γ n x ⟨know fr c true, bl, R⟩ Q) (exC P E Γ n y ⟨know fr c false, bl, R⟩ Q)
      | _ => False := h
    obtain ⟨s, h1, h2, h3⟩ := getK_sound hr h'
    split at h3
    · exact wp_cond_true h1 (exC_sound hΓ x _ Q a w h3 hr)
    · exact wp_cond_false h1 (exC_sound hΓ y _ Q a w h3 hr)
    · rename_i t
      obtain ⟨ht, hf⟩ := h3
      have hk : ∀ b, t = b → Rel E n ⟨know fr c b, bl, R⟩ a w := by
        intro b hb
        subst hb
        unfold know
        split
        · rename_i d
          refine ⟨hr.size, hr.defers, fun k sv hk => ?_, hr.sat⟩
          simp only [look] at hk
          split at hk
          · rename_i hbq
            have := Nat.eq_of_beq_eq_true hbq
            subst this
            cases hk
            obtain ⟨s', hl⟩ := getK_tmp h'
            have h5 := (hr.val _ _ hl).1
            refine ⟨?_, trivial⟩
            have h8 : a.eval (.tmp d) = s'.den bl := by
              show a.tmps.getD d undef = _
              rw [Array.getD_eq_getD_getElem?, h5]; rfl
            rw [h8] at h1
            rw [h5, h1]; rfl
          · exact hr.val _ _ hk
        · exact hr
      exact wp_cond_split h1 (fun e => exC_sound hΓ x _ Q a w (ht e) (hk true e)) (fun e => exC_sound hΓ y _ Q a w (hf e) (hk false e))
    · exact h3.elim
  | .block id b, st, Q, a, w, h, hr => by
    refine wp_block (wp_mono (exC_sound hΓ b st _ a w h hr) ?_)
    rintro e a' w' ⟨st', h1, h2⟩
    cases e with
    | exit id' =>
      simp only [Exit.inBlock]
      simp only [blockQ] at h2
      split at h2
      · rename_i hb
        rw [if_pos (Nat.eq_of_beq_eq_true hb)]
        exact ⟨st', h1, h2⟩
      · rename_i hb
        rw [if_neg (fun e => by subst e; simp at hb)]
        exact ⟨st', h1, h2⟩
    | _ => exact ⟨st', h1, h2⟩
  | .loop b, st, Q, a, w, h, hr => by
    obtain ⟨h⟩ := h
    exact h a w hr
  | .exit id, st, Q, a, w, h, hr => wp_exit ⟨st, hr, h⟩
  | .ret, st, Q, a, w, h, hr => wp_ret ⟨st, hr, h⟩
  | .rangeFunc _ _ _ _, st, Q, a, w, h, hr => by obtain ⟨h⟩ := h; exact h a w hr
  | .scope _, st, Q, a, w, h, hr => by obtain ⟨h⟩ := h; exact h a w hr
  | .label _, st, Q, a, w, h, hr => by obtain ⟨h⟩ := h; exact h a w hr
  | .goto _, st, Q, a, w, h, hr => by obtain ⟨h⟩ := h; exact h a w hr
  | .refuse _, st, Q, a, w, h, hr => by obtain ⟨h⟩ := h; exact h a w hr

end
end Go.SX
