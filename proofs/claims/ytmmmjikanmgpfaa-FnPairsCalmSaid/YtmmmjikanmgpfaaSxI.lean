import Derived.Test.YtmmmjikanmgpfaaSxZ
import Derived.Lib.Overlaps
namespace Go.SX
section
variable {P : Program} {E : World} {Γ : Ty} {n : Nat} {α : Type} {f : Fl α}

theorem allOne_flat (f : Fl α) : ∀ l : List α, allOne (l.flatMap f.enc) = true := by
  intro l
  induction l with
  | nil => rfl
  | cons x r ih =>
    rw [List.flatMap_cons]
    exact allOne_append _ _ (f.one x) ih
theorem rd_pre {H : Hp} {b : Option Addr} {k c : Nat} {ys : List α} (h : (rpSl f.rp).rd H [.slice b k c] ys) (q : Nat) (hq : q ≤ k) : (rpSl f.rp).rd H [.slice b q c] (ys.take q) := by
  obtain ⟨b', c', e, h1, h2⟩ := h
  cases e
  refine ⟨b, c, by rw [List.length_take, Nat.min_eq_left hq], ⟨by rw [List.length_take]; omega, by rw [List.length_take]; omega⟩, fun i hi => ?_⟩
  rw [List.length_take] at hi
  obtain ⟨b', o, l', h3, h4, h5⟩ := h2 i (by omega)
  exact ⟨b', o, l', h3, h4, by rw [List.getElem_take]; exact h5⟩
theorem first_len {size q : Nat} {b : Option Addr} {k k' c c' : Nat} : Builtin.firstCells size q (.slice b k c) = Builtin.firstCells size q (.slice b k' c') := by cases b <;> rfl

/-- copy into a part of an owned slice -/
theorem copy_ow (hΓ : TyOk P Γ) {dst : Option Nat} {d s : Operand} {dT sT e ty : TypeId} {pos : String} {after : Array Edge} {guard : Option (Nat × Bool)} {fr : Fr} {bl : List Blk} {R : List Hp} {K : St → Prop} {ti : TI}
    (i : Nat) {A : Hp} {base b2 : Option Addr} {m cap l dl dc k c2 : Nat} {xs ys : List α} (hi : nthR R i = some A) (ho : Ow f e (.slice base m cap) xs A)
    (hd1 : getK fr d fun sv => sv = .v (.slice (subBase cap l base f.size) dl dc)) (hs1 : getK fr s fun sv => sv = .v (.slice b2 k c2))
    (hr2 : (rpSl f.rp).rd (St.hall ⟨[], bl, R⟩) [.slice b2 k c2] ys) (hy : ∀ y ∈ ys, f.wf y) (hl : l + dl ≤ m)
    (hsT : undOf Γ dT = some (.slice e)) (ht : tyOf Γ e = some ti) (hsz : ti.size = f.size)
    (hk : ∀ A', Ow f e (.slice base m cap) (xs.take l ++ (ys.take (min k dl) ++ xs.drop (l + min k dl))) A' → putK n fr dst (.v (.int .i64 ((min k dl : Nat) : Int))) fun fr => K ⟨fr, bl, setR R i A'⟩) :
    VCraw P E n ⟨dst, .call ⟨.builtin .copy, #[d, s], #[dT, sT]⟩, ty, pos, after, guard⟩ ⟨fr, bl, R⟩ K := by
  refine ⟨fun a w hr Q => ?_⟩
  obtain ⟨sv, g1, _, rfl⟩ := getK_sound hr hd1
  obtain ⟨sv, g2, _, rfl⟩ := getK_sound hr hs1
  obtain ⟨pre, post, e1, e2'⟩ := nthR_split hi
  have perm : ∀ C : Hp, (St.hall ⟨[], bl, pre ++ C :: post⟩).Perm (C ++ St.hall ⟨[], bl, pre ++ post⟩) := by
    intro C
    simp only [St.hall, List.flatten_append, List.flatten_cons]
    have := List.perm_append_comm (l₁ := List.map Blk.ent bl ++ pre.flatten) (l₂ := C)
    have := this.append_right post.flatten
    simpa only [List.append_assoc] using this
  have hk2 : k = ys.length := by obtain ⟨_, _, e, _⟩ := hr2; cases e; rfl
  have hpre := rd_pre hr2 (min k dl) (Nat.min_le_left _ _)
  have hrow := (rd_row (f := f) hpre (P := P) hr.sat).2
  subst e1
  have hsat : Sat E (A ++ St.hall ⟨[], bl, pre ++ post⟩) w := hr.sat.perm (perm A)
  have key : ∃ A' w', (Builtin.copy_ #[dT, sT] ty #[.slice (if cap = l then base else base.map (·.add (l * f.size))) dl dc, .slice b2 k c2]).run P w = .ok (.int .i64 ((min k dl : Nat) : Int)) w' ∧ Ow f e (.slice base m cap) (xs.take l ++ (ys.take (min k dl) ++ xs.drop (l + min k dl))) A' ∧ Sat E (A' ++ St.hall ⟨[], bl, pre ++ post⟩) w' := by
    have hu := undOf_ok hΓ hsT
    obtain ⟨hw, hlen, base0, cap0, e0, h2⟩ := ho
    cases e0
    have hwf : ∀ x ∈ xs.take l ++ (ys.take (min k dl) ++ xs.drop (l + min k dl)), f.wf x := by
      intro x hx
      rcases List.mem_append.1 hx with hx | hx
      · exact hw x (List.mem_of_mem_take hx)
      · rcases List.mem_append.1 hx with hx | hx
        · exact hy x (List.mem_of_mem_take hx)
        · exact hw x (List.mem_of_mem_drop hx)
    have hln : (xs.take l ++ (ys.take (min k dl) ++ xs.drop (l + min k dl))).length = xs.length := by
      simp only [List.length_append, List.length_take, List.length_drop]; omega
    unfold Builtin.copy_
    simp only [List.getElem?_toArray, List.getElem?_cons_zero, List.getElem?_cons_succ, Sem.run_bind, run_underlying hu, Result.andThen_ok, ty_size hΓ ht, hsz, Sem.run_pure, Builtin.lenOf]
    rw [show Nat.min k dl = min k dl from rfl]
    rw [first_len (k' := min k dl) (c' := c2), hrow]
    simp only [Result.andThen_ok]
    rcases h2 with ⟨rfl, rfl, rfl⟩ | ⟨b, sp, rfl, rfl, h3, h4⟩
    · have h0 : min k dl = 0 := by simp at hl; omega
      have hl0 : l = 0 := by simp at hl; omega
      refine ⟨[], w, ?_, ?_, hsat⟩
      · rw [h0, hl0]
        cases base with
        | none => rfl
        | some a => rfl
      · rw [h0, hl0]
        exact ⟨fun x hx => (by simp at hx), by simp, base, 0, rfl, .inl ⟨rfl, rfl, rfl⟩⟩
    · by_cases h0 : min k dl = 0
      · refine ⟨_, w, ?_, ?_, hsat⟩
        · rw [h0]
          generalize (if cap = l then some (Addr.mk b 0 none) else (some (Addr.mk b 0 none)).map (·.add (l * f.size))) = q
          cases q <;> rfl
        · rw [h0]
          simp only [List.take_zero, List.nil_append, Nat.add_zero, List.take_append_drop]
          exact ⟨hw, hlen, _, _, rfl, .inr ⟨b, sp, rfl, rfl, h3, h4⟩⟩
      · have hfl := flat_length f xs
        have hfy := flat_length f (ys.take (min k dl))
        rw [List.length_take, Nat.min_eq_left (show min k dl ≤ ys.length by omega)] at hfy
        have hm1 := Nat.mul_le_mul_right f.size (show l + min k dl ≤ xs.length by omega)
        have hm2 : (l + min k dl) * f.size = l * f.size + min k dl * f.size := Nat.add_mul _ _ _
        have hbound : l * f.size + ((ys.take (min k dl)).flatMap f.enc).length ≤ (xs.flatMap f.enc ++ sp).length := by
          rw [List.length_append, hfl, hfy]; omega
        obtain ⟨w', h5, h6⟩ := run_storeCells_wr (P := P) (A := []) (o := l * f.size) (l := (ys.take (min k dl)).flatMap f.enc) hsat hbound (allOne_flat f _)
        refine ⟨[(b, Obj.cells ⟨setAt (xs.flatMap f.enc ++ sp) (l * f.size) ((ys.take (min k dl)).flatMap f.enc)⟩ e)], w', ?_, ?_, h6⟩
        · rw [if_neg (by omega)]
          simp only [Option.map_some, addr_add, Nat.zero_add, Sem.run_bind, h5, Result.andThen_ok, Sem.run_pure]
          rfl
        · refine ⟨hwf, by rw [hln]; exact hlen, some ⟨b, 0, none⟩, cap, by rw [hln], .inr ⟨b, sp, rfl, ?_, by rw [hln]; exact h3, by rw [hln]; exact h4⟩⟩
          have e3 : setAt (xs.flatMap f.enc ++ sp) (l * f.size) ((ys.take (min k dl)).flatMap f.enc) = (xs.take l ++ (ys.take (min k dl) ++ xs.drop (l + min k dl))).flatMap f.enc ++ sp := by
            have hx : xs = xs.take l ++ ((xs.drop l).take (min k dl) ++ xs.drop (l + min k dl)) := by
              rw [← List.drop_drop, List.take_append_drop, List.take_append_drop]
            have h7 := flat_length f (xs.take l)
            rw [List.length_take, show min l xs.length = l by omega] at h7
            have h8 := flat_length f ((xs.drop l).take (min k dl))
            rw [List.length_take, List.length_drop, show min (min k dl) (xs.length - l) = min k dl by omega] at h8
            rw [setAt_eq _ _ _ hbound, hfy]
            conv => lhs; rw [hx]
            simp only [List.flatMap_append, List.append_assoc]
            have e9 : ∀ (A B C : List Value), List.drop (A ++ B).length (A ++ (B ++ C)) = C := fun A B C => by rw [← List.append_assoc, List.drop_left]
            rw [← h7, List.take_left, ← h8, ← List.length_append, e9]
          rw [← e3]
  obtain ⟨A', w', h1, h2, h3⟩ := key
  have hr' : Rel E n ⟨fr, bl, setR (pre ++ A :: post) i A'⟩ a w' := by
    rw [e2']
    exact hr.ids rfl (h3.perm (perm A').symm)
  refine wp_value (s := .v _) (v := .int .i64 ((min k dl : Nat) : Int)) ?_ hr' rfl trivial (hk A' h2)
  simp only [execOp, resolve, invoke, builtin, Sem.run_bind, Sem.run_pure, Result.andThen_ok]
  rw [show (#[d, s] : Array Operand).map a.eval = #[a.eval d, a.eval s] from by simp, g1, g2]
  simp only [SV.den, subBase_eq]
  rw [h1]; rfl
/-- copy into the end of an owned slice, and its spare room -/
theorem copy_end (hΓ : TyOk P Γ) {dst : Option Nat} {d s : Operand} {dT sT e ty : TypeId} {pos : String} {after : Array Edge} {guard : Option (Nat × Bool)} {fr : Fr} {bl : List Blk} {R : List Hp} {K : St → Prop} {ti : TI}
    (i : Nat) {A : Hp} {base b2 : Option Addr} {m cap l dl dc k c2 q : Nat} {xs ys : List α} (hi : nthR R i = some A) (ho : Ow f e (.slice base m cap) xs A)
    (hd1 : getK fr d fun sv => sv = .v (.slice (subBase cap l base f.size) dl dc)) (hs1 : getK fr s fun sv => sv = .v (.slice b2 k c2))
    (hr2 : (rpSl f.rp).rd (St.hall ⟨[], bl, R⟩) [.slice b2 q c2] ys) (hq : q = min k dl) (hy : ∀ y ∈ ys, f.wf y) (hl : l ≤ m) (hlc : l + q ≤ cap) (hmq : m ≤ l + q) (hq0 : 0 < q) (hlen2 : l + q ≤ 9223372036854775807)
    (hsT : undOf Γ dT = some (.slice e)) (ht : tyOf Γ e = some ti) (hsz : ti.size = f.size)
    (hk : ∀ A', Ow f e (.slice base (l + q) cap) (xs.take l ++ ys) A' → putK n fr dst (.v (.int .i64 ((min k dl : Nat) : Int))) fun fr => K ⟨fr, bl, setR R i A'⟩) :
    VCraw P E n ⟨dst, .call ⟨.builtin .copy, #[d, s], #[dT, sT]⟩, ty, pos, after, guard⟩ ⟨fr, bl, R⟩ K := by
  refine ⟨fun a w hr Q => ?_⟩
  obtain ⟨sv, g1, _, rfl⟩ := getK_sound hr hd1
  obtain ⟨sv, g2, _, rfl⟩ := getK_sound hr hs1
  obtain ⟨pre, post, e1, e2'⟩ := nthR_split hi
  have perm : ∀ C : Hp, (St.hall ⟨[], bl, pre ++ C :: post⟩).Perm (C ++ St.hall ⟨[], bl, pre ++ post⟩) := by
    intro C
    simp only [St.hall, List.flatten_append, List.flatten_cons]
    have := List.perm_append_comm (l₁ := List.map Blk.ent bl ++ pre.flatten) (l₂ := C)
    have := this.append_right post.flatten
    simpa only [List.append_assoc] using this
  obtain ⟨hk2, hrow⟩ := rd_row (f := f) hr2 (P := P) hr.sat
  subst hk2
  subst e1
  have hsat : Sat E (A ++ St.hall ⟨[], bl, pre ++ post⟩) w := hr.sat.perm (perm A)
  have key : ∃ A' w', (Builtin.copy_ #[dT, sT] ty #[.slice (if cap = l then base else base.map (·.add (l * f.size))) dl dc, .slice b2 k c2]).run P w = .ok (.int .i64 ((min k dl : Nat) : Int)) w' ∧ Ow f e (.slice base (l + ys.length) cap) (xs.take l ++ ys) A' ∧ Sat E (A' ++ St.hall ⟨[], bl, pre ++ post⟩) w' := by
    have hu := undOf_ok hΓ hsT
    obtain ⟨hw, hlen, base0, cap0, e0, h2⟩ := ho
    cases e0
    have hwf : ∀ x ∈ xs.take l ++ ys, f.wf x := by
      intro x hx
      rcases List.mem_append.1 hx with hx | hx
      · exact hw x (List.mem_of_mem_take hx)
      · exact hy x hx
    have hln : (xs.take l ++ ys).length = l + ys.length := by
      simp only [List.length_append, List.length_take]; omega
    unfold Builtin.copy_
    simp only [List.getElem?_toArray, List.getElem?_cons_zero, List.getElem?_cons_succ, Sem.run_bind, run_underlying hu, Result.andThen_ok, ty_size hΓ ht, hsz, Sem.run_pure, Builtin.lenOf]
    rw [show Nat.min k dl = min k dl from rfl, ← hq]
    rw [first_len (k' := ys.length) (c' := c2), hrow]
    simp only [Result.andThen_ok]
    rcases h2 with ⟨rfl, rfl, rfl⟩ | ⟨b, sp, rfl, rfl, h3, h4⟩
    · omega
    · have hfl := flat_length f xs
      have hfy := flat_length f ys
      have hfx := flat_length f (xs.take l)
      rw [List.length_take, show min l xs.length = l by omega] at hfx
      have hm1 := Nat.mul_le_mul_right f.size (show l + ys.length ≤ cap by omega)
      have hm2 : (l + ys.length) * f.size = l * f.size + ys.length * f.size := Nat.add_mul _ _ _
      have hm4 : xs.length * f.size + (cap - xs.length) * f.size = cap * f.size := by rw [← Nat.add_mul]; congr 1; omega
      have hm5 := Nat.mul_le_mul_right f.size (show xs.length ≤ l + ys.length by omega)
      have hm6 := Nat.mul_le_mul_right f.size (show l ≤ xs.length by omega)
      have hbound : l * f.size + (ys.flatMap f.enc).length ≤ (xs.flatMap f.enc ++ sp).length := by
        rw [List.length_append, hfl, hfy, h4]; omega
      obtain ⟨w', h5, h6⟩ := run_storeCells_wr (P := P) (A := []) (o := l * f.size) (l := ys.flatMap f.enc) hsat hbound (allOne_flat f _)
      refine ⟨[(b, Obj.cells ⟨setAt (xs.flatMap f.enc ++ sp) (l * f.size) (ys.flatMap f.enc)⟩ e)], w', ?_, ?_, h6⟩
      · rw [if_neg (by omega)]
        simp only [Option.map_some, addr_add, Nat.zero_add, Sem.run_bind, h5, Result.andThen_ok, Sem.run_pure]
        rfl
      · refine ⟨hwf, by rw [hln]; exact hlen2, some ⟨b, 0, none⟩, cap, by rw [hln], .inr ⟨b, (xs.flatMap f.enc ++ sp).drop (l * f.size + ys.length * f.size), rfl, ?_, by rw [hln]; omega, ?_⟩⟩
        · have e3 : setAt (xs.flatMap f.enc ++ sp) (l * f.size) (ys.flatMap f.enc) = (xs.take l ++ ys).flatMap f.enc ++ (xs.flatMap f.enc ++ sp).drop (l * f.size + ys.length * f.size) := by
            rw [setAt_eq _ _ _ hbound, hfy, List.flatMap_append]
            congr 2
            have : xs.flatMap f.enc = (xs.take l).flatMap f.enc ++ (xs.drop l).flatMap f.enc := by rw [← List.flatMap_append, List.take_append_drop]
            rw [this, List.append_assoc, ← hfx, List.take_left]
          rw [← e3]
        · have hm7 : (cap - (l + ys.length)) * f.size = cap * f.size - (l + ys.length) * f.size := Nat.sub_mul _ _ _
          rw [List.length_drop, List.length_append, hfl, h4, hln]
          omega
  obtain ⟨A', w', h1, h2, h3⟩ := key
  have hr' : Rel E n ⟨fr, bl, setR (pre ++ A :: post) i A'⟩ a w' := by
    rw [e2']
    exact hr.ids rfl (h3.perm (perm A').symm)
  refine wp_value (s := .v _) (v := .int .i64 ((min k dl : Nat) : Int)) ?_ hr' rfl trivial (hk A' h2)
  simp only [execOp, resolve, invoke, builtin, Sem.run_bind, Sem.run_pure, Result.andThen_ok]
  rw [show (#[d, s] : Array Operand).map a.eval = #[a.eval d, a.eval s] from by simp, g1, g2]
  simp only [SV.den, subBase_eq]
  rw [h1]; rfl
end
end Go.SX
namespace Go.SX
section
variable {P : Program} {E : World} {Γ : Ty} {n : Nat} {α : Type} {f : Fl α}

/-- the run of append of so many zeros, where they do not fit -/
theorem run_append_zeros (hΓ : TyOk P Γ) {sT xT e ty : TypeId} {ti : TI} {kn : IntKind} (hsT : P.underlying sT = some (.slice e)) (hxT : P.underlying xT = some (.int kn)) (ht : tyOf Γ e = some ti) (hsz : ti.size = f.size)
    {z : α} (hz : ti.zero.cells.toList = f.enc z) (hzw : f.wf z)
    {H : Hp} {w : World} {base : Option Addr} {m cap k : Nat} {xs : List α} (hs : Sat E H w) (hx : (rpSl f.rp).rd H [.slice base m cap] xs) (hw : ∀ x ∈ xs, f.wf x)
    (hk : 0 < k) (hfit : cap < m + k) (hlen : m + k ≤ 1073741824) (hby : ti.bytes ≤ 65536) :
    ∃ base' cap' A' w', (Builtin.append_ #[sT, xT] ty #[.slice base m cap, .int .i64 (k : Int)]).run P w = .ok (.slice base' (xs ++ List.replicate k z).length cap') w' ∧ Ow f e (.slice base' (xs ++ List.replicate k z).length cap') (xs ++ List.replicate k z) A' ∧ Sat E (A' ++ H) w' := by
  obtain ⟨hmx, hrow⟩ := rd_row (f := f) hx (P := P) hs
  subst hmx
  obtain ⟨i, hi, hib, _, _⟩ := ty_bytes hΓ ht
  have hwr : IntKind.i64.wrap (k : Int) = (k : Int) := wrap_ok (by unfold okI; omega)
  have hkb : k * ti.bytes ≤ 1073741824 * 65536 := Nat.mul_le_mul (by omega) hby
  have hcap : Builtin.nextslicecap (xs.length + k) cap * ti.bytes ≤ 281474976710656 := by
    have h7 := nextcap_le (xs.length + k) cap (by omega)
    have h8 := Nat.mul_le_mul h7 hby
    omega
  have hdrew : ∀ {H : Hp}, Sat E H w → Sat E H { w with drawn := w.drawn + 1 } := fun h => ⟨h.os, h.out, h.tape, h.mem, h.nodup, Nat.le_trans h.dr (Nat.le_succ _)⟩
  have hrow' := (rd_row (f := f) hx (P := P) (hdrew hs)).2
  have hmax : IntKind.i64.max = 9223372036854775807 := rfl
  have hkb' : ¬ ((k : Int) * (ti.bytes : Int) > 2 ^ 48) := by
    rw [← Int.natCast_mul]; omega
  have hneg : ¬ ((k : Int) < 0) := by omega
  have hns : ¬ (k * f.size = 0) := Nat.mul_ne_zero (by omega) (by have := f.pos; omega)
  have hfit' : ¬ (xs.length + k ≤ cap) := by omega
  have hif : ¬ (Builtin.nextslicecap (xs.length + k) cap * ti.bytes > 2 ^ 48) := by omega
  unfold Builtin.append_
  simp only [List.getElem?_toArray, List.getElem?_cons_zero, List.getElem?_cons_succ, Sem.run_bind, run_underlying hsT, run_underlying hxT, Result.andThen_ok, ty_size hΓ ht, hsz, Sem.run_pure, if_true, asInt, asIntOf, hwr, hneg, if_false, typeInfo, run_program, hi, hib, hkb', Int.toNat_natCast, hfit', Bool.not_true, Bool.false_eq_true, hns]
  rw [if_neg (by rw [hmax]; rintro ⟨h10, _⟩; omega)]
  simp only [Sem.run_bind, run_program, Result.andThen_ok, hi, Sem.run_pure, hib]
  rw [if_neg hif]
  simp only [Sem.run_bind, run_program, Result.andThen_ok, hi, Sem.run_pure, run_choose, Question.forced, Bool.false_eq_true, if_false, run_askRoom, hrow', ty_zero hΓ ht, newRow, run_newObj]
  have hq : xs.length + k ≤ (Question.appendCap (xs.length + k) cap e).cut (w.tape w.drawn (.appendCap (xs.length + k) cap e)) := by
    simp only [Question.cut]; omega
  generalize (Question.appendCap (xs.length + k) cap e).cut (w.tape w.drawn (.appendCap (xs.length + k) cap e)) = c at hq
  rw [zeroCells_eq, zeroCells_eq]
  have hlenz : (xs ++ List.replicate k z).length = xs.length + k := by simp
  have hzz : ∀ j, zeros j ti.zero.cells.toList = (List.replicate j z).flatMap f.enc := by
    intro j
    induction j with
    | zero => rfl
    | succ j ih => rw [zeros, ih, List.replicate_succ, List.flatMap_cons, hz]
  refine ⟨some ⟨w.heap.size, 0, none⟩, c, [(w.heap.size, Obj.cells ⟨(xs ++ List.replicate k z).flatMap f.enc ++ zeros (c - (xs.length + k)) ti.zero.cells.toList⟩ e)], _, by rw [hlenz], ?_, ?_⟩
  · refine ⟨?_, by rw [hlenz]; omega, some ⟨w.heap.size, 0, none⟩, c, rfl, .inr ⟨w.heap.size, _, rfl, rfl, by rw [hlenz]; exact hq, ?_⟩⟩
    · intro x hx
      rcases List.mem_append.1 hx with hx | hx
      · exact hw x hx
      · rw [List.eq_of_mem_replicate hx]; exact hzw
    · rw [zeros_length, hz, hlenz]
      congr 1
      have := flat_length f [z]
      simpa using this
  · have h11 := (hdrew hs).push (Obj.cells ⟨(xs ++ List.replicate k z).flatMap f.enc ++ zeros (c - (xs.length + k)) ti.zero.cells.toList⟩ e)
    have e1 : ((⟨xs.flatMap f.enc⟩ : Array Value) ++ (⟨zeros k ti.zero.cells.toList⟩ : Array Value) ++ (⟨zeros (c - (xs.length + k)) ti.zero.cells.toList⟩ : Array Value)) = ⟨(xs ++ List.replicate k z).flatMap f.enc ++ zeros (c - (xs.length + k)) ti.zero.cells.toList⟩ := by
      apply Array.ext'
      simp [hzz]
    rw [e1]
    exact h11

/-- so many zeros are appended, where they do not fit: a new row -/
theorem append_zeros (hΓ : TyOk P Γ) {dst : Option Nat} {s x : Operand} {sT xT e ty : TypeId} {pos : String} {after : Array Edge} {guard : Option (Nat × Bool)} {fr : Fr} {bl : List Blk} {R : List Hp} {K : St → Prop} {ti : TI} {kn : IntKind}
    {z : α} {base : Option Addr} {m cap k : Nat} {xs : List α}
    (hs1 : getK fr s fun sv => sv = .v (.slice base m cap)) (hx1 : getK fr x fun sv => sv = .v (.int .i64 (k : Int)))
    (hr2 : (rpSl f.rp).rd (St.hall ⟨[], bl, R⟩) [.slice base m cap] xs) (hw : ∀ x ∈ xs, f.wf x)
    (hsT : undOf Γ sT = some (.slice e)) (hxT : undOf Γ xT = some (.int kn)) (ht : tyOf Γ e = some ti) (hsz : ti.size = f.size) (hz : ti.zero.cells.toList = f.enc z) (hzw : f.wf z)
    (hby : Nat.ble ti.bytes 65536 = true) (hk0 : 0 < k) (hfit : cap < m + k) (hlen : m + k ≤ 1073741824)
    (hk : ∀ base' cap' A', Ow f e (.slice base' (xs ++ List.replicate k z).length cap') (xs ++ List.replicate k z) A' → putK n fr dst (.v (.slice base' (xs ++ List.replicate k z).length cap')) fun fr => K ⟨fr, bl, A' :: R⟩) :
    VCraw P E n ⟨dst, .call ⟨.builtin .append, #[s, x], #[sT, xT]⟩, ty, pos, after, guard⟩ ⟨fr, bl, R⟩ K := by
  refine ⟨fun a w hr Q => ?_⟩
  obtain ⟨sv, g1, _, rfl⟩ := getK_sound hr hs1
  obtain ⟨sv, g2, _, rfl⟩ := getK_sound hr hx1
  obtain ⟨base', cap', A', w', h1, h2, h3⟩ := run_append_zeros (E := E) (ty := ty) hΓ (undOf_ok hΓ hsT) (undOf_ok hΓ hxT) ht hsz hz hzw hr.sat hr2 hw hk0 hfit hlen (Nat.le_of_ble_eq_true hby)
  have hr' : Rel E n ⟨fr, bl, A' :: R⟩ a w' := by
    refine hr.ids rfl (h3.perm ?_)
    simp only [St.hall, List.flatten_cons]
    rw [← List.append_assoc, ← List.append_assoc]
    exact List.perm_append_comm.append_right _
  refine wp_value (s := .v _) (v := .slice base' (xs ++ List.replicate k z).length cap') ?_ hr' rfl trivial (hk _ _ A' h2)
  simp only [execOp, resolve, invoke, builtin, Sem.run_bind, Sem.run_pure, Result.andThen_ok]
  rw [show (#[s, x] : Array Operand).map a.eval = #[a.eval s, a.eval x] from by simp, g1, g2]
  simp only [SV.den]
  rw [h1]; rfl

/-- the model's entry for slices.overlaps, at two slices of two blocks -/
theorem call_overlaps {fi : FuncId} {fn : Func} {tS tR e : TypeId} {size : Nat} {bl : List Blk} {R : List Hp} {K : Value → List Blk → List Hp → Prop}
    (hf : P.funcs[fi]? = some fn) (hname : (fn.name == "runtime.NumGoroutine") = false) (hb : fn.body.isNone = true) (hn : Extern.findNext fn = none) (he : Extern.find fn = some (Extern.SlicesOverlaps.overlaps #[tS, tS] #[tR]))
    (ht : P.underlying tS = some (.slice e)) (hz : ∀ w, (Go.sizeOf e).run P w = .ok size w) {a b : Addr} {la ca lb cb : Nat} {c1 c2 : Array Value} {t1 t2 : TypeId} {H : Hp}
    (hsp : (St.hall ⟨[], bl, R⟩).Perm ((b.block, Obj.cells c2 t2) :: H)) (m1 : (a.block, Obj.cells c1 t1) ∈ H) (h0 : c2.size ≠ 0) (hk : K (.bool false) bl R) :
    VCcall P E fi [.slice (some a) la ca, .slice (some b) lb cb] ⟨[], bl, R⟩ K := by
  refine .ext fun w hs => ⟨.bool false, w, bl, R, ?_, hs, rfl, hk⟩
  have hs2 := hs.perm hsp
  have e1 := hs2.mem _ _ (List.mem_cons_of_mem _ m1)
  have e2 := hs2.mem _ _ (List.mem_cons_self ..)
  have hne : a.block ≠ b.block := by
    have h1 := hs2.nodup
    rw [List.map_cons, List.nodup_cons] at h1
    intro e
    exact h1.1 (List.mem_map.2 ⟨_, m1, e⟩)
  rw [run_callFunc_extern hf hname hb hn he, show (⟨[.slice (some a) la ca, .slice (some b) lb cb]⟩ : Array Value) = #[.slice (some a) la ca, .slice (some b) lb cb] from rfl,
    Lib.run_overlaps_apart w tS tR e ht size hz a b la ca lb cb hne t1 t2 c1.size c2.size (by simp [World.shape?, e1]) (by simp [World.shape?, e2]) h0 (by simp [World.frozen?, e1]) (by simp [World.frozen?, e1])]
  rfl
end
end Go.SX
