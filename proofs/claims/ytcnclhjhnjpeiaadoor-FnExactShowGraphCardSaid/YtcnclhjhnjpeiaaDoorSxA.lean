/-
  The builtin append over the executor. Conditions: none.
-/
import Derived.Test.YtcnclhjhnjpeiaaDoorSxL
namespace Go.SX

theorem growBy_le (m : Nat) : ∀ (r c : Nat), 256 ≤ c → c < m → Builtin.growBy m r c ≤ 2 * m
  | 0, c, _, h => by simp only [Builtin.growBy]; omega
  | r + 1, c, h0, h => by
    simp only [Builtin.growBy]
    rw [if_neg (by omega)]
    by_cases h1 : c + (c + 768) / 4 < m
    · exact growBy_le m r _ (by omega) h1
    · cases r with
      | zero => simp only [Builtin.growBy]; omega
      | succ r => simp only [Builtin.growBy]; rw [if_pos (by omega)]; omega

theorem nextcap_le (m c : Nat) (h : c < m) : Builtin.nextslicecap m c ≤ 2 * m := by
  unfold Builtin.nextslicecap
  split
  · omega
  · split
    · omega
    · exact growBy_le m 4 c (by omega) h

section
variable {P : Program} {E : World} {Γ : Ty} {n : Nat} {α : Type} {f : Fl α}

theorem zeroCells_eq (z : Array Value) (k : Nat) : Builtin.zeroCells z k = ⟨zeros k z.toList⟩ := by
  unfold Builtin.zeroCells
  exact range_zeros z z.size k rfl

/-- the run of append onto an owned slice -/
theorem run_append (hΓ : TyOk P Γ) {sT xT e e2 ty : TypeId} {ti : TI} (hsT : P.underlying sT = some (.slice e)) (hxT : P.underlying xT = some (.slice e2)) (ht : tyOf Γ e = some ti) (hsz : ti.size = f.size)
    (hz : ti.zero.cells.toList.length = f.size)
    {A B : Hp} {w : World} {base xb : Option Addr} {m cap mx xc : Nat} {xs ys : List α} (hs : Sat E (A ++ B) w) (ho : Ow f e (.slice base m cap) xs A) (hx : (rpSl f.rp).rd (A ++ B) [.slice xb mx xc] ys)
    (hy : ∀ y ∈ ys, f.wf y) (hlen : xs.length + ys.length ≤ 9223372036854775807) (hbd : (xs.length + ys.length) * ti.bytes ≤ 140737488355328) :
    ∃ base' cap' A' w', (Builtin.append_ #[sT, xT] ty #[.slice base m cap, .slice xb mx xc]).run P w = .ok (.slice base' (xs.length + ys.length) cap') w' ∧ (Ow f e (.slice base' (xs.length + ys.length) cap') (xs ++ ys) A' ∧ (xs.length + ys.length ≤ cap → base' = base ∧ cap' = cap)) ∧ Sat E (A' ++ B) w' := by
  obtain ⟨hw, hl, base0, cap0, e0, h2⟩ := ho
  cases e0
  have hrow := rd_row (f := f) hx (P := P) hs
  obtain ⟨hmx, hrow⟩ := hrow
  have hwf : ∀ x ∈ xs ++ ys, f.wf x := fun x hx => (List.mem_append.1 hx).elim (hw x) (hy x)
  have hlen' : (xs ++ ys).length ≤ 9223372036854775807 := by rw [List.length_append]; exact hlen
  unfold Builtin.append_
  simp only [List.getElem?_toArray, List.getElem?_cons_zero, List.getElem?_cons_succ, Sem.run_bind, run_underlying hsT, run_underlying hxT, Result.andThen_ok, ty_size hΓ ht, hsz, Sem.run_pure, Builtin.lenOf, Bool.false_eq_true, if_false, Bool.not_false, if_true]
  subst hmx
  by_cases hfit : xs.length + ys.length ≤ cap
  · rw [if_pos hfit]
    simp only [Sem.run_bind, hrow, Result.andThen_ok]
    rcases h2 with ⟨rfl, rfl, rfl⟩ | ⟨b, sp, rfl, rfl, h3, h4⟩
    · have hys : ys = [] := by cases ys with
        | nil => rfl
        | cons _ _ => simp at hfit
      subst hys
      refine ⟨base, 0, [], w, ?_, ⟨Ow.nil e base, fun _ => ⟨rfl, rfl⟩⟩, hs⟩
      cases base with
      | none => rfl
      | some a => rfl
    · have hsl : ys.length * f.size ≤ sp.length := by
        exact Nat.le_trans (Nat.mul_le_mul_right _ (by omega)) h4
      have hfl := flat_length f xs
      have hfly := flat_length f ys
      obtain ⟨w', h5, h6⟩ := run_storeCells_wr (P := P) (A := []) (o := xs.length * f.size) (l := ys.flatMap f.enc) hs (by
        show xs.length * f.size + (ys.flatMap f.enc).length ≤ (xs.flatMap f.enc ++ sp).length
        rw [List.length_append]; omega) (by
          have : ∀ l : List α, allOne (l.flatMap f.enc) = true := by
            intro l
            induction l with
            | nil => rfl
            | cons x r ih =>
              rw [List.flatMap_cons]
              have h1 := f.one x
              revert h1
              generalize f.enc x = c
              intro h1
              induction c with
              | nil => exact ih
              | cons v c ihc => cases v <;> simp_all [allOne]
          exact this ys)
      refine ⟨some ⟨b, 0, none⟩, cap, [(b, Obj.cells ⟨setAt (xs.flatMap f.enc ++ sp) (xs.length * f.size) (ys.flatMap f.enc)⟩ e)], w', ?_, ?_, h6⟩
      · simp only [addr_add, Nat.zero_add, h5, Sem.run_bind, Result.andThen_ok, Sem.run_pure]
      · refine ⟨?_, fun _ => ⟨rfl, rfl⟩⟩
        refine ⟨hwf, hlen', some ⟨b, 0, none⟩, cap, by rw [List.length_append], .inr ⟨b, sp.drop (ys.length * f.size), rfl, ?_, by rw [List.length_append]; exact hfit, ?_⟩⟩
        · show [(b, Obj.cells ⟨setAt (xs.flatMap f.enc ++ sp) (xs.length * f.size) (ys.flatMap f.enc)⟩ e)] = _
          have key : setAt (xs.flatMap f.enc ++ sp) (xs.length * f.size) (ys.flatMap f.enc) = xs.flatMap f.enc ++ ys.flatMap f.enc ++ sp.drop (ys.length * f.size) := by
            rw [setAt_eq _ _ _ (by rw [List.length_append]; omega), ← hfl, List.take_left, hfl, hfly, List.drop_append, List.drop_eq_nil_of_le (by omega), List.nil_append, hfl]
            rw [show xs.length * f.size + ys.length * f.size - xs.length * f.size = ys.length * f.size by omega]
          rw [key, List.flatMap_append]
        · rw [List.length_drop, List.length_append]
          have e9 : (cap - (xs.length + ys.length)) * f.size = (cap - xs.length) * f.size - ys.length * f.size := by rw [← Nat.sub_mul]; congr 1; omega
          omega
  · rw [if_neg hfit]
    obtain ⟨i, hi, hib, _, _⟩ := ty_bytes hΓ ht
    have hcap : Builtin.nextslicecap (xs.length + ys.length) cap * ti.bytes ≤ 281474976710656 := by
      have h7 := nextcap_le (xs.length + ys.length) cap (by omega)
      have h8 := Nat.mul_le_mul_right ti.bytes h7
      rw [Nat.mul_assoc] at h8
      omega
    have hold : (Builtin.firstCells f.size xs.length (.slice base xs.length cap)).run P w = .ok ⟨xs.flatMap f.enc⟩ w := by
      have h9 : (rpSl f.rp).rd A [.slice base xs.length cap] xs := Ow.rd ⟨hw, hl, base, cap, rfl, h2⟩
      exact (rd_row (f := f) h9 (P := P) hs.drop).2
    have hdrew : ∀ {H : Hp}, Sat E H w → Sat E H { w with drawn := w.drawn + 1 } := fun h => ⟨h.os, h.out, h.tape, h.mem, h.nodup, Nat.le_trans h.dr (Nat.le_succ _)⟩
    have hold' : (Builtin.firstCells f.size xs.length (.slice base xs.length cap)).run P { w with drawn := w.drawn + 1 } = .ok ⟨xs.flatMap f.enc⟩ { w with drawn := w.drawn + 1 } := by
      have h9 : (rpSl f.rp).rd A [.slice base xs.length cap] xs := Ow.rd ⟨hw, hl, base, cap, rfl, h2⟩
      exact (rd_row (f := f) h9 (P := P) (hdrew hs).drop).2
    have hrow' : (Builtin.firstCells f.size ys.length (.slice xb ys.length xc)).run P { w with drawn := w.drawn + 1 } = .ok ⟨ys.flatMap f.enc⟩ { w with drawn := w.drawn + 1 } := (rd_row (f := f) hx (P := P) (hdrew hs)).2
    have hmax : IntKind.i64.max = 9223372036854775807 := rfl
    simp only [Sem.run_bind, typeInfo, run_program, Result.andThen_ok, hi, Sem.run_pure]
    rw [if_neg (by
      rw [hmax]
      rintro ⟨h10, _⟩
      omega)]
    have hif : ¬ (Builtin.nextslicecap (xs.length + ys.length) cap * ti.bytes > 2 ^ 48) := by omega
    simp only [Sem.run_bind, run_program, Result.andThen_ok, hi, Sem.run_pure, hib]
    rw [if_neg hif]
    simp only [Sem.run_bind, run_choose, Question.forced, Bool.false_eq_true, if_false, Result.andThen_ok, run_askRoom, hold', hrow', ty_zero hΓ ht, Sem.run_pure, newRow, run_newObj, run_program, hi]
    have hq : xs.length + ys.length ≤ (Question.appendCap (xs.length + ys.length) cap e).cut (w.tape w.drawn (.appendCap (xs.length + ys.length) cap e)) := by
      simp only [Question.cut]; omega
    generalize (Question.appendCap (xs.length + ys.length) cap e).cut (w.tape w.drawn (.appendCap (xs.length + ys.length) cap e)) = c at hq
    rw [zeroCells_eq]
    refine ⟨some ⟨w.heap.size, 0, none⟩, c, [(w.heap.size, Obj.cells ⟨(xs ++ ys).flatMap f.enc ++ zeros (c - (xs.length + ys.length)) ti.zero.cells.toList⟩ e)], _, rfl, ?_, ?_⟩
    · refine ⟨?_, fun h => absurd h hfit⟩
      refine ⟨hwf, hlen', some ⟨w.heap.size, 0, none⟩, c, by rw [List.length_append], .inr ⟨w.heap.size, _, rfl, rfl, by rw [List.length_append]; exact hq, ?_⟩⟩
      rw [zeros_length, hz, List.length_append]
      exact Nat.le_refl _
    · have h11 := (hdrew hs).push (Obj.cells ⟨(xs ++ ys).flatMap f.enc ++ zeros (c - (xs.length + ys.length)) ti.zero.cells.toList⟩ e)
      have h12 : Sat E ((w.heap.size, Obj.cells ⟨(xs ++ ys).flatMap f.enc ++ zeros (c - (xs.length + ys.length)) ti.zero.cells.toList⟩ e) :: B ++ A) (World.alloc { w with drawn := w.drawn + 1 } (Obj.cells ⟨(xs ++ ys).flatMap f.enc ++ zeros (c - (xs.length + ys.length)) ti.zero.cells.toList⟩ e)) := by
        refine h11.perm ?_
        simp only [List.cons_append]
        exact List.Perm.cons _ List.perm_append_comm
      have h13 := h12.drop
      have e1 : ((⟨xs.flatMap f.enc⟩ : Array Value) ++ (⟨ys.flatMap f.enc⟩ : Array Value) ++ (⟨zeros (c - (xs.length + ys.length)) ti.zero.cells.toList⟩ : Array Value)) = ⟨(xs ++ ys).flatMap f.enc ++ zeros (c - (xs.length + ys.length)) ti.zero.cells.toList⟩ := by
        apply Array.ext'
        simp
      rw [e1]
      exact h13

/-- append onto heaplet number i -/
theorem append_ow (hΓ : TyOk P Γ) {dst : Option Nat} {s x : Operand} {sT xT e e2 ty : TypeId} {pos : String} {after : Array Edge} {guard : Option (Nat × Bool)} {fr : Fr} {bl : List Blk} {R : List Hp} {K : St → Prop} {ti : TI}
    (i : Nat) {A : Hp} {base xb : Option Addr} {m cap mx xc : Nat} {xs ys : List α} (hi : nthR R i = some A) (ho : Ow f e (.slice base m cap) xs A)
    (hx : (rpSl f.rp).rd (St.hall ⟨[], bl, R⟩) [.slice xb mx xc] ys) (hy : ∀ y ∈ ys, f.wf y)
    (hs1 : getK fr s fun sv => sv = .v (.slice base m cap)) (hx1 : getK fr x fun sv => sv = .v (.slice xb mx xc))
    (hsT : undOf Γ sT = some (.slice e)) (hxT : undOf Γ xT = some (.slice e2)) (ht : tyOf Γ e = some ti) (hsz : ti.size = f.size) (hz : lenIs ti.zero.cells.toList f.size = true)
    (hby : Nat.ble ti.bytes 65536 = true) (hlen : xs.length + ys.length ≤ 1073741824)
    (hk : ∀ base' cap' A', Ow f e (.slice base' (xs.length + ys.length) cap') (xs ++ ys) A' → (xs.length + ys.length ≤ cap → base' = base ∧ cap' = cap) → putK n fr dst (.v (.slice base' (xs.length + ys.length) cap')) fun fr => K ⟨fr, bl, setR R i A'⟩) :
    VCraw P E n ⟨dst, .call ⟨.builtin .append, #[s, x], #[sT, xT]⟩, ty, pos, after, guard⟩ ⟨fr, bl, R⟩ K := by
  have hbd : (xs.length + ys.length) * ti.bytes ≤ 140737488355328 := by
    have h1 := Nat.le_of_ble_eq_true hby
    have h2 := Nat.mul_le_mul hlen h1
    omega
  refine ⟨fun a w hr Q => ?_⟩
  obtain ⟨sv, g1, _, rfl⟩ := getK_sound hr hs1
  obtain ⟨xv, g2, _, rfl⟩ := getK_sound hr hx1
  obtain ⟨pre, post, e1, e2'⟩ := nthR_split hi
  have perm : ∀ C : Hp, (St.hall ⟨[], bl, pre ++ C :: post⟩).Perm (C ++ St.hall ⟨[], bl, pre ++ post⟩) := by
    intro C
    simp only [St.hall, List.flatten_append, List.flatten_cons]
    have := List.perm_append_comm (l₁ := List.map Blk.ent bl ++ pre.flatten) (l₂ := C)
    have := this.append_right post.flatten
    simpa only [List.append_assoc] using this
  subst e1
  have hsat : Sat E (A ++ St.hall ⟨[], bl, pre ++ post⟩) w := hr.sat.perm (perm A)
  have hx' := (rpSl f.rp).mono (H' := A ++ St.hall ⟨[], bl, pre ++ post⟩) (fun p hp => (perm A).mem_iff.1 hp) hx
  obtain ⟨base', cap', A', w', h1, h2, h3⟩ := run_append (ty := ty) hΓ (undOf_ok hΓ hsT) (undOf_ok hΓ hxT) ht hsz (lenIs_spec hz) hsat ho hx' hy (by omega) hbd
  have hr' : Rel E n ⟨fr, bl, setR (pre ++ A :: post) i A'⟩ a w' := by
    rw [e2']
    exact hr.ids rfl (h3.perm (perm A').symm)
  refine wp_value (s := .v _) (v := .slice base' (xs.length + ys.length) cap') ?_ hr' rfl trivial (hk base' cap' A' h2.1 h2.2)
  simp only [execOp, resolve, invoke, builtin, Sem.run_bind, Sem.run_pure, Result.andThen_ok]
  rw [show (#[s, x] : Array Operand).map a.eval = #[a.eval s, a.eval x] from by simp, g1, g2]
  simp only [SV.den]
  rw [h1]; rfl

/-- append onto an empty slice without room: all that was known stays -/
theorem append_new (hΓ : TyOk P Γ) {dst : Option Nat} {s x : Operand} {sT xT e e2 ty : TypeId} {pos : String} {after : Array Edge} {guard : Option (Nat × Bool)} {fr : Fr} {bl : List Blk} {R : List Hp} {K : St → Prop} {ti : TI}
    {base xb : Option Addr} {mx xc : Nat} {ys : List α}
    (hx : (rpSl f.rp).rd (St.hall ⟨[], bl, R⟩) [.slice xb mx xc] ys) (hy : ∀ y ∈ ys, f.wf y)
    (hs1 : getK fr s fun sv => sv = .v (.slice base 0 0)) (hx1 : getK fr x fun sv => sv = .v (.slice xb mx xc))
    (hsT : undOf Γ sT = some (.slice e)) (hxT : undOf Γ xT = some (.slice e2)) (ht : tyOf Γ e = some ti) (hsz : ti.size = f.size) (hz : lenIs ti.zero.cells.toList f.size = true)
    (hby : Nat.ble ti.bytes 65536 = true) (hlen : ys.length ≤ 1073741824)
    (hk : ∀ base' cap' A', Ow f e (.slice base' ys.length cap') ys A' → putK n fr dst (.v (.slice base' ys.length cap')) fun fr => K ⟨fr, bl, A' :: R⟩) :
    VCraw P E n ⟨dst, .call ⟨.builtin .append, #[s, x], #[sT, xT]⟩, ty, pos, after, guard⟩ ⟨fr, bl, R⟩ K := by
  have hbd : (0 + ys.length) * ti.bytes ≤ 140737488355328 := by
    have h1 := Nat.le_of_ble_eq_true hby
    have h2 := Nat.mul_le_mul hlen h1
    rw [Nat.zero_add]
    omega
  refine ⟨fun a w hr Q => ?_⟩
  obtain ⟨sv, g1, _, rfl⟩ := getK_sound hr hs1
  obtain ⟨xv, g2, _, rfl⟩ := getK_sound hr hx1
  have hsat : Sat E (([] : Hp) ++ St.hall ⟨[], bl, R⟩) w := hr.sat
  obtain ⟨base', cap', A', w', h1, h2, h3⟩ := run_append (f := f) (ty := ty) (xs := []) hΓ (undOf_ok hΓ hsT) (undOf_ok hΓ hxT) ht hsz (lenIs_spec hz) hsat (Ow.nil e base) hx hy (by simp; omega) (by simpa using hbd)
  have hr' : Rel E n ⟨fr, bl, A' :: R⟩ a w' := by
    refine hr.ids rfl (h3.perm ?_)
    simp only [St.hall, List.flatten_cons]
    rw [← List.append_assoc, ← List.append_assoc]
    exact List.Perm.append_right _ List.perm_append_comm
  simp only [List.nil_append, List.length_nil, Nat.zero_add] at h1 h2
  refine wp_value (s := .v _) (v := .slice base' ys.length cap') ?_ hr' rfl trivial (hk base' cap' A' h2.1)
  simp only [execOp, resolve, invoke, builtin, Sem.run_bind, Sem.run_pure, Result.andThen_ok]
  rw [show (#[s, x] : Array Operand).map a.eval = #[a.eval s, a.eval x] from by simp, g1, g2]
  simp only [SV.den]
  rw [h1]; rfl

theorem allOne_append : ∀ (x y : List Value), allOne x = true → allOne y = true → allOne (x ++ y) = true
  | [], _, _, h => h
  | v :: r, y, h, h' => by
    have ih := allOne_append r y
    cases v <;> simp_all [allOne]
theorem zeros_one (z : List Value) (h : allOne z = true) : ∀ k, allOne (zeros k z) = true
  | 0 => rfl
  | k + 1 => by rw [zeros]; exact allOne_append _ _ h (zeros_one z h k)

/-- clear of a part of an owned slice's spare room -/
theorem clear_ow (hΓ : TyOk P Γ) {dst : Option Nat} {s : Operand} {sT e ty : TypeId} {pos : String} {after : Array Edge} {guard : Option (Nat × Bool)} {fr : Fr} {bl : List Blk} {R : List Hp} {K : St → Prop} {ti : TI}
    (i : Nat) {A : Hp} {base : Option Addr} {m cap l h : Nat} {xs : List α} (hi : nthR R i = some A) (ho : Ow f e (.slice base m cap) xs A)
    (hs1 : getK fr s fun sv => sv = .v (.slice (subBase cap l base f.size) (h - l) (cap - l))) (hl : m ≤ l) (hlh : l ≤ h) (hh : h ≤ cap)
    (hsT : undOf Γ sT = some (.slice e)) (ht : tyOf Γ e = some ti) (hz : lenIs ti.zero.cells.toList f.size = true) (hz1 : allOne ti.zero.cells.toList = true)
    (hk : ∀ A', Ow f e (.slice base m cap) xs A' → putK n fr dst (.v (.tuple #[])) fun fr => K ⟨fr, bl, setR R i A'⟩) :
    VCraw P E n ⟨dst, .call ⟨.builtin .clear, #[s], #[sT]⟩, ty, pos, after, guard⟩ ⟨fr, bl, R⟩ K := by
  refine ⟨fun a w hr Q => ?_⟩
  obtain ⟨sv, g1, _, rfl⟩ := getK_sound hr hs1
  obtain ⟨pre, post, e1, e2'⟩ := nthR_split hi
  have perm : ∀ C : Hp, (St.hall ⟨[], bl, pre ++ C :: post⟩).Perm (C ++ St.hall ⟨[], bl, pre ++ post⟩) := by
    intro C
    simp only [St.hall, List.flatten_append, List.flatten_cons]
    have := List.perm_append_comm (l₁ := List.map Blk.ent bl ++ pre.flatten) (l₂ := C)
    have := this.append_right post.flatten
    simpa only [List.append_assoc] using this
  subst e1
  have hsat : Sat E (A ++ St.hall ⟨[], bl, pre ++ post⟩) w := hr.sat.perm (perm A)
  have key : ∃ A' w', (Builtin.clear_ #[sT] ty #[.slice (if cap = l then base else base.map (·.add (l * f.size))) (h - l) (cap - l)]).run P w = .ok (.tuple #[]) w' ∧ Ow f e (.slice base m cap) xs A' ∧ Sat E (A' ++ St.hall ⟨[], bl, pre ++ post⟩) w' := by
    have hu := undOf_ok hΓ hsT
    by_cases h0 : h - l = 0
    · refine ⟨A, w, ?_, ho, hsat⟩
      rw [h0]
      unfold Builtin.clear_
      simp only [List.getElem?_toArray, List.getElem?_cons_zero, Sem.run_bind, run_underlying hu, Result.andThen_ok]
      generalize (if cap = l then base else base.map (·.add (l * f.size))) = q
      cases q <;> rfl
    · obtain ⟨hw, hlen, base0, cap0, e0, h2⟩ := ho
      cases e0
      rcases h2 with ⟨rfl, rfl, rfl⟩ | ⟨b, sp, rfl, rfl, h3, h4⟩
      · omega
      · obtain ⟨kk, hkk⟩ : ∃ kk, h - l = kk + 1 := ⟨h - l - 1, by omega⟩
        have hfl := flat_length f xs
        have hzl := zeros_length ti.zero.cells.toList (h - l)
        rw [lenIs_spec hz] at hzl
        have hm1 := Nat.mul_le_mul_right f.size (show xs.length ≤ l by omega)
        have hm2 := Nat.mul_le_mul_right f.size (show h ≤ cap by omega)
        have hm3 : l * f.size + (h - l) * f.size = h * f.size := by rw [← Nat.add_mul]; congr 1; omega
        have hm4 : xs.length * f.size + (cap - xs.length) * f.size = cap * f.size := by rw [← Nat.add_mul]; congr 1; omega
        have hbound : l * f.size + (zeros (h - l) ti.zero.cells.toList).length ≤ (xs.flatMap f.enc ++ sp).length := by
          rw [List.length_append, hzl, hfl]; omega
        obtain ⟨w', h5, h6⟩ := run_storeCells_wr (P := P) (A := []) (o := l * f.size) (l := zeros (h - l) ti.zero.cells.toList) hsat hbound (zeros_one _ hz1 _)
        refine ⟨[(b, Obj.cells ⟨setAt (xs.flatMap f.enc ++ sp) (l * f.size) (zeros (h - l) ti.zero.cells.toList)⟩ e)], w', ?_, ?_, h6⟩
        · rw [if_neg (by omega)]
          unfold Builtin.clear_
          simp only [List.getElem?_toArray, List.getElem?_cons_zero, Sem.run_bind, run_underlying hu, Result.andThen_ok, Option.map_some, addr_add, Nat.zero_add]
          rw [hkk] at h5 ⊢
          simp only [ty_zero hΓ ht, Result.andThen_ok, zeroCells_eq, h5, Sem.run_pure]
        · refine ⟨hw, hlen, _, _, rfl, .inr ⟨b, (setAt (xs.flatMap f.enc ++ sp) (l * f.size) (zeros (h - l) ti.zero.cells.toList)).drop (xs.flatMap f.enc).length, rfl, ?_, h3, ?_⟩⟩
          · have : setAt (xs.flatMap f.enc ++ sp) (l * f.size) (zeros (h - l) ti.zero.cells.toList) = xs.flatMap f.enc ++ (setAt (xs.flatMap f.enc ++ sp) (l * f.size) (zeros (h - l) ti.zero.cells.toList)).drop (xs.flatMap f.enc).length := by
              conv => lhs; rw [← List.take_append_drop (xs.flatMap f.enc).length (setAt _ _ _)]
              congr 1
              rw [setAt_eq _ _ _ hbound, List.append_assoc, List.take_append_of_le_length (by rw [List.length_take, List.length_append]; omega), List.take_take, Nat.min_eq_left (by omega), List.take_left]
            rw [← this]
          · rw [List.length_drop, setAt_eq _ _ _ hbound, List.length_append, List.length_append, List.length_take, List.length_drop]
            rw [List.length_append] at *
            omega
  obtain ⟨A', w', h1, h2, h3⟩ := key
  have hr' : Rel E n ⟨fr, bl, setR (pre ++ A :: post) i A'⟩ a w' := by
    rw [e2']
    exact hr.ids rfl (h3.perm (perm A').symm)
  refine wp_value (s := .v _) (v := .tuple #[]) ?_ hr' rfl trivial (hk A' h2)
  simp only [execOp, resolve, invoke, builtin, Sem.run_bind, Sem.run_pure, Result.andThen_ok]
  rw [show (#[s] : Array Operand).map a.eval = #[a.eval s] from by simp, g1]
  simp only [SV.den, subBase_eq]
  rw [h1]; rfl

/-- a call that may write heaplet number i -/
theorem call_at (i : Nat) {fn : FuncId} {args : List Value} {bl : List Blk} {R : List Hp} {A0 : Hp} {pre : Hp → Prop} {post : Value → Hp → Prop} {K : Value → List Blk → List Hp → Prop} (hi : nthR R i = some A0) (hc : Ct P fn args A0 pre post)
    (hp : ∀ pr po, R = pr ++ A0 :: po → pre (A0 ++ St.hall ⟨[], bl, pr ++ po⟩)) (hk : ∀ v A, post v A → K v bl (setR R i A)) : VCcall P E fn args ⟨[], bl, R⟩ K := by
  obtain ⟨pr, po, e1, e2⟩ := nthR_split hi
  have h := call_wr (E := E) (bl := bl) (pre' := pr) (post' := po) (K := K) hc (hp pr po e1) (fun v A h => by rw [← e2]; exact hk v A h)
  rw [e1]; exact h

/-- a call that only makes new memory, parted into heaplets -/
theorem call_newL {f : FuncId} {args : List Value} {bl : List Blk} {R : List Hp} {pre : Hp → Prop} {post : Value → Hp → Prop} {K : Value → List Blk → List Hp → Prop} (hc : Ct P f args [] pre post)
    (hp : pre (St.hall ⟨[], bl, R⟩)) (hk : ∀ v A, post v A → ∃ L, A = L.flatten ∧ K v bl (L ++ R)) : VCcall P E f args ⟨[], bl, R⟩ K := by
  refine .intro hc.1 (fun w hs => (hc.2 E _ w (by simpa using hs) (by simpa using hp)).mono ?_)
  rintro e w' ⟨v, A, h1, h2, h3⟩
  obtain ⟨L, rfl, h5⟩ := hk v A h2
  refine ⟨v, bl, L ++ R, h1, h3.perm ?_, rfl, h5⟩
  simp only [St.hall, List.flatten_append]
  rw [← List.append_assoc, ← List.append_assoc]
  exact List.Perm.append_right _ List.perm_append_comm

/-- a contract whose call writes nothing that was there -/
theorem Ct.intro0 (hΓ : TyOk P Γ) {f : FuncId} {fn : Func} (hf : P.funcs[f]? = some fn) (hn : decide (fn.name = "runtime.NumGoroutine") = false) (hb : fn.body.isSome = true) {args : List Value} (ha : Nat.ble args.length fn.ntmps = true) {pre : Hp → Prop} {post : Value → Hp → Prop}
    (h : ∀ E H, pre H → exFn P E Γ fn args [H] fun v bl R => ∃ A, post v A ∧ RLe (bl.map Blk.ent :: R) [A, H]) : Ct P f args [] pre post := by
  refine ⟨⟨fn, hf, of_decide_eq_false hn, hb⟩, fun E H w hs hp => ?_⟩
  refine (exFn_sound hΓ hf ha (h E H (by simpa using hp)) (by simpa using hs)).mono ?_
  rintro e w' ⟨v, bl, R', h1, h2, A, h3, L, h4⟩
  refine ⟨v, A, h1, h3, ?_⟩
  have : (St.hall ⟨[], bl, R'⟩).Perm ((A ++ H) ++ L) := by simpa [St.hall] using h4
  exact (h2.perm this).drop

/-- the same, what may be written being several heaplets -/
theorem Ct.introL (hΓ : TyOk P Γ) {f : FuncId} {fn : Func} (L : List Hp) (hf : P.funcs[f]? = some fn) (hn : decide (fn.name = "runtime.NumGoroutine") = false) (hb : fn.body.isSome = true) {args : List Value} (ha : Nat.ble args.length fn.ntmps = true) {A0 : Hp} {pre : Hp → Prop} {post : Value → Hp → Prop}
    (hL : L.flatten = A0) (h : ∀ E H, pre (A0 ++ H) → exFn P E Γ fn args (L ++ [H]) fun v bl R => ∃ A, post v A ∧ RLe (bl.map Blk.ent :: R) [A, H]) : Ct P f args A0 pre post := by
  refine ⟨⟨fn, hf, of_decide_eq_false hn, hb⟩, fun E H w hs hp => ?_⟩
  refine (exFn_sound hΓ hf ha (h E H hp) (by simpa [hL] using hs)).mono ?_
  rintro e w' ⟨v, bl, R', h1, h2, A, h3, L, h4⟩
  refine ⟨v, A, h1, h3, ?_⟩
  have : (St.hall ⟨[], bl, R'⟩).Perm ((A ++ H) ++ L) := by simpa [St.hall] using h4
  exact (h2.perm this).drop

def initFrS : Nat → List SV → Fr
  | _, [] => []
  | k, s :: r => (k, s) :: initFrS (k + 1) r
theorem look_initFrS : ∀ (l : List SV) (k j : Nat) (s : SV), look (initFrS k l) j = some s → k ≤ j ∧ l[j - k]? = some s
  | [], k, j, s, h => by simp [initFrS, look] at h
  | v :: r, k, j, s, h => by
    simp only [initFrS, look] at h
    split at h
    · rename_i hb
      have := Nat.eq_of_beq_eq_true hb
      subst this
      cases h
      exact ⟨Nat.le_refl _, by simp⟩
    · obtain ⟨h1, h3⟩ := look_initFrS r (k + 1) j s h
      refine ⟨by omega, ?_⟩
      rw [show j - k = (j - (k + 1)) + 1 by omega, List.getElem?_cons_succ]; exact h3
def exFnS (P : Program) (E : World) (Γ : Ty) (fn : Func) (svs : List SV) (bl : List Blk) (R : List Hp) (post : Value → List Blk → List Hp → Prop) : Prop :=
  exBody P E Γ fn ⟨initFrS 0 svs, bl, R⟩ (retQ Γ fn.results post)

theorem exFnS_sound (hΓ : TyOk P Γ) {f : FuncId} {fn : Func} (hf : P.funcs[f]? = some fn) {svs : List SV} {bl : List Blk} (ha : Nat.ble svs.length fn.ntmps = true) (hok : ∀ s ∈ svs, s.ok bl) {R : List Hp} {post : Value → List Blk → List Hp → Prop}
    (h : exFnS P E Γ fn svs bl R post) {w : World} (hs : Sat E (St.hall ⟨[], bl, R⟩) w) :
    Calls P f ⟨svs.map (SV.den bl)⟩ w fun e w' => ∃ v bl R', e = .returned v ∧ Sat E (St.hall ⟨[], bl, R'⟩) w' ∧ post v bl R' := by
  unfold exFnS exBody at h
  split at h
  · rename_i nm og tg ps rt nf n rs c nr ou fi el ln mt tn
    refine calls_of_wp hf rfl ?_
    have ha' : svs.length ≤ n := Nat.le_of_ble_eq_true ha
    have hr : Rel E n ⟨initFrS 0 svs, bl, R⟩ { tmps := (⟨svs.map (SV.den bl)⟩ : Array Value) ++ Array.replicate (n - (⟨svs.map (SV.den bl)⟩ : Array Value).size) undef, defers := [] } w := by
      refine ⟨?_, rfl, ?_, hs⟩
      · simp; omega
      · intro k sv hk
        obtain ⟨_, h3⟩ := look_initFrS svs 0 k sv hk
        simp only [Nat.sub_zero] at h3
        have hlt : k < svs.length := by
          rcases Nat.lt_or_ge k svs.length with h4 | h4
          · exact h4
          · rw [List.getElem?_eq_none h4] at h3; cases h3
        refine ⟨?_, hok sv (List.mem_of_getElem? h3)⟩
        rw [Array.getElem?_append_left (by simpa using hlt)]
        simp [h3]
    refine wp_mono (exC_sound hΓ c _ _ _ _ h hr) ?_
    rintro e a' w' ⟨⟨fr', bl', R'⟩, h1, h2⟩
    obtain ⟨rs⟩ := rs
    cases e with
    | normal =>
      obtain ⟨vs, h3, h4⟩ := resK_sound (P := P) hΓ h1 h2
      exact ⟨h1.defers, _, run_results rfl h4, _, bl', R', rfl, h1.sat, oneOrK_sound h3⟩
    | ret =>
      obtain ⟨vs, h3, h4⟩ := resK_sound (P := P) hΓ h1 h2
      exact ⟨h1.defers, _, run_results rfl h4, _, bl', R', rfl, h1.sat, oneOrK_sound h3⟩
    | _ => exact h2.elim
  · exact h.elim

/-- a contract of a function with pointers to whole blocks -/
theorem Ct.introB (hΓ : TyOk P Γ) {f : FuncId} {fn : Func} (svs : List SV) (bl : List Blk) (L : List Hp) (hf : P.funcs[f]? = some fn) (hn : decide (fn.name = "runtime.NumGoroutine") = false) (hb : fn.body.isSome = true) {args : List Value} (ha : Nat.ble svs.length fn.ntmps = true)
    (hargs : svs.map (SV.den bl) = args) (hok : ∀ s ∈ svs, s.ok bl) {A0 : Hp} {pre : Hp → Prop} {post : Value → Hp → Prop}
    (hL : bl.map Blk.ent ++ L.flatten = A0) (h : ∀ E H, pre (A0 ++ H) → exFnS P E Γ fn svs bl (L ++ [H]) fun v bl R => ∃ A, post v A ∧ RLe (bl.map Blk.ent :: R) [A, H]) : Ct P f args A0 pre post := by
  refine ⟨⟨fn, hf, of_decide_eq_false hn, hb⟩, fun E H w hs hp => ?_⟩
  subst hargs
  refine (exFnS_sound hΓ hf ha hok (h E H hp) (by simpa [St.hall, ← hL] using hs)).mono ?_
  rintro e w' ⟨v, bl, R', h1, h2, A, h3, L, h4⟩
  refine ⟨v, A, h1, h3, ?_⟩
  have : (St.hall ⟨[], bl, R'⟩).Perm ((A ++ H) ++ L) := by simpa [St.hall] using h4
  exact (h2.perm this).drop

/-- a call: what it may write is A0, the rest is B; the heaplets may be parted anew -/
theorem call_gen {f : FuncId} {args : List Value} {bl : List Blk} {R : List Hp} {A0 : Hp} (B : Hp) {pre : Hp → Prop} {post : Value → Hp → Prop} {K : Value → List Blk → List Hp → Prop} (hc : Ct P f args A0 pre post)
    (h0 : RLe [St.hall ⟨[], bl, R⟩] [A0, B]) (hp : pre (A0 ++ B)) (hk : ∀ v A, post v A → ∃ bl' R', bl'.map Blk.id = bl.map Blk.id ∧ RLe [A, B] [St.hall ⟨[], bl', R'⟩] ∧ K v bl' R') : VCcall P E f args ⟨[], bl, R⟩ K := by
  have hsat : ∀ {X Y : Hp} {w : World}, Sat E X w → RLe [X] [Y] → Sat E Y w := by
    rintro X Y w hs ⟨L, hL⟩
    have : X.Perm (Y ++ L) := by simpa using hL
    exact (hs.perm this).drop
  refine .intro hc.1 (fun w hs => (hc.2 E B w (hsat hs (by obtain ⟨L, hL⟩ := h0; exact ⟨L, by simpa using hL⟩)) hp).mono ?_)
  rintro e w' ⟨v, A, h1, h2, h3⟩
  obtain ⟨bl', R', h4, h5, h6⟩ := hk v A h2
  exact ⟨v, bl', R', h1, hsat h3 (by obtain ⟨L, hL⟩ := h5; exact ⟨L, by simpa using hL⟩), h4, h6⟩

theorem wrap_ok {x : Int} (h : okI x) : IntKind.i64.wrap x = x := by
  unfold okI at h
  simp only [IntKind.wrap, IntKind.bits, IntKind.signed]
  by_cases h0 : 0 ≤ x
  · have e : x % (2 ^ 64 : Int) = x := by omega
    simp only [e]
    rw [if_neg (by simp; omega)]
  · have e : x % (2 ^ 64 : Int) = x + 2 ^ 64 := by omega
    simp only [e]
    rw [if_pos (by simp; omega)]
    omega
theorem inc_eq (k : Nat) (h : k < 9223372036854775807) : Value.int .i64 (IntKind.i64.wrap ((k : Int) + 1)) = Value.int .i64 ((k + 1 : Nat) : Int) := by
  rw [wrap_ok (by unfold okI; omega)]; rfl
theorem int_eq {x y : Int} (h : okI x) (e : x = y) : Value.int .i64 (IntKind.i64.wrap x) = Value.int .i64 y := by
  rw [wrap_ok h, e]

theorem RLe.tl {A : Hp} {R : List Hp} : RLe (A :: R) R := .sub (List.sublist_cons_self ..)
theorem RLe.tl2 {A B : Hp} {R : List Hp} : RLe (A :: B :: R) (B :: R) := .tl
open Classical in
theorem RLe.cnt {R' R : List Hp} (h : ∀ a, R'.flatten.count a = R.flatten.count a) : RLe R' R := ⟨[], by rw [List.append_nil]; exact List.perm_iff_count.2 h⟩
theorem count_le_perm {α : Type} [BEq α] [LawfulBEq α] : ∀ (a b : List α), (∀ x, a.count x ≤ b.count x) → ∃ L, b.Perm (a ++ L)
  | [], b, _ => ⟨b, by simp⟩
  | x :: t, b, h => by
    have hx : x ∈ b := List.count_pos_iff.1 (Nat.lt_of_lt_of_le (by simp) (h x))
    have hp := List.perm_cons_erase hx
    obtain ⟨L, hL⟩ := count_le_perm t (b.erase x) (fun y => by
      have h1 := h y
      have h2 := hp.count_eq y
      rw [List.count_cons] at h1 h2
      omega)
    exact ⟨L, hp.trans (by simpa using hL)⟩
open Classical in
/-- heaplets may be parted, joined, put in another order, and left away -/
theorem RLe.le {R' R : List Hp} (h : ∀ a, R.flatten.count a ≤ R'.flatten.count a) : RLe R' R := count_le_perm _ _ h
open Classical in
theorem perm_cnt {A B : Hp} (h : ∀ a, A.count a = B.count a) : A.Perm B := List.perm_iff_count.2 h
theorem RLe.mem {R : List Hp} {H : Hp} (h : H ∈ R) : RLe R [[], H] := by
  obtain ⟨s, t, rfl⟩ := List.append_of_mem h
  refine ⟨s.flatten ++ t.flatten, ?_⟩
  simp only [List.flatten_append, List.flatten_cons, List.flatten_nil, List.nil_append, List.append_nil]
  rw [← List.append_assoc, ← List.append_assoc]
  exact List.perm_append_comm.append_right _
theorem tmod_lt (x : Int) (n : Nat) (h0 : 0 ≤ x) (hn : 1 ≤ n) : 0 ≤ x.tmod n ∧ x.tmod n < n := by
  rw [Int.tmod_eq_emod_of_nonneg h0]
  exact ⟨Int.emod_nonneg _ (by omega), Int.emod_lt_of_pos _ (by omega)⟩
theorem RLe.box4 {b : Blk} {A1 A2 A3 A4 H : Hp} : RLe ([b].map Blk.ent :: [A1, A2, A3, A4, H]) [(b.id, Obj.cells ⟨b.cs⟩ b.ty) :: (A1 ++ (A2 ++ (A3 ++ A4))), H] :=
  .le fun a => by simp [List.count_cons, Blk.ent]

theorem RLe.box42 {b b' : Blk} {A1 A2 A3 A4 H : Hp} : RLe ([b, b'].map Blk.ent :: [A1, A2, A3, A4, H]) [(b.id, Obj.cells ⟨b.cs⟩ b.ty) :: (A1 ++ (A2 ++ (A3 ++ A4))), H] :=
  .le fun a => by simp [List.count_cons, Blk.ent]
theorem RLe.box43 {b b' : Blk} {X A1 A2 A3 A4 H : Hp} : RLe ([b, b'].map Blk.ent :: [X, A1, A2, A3, A4, H]) [(b.id, Obj.cells ⟨b.cs⟩ b.ty) :: (A1 ++ (A2 ++ (A3 ++ A4))), H] :=
  .le fun a => by simp [List.count_cons, Blk.ent]; omega
theorem RLe.boxA {b b' : Blk} {A H : Hp} : RLe ([b, b'].map Blk.ent :: [A, H]) [(b.id, Obj.cells ⟨b.cs⟩ b.ty) :: A, H] :=
  .le fun a => by simp [List.count_cons, Blk.ent]
theorem mem_4 {fr : Fr} {bl : List Blk} {A1 A2 A3 A4 : Hp} {R : List Hp} : ∀ p ∈ A1 ++ (A2 ++ (A3 ++ A4)), p ∈ St.hall ⟨fr, bl, A1 :: A2 :: A3 :: A4 :: R⟩ := by
  intro p hp
  simp only [St.hall, List.flatten_cons, List.mem_append] at hp ⊢
  rcases hp with h | h | h | h <;> simp [h]
theorem mem_5 {fr : Fr} {bl : List Blk} {X A1 A2 A3 A4 : Hp} {R : List Hp} : ∀ p ∈ A1 ++ (A2 ++ (A3 ++ A4)), p ∈ St.hall ⟨fr, bl, X :: A1 :: A2 :: A3 :: A4 :: R⟩ := by
  intro p hp
  simp only [St.hall, List.flatten_cons, List.mem_append] at hp ⊢
  rcases hp with h | h | h | h <;> simp [h]
theorem mem_6 {fr : Fr} {bl : List Blk} {X A1 A2 A3 A4 : Hp} {R : List Hp} : ∀ p ∈ A1 ++ (A2 ++ (A3 ++ A4)), p ∈ St.hall ⟨fr, bl, A4 :: X :: A1 :: A2 :: A3 :: R⟩ := by
  intro p hp
  simp only [St.hall, List.flatten_cons, List.mem_append] at hp ⊢
  rcases hp with h | h | h | h <;> simp [h]
theorem keep_blk {fr fr' : Fr} {bl bl' : List Blk} {R : List Hp} (h : ∀ b ∈ bl, b ∈ bl') : ∀ p ∈ St.hall ⟨fr, bl, R⟩, p ∈ St.hall ⟨fr', bl', R⟩ := by
  intro p hp
  simp only [St.hall, List.mem_append, List.mem_map] at hp ⊢
  rcases hp with ⟨b, hb, rfl⟩ | hp
  · exact .inl ⟨b, h b hb, rfl⟩
  · exact .inr hp
theorem keep_new {fr fr' : Fr} {bl : List Blk} {A : Hp} {R : List Hp} : ∀ p ∈ St.hall ⟨fr, bl, R⟩, p ∈ St.hall ⟨fr', bl, A :: R⟩ := by
  intro p hp
  simp only [St.hall, List.flatten_cons, List.mem_append] at hp ⊢
  rcases hp with h | h
  · exact .inl h
  · exact .inr (.inr h)
theorem mem_at {st : St} (i : Nat) {A : Hp} (h : nthR st.R i = some A) : ∀ p ∈ A, p ∈ st.hall := by
  intro p hp
  obtain ⟨pre, post, e, _⟩ := nthR_split h
  unfold St.hall
  rw [e]
  simp [hp]

end
end Go.SX
