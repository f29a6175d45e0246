/-
  Pairs: put into a bag one by one, or sorted and struck where they are twice: the same rows (plain). slices.SortFunc over slices of one-cell elements whose comparison reads the rest of the memory. The library's sort laid at arcs. Pairs sorted, struck where they are twice, and clipped, by the program. Pairs struck where they are twice (slices.CompactFunc), and clipped. The automata of a query's atoms, on both sides. The pairs of an atom in the walks of a worker: the program's side. The pairs of an atom in the walks of a worker: the reference's side; both sides for a worker. The pairs of an atom for a worker, on both sides. The laws' helpers over their types: marks, and what is held (printed by gent.py). The pairs of a worker: the law walked. Conditions: none.
-/
import Derived.Test.YtjgehblllhkdbaaGreatZp5

namespace Go.Proofs.YtjgehblllhkdbaaGreat
open Go.SX Go.Proofs
set_option maxHeartbeats 1000000
def rowsI (ys : List Item) : List (List Int) := ys.map (·.row)
noncomputable def stepZ (ys : List Item) (p : List Int) : List Item := putZ ys p 1 (plR ys p)
noncomputable def zK (ps : List (List Int)) : List Item := ps.foldl stepZ []
theorem zK_snoc (ps : List (List Int)) (p : List Int) : zK (ps ++ [p]) = stepZ (zK ps) p := by
  unfold zK; rw [List.foldl_append]; rfl
def InvT (ys : List Item) : Prop := sortedR ys ∧ ∀ i, i < ys.length → 1 ≤ (ys[i]?.getD default).times ∧ (ys[i]?.getD default).times ≤ 1000000
theorem invT_nil : InvT [] := ⟨fun i j _ h => absurd h (by simp), fun i h => absurd h (by simp)⟩
theorem rowsI_at (ys : List Item) (i : Nat) (hi : i < ys.length) : (rowsI ys)[i]? = some (rowI ys i) := by
  unfold rowsI rowI
  rw [List.getElem?_map, List.getElem?_eq_getElem hi]; rfl
theorem rowsI_len (ys : List Item) : (rowsI ys).length = ys.length := by unfold rowsI; exact List.length_map ..
theorem mem_rowsI {ys : List Item} {r : List Int} : r ∈ rowsI ys ↔ ∃ i, i < ys.length ∧ rowI ys i = r := by
  constructor
  · intro h
    obtain ⟨i, hi, e⟩ := List.getElem_of_mem h
    have hi2 : i < ys.length := by rw [rowsI_len] at hi; exact hi
    refine ⟨i, hi2, ?_⟩
    have h1 := rowsI_at ys i hi2
    rw [List.getElem?_eq_getElem hi, e] at h1
    exact (Option.some.inj h1).symm
  · rintro ⟨i, hi, rfl⟩
    exact List.mem_of_getElem? (rowsI_at ys i hi)
theorem hit_at {ys : List Item} {k : Nat} {t : Int} (hk : k < ys.length) (i : Nat) : (ys.take k ++ ([⟨(ys[k]?.getD default).row, min ((ys[k]?.getD default).times + t) 1000000⟩] ++ ys.drop (k + 1)))[i]? = if i = k then some ⟨(ys[k]?.getD default).row, min ((ys[k]?.getD default).times + t) 1000000⟩ else ys[i]? := by
  have h1 : (ys.take k).length = k := by rw [List.length_take]; omega
  rcases Nat.lt_trichotomy i k with h | h | h
  · rw [if_neg (by omega), List.getElem?_append_left (by omega), List.getElem?_take_of_lt h]
  · subst h
    rw [if_pos rfl, List.getElem?_append_right (by omega), h1, Nat.sub_self]; rfl
  · rw [if_neg (by omega), List.getElem?_append_right (by omega), h1]
    obtain ⟨j, hj⟩ : ∃ j, i = k + 1 + j := ⟨i - k - 1, by omega⟩
    subst hj
    rw [show k + 1 + j - k = j + 1 by omega]
    show (_ :: ys.drop (k + 1))[j + 1]? = _
    rw [List.getElem?_cons_succ, List.getElem?_drop]
theorem stepZ_hit {ys : List Item} {p : List Int} (h : plR ys p < ys.length ∧ rowI ys (plR ys p) = p) : stepZ ys p = ys.take (plR ys p) ++ ([⟨(ys[plR ys p]?.getD default).row, min ((ys[plR ys p]?.getD default).times + 1) 1000000⟩] ++ ys.drop (plR ys p + 1)) := if_pos h
theorem stepZ_new {ys : List Item} {p : List Int} (h : ¬ (plR ys p < ys.length ∧ rowI ys (plR ys p) = p)) : stepZ ys p = ys.take (plR ys p) ++ ([⟨p, 1⟩] ++ ys.drop (plR ys p)) := if_neg h
theorem hit_len {ys : List Item} {k : Nat} {x : Item} (hk : k < ys.length) : (ys.take k ++ ([x] ++ ys.drop (k + 1))).length = ys.length := by
  simp only [List.length_append, List.length_take, List.length_drop, List.length_cons, List.length_nil]; omega
theorem hit_row {ys : List Item} {k : Nat} {t : Int} (hk : k < ys.length) (i : Nat) : rowI (ys.take k ++ ([⟨(ys[k]?.getD default).row, min ((ys[k]?.getD default).times + t) 1000000⟩] ++ ys.drop (k + 1))) i = rowI ys i := by
  unfold rowI
  rw [hit_at hk]
  split
  · rename_i h; rw [h]; rfl
  · rfl
theorem stepZ_inv {ys : List Item} {p : List Int} (h : InvT ys) : InvT (stepZ ys p) := by
  have hk := plR_at (r := p) h.1
  by_cases hh : plR ys p < ys.length ∧ rowI ys (plR ys p) = p
  · rw [stepZ_hit hh]
    refine ⟨fun i j hij hj => ?_, fun i hi => ?_⟩
    · rw [hit_len hh.1] at hj
      rw [hit_row hh.1, hit_row hh.1]; exact h.1 i j hij hj
    · rw [hit_len hh.1] at hi
      rw [hit_at hh.1]
      have h1 := h.2 (plR ys p) hh.1
      split
      · show 1 ≤ min _ _ ∧ min _ _ ≤ _
        omega
      · exact h.2 i hi
  · rw [stepZ_new hh]
    refine ⟨ins_sorted h.1 hk hh, fun i hi => ?_⟩
    rw [ins_len hk.1] at hi
    rw [ins_at hk.1]
    rcases Nat.lt_trichotomy i (plR ys p) with h2 | h2 | h2
    · rw [if_pos h2]; exact h.2 i (by have := hk.1; omega)
    · rw [if_neg (by omega), if_pos h2]
      show (1 : Int) ≤ 1 ∧ (1 : Int) ≤ 1000000
      omega
    · rw [if_neg (by omega), if_neg (by omega)]; exact h.2 (i - 1) (by omega)
theorem stepZ_mem {ys : List Item} {p r : List Int} (h : InvT ys) : r ∈ rowsI (stepZ ys p) ↔ r = p ∨ r ∈ rowsI ys := by
  have hk := plR_at (r := p) h.1
  rw [mem_rowsI, mem_rowsI]
  by_cases hh : plR ys p < ys.length ∧ rowI ys (plR ys p) = p
  · rw [stepZ_hit hh, hit_len hh.1]
    constructor
    · rintro ⟨i, hi, e⟩; rw [hit_row hh.1] at e; exact .inr ⟨i, hi, e⟩
    · rintro (rfl | ⟨i, hi, e⟩)
      · exact ⟨_, hh.1, by rw [hit_row hh.1]; exact hh.2⟩
      · exact ⟨i, hi, by rw [hit_row hh.1]; exact e⟩
  · rw [stepZ_new hh, ins_len hk.1]
    constructor
    · rintro ⟨i, hi, e⟩
      rw [ins_row hk.1] at e
      rcases Nat.lt_trichotomy i (plR ys p) with h2 | h2 | h2
      · rw [if_pos h2] at e; exact .inr ⟨i, by have := hk.1; omega, e⟩
      · rw [if_neg (by omega), if_pos h2] at e; exact .inl e.symm
      · rw [if_neg (by omega), if_neg (by omega)] at e; exact .inr ⟨i - 1, by omega, e⟩
    · rintro (rfl | ⟨i, hi, e⟩)
      · exact ⟨plR ys r, by have := hk.1; omega, by rw [ins_row hk.1, if_neg (by omega), if_pos rfl]⟩
      · rcases Nat.lt_or_ge i (plR ys p) with h2 | h2
        · exact ⟨i, by omega, by rw [ins_row hk.1, if_pos h2]; exact e⟩
        · exact ⟨i + 1, by omega, by rw [ins_row hk.1, if_neg (by omega), if_neg (by omega)]; exact e⟩
theorem stepZ_len (ys : List Item) (p : List Int) : (stepZ ys p).length ≤ ys.length + 1 := by
  by_cases hh : plR ys p < ys.length ∧ rowI ys (plR ys p) = p
  · rw [stepZ_hit hh, hit_len hh.1]; omega
  · rw [stepZ_new hh]
    simp only [List.length_append, List.length_take, List.length_drop, List.length_cons, List.length_nil]; omega
theorem foldZ : ∀ (ps : List (List Int)) (ys : List Item), InvT ys → InvT (ps.foldl stepZ ys) ∧ (∀ r, r ∈ rowsI (ps.foldl stepZ ys) ↔ r ∈ ps ∨ r ∈ rowsI ys) ∧ (ps.foldl stepZ ys).length ≤ ys.length + ps.length
  | [], ys, h => ⟨h, fun r => by simp, Nat.le_refl _⟩
  | p :: ps, ys, h => by
    obtain ⟨h1, h2, h3⟩ := foldZ ps (stepZ ys p) (stepZ_inv h)
    refine ⟨h1, fun r => ?_, ?_⟩
    · rw [List.foldl_cons, h2, stepZ_mem h, List.mem_cons]
      constructor
      · rintro (a | a | a)
        · exact .inl (.inr a)
        · exact .inl (.inl a)
        · exact .inr a
      · rintro ((a | a) | a)
        · exact .inr (.inl a)
        · exact .inl a
        · exact .inr (.inr a)
    · have := stepZ_len ys p
      rw [List.foldl_cons, List.length_cons]; omega
theorem zK_inv (ps : List (List Int)) : InvT (zK ps) := (foldZ ps [] invT_nil).1
theorem zK_mem (ps : List (List Int)) (r : List Int) : r ∈ rowsI (zK ps) ↔ r ∈ ps := by
  have := (foldZ ps [] invT_nil).2.1 r
  unfold zK; rw [this]; simp [rowsI]
theorem zK_len (ps : List (List Int)) : (zK ps).length ≤ ps.length := by
  have := (foldZ ps [] invT_nil).2.2
  simpa [zK] using this
def upL (xs : List (List Int)) : Prop := xs.Pairwise fun a b => cmpL a b < 0
theorem sortedR_up {ys : List Item} (h : sortedR ys) : upL (rowsI ys) := by
  unfold upL
  rw [List.pairwise_iff_getElem]
  intro i j hi hj hij
  have h1 := rowsI_at ys i (by rw [rowsI_len] at hi; exact hi)
  have h2 := rowsI_at ys j (by rw [rowsI_len] at hj; exact hj)
  rw [List.getElem?_eq_getElem hi] at h1
  rw [List.getElem?_eq_getElem hj] at h2
  rw [Option.some.inj h1, Option.some.inj h2]
  exact h i j hij (by rw [rowsI_len] at hj; exact hj)
theorem up_unique : ∀ {xs ys : List (List Int)}, upL xs → upL ys → (∀ x, x ∈ xs ↔ x ∈ ys) → xs = ys
  | [], [], _, _, _ => rfl
  | [], y :: ys, _, _, h => by have := (h y).2 (List.mem_cons_self ..); cases this
  | x :: xs, [], _, _, h => by have := (h x).1 (List.mem_cons_self ..); cases this
  | x :: xs, y :: ys, h1, h2, h => by
    obtain ⟨p1, q1⟩ := List.pairwise_cons.1 h1
    obtain ⟨p2, q2⟩ := List.pairwise_cons.1 h2
    have e : x = y := by
      rcases List.mem_cons.1 ((h x).1 (List.mem_cons_self ..)) with e | e
      · exact e
      · rcases List.mem_cons.1 ((h y).2 (List.mem_cons_self ..)) with e2 | e2
        · exact e2.symm
        · have a1 := p2 x e
          have a2 := p1 y e2
          rw [cmpL_sw] at a1
          omega
    subst e
    refine congrArg _ (up_unique q1 q2 fun z => ?_)
    have hz := h z
    rw [List.mem_cons, List.mem_cons] at hz
    have key : ∀ {ws : List (List Int)}, (∀ w ∈ ws, cmpL x w < 0) → z ∈ ws → ¬ z = x := fun hw h3 e => by
      have := hw z h3
      rw [e, cmpL_zero.2 rfl] at this
      omega
    constructor
    · intro h3
      rcases hz.1 (.inr h3) with e | e
      · exact absurd e (key p1 h3)
      · exact e
    · intro h3
      rcases hz.2 (.inr h3) with e | e
      · exact absurd e (key p2 h3)
      · exact e
/-! struck where they are twice, beside each other -/
def keepZ {γ : Type} (zs : List (γ × List Int)) (d : γ × List Int) (i : Nat) : Bool := decide (i = 0) || decide (¬ (zs[i]?.getD d).2 = (zs[i - 1]?.getD d).2)
def cpK {γ : Type} (zs : List (γ × List Int)) (d : γ × List Int) : Nat → List (γ × List Int)
  | 0 => []
  | n + 1 => cpK zs d n ++ (if keepZ zs d n then [zs[n]?.getD d] else [])
theorem cpK_yes {γ : Type} {zs : List (γ × List Int)} {d : γ × List Int} {n : Nat} (h : keepZ zs d n = true) : cpK zs d (n + 1) = cpK zs d n ++ [zs[n]?.getD d] := by
  show _ ++ (if _ then _ else _) = _
  rw [h]; rfl
theorem cpK_no {γ : Type} {zs : List (γ × List Int)} {d : γ × List Int} {n : Nat} (h : keepZ zs d n = false) : cpK zs d (n + 1) = cpK zs d n := by
  show _ ++ (if _ then _ else _) = _
  rw [h]; exact List.append_nil _
theorem cpK_sub {γ : Type} (zs : List (γ × List Int)) (d : γ × List Int) : ∀ n, n ≤ zs.length → (cpK zs d n).Sublist (zs.take n)
  | 0, _ => by rw [List.take_zero]; exact .slnil
  | n + 1, h => by
    have ih := cpK_sub zs d n (by omega)
    rw [← List.take_append_getElem (by omega : n < zs.length)]
    cases hk : keepZ zs d n with
    | true =>
      rw [cpK_yes hk, List.getElem?_eq_getElem (by omega)]
      exact ih.append (.refl _)
    | false => rw [cpK_no hk]; exact ih.trans (List.sublist_append_left ..)
theorem cpK_up {γ : Type} {zs : List (γ × List Int)} {d : γ × List Int} (hs : zs.Pairwise fun a b => ¬ cmpL b.2 a.2 < 0) : ∀ n, n ≤ zs.length → upL ((cpK zs d n).map (·.2)) ∧ (∀ x ∈ (cpK zs d n).map (·.2), 0 < n ∧ (x = (zs[n - 1]?.getD d).2 ∨ cmpL x (zs[n - 1]?.getD d).2 < 0)) ∧ (∀ i, i < n → (zs[i]?.getD d).2 ∈ (cpK zs d n).map (·.2))
  | 0, _ => ⟨.nil, fun x h => (by cases h), fun i h => absurd h (by omega)⟩
  | n + 1, h => by
    obtain ⟨i1, i2, i3⟩ := cpK_up hs n (by omega)
    have hle : ∀ i j, i < j → j < zs.length → (zs[i]?.getD d).2 = (zs[j]?.getD d).2 ∨ cmpL (zs[i]?.getD d).2 (zs[j]?.getD d).2 < 0 := fun i j hij hj => by
      have h1 := (List.pairwise_iff_getElem.1 hs) i j (by omega) hj hij
      rw [List.getElem?_eq_getElem (by omega : i < zs.length), List.getElem?_eq_getElem hj]
      by_cases h2 : (zs[i]'(by omega)).2 = (zs[j]'hj).2
      · exact .inl h2
      · right
        have h3 : ¬ cmpL (zs[i]'(by omega)).2 (zs[j]'hj).2 = 0 := fun e => h2 (cmpL_zero.1 e)
        rw [cmpL_sw] at h1
        show cmpL (zs[i]'(by omega)).2 (zs[j]'hj).2 < 0
        omega
    rw [Nat.add_sub_cancel]
    cases hk : keepZ zs d n with
    | true =>
      rw [cpK_yes hk, List.map_append]
      have hlt : ∀ x ∈ (cpK zs d n).map (·.2), cmpL x (zs[n]?.getD d).2 < 0 := fun x hx => by
        obtain ⟨h0, h1⟩ := i2 x hx
        unfold keepZ at hk
        rw [Bool.or_eq_true, decide_eq_true_iff, decide_eq_true_iff] at hk
        have h2 : ¬ (zs[n]?.getD d).2 = (zs[n - 1]?.getD d).2 := by rcases hk with h3 | h3; · omega
                                                                    · exact h3
        have h4 : cmpL (zs[n - 1]?.getD d).2 (zs[n]?.getD d).2 < 0 := by
          rcases hle (n - 1) n (by omega) (by omega) with h5 | h5
          · exact absurd h5.symm h2
          · exact h5
        rcases h1 with rfl | h1
        · exact h4
        · exact cmpL_tr h1 h4
      refine ⟨?_, fun x hx => ⟨by omega, ?_⟩, fun i hi => ?_⟩
      · unfold upL
        rw [List.pairwise_append]
        refine ⟨i1, List.pairwise_singleton .., fun a ha b hb => ?_⟩
        rw [List.mem_singleton.1 hb]; exact hlt a ha
      · rcases List.mem_append.1 hx with h1 | h1
        · exact .inr (hlt x h1)
        · exact .inl (List.mem_singleton.1 h1)
      · rcases (by omega : i < n ∨ i = n) with h1 | rfl
        · exact List.mem_append_left _ (i3 i h1)
        · exact List.mem_append_right _ (List.mem_singleton.2 rfl)
    | false =>
      rw [cpK_no hk]
      unfold keepZ at hk
      rw [Bool.or_eq_false_iff, decide_eq_false_iff_not, decide_eq_false_iff_not, Classical.not_not] at hk
      refine ⟨i1, fun x hx => ⟨by omega, ?_⟩, fun i hi => ?_⟩
      · rw [hk.2]; exact (i2 x hx).2
      · rcases (by omega : i < n ∨ i = n) with h1 | rfl
        · exact i3 i h1
        · rw [hk.2]; exact i3 (i - 1) (by omega)
theorem cpK_all {γ : Type} {zs : List (γ × List Int)} {d : γ × List Int} (hs : zs.Pairwise fun a b => ¬ cmpL b.2 a.2 < 0) : upL ((cpK zs d zs.length).map (·.2)) ∧ ∀ r, r ∈ (cpK zs d zs.length).map (·.2) ↔ r ∈ zs.map (·.2) := by
  obtain ⟨h1, h2, h3⟩ := cpK_up (d := d) hs zs.length (Nat.le_refl _)
  refine ⟨h1, fun r => ⟨fun h => ?_, fun h => ?_⟩⟩
  · have h4 := (cpK_sub zs d zs.length (Nat.le_refl _)).map (·.2)
    rw [List.take_length] at h4
    exact h4.subset h
  · obtain ⟨z, hz, rfl⟩ := List.mem_map.1 h
    obtain ⟨i, hi, rfl⟩ := List.getElem_of_mem hz
    have := h3 i hi
    rw [List.getElem?_eq_getElem hi] at this
    exact this
end Go.Proofs.YtjgehblllhkdbaaGreat

namespace Go.SX
open Go.Proofs Go.Sort Go.Shelf
section
variable {P : Program} {ρ : Ren} {γ : Type}
theorem putCells_map {α : Type} [Inhabited α] (enc : α → Value) (d : Array α) (c : Array Value) : putCells enc 0 d c = putCells id 0 (d.map enc) c := by
  apply Array.ext_getElem?
  intro i
  unfold putCells
  rw [Array.getElem?_mapIdx, Array.getElem?_mapIdx]
  congr 1
  funext x
  simp only [Nat.zero_add, Nat.zero_le, true_and, Nat.sub_zero, id, Array.size_map]
  by_cases hi : i < d.size
  · rw [if_pos hi, if_pos hi, getElem!_pos d i hi, getElem!_pos (d.map enc) i (by simpa using hi), Array.getElem_map]
  · rw [if_neg hi, if_neg hi]
theorem putRow_map {α : Type} [Inhabited α] (enc : α → Value) (w : World) (b : Nat) (d : Array α) : Sort.putRow enc w b 0 d = Sort.putRow id w b 0 (d.map enc) := by
  unfold Sort.putRow
  congr 1
  funext c
  exact putCells_map enc d c
theorem one_list {g : Gt γ} (hg : g.size = 1) (c : RawC g.size) : c.1 = [c.1[0]?.getD (Value.bool false)] := by
  obtain ⟨l, h1, h2⟩ := c
  rw [hg] at h1
  match l, h1 with
  | [v], _ => rfl
theorem one_cell {g : Gt γ} (hg : g.size = 1) (c : RawC g.size) : (c.1[0]?.getD (Value.bool false)).oneCell' = true := by
  have h := one_all c.2.2
  have h1 := one_list hg c
  rw [h1] at h
  exact h _ (List.mem_singleton.2 rfl)
theorem one_flat {g : Gt γ} (hg : g.size = 1) : ∀ zs : List (RawC g.size × γ), (zs.map (·.1)).flatMap (flRaw g.size g.pos).enc = zs.map fun z => z.1.1[0]?.getD (Value.bool false)
  | [] => rfl
  | z :: r => by
    rw [List.map_cons, List.flatMap_cons, one_flat hg r, List.map_cons]
    show z.1.1 ++ _ = _
    rw [one_list hg z.1]; rfl
theorem all_of_sat {E : World} {H : Hp} {w : World} (h : Sat E H w) : ∀ p ∈ H, p ∈ allOf w := fun p hp => by
  obtain ⟨b, o⟩ := p
  exact mem_allOf.2 (h.mem b o hp)
/-- slices.SortFunc at elements of one cell that refer to the rest of the memory -/
theorem sortM_ct (L : SlLaysF.n6 P ρ) (g : Gt γ) (hg : g.size = 1) (cf : γ → γ → Int) (hO : SWO (ltOf cf)) (fn : Nat) (eg : ∀ args w, (callFunc fn args).run P w = .ok (.enter fn args) w) (T : TypeId)
    (hc : ∀ (v1 v2 : Value) (x y : γ), Ct P fn [v1, v2] [] (fun H => g.rd H [v1] x ∧ g.rd H [v2] y) (fun v A => v = .int .i64 (cf x y) ∧ A = []))
    {base : Option Addr} {n cap : Nat} {zs : List (RawC g.size × γ)} {A0 : Hp} (ho : Ow (flRaw g.size g.pos) T (.slice base n cap) (zs.map (·.1)) A0) (hn : zs.length < 4611686018427387904) :
    CtR P (ρ.f 6) [.slice base n cap, .func (.func fn) #[] #[]] A0 (fun H => ∀ z ∈ zs, g.rd H z.1.1 z.2)
      (fun v A => v = .tuple #[] ∧ ∃ zs' : List (RawC g.size × γ), zs'.Perm zs ∧ zs'.Pairwise (fun a b => ltOf cf b.2 a.2 = false) ∧ Ow (flRaw g.size g.pos) T (.slice base zs'.length cap) (zs'.map (·.1)) A) := by
  refine ⟨bears_fn L.f6 rfl, fun E H w hs hrd => ?_⟩
  have ho0 := ho
  obtain ⟨hw, hl, base0, cap0, e, h3⟩ := ho
  cases e
  rw [List.length_map] at *
  cases zs with
  | nil =>
    refine (AnyF.slices_SortFunc_none { L with } base cap _ w).mono ?_
    rintro e w' ⟨rfl, rfl⟩
    exact ⟨_, A0, rfl, ⟨rfl, [], .refl _, .nil, ho0⟩, hs⟩
  | cons z0 zr =>
    generalize hzs : z0 :: zr = zs at *
    have hlen0 : 0 < zs.length := by rw [← hzs]; simp
    rcases h3 with ⟨_, h7, _⟩ | ⟨b, sp, rfl, rfl, h4, h5⟩
    · rw [← hzs] at h7; cases h7
    · letI : Inhabited { z : RawC g.size × γ // g.rd H z.1.1 z.2 } := ⟨⟨z0, hrd z0 (by rw [← hzs]; exact List.mem_cons_self ..)⟩⟩
      let enc : { z : RawC g.size × γ // g.rd H z.1.1 z.2 } → Value := fun z => z.1.1.1[0]?.getD (Value.bool false)
      let ys : List { z : RawC g.size × γ // g.rd H z.1.1 z.2 } := zs.pmap Subtype.mk hrd
      have hys : ys.map (·.1) = zs := by simp [ys, List.map_pmap]
      have hlst : ∀ d : List { z : RawC g.size × γ // g.rd H z.1.1 z.2 }, (d.toArray.map enc).toList = ((d.map (·.1)).map (·.1)).flatMap (flRaw g.size g.pos).enc := fun d => by
        rw [one_flat hg, List.map_map]
        simp only [List.map_toArray]
        rfl
      have hsz : ys.toArray.size = zs.length := by simp [ys]
      have hrow := hlst ys
      rw [hys] at hrow
      have hs1 : Sat E ((b, Obj.cells ⟨(ys.toArray.map enc).toList ++ sp⟩ T) :: H) w := by rw [hrow]; exact hs
      have hHolds : Sort.Holds enc w b 0 ys.toArray := by
        intro j hj
        have h6 := holds_row hs1 j (by simpa using hj)
        rw [getElem!_pos (ys.toArray.map enc) j (by simpa using hj), Array.getElem_map] at h6
        rw [getElem!_pos ys.toArray j hj]
        exact h6
      have hwd : ∀ (m : Nat) (d : Array { z : RawC g.size × γ // g.rd H z.1.1 z.2 }) (os : Array Obj), d.size = ys.toArray.size → Sat E ((b, Obj.cells ⟨(d.map enc).toList ++ sp⟩ T) :: H) (sortWorld enc w b 0 m d os) := by
        intro m d os hd
        have h8 := (Sat.putRow (F0 := (ys.toArray.map enc).toList) (d.map enc) (hs1.ahead m) (by simp [hd])).grow os
        rw [← putRow_map] at h8
        exact h8
      have hcmp : CmpLays1 P fn #[] enc (fun x y => cf x.1.2 y.1.2) b 0 ys.toArray.size w := by
        intro m os dk hdk x y
        have hsat := hwd m dk os hdk
        have hsub : ∀ p ∈ H, p ∈ allOf (sortWorld enc w b 0 m dk os) := fun p hp => all_of_sat hsat p (List.mem_cons_of_mem _ hp)
        have hx : g.rd (allOf (sortWorld enc w b 0 m dk os)) [enc x] x.1.2 := by
          have := x.2; rw [one_list hg x.1.1] at this; exact g.mono hsub this
        have hy : g.rd (allOf (sortWorld enc w b 0 m dk os)) [enc y] y.1.2 := by
          have := y.2; rw [one_list hg y.1.1] at this; exact g.mono hsub this
        have h6 := (hc (enc x) (enc y) x.1.2 y.1.2).2 _ (allOf (sortWorld enc w b 0 m dk os)) _ (sat_allOf _) ⟨hx, hy⟩
        refine Calls.mono h6 ?_
        rintro e w' ⟨v, A, rfl, ⟨rfl, rfl⟩, h7⟩
        exact ⟨rfl, grown_of_sat h7⟩
      have hmain := Any.slices_SortFunc L enc (fun x => one_cell hg x.1.1) (fun x y => cf x.1.2 y.1.2)
        ⟨fun x => hO.irrefl x.1.2, fun x y z => hO.trans x.1.2 y.1.2 z.1.2, fun x y z => hO.ntrans x.1.2 y.1.2 z.1.2⟩ fn #[] b 0 cap ys.toArray w eg hcmp hHolds (hs.lt (List.mem_cons_self ..)) (by rw [hsz]; exact hn)
      rw [hsz] at hmain
      refine Calls.mono hmain ?_
      rintro e w' ⟨rfl, d', m, os, hp, hso, rfl⟩
      have hds : d'.size = zs.length := by rw [hp.1, hsz]
      have hperm : d'.toList.Perm ys := by
        have h8 := hp.2.2
        have e1 : d'.extract 0 zs.length = d' := by rw [← hds]; simp
        have e2 : ys.toArray.extract 0 zs.length = ys.toArray := by rw [← hsz]; simp
        rw [e1, e2] at h8; exact h8
      have hperm2 : (d'.toList.map (·.1)).Perm zs := by rw [← hys]; exact hperm.map _
      have hlen : (d'.toList.map (·.1)).length = zs.length := hperm2.length_eq
      refine ⟨_, [(b, Obj.cells ⟨((d'.toList.map (·.1)).map (·.1)).flatMap (flRaw g.size g.pos).enc ++ sp⟩ T)], rfl, ⟨rfl, d'.toList.map (·.1), hperm2, ?_, fun _ _ => trivial, by rw [List.length_map]; omega, some ⟨b, 0, none⟩, cap, by simp only [List.length_map], .inr ⟨b, sp, rfl, rfl, by rw [List.length_map]; omega, by rw [List.length_map, hlen]; exact h5⟩⟩, ?_⟩
      · rw [List.pairwise_map, List.pairwise_iff_getElem]
        intro i j hi hj hij
        have h9 := hso i j (Nat.zero_le _) hij (by simpa [hds] using hj)
        rw [getElem!_pos d' j (by simpa using hj), getElem!_pos d' i (by simpa using hi)] at h9
        exact h9
      · have h10 := hwd m d' os (by rw [hds, hsz])
        have h11 := hlst d'.toList
        rw [Array.toArray_toList] at h11
        rw [h11] at h10
        exact h10
/-! elements that refer to a memory that stays: as flat ones -/
def flZ (g : Gt γ) (H : Hp) : Fl (RawC g.size × γ) := ⟨g.size, fun z => z.1.1, fun z => g.rd H z.1.1 z.2, fun z => z.1.2.1, fun z => z.1.2.2, g.pos⟩
theorem flZ_flat (g : Gt γ) (H : Hp) : ∀ zs : List (RawC g.size × γ), zs.flatMap (flZ g H).enc = (zs.map (·.1)).flatMap (flRaw g.size g.pos).enc
  | [] => rfl
  | z :: r => by rw [List.flatMap_cons, List.map_cons, List.flatMap_cons, flZ_flat g H r]; rfl
theorem flZ_ow {g : Gt γ} {H : Hp} {T : TypeId} {base : Option Addr} {n cap : Nat} {zs : List (RawC g.size × γ)} {A : Hp} : Ow (flZ g H) T (.slice base n cap) zs A ↔ Ow (flRaw g.size g.pos) T (.slice base n cap) (zs.map (·.1)) A ∧ ∀ z ∈ zs, g.rd H z.1.1 z.2 := by
  unfold Ow
  rw [flZ_flat, List.length_map]
  constructor
  · rintro ⟨h1, h2, b, c, e, h3⟩
    refine ⟨⟨fun _ _ => trivial, h2, b, c, e, ?_⟩, h1⟩
    rcases h3 with ⟨a1, a2, a3⟩ | h3
    · exact .inl ⟨a1, by rw [a2]; rfl, a3⟩
    · exact .inr h3
  · rintro ⟨⟨_, h2, b, c, e, h3⟩, h1⟩
    refine ⟨h1, h2, b, c, e, ?_⟩
    rcases h3 with ⟨a1, a2, a3⟩ | h3
    · exact .inl ⟨a1, List.map_eq_nil_iff.1 a2, a3⟩
    · exact .inr h3
/-- each element beside the memory that it owns -/
def OwZ (g : Gt γ) (zs : List (RawC g.size × γ)) (As : List Hp) : Prop := OwL g (zs.map (·.1)) (zs.map (·.2)) As
theorem OwZ.zip {g : Gt γ} {ls : List (RawC g.size)} {xs : List γ} {As : List Hp} (h : OwL g ls xs As) : OwZ g (ls.zip xs) As := by
  obtain ⟨e1, _⟩ := h.len
  unfold OwZ
  rw [List.map_fst_zip (by omega), List.map_snd_zip (by omega)]
  exact h
theorem OwZ.cons_inv {g : Gt γ} {z : RawC g.size × γ} {zs : List (RawC g.size × γ)} {As : List Hp} (h : OwZ g (z :: zs) As) : ∃ A Bs, As = A :: Bs ∧ g.ow z.1.1 z.2 A ∧ OwZ g zs Bs := by
  unfold OwZ at h
  rw [List.map_cons, List.map_cons] at h
  cases h with
  | cons h1 h2 => exact ⟨_, _, rfl, h1, h2⟩
theorem OwZ.cons {g : Gt γ} {z : RawC g.size × γ} {zs : List (RawC g.size × γ)} {A : Hp} {As : List Hp} (h : g.ow z.1.1 z.2 A) (h2 : OwZ g zs As) : OwZ g (z :: zs) (A :: As) := by
  unfold OwZ
  rw [List.map_cons, List.map_cons]
  exact .cons h h2
theorem OwZ.perm {g : Gt γ} {zs zs' : List (RawC g.size × γ)} (hp : zs.Perm zs') : ∀ {As : List Hp}, OwZ g zs As → ∃ Bs, OwZ g zs' Bs ∧ As.flatten.Perm Bs.flatten := by
  induction hp with
  | nil => intro As h; exact ⟨As, h, .refl _⟩
  | cons z _ ih =>
    intro As h
    obtain ⟨A, Bs, rfl, h1, h2⟩ := h.cons_inv
    obtain ⟨Cs, h3, h4⟩ := ih h2
    exact ⟨A :: Cs, .cons h1 h3, by simpa using h4.append_left A⟩
  | swap z y r =>
    intro As h
    obtain ⟨A, As, rfl, h1, h2⟩ := h.cons_inv
    obtain ⟨B, Bs, rfl, h3, h4⟩ := h2.cons_inv
    refine ⟨B :: A :: Bs, .cons h3 (.cons h1 h4), ?_⟩
    simp only [List.flatten_cons]
    rw [← List.append_assoc, ← List.append_assoc]
    exact List.perm_append_comm.append_right _
  | trans _ _ ih1 ih2 =>
    intro As h
    obtain ⟨Bs, h1, h2⟩ := ih1 h
    obtain ⟨Cs, h3, h4⟩ := ih2 h1
    exact ⟨Cs, h3, h2.trans h4⟩
theorem OwZ.sub {g : Gt γ} {zs zs' : List (RawC g.size × γ)} (hp : zs'.Sublist zs) : ∀ {As : List Hp}, OwZ g zs As → ∃ Bs L, OwZ g zs' Bs ∧ As.flatten.Perm (Bs.flatten ++ L) := by
  induction hp with
  | slnil => intro As h; exact ⟨As, [], h, by simp⟩
  | cons z _ ih =>
    intro As h
    obtain ⟨A, As, rfl, h1, h2⟩ := h.cons_inv
    obtain ⟨Bs, L, h3, h4⟩ := ih h2
    refine ⟨Bs, A ++ L, h3, ?_⟩
    rw [List.flatten_cons]
    refine (h4.append_left A).trans ?_
    rw [← List.append_assoc, ← List.append_assoc]
    exact List.perm_append_comm.append_right _
  | cons_cons z _ ih =>
    intro As h
    obtain ⟨A, As, rfl, h1, h2⟩ := h.cons_inv
    obtain ⟨Bs, L, h3, h4⟩ := ih h2
    refine ⟨A :: Bs, L, .cons h1 h3, ?_⟩
    rw [List.flatten_cons, List.flatten_cons, List.append_assoc]
    exact h4.append_left A
/-- the whole again -/
theorem OwZ.all {g : Gt γ} {T : TypeId} {base : Option Addr} {n cap : Nat} {zs : List (RawC g.size × γ)} {A0 A : Hp} {As : List Hp} (h : OwZ g zs As) (ho : Ow (flRaw g.size g.pos) T (.slice base n cap) (zs.map (·.1)) A0) (hp : A.Perm (A0 ++ As.flatten)) : (gSl T g).ow [.slice base n cap] (zs.map (·.2)) A :=
  ⟨_, _, A0, As, rfl, ho, hp, h⟩
end
end Go.SX

namespace Go.Proofs.YtjgehblllhkdbaaGreat
open Go.Proofs Go.Shelf
def laysPairs_ren : Go.Shelf.Ren := ⟨fun | 6 => 177 | 15 => 262 | 14 => 261 | 28 => 340 | 29 => 341 | 20 => 332 | 21 => 333 | 22 => 334 | 23 => 335 | 24 => 336 | 25 => 337 | 26 => 338 | 27 => 339 | 46 => 386 | 47 => 387 | 48 => 388 | 49 => 389 | 50 => 390 | 57 => 414 | n => n, fun | 22 => 28 | 24 => 27 | 25 => 248 | 3 => 3 | 39 => 288 | 0 => 0 | 53 => 274 | 55 => 408 | 4 => 4 | 46 => 401 | 45 => 400 | 50 => 228 | 5 => 5 | 9 => 9 | 66 => 463 | 70 => 467 | 76 => 490 | 77 => 491 | n => n, fun | n => n⟩
theorem laysPairs : Go.Proofs.SlLaysF.n6 Tryz.prog laysPairs_ren where
  mixed := by kernel_rfl
  f6 := ⟨ "slices.SortFunc[[][]int,[]int]", by decide, Tryz.func177.trans (congrArg some (by kernel_rfl))⟩
  f14 := ⟨ "slices.pdqsortCmpFunc[[]int]", by decide, Tryz.func261.trans (congrArg some (by kernel_rfl))⟩
  f15 := Tryz.func262.trans (congrArg some (by kernel_rfl))
  f20 := ⟨ "slices.insertionSortCmpFunc[[]int]", by decide, Tryz.func332.trans (congrArg some (by kernel_rfl))⟩
  f21 := ⟨ "slices.heapSortCmpFunc[[]int]", by decide, Tryz.func333.trans (congrArg some (by kernel_rfl))⟩
  f22 := ⟨ "slices.breakPatternsCmpFunc[[]int]", by decide, Tryz.func334.trans (congrArg some (by kernel_rfl))⟩
  f23 := ⟨ "slices.choosePivotCmpFunc[[]int]", by decide, Tryz.func335.trans (congrArg some (by kernel_rfl))⟩
  f24 := ⟨ "slices.reverseRangeCmpFunc[[]int]", by decide, Tryz.func336.trans (congrArg some (by kernel_rfl))⟩
  f25 := ⟨ "slices.partialInsertionSortCmpFunc[[]int]", by decide, Tryz.func337.trans (congrArg some (by kernel_rfl))⟩
  f26 := ⟨ "slices.partitionEqualCmpFunc[[]int]", by decide, Tryz.func338.trans (congrArg some (by kernel_rfl))⟩
  f27 := ⟨ "slices.partitionCmpFunc[[]int]", by decide, Tryz.func339.trans (congrArg some (by kernel_rfl))⟩
  f28 := Tryz.func340.trans (congrArg some (by kernel_rfl))
  f29 := Tryz.func341.trans (congrArg some (by kernel_rfl))
  f46 := ⟨ "slices.siftDownCmpFunc[[]int]", by decide, Tryz.func386.trans (congrArg some (by kernel_rfl))⟩
  f47 := Tryz.func387.trans (congrArg some (by kernel_rfl))
  f48 := Tryz.func388.trans (congrArg some (by kernel_rfl))
  f49 := ⟨ "slices.medianAdjacentCmpFunc[[]int]", by decide, Tryz.func389.trans (congrArg some (by kernel_rfl))⟩
  f50 := ⟨ "slices.medianCmpFunc[[]int]", by decide, Tryz.func390.trans (congrArg some (by kernel_rfl))⟩
  f57 := ⟨ "slices.order2CmpFunc[[]int]", by decide, Tryz.func414.trans (congrArg some (by kernel_rfl))⟩
  t0 := Tryz.underlying0
  a0 := Tryz.isAgg0
  z0 := Tryz.sizeOf0
  v0 := Tryz.zeroValue0
  t3 := Tryz.underlying3
  a3 := Tryz.isAgg3
  z3 := Tryz.sizeOf3
  v3 := Tryz.zeroValue3
  t4 := Tryz.underlying4
  a4 := Tryz.isAgg4
  z4 := Tryz.sizeOf4
  v4 := Tryz.zeroValue4
  t5 := Tryz.underlying5
  a5 := Tryz.isAgg5
  z5 := Tryz.sizeOf5
  v5 := Tryz.zeroValue5
  t9 := Tryz.underlying9
  a9 := Tryz.isAgg9
  z9 := Tryz.sizeOf9
  v9 := Tryz.zeroValue9
  t22 := Tryz.underlying28
  a22 := Tryz.isAgg28
  z22 := Tryz.sizeOf28
  v22 := Tryz.zeroValue28
  a24 := Tryz.isAgg27
  z24 := Tryz.sizeOf27
  t25 := Tryz.underlying248
  a25 := Tryz.isAgg248
  z25 := Tryz.sizeOf248
  v25 := Tryz.zeroValue248
  t39 := Tryz.underlying288
  a39 := Tryz.isAgg288
  z39 := Tryz.sizeOf288
  v39 := Tryz.zeroValue288
  t45 := Tryz.underlying400
  a45 := Tryz.isAgg400
  z45 := Tryz.sizeOf400
  v45 := Tryz.zeroValue400
  t46 := Tryz.underlying401
  a46 := Tryz.isAgg401
  z46 := Tryz.sizeOf401
  v46 := Tryz.zeroValue401
  t50 := Tryz.underlying228
  a50 := Tryz.isAgg228
  z50 := Tryz.sizeOf228
  v50 := Tryz.zeroValue228
  t53 := Tryz.underlying274
  a53 := Tryz.isAgg274
  z53 := Tryz.sizeOf274
  v53 := Tryz.zeroValue274
  t55 := Tryz.underlying408
  a55 := Tryz.isAgg408
  z55 := Tryz.sizeOf408
  v55 := Tryz.zeroValue408
  t66 := Tryz.underlying463
  a66 := Tryz.isAgg463
  z66 := Tryz.sizeOf463
  v66 := Tryz.zeroValue463
  t70 := Tryz.underlying467
  a70 := Tryz.isAgg467
  z70 := Tryz.sizeOf467
  v70 := Tryz.zeroValue467
  t76 := Tryz.underlying490
  a76 := Tryz.isAgg490
  z76 := Tryz.sizeOf490
  v76 := Tryz.zeroValue490
  t77 := Tryz.underlying491
  a77 := Tryz.isAgg491
  z77 := Tryz.sizeOf491
  v77 := Tryz.zeroValue491
end Go.Proofs.YtjgehblllhkdbaaGreat

namespace Go.Proofs.YtjgehblllhkdbaaGreat
open Go.SX Go.Proofs
set_option linter.unusedSimpArgs false
set_option linter.unusedVariables false
set_option maxHeartbeats 4000000
attribute [local irreducible] IntKind.wrap
--@ct slices.Equal[[]int,int] val sEqualI_ct _ _ _ _ _ _ $1 $2 | ⟨%1, %2⟩
theorem sEqualI_ct (b1 : Option Addr) (m1 c1 : Nat) (b2 : Option Addr) (m2 c2 : Nat) (a b : List Int) : Ct Tryz.prog 183 [.slice b1 m1 c1, .slice b2 m2 c2] [] (fun H => (gSl 3 gI).rd H [.slice b1 m1 c1] a ∧ (gSl 3 gI).rd H [.slice b2 m2 c2] b) (fun v A => v = .bool (decide (a = b)) ∧ A = []) := by
  refine Ct.intro0 G_ok Tryz.func183 rfl rfl rfl fun E H hp => ?_
  obtain ⟨hp, hq⟩ := hp
  obtain ⟨rfl, hc1, hl1⟩ := sl_len hp
  obtain ⟨rfl, hc2, hl2⟩ := sl_len hq
  refine VCsplit.intro (fun q0 => ?_) (fun q0 => ?_)
  ·
    simp at q0
    exact ⟨[], ⟨by rw [decide_eq_false (fun e => by subst e; exact absurd rfl (by assumption))], rfl⟩, .refl _⟩
  ·
    simp at q0
    apply loop_mod (α := (Nat)) G_ok [14, 15, 5, 16, 17, 18, 19, 20, 21, 22, 23, 24, 4, 25, 13] (fun z => [(13, .v (.int .i64 z))]) (fun z => []) (fun z => [H]) (fun z => a.length - z) (fun z => z ≤ a.length ∧ allK (fun i => decide ((a[i]?.getD 0) = (b[i]?.getD 0))) z = true) ((0))
    · repeat' (first | exact trivial | refine ⟨⟨_, rfl, by first | rfl | exact inc_eq _ (by omega) | (refine sl_eq ?_; simp; done), by first | exact trivial | simp [SV.ok]⟩, ?_⟩)
    · exact trivial
    · exact ⟨Nat.zero_le _, rfl⟩
    · exact .refl _
    rintro k hI
    obtain ⟨hk, ha⟩ : k ≤ a.length ∧ allK (fun i => decide ((a[i]?.getD 0) = (b[i]?.getD 0))) k = true := hI
    try dsimp only
    refine VCsplit.intro (fun q1 => ?_) (fun q1 => ?_)
    ·
      simp at q1
      refine draw G_ok mixed none (.q 0 (.q 1 (.q 2 (.q 3 (.q 4 (.q 5 (.q 6 (.q 7 (.q 8 (.nil)))))))))) (by decide +kernel) ?_
      refine idx_rd hp ?_ ?_ fun b2 o2 hb2 => ?_
      · omega
      · omega
      refine load_allN 0 (k) rfl hp ?_ ?_ hb2 rfl (mem_at 0 rfl) fun l3 hl3 => ?_
      · omega
      · omega
      obtain ⟨rfl, hw3⟩ := hl3; simp only [flStr, flInt, okI] at hw3
      refine idx_rd hq ?_ ?_ fun b4 o4 hb4 => ?_
      · omega
      · omega
      refine load_allN 0 (k) rfl hq ?_ ?_ hb4 rfl (mem_at 0 rfl) fun l5 hl5 => ?_
      · omega
      · omega
      obtain ⟨rfl, hw5⟩ := hl5; simp only [flStr, flInt, okI] at hw5
      refine VCsplit.intro (fun q6 => ?_) (fun q6 => ?_)
      ·
        simp at q6
        exact ⟨[], ⟨by rw [decide_eq_false (fun e => by subst e; exact absurd rfl (by assumption))], rfl⟩, .refl _⟩
      ·
        simp at q6
        apply loop_stepA (k + 1)
        · exact .refl _
        · repeat' (first | exact trivial | refine ⟨⟨_, rfl, by first | rfl | exact inc_eq _ (by omega) | (refine sl_eq ?_; simp; done), by first | exact trivial | simp [SV.ok]⟩, ?_⟩)
        · exact trivial
        · exact ⟨by omega, allK_step ha (decide_eq_true (by assumption))⟩
        · omega
    ·
      simp at q1
      (have hke : k = a.length := (by omega); subst hke; exact ⟨[], ⟨by rw [decide_eq_true (rows_eq (by omega) ha)], rfl⟩, .refl _⟩)
abbrev gIL : Gt (List Int) := gSl 3 gI
theorem pairCmp_ct (v1 v2 : Value) (x y : List Int) : Ct Tryz.prog 178 [v1, v2] [] (fun H => gIL.rd H [v1] x ∧ gIL.rd H [v2] y) (fun v A => v = .int .i64 (cmpL x y) ∧ A = []) := by
  refine Ct.intro0 G_ok Tryz.func178 rfl rfl rfl fun E H hp => ?_
  obtain ⟨h1, h2⟩ := hp
  obtain ⟨b1, c1, e1, _⟩ := id h1
  cases e1
  obtain ⟨b2, c2, e2, _⟩ := id h2
  cases e2
  have k1 : (gSl 3 gI).rd H [.slice b1 x.length c1] x := h1
  have k2 : (gSl 3 gI).rd H [.slice b2 y.length c2] y := h2
  clear h1 h2
  refine call_val (sCompare_ct _ _ _ _ _ _ (x) (y)) ⟨(Rp.mono _ (mem_at 0 rfl) k1), (Rp.mono _ (mem_at 0 rfl) k2)⟩ ?_
  rintro _ rfl
  exact ⟨[], ⟨rfl, rfl⟩, (.le fun a => by (try simp only [setR, List.cons_append, List.nil_append]); simp [List.count_cons, Blk.ent, idOf]; try omega)⟩
theorem pairEq_ct (v1 v2 : Value) (x y : List Int) : Ct Tryz.prog 182 [v1, v2] [] (fun H => gIL.rd H [v1] x ∧ gIL.rd H [v2] y) (fun v A => v = .bool (decide (x = y)) ∧ A = []) := by
  refine Ct.intro0 G_ok Tryz.func182 rfl rfl rfl fun E H hp => ?_
  obtain ⟨h1, h2⟩ := hp
  obtain ⟨b1, c1, e1, _⟩ := id h1
  cases e1
  obtain ⟨b2, c2, e2, _⟩ := id h2
  cases e2
  have k1 : (gSl 3 gI).rd H [.slice b1 x.length c1] x := h1
  have k2 : (gSl 3 gI).rd H [.slice b2 y.length c2] y := h2
  clear h1 h2
  refine call_val (sEqualI_ct _ _ _ _ _ _ (x) (y)) ⟨(Rp.mono _ (mem_at 0 rfl) k1), (Rp.mono _ (mem_at 0 rfl) k2)⟩ ?_
  rintro _ rfl
  exact ⟨[], ⟨rfl, rfl⟩, (.le fun a => by (try simp only [setR, List.cons_append, List.nil_append]); simp [List.count_cons, Blk.ent, idOf]; try omega)⟩
theorem swo_cmpL : Sort.SWO (ltOf cmpL) where
  irrefl x := by
    show decide (cmpL x x < 0) = false
    rw [cmpL_zero.2 rfl]; rfl
  trans x y z h1 h2 := decide_eq_true (cmpL_tr (of_decide_eq_true h1) (of_decide_eq_true h2))
  ntrans x y z h1 h2 := by
    have a1 := of_decide_eq_false h1
    have a2 := of_decide_eq_false h2
    refine decide_eq_false fun h3 => ?_
    by_cases e : cmpL y z = 0
    · rw [cmpL_zero.1 e] at a1; exact a1 h3
    · have h4 : cmpL z y < 0 := by rw [cmpL_sw]; omega
      exact a1 (cmpL_tr h3 h4)
theorem flat_parts {T : TypeId} {base : Option Addr} {n cap : Nat} {xs : List (List Int)} {A : Hp} (h : (gSl T gIL).ow [.slice base n cap] xs A) : ∃ (zs : List (RawC gIL.size × List Int)) (A0 : Hp) (As : List Hp), zs.map (·.2) = xs ∧ Ow (flRaw gIL.size gIL.pos) T (.slice base n cap) (zs.map (·.1)) A0 ∧ A.Perm (A0 ++ As.flatten) ∧ OwZ gIL zs As := by
  obtain ⟨v, ls, A0, As, e, ho, hp, hL⟩ := h
  cases e
  obtain ⟨e1, _⟩ := hL.len
  exact ⟨ls.zip xs, A0, As, List.map_snd_zip (by omega), by rw [List.map_fst_zip (by omega)]; exact ho, hp, .zip hL⟩
theorem OwZ.reads {γ : Type} {g : Gt γ} : ∀ {zs : List (RawC g.size × γ)} {As : List Hp}, OwZ g zs As → ∀ z ∈ zs, g.rd As.flatten z.1.1 z.2
  | [], _, _, z, hz => by cases hz
  | y :: zs, As, h, z, hz => by
    obtain ⟨A, Bs, rfl, h1, h2⟩ := h.cons_inv
    rw [List.flatten_cons]
    rcases List.mem_cons.1 hz with rfl | hz
    · exact g.mono (fun p hp => List.mem_append_left _ hp) (g.owrd h1)
    · exact g.mono (fun p hp => List.mem_append_right _ hp) (OwZ.reads h2 z hz)
/-- the program's sort of pairs -/
--@ct slices.SortFunc[[][]int,[]int] own+1 sortPairs_ct _ _ _ _ !1o ?_ | trivial | rintro _ A# ⟨rfl, xs#, hp#, hs#, o#⟩
theorem sortPairs_ct (base : Option Addr) (n cap : Nat) (xs : List (List Int)) {A : Hp} (ho : (gSl 27 gIL).ow [.slice base n cap] xs A) (hn : xs.length < 4611686018427387904) :
    CtR Tryz.prog 177 [.slice base n cap, .func (.func 178) #[] #[]] A (fun _ => True)
      (fun v D => v = .tuple #[] ∧ ∃ xs', xs'.Perm xs ∧ (xs'.Pairwise fun a b => ¬ cmpL b a < 0) ∧ (gSl 27 gIL).ow [.slice base xs'.length cap] xs' D) := by
  obtain ⟨zs, A0, As, hz, h0, hp, hL⟩ := flat_parts ho
  have hlz : zs.length = xs.length := by rw [← hz, List.length_map]
  have h := sortM_ct laysPairs gIL rfl cmpL swo_cmpL 178 (enters_of Tryz.func178 (by kernel_rfl) rfl) 27 pairCmp_ct h0 (by rw [hlz]; exact hn)
  refine ⟨h.1, fun E H w hs _ => ?_⟩
  have hs' : Sat E (A0 ++ (As.flatten ++ H)) w := by
    rw [← List.append_assoc]; exact hs.perm (hp.append_right H)
  refine (h.2 E (As.flatten ++ H) w hs' (fun z hz => gIL.mono (fun p hp => List.mem_append_left _ hp) (OwZ.reads hL z hz))).mono ?_
  rintro e w' ⟨v, A1, h1, ⟨h2, zs', h3, h4, h5⟩, h6⟩
  obtain ⟨Bs, h7, h8⟩ := OwZ.perm h3.symm hL
  refine ⟨v, A1 ++ Bs.flatten, h1, ⟨h2, zs'.map (·.2), by rw [← hz]; exact h3.map _, ?_, ?_⟩, ?_⟩
  · rw [List.pairwise_map]
    exact h4.imp fun h => of_decide_eq_false h
  · rw [List.length_map]
    exact h7.all h5 (.refl _)
  · rw [List.append_assoc]
    exact h6.perm (List.Perm.append_left _ (h8.append_right H))
end Go.Proofs.YtjgehblllhkdbaaGreat

namespace Go.Proofs.YtjgehblllhkdbaaGreat
open Go.SX Go.Proofs
set_option linter.unusedSimpArgs false
set_option linter.unusedVariables false
set_option maxHeartbeats 4000000
attribute [local irreducible] IntKind.wrap
abbrev ZP := RawC gIL.size × List Int
def gZ (H : Hp) : Gt ZP := (flZ gIL H).gt fun _ => default
theorem ld_Z {H H' : Hp} {l : List Value} {z : ZP} (h : (gZ H).rd H' l z) : ∃ b c, l = [.slice b z.2.length c] ∧ (gSl 3 gI).rd H [.slice b z.2.length c] z.2 ∧ z.1.1 = [.slice b z.2.length c] := by
  obtain ⟨h1, h2⟩ := h
  have h3 : (gSl 3 gI).rd H z.1.1 z.2 := h2
  obtain ⟨b, c, h4, h5⟩ := id h3
  rw [h4] at h3
  exact ⟨b, c, by rw [← h4]; exact h1, h3, h4⟩
theorem cp_short {zs : List ZP} (h : zs.length < 2) : cpK zs default zs.length = zs := by
  match zs, h with
  | [], _ => rfl
  | [z], _ => rfl
theorem cp_one {zs : List ZP} (h : 1 ≤ zs.length) : cpK zs default 1 = zs.take 1 := by
  match zs, h with
  | z :: r, _ => rfl
theorem keep_w {zs : List ZP} {k : Nat} (h1 : 1 ≤ k) (h : (zs[k]?.getD default).2 = (zs[((k : Int) - 1).toNat]?.getD default).2) : keepZ zs default k = false := by
  rw [show ((k : Int) - 1).toNat = k - 1 by omega] at h
  unfold keepZ
  rw [h, decide_eq_false (by omega : ¬ k = 0)]; simp
theorem keep_w2 {zs : List ZP} {k : Nat} (h : ¬ (zs[k]?.getD default).2 = (zs[((k : Int) - 1).toNat]?.getD default).2) : keepZ zs default k = true := by
  rw [show ((k : Int) - 1).toNat = k - 1 by omega] at h
  unfold keepZ
  rw [decide_eq_true h, Bool.or_true]
theorem cp_more {zs : List ZP} {k : Nat} (hk : k < zs.length) (hc : cpK zs default k = zs.take k) (h : ¬ (zs[k]?.getD default).2 = (zs[((k : Int) - 1).toNat]?.getD default).2) : cpK zs default (k + 1) = zs.take (k + 1) := by
  rw [cpK_yes (keep_w2 h), hc, ← List.take_append_getElem hk, List.getElem?_eq_getElem hk]; rfl
/-- k: where the first one stands twice; k + j have been looked at, i are kept, in cs -/
structure Cmp (zs : List ZP) (k j i : Nat) (cs : List ZP) : Prop where
  h1 : 1 ≤ j
  hj : k + j ≤ zs.length
  hi : k ≤ i ∧ i + 1 ≤ k + j
  len : cs.length = zs.length
  kept : cs.take i = cpK zs default (k + j)
  rest : ∀ q, k + j ≤ q + 1 → cs[q]? = zs[q]?
theorem cmp_init {zs : List ZP} {k : Nat} (h1 : 1 ≤ k) (hk : k < zs.length) (hc : cpK zs default k = zs.take k) (h : (zs[k]?.getD default).2 = (zs[((k : Int) - 1).toNat]?.getD default).2) : Cmp zs k 1 k zs :=
  ⟨Nat.le_refl _, by omega, by omega, rfl, by rw [cpK_no (keep_w h1 h), hc], fun _ _ => rfl⟩
theorem cmp_sub {H D : Hp} {b : Option Addr} {c : Nat} {zs : List ZP} {k j i : Nat} {cs : List ZP} (hC : Cmp zs k j i cs) (oD : (gSl 27 (gZ H)).ow [.slice b zs.length c] cs D) (hc : zs.length ≤ c) :
    ∃ ys, (rpSl (gZ H).toRp).rd D [.slice (subBase c ((k : Int)).toNat b ty27.size) (zs.length - ((k : Int)).toNat) (c - ((k : Int)).toNat)] ys ∧ ys.length = zs.length - k ∧ ∀ q, k + j ≤ k + q + 1 → ys[q]? = zs[k + q]? := by
  have h1 := hC.hj
  have h2 := hC.len
  refine ⟨(cs.take zs.length).drop ((k : Int)).toNat, rd_sub (l := ((k : Int)).toNat) (h := zs.length) (Gt.owrd _ oD) (by omega) (by omega) (by omega), ?_, fun q hq => ?_⟩
  · rw [List.length_drop, List.length_take]; omega
  · rw [Int.toNat_natCast, List.take_of_length_le (by omega), List.getElem?_drop]
    exact hC.rest _ (by omega)
theorem cmp_keep {zs ys : List ZP} {k j i : Nat} {cs : List ZP} (hC : Cmp zs k j i cs) (hj : k + j < zs.length) (hya : ∀ q, k + j ≤ k + q + 1 → ys[q]? = zs[k + q]?) (h : ¬ (ys[j]?.getD default).2 = (ys[((j : Int) - 1).toNat]?.getD default).2) : Cmp zs k (j + 1) (i + 1) (cs.set ((i : Int)).toNat (zs[k + j]?.getD default)) := by
  obtain ⟨h1, h2, h3, h4, h5, h6⟩ := hC
  rw [hya j (by omega), show ((j : Int) - 1).toNat = j - 1 by omega, hya (j - 1) (by omega), show k + (j - 1) = k + j - 1 by omega] at h
  have hk : keepZ zs default (k + j) = true := by unfold keepZ; rw [decide_eq_true h, Bool.or_true]
  refine ⟨by omega, by omega, by omega, by rw [List.length_set]; exact h4, ?_, fun q hq => ?_⟩
  · rw [show k + (j + 1) = k + j + 1 by omega, cpK_yes hk, ← h5, Int.toNat_natCast]
    apply List.ext_getElem?
    intro q
    have hl : (cs.take i).length = i := by rw [List.length_take]; omega
    rcases Nat.lt_trichotomy q i with hq | hq | hq
    · rw [List.getElem?_take_of_lt (by omega), List.getElem?_set_ne (by omega), List.getElem?_append_left (by omega), List.getElem?_take_of_lt hq]
    · subst hq
      rw [List.getElem?_take_of_lt (by omega), List.getElem?_append_right (by omega), hl, Nat.sub_self, List.getElem?_set_self (by omega)]; rfl
    · rw [List.getElem?_eq_none (by rw [List.length_take]; omega), List.getElem?_eq_none (by rw [List.length_append, hl]; simp; omega)]
  · rw [Int.toNat_natCast, List.getElem?_set_ne (by omega)]; exact h6 q (by omega)
theorem cmp_skip {zs ys : List ZP} {k j i : Nat} {cs : List ZP} (hC : Cmp zs k j i cs) (hj : k + j < zs.length) (hya : ∀ q, k + j ≤ k + q + 1 → ys[q]? = zs[k + q]?) (h : (ys[j]?.getD default).2 = (ys[((j : Int) - 1).toNat]?.getD default).2) : Cmp zs k (j + 1) i cs := by
  obtain ⟨h1, h2, h3, h4, h5, h6⟩ := hC
  rw [hya j (by omega), show ((j : Int) - 1).toNat = j - 1 by omega, hya (j - 1) (by omega), show k + (j - 1) = k + j - 1 by omega] at h
  have hk : keepZ zs default (k + j) = false := by unfold keepZ; rw [h, decide_eq_false (by omega : ¬ k + j = 0)]; simp
  exact ⟨by omega, by omega, by omega, h4, by rw [show k + (j + 1) = k + j + 1 by omega, cpK_no hk]; exact h5, fun q hq => h6 q (by omega)⟩
theorem compactZ_ct (b : Option Addr) (m c : Nat) (zs : List ZP) (A : Hp) (hA : Ow (flRaw gIL.size gIL.pos) 27 (.slice b m c) (zs.map (·.1)) A) (hm : zs.length ≤ 1048576) :
    CtR Tryz.prog 181 [.slice b m c, .func (.func 182) #[] #[]] A (fun H => ∀ z ∈ zs, gIL.rd H z.1.1 z.2)
      (fun v D => v = .slice b (cpK zs default zs.length).length c ∧ Ow (flRaw gIL.size gIL.pos) 27 (.slice b (cpK zs default zs.length).length c) ((cpK zs default zs.length).map (·.1)) D) := by
  refine CtR.intro G_ok [A] Tryz.func181 rfl rfl rfl (by simp) fun E H hp => ?_
  have hZ : (gSl 27 (gZ H)).ow [.slice b m c] zs A := ow_fl (flZ_ow.2 ⟨hA, hp⟩)
  obtain ⟨rfl, hlm⟩ := rd_len (Gt.owrd _ hZ)
  have hcl := rd_cap (Gt.owrd _ hZ)
  clear hA
  refine VCsplit.intro (fun q0 => ?_) (fun q0 => ?_)
  ·
    simp at q0
    (rw [cp_short (by omega)]; exact ⟨_, ⟨rfl, (flZ_ow.1 (fl_ow hZ)).1⟩, (.le fun a => by (try simp only [setR, List.cons_append, List.nil_append]); simp [List.count_cons, Blk.ent, idOf]; try omega)⟩)
  ·
    simp at q0
    apply loop_mod (α := (Nat)) G_ok [12, 13, 14, 15, 18, 19, 20, 21, 22, 23, 24, 25, 26, 27, 28, 29, 30, 31, 6, 7, 32, 33, 34, 35, 38, 39, 40, 41, 42, 43, 44, 45, 46, 47, 48, 49, 50, 51, 52, 53, 54, 55, 56, 57, 58, 5, 36, 37, 59, 60, 61, 62, 63, 64, 4, 16, 17] (fun z => [(5, .v (.int .i64 z)), (4, .v (.slice none 0 0))]) (fun z => []) (fun z => [A, H]) (fun z => zs.length - z) (fun z => 1 ≤ z ∧ z ≤ zs.length ∧ cpK zs default z = zs.take z) ((1))
    · repeat' (first | exact trivial | refine ⟨⟨_, rfl, by first | rfl | exact inc_eq _ (by omega) | (refine sl_eq ?_; simp; done), by first | exact trivial | simp [SV.ok]⟩, ?_⟩)
    · exact trivial
    · exact ⟨Nat.le_refl _, by omega, cp_one (by omega)⟩
    · exact .refl _
    rintro k hI
    obtain ⟨h1k, hk, hkc⟩ : 1 ≤ k ∧ k ≤ zs.length ∧ cpK zs default k = zs.take k := hI
    try dsimp only
    refine VCsplit.intro (fun q1 => ?_) (fun q1 => ?_)
    ·
      simp at q1
      refine draw G_ok mixed none (.q 0 (.q 1 (.q 2 (.q 3 (.q 4 (.q 5 (.q 6 (.q 7 (.q 8 (.q 9 (.f 10 (.nil)))))))))))) (by decide +kernel) ?_
      refine idx_rd (Gt.owrd _ hZ) ?_ ?_ fun b2 o2 hb2 => ?_
      · omega
      · omega
      refine load_allN default (k) rfl (Gt.owrd _ hZ) ?_ ?_ hb2 rfl (mem_at 0 rfl) fun l3 hl3 => ?_
      · omega
      · omega
      obtain ⟨u3, w3, rfl, k3, e3⟩ := ld_Z hl3
      refine idx_rd (Gt.owrd _ hZ) ?_ ?_ fun b4 o4 hb4 => ?_
      · (simp (disch := omega) only [wrap_of]; omega)
      · (simp (disch := omega) only [wrap_of]; omega)
      refine load_all default (Gt.owrd _ hZ) ?_ ?_ hb4 rfl (mem_at 0 rfl) fun l5 hl5 => ?_
      · (simp (disch := omega) only [wrap_of]; omega)
      · (simp (disch := omega) only [wrap_of]; omega)
      obtain ⟨u5, w5, rfl, k5, e5⟩ := ld_Z hl5
      refine call_val (pairEq_ct _ _ _ _) ⟨(Rp.mono _ (mem_at 1 rfl) k3), (Rp.mono _ (mem_at 1 rfl) k5)⟩ ?_
      rintro _ rfl
      refine VC.intro ?_ ?_
      · exact fun _ h => h
      refine VCsplit.intro (fun q7 => ?_) (fun q7 => ?_)
      ·
        simp at q7
        simp (disch := omega) only [wrap_of] at q7
        refine VC.intro ?_ ?_
        · omega
        apply loop_mod (α := (Nat) × (Nat) × (List ZP) × (Hp)) G_ok [32, 33, 34, 35, 38, 39, 40, 41, 42, 43, 44, 45, 46, 47, 48, 49, 50, 51, 52, 53, 54, 55, 56, 57, 58, 5, 36, 37, 7] (fun z => [(7, .v (.int .i64 z.1)), (5, .v (.int .i64 z.2.1))]) (fun z => []) (fun z => [z.2.2.2, H]) (fun z => zs.length - (k + z.1)) (fun z => Cmp zs k z.1 z.2.1 z.2.2.1 ∧ (gSl 27 (gZ H)).ow [.slice b zs.length c] z.2.2.1 z.2.2.2) ((1, k, zs, A))
        · repeat' (first | exact trivial | refine ⟨⟨_, rfl, by first | rfl | exact inc_eq _ (by omega) | (refine sl_eq ?_; simp; done), by first | exact trivial | simp [SV.ok]⟩, ?_⟩)
        · exact trivial
        · try dsimp only
          exact ⟨cmp_init h1k (by omega) hkc (by assumption), hZ⟩
        · exact .refl _
        rintro ⟨j, i, cs, D⟩ hI
        obtain ⟨hC, oD⟩ : Cmp zs k j i cs ∧ (gSl 27 (gZ H)).ow [.slice b zs.length c] cs D := hI
        try dsimp only
        refine VCsplit.intro (fun q8 => ?_) (fun q8 => ?_)
        ·
          simp at q8
          obtain ⟨ys, rs2, hyl, hya⟩ := cmp_sub hC oD (by omega)
          have hjw : IntKind.i64.wrap ((j : Int) - 1) = ((j - 1 : Nat) : Int) := (by have := hC.h1; rw [wrap_of (by omega) (by omega)]; omega)
          have hjc := hC.h1
          have hic := hC.hi
          have hlc := hC.len
          refine draw G_ok mixed none (.q 0 (.q 1 (.q 2 (.q 3 (.q 4 (.q 5 (.q 6 (.q 7 (.q 8 (.q 9 (.f 10 (.q 11 (.nil))))))))))))) (by decide +kernel) ?_
          refine idx_rd rs2 ?_ ?_ fun b9 o9 hb9 => ?_
          · omega
          · omega
          refine load_allN default (j) rfl rs2 ?_ ?_ hb9 rfl (mem_at 0 rfl) fun l10 hl10 => ?_
          · omega
          · omega
          obtain ⟨u10, w10, rfl, k10, e10⟩ := ld_Z hl10
          refine idx_rd rs2 ?_ ?_ fun b11 o11 hb11 => ?_
          · (simp (disch := omega) only [wrap_of]; omega)
          · (simp (disch := omega) only [wrap_of]; omega)
          refine load_all default rs2 ?_ ?_ hb11 rfl (mem_at 0 rfl) fun l12 hl12 => ?_
          · (simp (disch := omega) only [wrap_of]; omega)
          · (simp (disch := omega) only [wrap_of]; omega)
          obtain ⟨u12, w12, rfl, k12, e12⟩ := ld_Z hl12
          refine call_val (pairEq_ct _ _ _ _) ⟨(Rp.mono _ (mem_at 1 rfl) k10), (Rp.mono _ (mem_at 1 rfl) k12)⟩ ?_
          rintro _ rfl
          refine VC.intro ?_ ?_
          · exact fun _ h => h
          refine VCsplit.intro (fun q14 => ?_) (fun q14 => ?_)
          ·
            simp at q14
            simp (disch := omega) only [wrap_of] at q14
            refine idx_rd rs2 ?_ ?_ fun b15 o15 hb15 => ?_
            · omega
            · omega
            refine load_allN default (j) rfl rs2 ?_ ?_ hb15 rfl (mem_at 0 rfl) fun l16 hl16 => ?_
            · omega
            · omega
            obtain ⟨u16, w16, rfl, k16, e16⟩ := ld_Z hl16
            refine idx_rd (Gt.owrd _ oD) ?_ ?_ fun b17 o17 hb17 => ?_
            · omega
            · omega
            refine store_ow (f := flZ gIL H) (y := zs[k + j]?.getD default) 0 rfl (fl_ow oD) (by omega) (by omega) (by assumption) (by rw [← hya j (by omega)]; exact Eq.symm (by assumption)) (by rw [List.getElem?_eq_getElem (by omega)]; exact hp _ (List.getElem_mem _)) rfl fun A2 o2 => ?_
            apply loop_stepA (j + 1, i + 1, cs.set ((i : Int)).toNat (zs[k + j]?.getD default), A2)
            · exact .refl _
            · repeat' (first | exact trivial | refine ⟨⟨_, rfl, by first | rfl | exact inc_eq _ (by omega) | (refine sl_eq ?_; simp; done), by first | exact trivial | simp [SV.ok]⟩, ?_⟩)
            · exact trivial
            · try dsimp only
              exact ⟨cmp_keep hC (by omega) hya (by assumption), ow_fl o2⟩
            · try dsimp only
              omega
          ·
            simp at q14
            simp (disch := omega) only [wrap_of] at q14
            apply loop_stepA (j + 1, i, cs, D)
            · exact .refl _
            · repeat' (first | exact trivial | refine ⟨⟨_, rfl, by first | rfl | exact inc_eq _ (by omega) | (refine sl_eq ?_; simp; done), by first | exact trivial | simp [SV.ok]⟩, ?_⟩)
            · exact trivial
            · try dsimp only
              exact ⟨cmp_skip hC (by omega) hya (by assumption), oD⟩
            · try dsimp only
              omega
        ·
          simp at q8
          have hjc := hC.h1
          have hic := hC.hi
          have hlc := hC.len
          have hjj := hC.hj
          refine VC.intro ?_ ?_
          · omega
          refine clear_ow G_ok 0 rfl (Ow.take (i := i) (fl_ow oD) (by omega)) (l := ((i : Int)).toNat) (h := zs.length) rfl (by omega) (by omega) (by omega) rfl rfl rfl rfl fun A2 o2 => ?_
          refine VC.intro ?_ ?_
          · omega
          (have hkj : k + j = zs.length := (by omega); have hkp := hC.kept; rw [hkj] at hkp; have hkl : (cpK zs default zs.length).length = i := (by rw [← hkp, List.length_take]; omega); rw [hkl, ← hkp]; exact ⟨_, ⟨rfl, (flZ_ow.1 o2).1⟩, (.le fun a => by (try simp only [setR, List.cons_append, List.nil_append]); simp [List.count_cons, Blk.ent, idOf]; try omega)⟩)
      ·
        simp at q7
        simp (disch := omega) only [wrap_of] at q7
        apply loop_stepA (k + 1)
        · exact .refl _
        · repeat' (first | exact trivial | refine ⟨⟨_, rfl, by first | rfl | exact inc_eq _ (by omega) | (refine sl_eq ?_; simp; done), by first | exact trivial | simp [SV.ok]⟩, ?_⟩)
        · exact trivial
        · exact ⟨by omega, by omega, cp_more (by omega) hkc (by assumption)⟩
        · omega
    ·
      simp at q1
      (have hke : k = zs.length := (by omega); subst hke; rw [List.take_length] at hkc; rw [hkc]; exact ⟨_, ⟨rfl, (flZ_ow.1 (fl_ow hZ)).1⟩, (.le fun a => by (try simp only [setR, List.cons_append, List.nil_append]); simp [List.count_cons, Blk.ent, idOf]; try omega)⟩)
--@ct slices.CompactFunc[[][]int,[]int] own+1 compactPairs_ct _ _ _ _ !1o ?_ ?_ | trivial | rintro _ A# ⟨b#, xs#, rfl, hu#, hm#, o#⟩
theorem compactPairs_ct (b : Option Addr) (m c : Nat) (xs : List (List Int)) {A : Hp} (ho : (gSl 27 gIL).ow [.slice b m c] xs A) (hm : xs.length ≤ 1048576) (hs : xs.Pairwise fun a b => ¬ cmpL b a < 0) :
    CtR Tryz.prog 181 [.slice b m c, .func (.func 182) #[] #[]] A (fun _ => True)
      (fun v D => ∃ xs', v = .slice b xs'.length c ∧ upL xs' ∧ (∀ r, r ∈ xs' ↔ r ∈ xs) ∧ (gSl 27 gIL).ow [.slice b xs'.length c] xs' D) := by
  obtain ⟨zs, A0, As, hz, h0, hp, hL⟩ := flat_parts ho
  have hlz : zs.length = xs.length := by rw [← hz, List.length_map]
  have h := compactZ_ct b m c zs A0 h0 (by omega)
  have hs' : zs.Pairwise fun a b => ¬ cmpL b.2 a.2 < 0 := by rw [← hz, List.pairwise_map] at hs; exact hs
  refine ⟨h.1, fun E H w hsat _ => ?_⟩
  have hs2 : Sat E (A0 ++ (As.flatten ++ H)) w := by
    rw [← List.append_assoc]; exact hsat.perm (hp.append_right H)
  refine (h.2 E (As.flatten ++ H) w hs2 (fun z hz => gIL.mono (fun p hp => List.mem_append_left _ hp) (OwZ.reads hL z hz))).mono ?_
  rintro e w' ⟨v, A1, h1, ⟨h2, h5⟩, h6⟩
  obtain ⟨Bs, L, h7, h8⟩ := OwZ.sub (by have := cpK_sub zs default zs.length (Nat.le_refl _); rw [List.take_length] at this; exact this) hL
  have hall := cpK_all (d := default) hs'
  refine ⟨v, A1 ++ Bs.flatten, h1, ⟨(cpK zs default zs.length).map (·.2), by rw [List.length_map]; exact h2, hall.1, by rw [← hz]; exact hall.2, ?_⟩, ?_⟩
  · rw [List.length_map]
    exact h7.all h5 (.refl _)
  · refine Sat.drop (B := L) (h6.perm ?_)
    rw [List.append_assoc]
    refine (List.Perm.append_left A1 (h8.append_right H)).trans ?_
    classical
    rw [List.perm_iff_count]
    intro a
    simp only [List.count_append]; omega
theorem Ow.clip {α : Type} {f : Fl α} {T : TypeId} {b : Option Addr} {n c : Nat} {xs : List α} {A : Hp} (h : Ow f T (.slice b n c) xs A) : Ow f T (.slice b n n) xs A := by
  obtain ⟨h1, h2, b0, c0, e, h3⟩ := h
  cases e
  refine ⟨h1, h2, b, xs.length, rfl, ?_⟩
  rcases h3 with ⟨rfl, rfl, rfl⟩ | ⟨bb, sp, h4, h5, h6, h7⟩
  · exact .inl ⟨rfl, rfl, rfl⟩
  · exact .inr ⟨bb, sp, h4, h5, Nat.le_refl _, by rw [Nat.sub_self, Nat.zero_mul]; exact Nat.zero_le _⟩
theorem clip_ow {α : Type} {g : Gt α} {T : TypeId} {b : Option Addr} {n c : Nat} {xs : List α} {A : Hp} (h : (gSl T g).ow [.slice b n c] xs A) : (gSl T g).ow [.slice b n n] xs A := by
  obtain ⟨v, ls, A0, As, e, ho, hp, hL⟩ := h
  cases e
  exact ⟨_, ls, A0, As, rfl, Ow.clip ho, hp, hL⟩
theorem addr_add0 (a : Addr) (sz : Nat) : a.add (0 * sz) = a := by
  rw [Nat.zero_mul]
  obtain ⟨x, y, z⟩ := a
  rfl
theorem sb_zero0 (c : Nat) (b : Option Addr) (sz : Nat) : subBase c 0 b sz = b := by
  rw [subBase_eq]
  split
  · rfl
  · cases b with
    | none => rfl
    | some a => rw [Option.map_some, addr_add0]
--@ct slices.Clip[[][]int,[]int] val clipPairs_ct _ _ _ ?_ | trivial
theorem clipPairs_ct (b : Option Addr) (n c : Nat) (h : n ≤ c) : Ct Tryz.prog 180 [.slice b n c] [] (fun _ => True) (fun v A => v = .slice b n n ∧ A = []) := by
  refine Ct.intro0 G_ok Tryz.func180 rfl rfl rfl fun E H hp => ?_
  refine VC.intro ?_ ?_
  · omega
  refine VC.intro ?_ ?_
  · omega
  exact ⟨[], ⟨by rw [sb_zero0]; simp, rfl⟩, (.le fun a => by (try simp only [setR, List.cons_append, List.nil_append]); simp [List.count_cons, Blk.ent, idOf]; try omega)⟩
end Go.Proofs.YtjgehblllhkdbaaGreat

namespace Go.Proofs.YtjgehblllhkdbaaGreat
open Go.SX Go.Proofs
set_option linter.unusedSimpArgs false
set_option linter.unusedVariables false
set_option maxHeartbeats 4000000
attribute [local irreducible] IntKind.wrap
def nfasM (ats : List Atom) : List Nfa := ats.map fun a => (tnR a.path).1
theorem nfas_step {ats : List Atom} {k : Nat} (h : k < ats.length) : nfasM (ats.take (k + 1)) = nfasM (ats.take k) ++ [(tnR (ats[k]?.getD default).path).1] := by
  unfold nfasM
  rw [← List.take_append_getElem h, List.map_append, List.getElem?_eq_getElem h]; rfl
theorem nfas_len (ats : List Atom) : (nfasM ats).length = ats.length := List.length_map ..
theorem nfas_at {ats : List Atom} {k : Nat} (h : k < ats.length) : (nfasM ats)[k]?.getD default = (tnR (ats[k]?.getD default).path).1 := by
  unfold nfasM
  rw [List.getElem?_map, List.getElem?_eq_getElem h]; rfl
theorem nfa_text (t : ByteArray) : (nfaR (rpPath t)).1 = (tnR t).1 := by
  unfold tnR
  split
  · rfl
  · rename_i h
    have h1 : readPath t = none := by simpa using h
    have h2 : rpPath t = ⟨[]⟩ := by unfold rpPath; rw [h1]; rfl
    rw [h2]; rfl
--@ct impl.automataOf new automataOf_ct _ $1 ?_ | %1 | obtain ⟨b#, c#, rfl, o#⟩ := o#
theorem automataOf_ct (l : List Value) (x : Query) (hx : gQuery.sz x ≤ 1048576) : Ct Tryz.prog 116 [.agg ⟨l⟩] [] (fun H => gQuery.rd H l x) (fun v A => ∃ b c, v = .slice b (nfasM x.atoms).length c ∧ (gSl 169 gNfa).ow [.slice b (nfasM x.atoms).length c] (nfasM x.atoms) A) := by
  refine Ct.intro0 G_ok Tryz.func116 rfl rfl rfl fun E H hp => ?_
  obtain ⟨b1p, c1p, b2p, c2p, b3p, c3p, rfl, h1p, h2p, h3p⟩ := gQuery_rd.1 hp
  have ez := gQuery_sz x
  have en2 := len_szL gAtom x.atoms
  refine VCnew.intro fun x0 => ?_
  apply loop_mod (α := (Nat) × (List Nfa) × (Hp) × (Option Addr) × (Nat)) G_ok [12, 13, 14, 5, 16, 17, 18, 15, 19, 20, 6, 7, 21, 22, 23, 24, 3, 25, 11] (fun z => [(11, .v (.int .i64 z.1)), (3, .v (.slice z.2.2.2.1 z.2.1.length z.2.2.2.2))]) (fun z => [{ id := x0, cs := [Value.bool x.each, Value.slice b1p x.out.length c1p, Value.slice b2p x.atoms.length c2p, Value.slice b3p x.filters.length c3p], ty := (39 : Nat) }]) (fun z => [z.2.2.1, H]) (fun z => x.atoms.length - z.1) (fun z => z.1 ≤ x.atoms.length ∧ z.2.1 = nfasM (x.atoms.take z.1) ∧ (gSl 169 gNfa).ow [.slice z.2.2.2.1 z.2.1.length z.2.2.2.2] z.2.1 z.2.2.1) ((0, [], [], _, 0))
  · repeat' (first | exact trivial | refine ⟨⟨_, rfl, by first | rfl | exact inc_eq _ (by omega) | (refine sl_eq ?_; simp; done), by first | exact trivial | simp [SV.ok]⟩, ?_⟩)
  · exact ⟨rfl, trivial⟩
  · try dsimp only
    exact ⟨Nat.zero_le _, rfl, sl_nil _ _ _⟩
  · exact .refl _
  rintro ⟨k, o, A, lb, lc⟩ hI
  obtain ⟨hk, ho, oA⟩ : k ≤ x.atoms.length ∧ o = nfasM (x.atoms.take k) ∧ (gSl 169 gNfa).ow [.slice lb o.length lc] o A := hI
  try dsimp only
  refine VCsplit.intro (fun q1 => ?_) (fun q1 => ?_)
  ·
    simp at q1
    have hol : o.length ≤ k := (by rw [ho, nfas_len, List.length_take]; omega)
    refine idx_rd h2p ?_ ?_ fun b2 o2 hb2 => ?_
    · omega
    · omega
    refine load_allN default (k) rfl h2p ?_ ?_ hb2 rfl (mem_at 1 rfl) fun l3 hl3 => ?_
    · omega
    · omega
    obtain ⟨rfl, w0x3, w1x3, w2x3⟩ := gAtom_rd.1 hl3
    refine VCnew.intro fun x4 => ?_
    refine call_new (nfaOfText_ct _ ?_) trivial ?_
    · exact Nat.le_trans (atoms_path hx (by omega)) (by decide)
    rintro v5 A5 o5
    obtain ⟨b5, c5, bb5, cc5, rfl, o5⟩ := o5
    refine VCnew.intro fun x6 => ?_
    refine VCnew.intro fun x7 => ?_
    refine gappend1 (g := gNfa) (T := (169 : TypeId)) G_ok A _ [H] ?_ oA ((by assumption)) (List.mem_of_getElem? (i := 0) rfl) rfl rfl rfl rfl rfl rfl rfl rfl ?_ fun b8 c8 A8 o8 => ?_
    · exact .le fun a => by (try simp only [setR, List.cons_append, List.nil_append]); simp only [List.flatten_append, List.flatten_cons, List.flatten_nil, List.count_append, List.count_nil, List.append_nil, List.nil_append]; omega
    · omega
    apply loop_stepA (k + 1, _, _, _, _)
    · exact .refl _
    · repeat' (first | exact trivial | refine ⟨⟨_, rfl, by first | rfl | exact inc_eq _ (by omega) | (refine sl_eq ?_; simp; done), by first | exact trivial | simp [SV.ok]⟩, ?_⟩)
    · exact ⟨rfl, trivial⟩
    · try dsimp only
      exact ⟨by omega, by rw [nfas_step (by omega), ← ho], by assumption⟩
    · try dsimp only
      omega
  ·
    simp at q1
    (have hke : k = x.atoms.length := (by omega); subst hke; rw [List.take_length] at ho; subst ho; exact ⟨_, ⟨_, _, rfl, by assumption⟩, (.le fun a => by (try simp only [setR, List.cons_append, List.nil_append]); simp [List.count_cons, Blk.ent, idOf]; try omega)⟩)
--@ct spec.l20Nfas new l20Nfas_ct _ $1 ?_ | %1 | obtain ⟨b#, c#, rfl, o#⟩ := o#
theorem l20Nfas_ct (l : List Value) (x : Query) (hx : gQuery.sz x ≤ 1048576) : Ct Tryz.prog 106 [.agg ⟨l⟩] [] (fun H => gQuery.rd H l x) (fun v A => ∃ b c, v = .slice b (nfasM x.atoms).length c ∧ (gSl 169 gNfa).ow [.slice b (nfasM x.atoms).length c] (nfasM x.atoms) A) := by
  refine Ct.intro0 G_ok Tryz.func106 rfl rfl rfl fun E H hp => ?_
  obtain ⟨b1p, c1p, b2p, c2p, b3p, c3p, rfl, h1p, h2p, h3p⟩ := gQuery_rd.1 hp
  have ez := gQuery_sz x
  have en2 := len_szL gAtom x.atoms
  refine VCnew.intro fun x0 => ?_
  refine VCnew.intro fun x1 => ?_
  apply loop_mod (α := (Nat) × (List Nfa) × (Hp) × (Option Addr) × (Nat)) G_ok [10, 11, 12, 13, 14, 18, 19, 20, 21, 22, 23, 24, 17, 25, 26, 5, 6, 28, 29, 27, 30, 31, 7, 8, 32, 33, 34, 35, 3, 15, 16, 4] (fun z => [(4, .v (.int .i64 z.1)), (3, .v (.slice z.2.2.2.1 z.2.1.length z.2.2.2.2))]) (fun z => [{ id := x0, cs := [Value.bool x.each, Value.slice b1p x.out.length c1p, Value.slice b2p x.atoms.length c2p, Value.slice b3p x.filters.length c3p], ty := (39 : Nat) }]) (fun z => [z.2.2.1, H]) (fun z => x.atoms.length - z.1) (fun z => z.1 ≤ x.atoms.length ∧ z.2.1 = nfasM (x.atoms.take z.1) ∧ (gSl 169 gNfa).ow [.slice z.2.2.2.1 z.2.1.length z.2.2.2.2] z.2.1 z.2.2.1) ((0, [], [], _, 0))
  · repeat' (first | exact trivial | refine ⟨⟨_, rfl, by first | rfl | exact inc_eq _ (by omega) | (refine sl_eq ?_; simp; done), by first | exact trivial | simp [SV.ok]⟩, ?_⟩)
  · exact ⟨rfl, trivial⟩
  · try dsimp only
    exact ⟨Nat.zero_le _, rfl, sl_nil _ _ _⟩
  · exact .tl
  rintro ⟨k, o, A, lb, lc⟩ hI
  obtain ⟨hk, ho, oA⟩ : k ≤ x.atoms.length ∧ o = nfasM (x.atoms.take k) ∧ (gSl 169 gNfa).ow [.slice lb o.length lc] o A := hI
  try dsimp only
  refine VCsplit.intro (fun q2 => ?_) (fun q2 => ?_)
  ·
    simp at q2
    have hol : o.length ≤ k := (by rw [ho, nfas_len, List.length_take]; omega)
    refine idx_rd h2p ?_ ?_ fun b3 o3 hb3 => ?_
    · omega
    · omega
    refine load_partN default (k) 1 rfl h2p ?_ ?_ hb3 rfl (by decide) (mem_at 1 rfl) fun l4 hl4 => ?_
    · omega
    · omega
    obtain ⟨rfl, w0x4, w1x4, w2x4⟩ := gAtom_rd.1 hl4
    refine call_new (specReadPath_ct _ ?_) trivial ?_
    · exact Nat.le_trans (atoms_path hx (by omega)) (by decide)
    rintro v5 A5 o5
    obtain ⟨bP, cP, rfl, oP⟩ := o5
    refine VCnew.intro fun x6 => ?_
    refine call_new (specNfaOf_ct _ (rpPath (x.atoms[k]?.getD default).path)) (gPath_rd.2 ⟨_, _, rfl, Rp.mono _ (sub_hall (by simp)) (Gt.owrd _ oP)⟩) ?_
    rintro v7 A7 o7
    obtain ⟨bN, cN, bbN, ccN, rfl, oN⟩ := o7
    refine VCnew.intro fun x8 => ?_
    refine VCnew.intro fun x9 => ?_
    refine gappend1 (g := gNfa) (T := (169 : TypeId)) G_ok A _ [A5, H] ?_ oA ((by assumption)) (List.mem_of_getElem? (i := 0) rfl) rfl rfl rfl rfl rfl rfl rfl rfl ?_ fun b10 c10 A10 o10 => ?_
    · exact .le fun a => by (try simp only [setR, List.cons_append, List.nil_append]); simp only [List.flatten_append, List.flatten_cons, List.flatten_nil, List.count_append, List.count_nil, List.append_nil, List.nil_append]; omega
    · omega
    apply loop_stepA (k + 1, _, _, _, _)
    · exact .sub (by repeat (first | exact .slnil | apply List.Sublist.cons_cons | apply List.Sublist.cons))
    · repeat' (first | exact trivial | refine ⟨⟨_, rfl, by first | rfl | exact inc_eq _ (by omega) | (refine sl_eq ?_; simp; done), by first | exact trivial | simp [SV.ok]⟩, ?_⟩)
    · exact ⟨rfl, trivial⟩
    · try dsimp only
      exact ⟨by omega, by rw [nfas_step (by omega), ← ho, nfa_text], by assumption⟩
    · try dsimp only
      omega
  ·
    simp at q2
    (have hke : k = x.atoms.length := (by omega); subst hke; rw [List.take_length] at ho; subst ho; exact ⟨_, ⟨_, _, rfl, by assumption⟩, (.le fun a => by (try simp only [setR, List.cons_append, List.nil_append]); simp [List.count_cons, Blk.ent, idOf]; try omega)⟩)
/-! the automata of a right query are right -/
attribute [local irreducible] nfaOf queryM namesM
theorem go_bad {ps : List Piece} (hps : PsOk ps) (h : 1 ≤ ps.length) (hg : nfaGo ps = true) : badM (topL ps).1 = false := by
  cases hb : badM (topL ps).1 with
  | false => rfl
  | true => rw [top_bad hps h hb] at hg; cases hg
theorem nfaR_ok {x : Path} (h : (nfaR x).2 = true) : nfaOk (nfaR x).1 = true := by
  by_cases hc : pathOk x = true ∧ nfaGo x.pieces = true
  · rw [nfaR_yes hc.1 hc.2]
    obtain ⟨h1, _, h2⟩ := path_all hc.1
    obtain ⟨_, h3, h4, h5, h6, _⟩ := top_good h2 h1 (go_bad h2 h1 hc.2)
    show nfaOk (nfaOf x.pieces) = true
    rw [nfa_spec h6]
    exact nfa_spec_ok h3 h4 h5
  · unfold nfaR at h
    rw [if_neg hc] at h; cases h
theorem tnR_ok {t : ByteArray} (h : (tnR t).2 = true) : nfaOk (tnR t).1 = true := by
  unfold tnR at h ⊢
  split at h
  · rename_i h1; rw [if_pos h1]; exact nfaR_ok h
  · cases h
theorem q_atoms {x : Query} (h : queryM x = true) {k : Nat} (hk : k < x.atoms.length) : atomM (x.atoms[k]?.getD default) = true := by
  by_cases hq : queryP x
  · exact hq.2.1 k hk
  · rw [q_no hq] at h; cases h
theorem nfas_ok {x : Query} (h : queryM x = true) {k : Nat} (hk : k < x.atoms.length) : nfaOk ((nfasM x.atoms)[k]?.getD default) = true := by
  rw [nfas_at hk]
  have h1 := q_atoms h hk
  unfold atomM at h1
  rw [Bool.and_eq_true, Bool.and_eq_true] at h1
  exact tnR_ok h1.2.2
theorem nfa_ends {a : Nfa} (h : nfaOk a = true) : (a.ends.length : Int) = a.states ∧ 1 ≤ a.states ∧ a.states ≤ 24 := by
  unfold nfaOk at h
  rw [Bool.and_eq_true, Bool.and_eq_true, inR_iff, decide_eq_true_iff] at h
  exact ⟨h.2.1, h.1⟩
end Go.Proofs.YtjgehblllhkdbaaGreat

namespace Go.Proofs.YtjgehblllhkdbaaGreat
open Go.SX Go.Proofs
set_option linter.unusedSimpArgs false
set_option linter.unusedVariables false
set_option maxHeartbeats 4000000
attribute [local irreducible] IntKind.wrap namesM queryM nfaOf
/-- the walk ends at the atom's end -/
def takeW (a : Nfa) (at' : Int) (w : Walk) : Bool := decide (w.atom = at') && (inR 0 ((a.ends.length : Int) - 1) w.state && (a.ends[w.state.toNat]?.getD false))
def pickW (a : Nfa) (at' : Int) (ws : List Walk) : List (List Int) := (ws.filter (takeW a at')).map fun w => [w.src, w.at']
theorem pick_yes {a : Nfa} {at' : Int} {ws : List Walk} {k : Nat} (hk : k < ws.length) (h : takeW a at' (ws[k]?.getD default) = true) : pickW a at' (ws.take (k + 1)) = pickW a at' (ws.take k) ++ [[(ws[k]?.getD default).src, (ws[k]?.getD default).at']] := by
  rw [List.getElem?_eq_getElem hk] at *
  unfold pickW
  rw [← List.take_append_getElem hk, List.filter_append, List.map_append, List.filter_cons_of_pos (by exact h)]; rfl
theorem pick_no {a : Nfa} {at' : Int} {ws : List Walk} {k : Nat} (hk : k < ws.length) (h : takeW a at' (ws[k]?.getD default) = false) : pickW a at' (ws.take (k + 1)) = pickW a at' (ws.take k) := by
  rw [List.getElem?_eq_getElem hk] at h
  unfold pickW
  rw [← List.take_append_getElem hk, List.filter_append, List.filter_cons_of_neg (by show ¬ takeW a at' ws[k] = true; rw [show takeW a at' ws[k] = false from h]; decide)]; simp
theorem pick_len (a : Nfa) (at' : Int) (ws : List Walk) : (pickW a at' ws).length ≤ ws.length := by
  unfold pickW; rw [List.length_map]; exact List.length_filter_le ..
theorem tw_no1 {a : Nfa} {at' : Int} {w : Walk} (h : ¬ w.atom = at') : takeW a at' w = false := by unfold takeW; rw [decide_eq_false h]; rfl
theorem tw_no2 {a : Nfa} {at' : Int} {w : Walk} (h : ¬ (0 ≤ w.state ∧ w.state < (a.ends.length : Int))) : takeW a at' w = false := by
  have : inR 0 ((a.ends.length : Int) - 1) w.state = false := by
    cases h2 : inR 0 ((a.ends.length : Int) - 1) w.state with
    | false => rfl
    | true => have := inR_iff.1 h2; omega
  unfold takeW; rw [this]; simp
theorem tw_no3 {a : Nfa} {at' : Int} {w : Walk} (h : (a.ends[w.state.toNat]?.getD false) = false) : takeW a at' w = false := by unfold takeW; rw [h]; simp
theorem tw_yes {a : Nfa} {at' : Int} {w : Walk} (h : w.atom = at') (h1 : 0 ≤ w.state ∧ w.state < (a.ends.length : Int)) (h2 : (a.ends[w.state.toNat]?.getD false) = true) : takeW a at' w = true := by
  unfold takeW; rw [decide_eq_true h, inR_iff.2 (by omega), h2]; rfl
noncomputable def pairsM (x : Query) (ws : List Walk) (at' : Int) : List (List Int) :=
  if queryM x = true ∧ inR 0 ((x.atoms.length : Int) - 1) at' = true then rowsI (zK (pickW ((nfasM x.atoms)[at'.toNat]?.getD default) at' ws)) else []
theorem pairs_no1 {x : Query} {ws : List Walk} {at' : Int} (h : queryM x = false) : pairsM x ws at' = [] := if_neg fun e => by rw [h] at e; cases e.1
theorem pairs_no2 {x : Query} {ws : List Walk} {at' : Int} (h : inR 0 ((x.atoms.length : Int) - 1) at' = false) : pairsM x ws at' = [] := if_neg fun e => by rw [h] at e; cases e.2
theorem pairs_yes {x : Query} {ws : List Walk} {at' : Int} (h : queryM x = true) (h2 : inR 0 ((x.atoms.length : Int) - 1) at' = true) : pairsM x ws at' = rowsI (zK (pickW ((nfasM x.atoms)[at'.toNat]?.getD default) at' ws)) := if_pos ⟨h, h2⟩
theorem pairs_done {x : Query} {ws : List Walk} {at' : Int} {ps xs' xs : List (List Int)} (h : queryM x = true) (h2 : inR 0 ((x.atoms.length : Int) - 1) at' = true) (hp : ps = pickW ((nfasM x.atoms)[at'.toNat]?.getD default) at' ws) (hs : xs'.Perm ps) (hu : upL xs) (hm : ∀ r, r ∈ xs ↔ r ∈ xs') : xs = pairsM x ws at' := by
  rw [pairs_yes h h2]
  refine up_unique hu (sortedR_up (zK_inv _).1) fun r => ?_
  rw [hm, zK_mem, ← hp]; exact hs.mem_iff
theorem pairs_len (x : Query) (ws : List Walk) (at' : Int) : (pairsM x ws at').length ≤ ws.length := by
  unfold pairsM
  split
  · rw [rowsI_len]; exact Nat.le_trans (zK_len _) (pick_len _ _ _)
  · exact Nat.zero_le _
theorem isAtomV_ct (l : List Value) (q : Query) (i : Int) : Ct Tryz.prog 73 [.agg ⟨l⟩, .int .i64 i] [] (fun H => gQuery.rd H l q) (fun v A => v = .bool (inR 0 ((q.atoms.length : Int) - 1) i) ∧ A = []) := by
  refine Ct.intro0 G_ok Tryz.func73 rfl rfl rfl fun E H hp => ?_
  obtain ⟨b1p, c1p, b2p, c2p, b3p, c3p, rfl, h1p, h2p, h3p⟩ := gQuery_rd.1 hp
  refine VCnew.intro fun x0 => ?_
  refine VCsplit.intro (fun q1 => ?_) (fun q1 => ?_)
  ·
    simp at q1
    exact ⟨[], ⟨by unfold inR; rw [decide_eq_true (by omega : (0 : Int) ≤ i), Bool.true_and]; congr 1; rw [decide_eq_decide]; omega, rfl⟩, (.le fun a => by (try simp only [setR, List.cons_append, List.nil_append]); simp [List.count_cons, Blk.ent, idOf]; try omega)⟩
  ·
    simp at q1
    exact ⟨[], ⟨by unfold inR; rw [decide_eq_false (by omega : ¬ (0 : Int) ≤ i), Bool.false_and], rfl⟩, (.le fun a => by (try simp only [setR, List.cons_append, List.nil_append]); simp [List.count_cons, Blk.ent, idOf]; try omega)⟩
theorem litI2_ow {x : Nat} {T : TypeId} {a b : Int} (ha : okI a) (hb : okI b) : (gSl T gI).ow [.slice (some ⟨x, 0, none⟩) 2 2] [a, b] [(x, Obj.cells ⟨[.int .i64 a, .int .i64 b]⟩ T)] := by
  refine ow_fl (f := flInt) ⟨fun y hy => ?_, by simp, some ⟨x, 0, none⟩, 2, rfl, .inr ⟨x, [], rfl, rfl, Nat.le_refl _, Nat.zero_le _⟩⟩
  rcases List.mem_cons.1 hy with rfl | hy
  · exact ha
  · rw [List.mem_singleton.1 hy]; exact hb
theorem implPairsIn_ct (l : List Value) (b : Option Addr) (m c : Nat) (x : Query) (ws : List Walk) (at' : Int) (hx : gQuery.sz x ≤ 1048576) (hws : ws.length ≤ 1048576) :
    Ct Tryz.prog 95 [.agg ⟨l⟩, .slice b m c, .int .i64 at'] [] (fun H => gQuery.rd H l x ∧ (gSl 164 gWalk).rd H [.slice b m c] ws)
      (fun v A => ∃ b c, v = .slice b (pairsM x ws at').length c ∧ (gSl 27 (gSl 3 gI)).ow [.slice b (pairsM x ws at').length c] (pairsM x ws at') A) := by
  refine Ct.intro0 G_ok Tryz.func95 rfl rfl rfl fun E H hp => ?_
  obtain ⟨hp, hq⟩ := hp
  obtain ⟨rfl, hcl, hl⟩ := sl_len hq
  obtain ⟨b1p, c1p, b2p, c2p, b3p, c3p, rfl, h1p, h2p, h3p⟩ := gQuery_rd.1 hp
  have hal := atoms_len hx
  have hwA : IntKind.i64.wrap ((x.atoms.length : Int) - 1) = (x.atoms.length : Int) - 1 := wrap_of (by omega) (by omega)
  refine VCnew.intro fun x0 => ?_
  refine call_val (implQueryOk_ct _ (x) ?_) (Rp.mono _ (mem_at 0 rfl) hp) ?_
  · trivial
  rintro _ rfl
  refine VCsplit.intro (fun q2 => ?_) (fun q2 => ?_)
  ·
    simp at q2
    (rw [pairs_no1 (by assumption)]; exact ⟨[], ⟨_, _, rfl, sl_nil _ _ _⟩, (.le fun a => by (try simp only [setR, List.cons_append, List.nil_append]); simp [List.count_cons, Blk.ent, idOf]; try omega)⟩)
  ·
    simp at q2
    refine call_val (isAtomV_ct _ x _) (Rp.mono _ (mem_at 0 rfl) hp) ?_
    rintro _ rfl
    refine VCsplit.intro (fun q4 => ?_) (fun q4 => ?_)
    ·
      simp at q4
      (rw [pairs_no2 (by assumption)]; exact ⟨[], ⟨_, _, rfl, sl_nil _ _ _⟩, (.le fun a => by (try simp only [setR, List.cons_append, List.nil_append]); simp [List.count_cons, Blk.ent, idOf]; try omega)⟩)
    ·
      simp at q4
      have hai := inR_iff.1 ‹inR 0 _ at' = true›
      refine call_new (automataOf_ct _ (x) ?_) (Rp.mono _ (mem_at 0 rfl) hp) ?_
      · trivial
      rintro v5 A5 o5
      obtain ⟨b5, c5, rfl, o5⟩ := o5
      refine idx_rd (Gt.owrd _ o5) ?_ ?_ fun b6 o6 hb6 => ?_
      · omega
      · (rw [nfas_len]; omega)
      refine load_part default 2 (Gt.owrd _ o5) ?_ ?_ hb6 rfl (by decide) (mem_at 0 rfl) fun l7 hl7 => ?_
      · omega
      · (rw [nfas_len]; omega)
      obtain ⟨b1x7, c1x7, b2x7, c2x7, rfl, w0x7, h1x7, h2x7⟩ := gNfa_rd.1 hl7
      apply loop_mod (α := (Nat) × (List (List Int)) × (Hp) × (Option Addr) × (Nat)) G_ok [29, 30, 31, 10, 32, 33, 34, 35, 36, 37, 38, 39, 40, 41, 42, 43, 44, 45, 46, 47, 48, 49, 50, 51, 52, 53, 54, 55, 56, 57, 58, 59, 60, 61, 62, 8, 63, 28] (fun z => [(28, .v (.int .i64 z.1)), (8, .v (.slice z.2.2.2.1 z.2.1.length z.2.2.2.2))]) (fun z => [{ id := x0, cs := [Value.bool x.each, Value.slice b1p x.out.length c1p, Value.slice b2p x.atoms.length c2p, Value.slice b3p x.filters.length c3p], ty := (39 : Nat) }]) (fun z => [z.2.2.1, A5, H]) (fun z => ws.length - z.1) (fun z => z.1 ≤ ws.length ∧ z.2.1 = pickW ((nfasM x.atoms)[at'.toNat]?.getD default) at' (ws.take z.1) ∧ (gSl 27 (gSl 3 gI)).ow [.slice z.2.2.2.1 z.2.1.length z.2.2.2.2] z.2.1 z.2.2.1) ((0, [], [], none, 0))
      · repeat' (first | exact trivial | refine ⟨⟨_, rfl, by first | rfl | exact inc_eq _ (by omega) | (refine sl_eq ?_; simp; done), by first | exact trivial | simp [SV.ok]⟩, ?_⟩)
      · exact ⟨rfl, trivial⟩
      · try dsimp only
        exact ⟨Nat.zero_le _, rfl, sl_nil _ _ _⟩
      · exact .refl _
      rintro ⟨k, ps, D, lb, lc⟩ hI
      obtain ⟨hk, hps, oD⟩ : k ≤ ws.length ∧ ps = pickW ((nfasM x.atoms)[at'.toNat]?.getD default) at' (ws.take k) ∧ (gSl 27 (gSl 3 gI)).ow [.slice lb ps.length lc] ps D := hI
      try dsimp only
      refine VCsplit.intro (fun q8 => ?_) (fun q8 => ?_)
      ·
        simp at q8
        have hpl : ps.length ≤ ws.length := (by rw [hps]; exact Nat.le_trans (pick_len _ _ _) (by rw [List.length_take]; omega))
        refine idx_rd hq ?_ ?_ fun b9 o9 hb9 => ?_
        · omega
        · omega
        refine load_allN default (k) rfl hq ?_ ?_ hb9 rfl (mem_at 2 rfl) fun l10 hl10 => ?_
        · omega
        · omega
        obtain ⟨rfl, w0x10, w1x10, w2x10, w3x10⟩ := gWalk_rd.1 hl10
        refine VCnew.intro fun x11 => ?_
        refine VCsplit.intro (fun q12 => ?_) (fun q12 => ?_)
        ·
          simp at q12
          refine VCsplit.intro (fun q13 => ?_) (fun q13 => ?_)
          ·
            simp at q13
            refine VCsplit.intro (fun q14 => ?_) (fun q14 => ?_)
            ·
              simp at q14
              refine idx_rd h2x7 ?_ ?_ fun b15 o15 hb15 => ?_
              · trivial
              · trivial
              refine load_all false h2x7 ?_ ?_ hb15 rfl (mem_at 1 rfl) fun l16 hl16 => ?_
              · trivial
              · trivial
              obtain ⟨rfl, hw16⟩ := hl16
              refine VCsplit.intro (fun q17 => ?_) (fun q17 => ?_)
              ·
                refine VCnew.intro fun x18 => ?_
                refine VCnew.intro fun x19 => ?_
                refine gappend1 (g := (gSl 3 gI)) (T := (27 : TypeId)) G_ok D _ [A5, H] ?_ oD ((litI2_ow (a := (ws[k]?.getD default).src) (b := (ws[k]?.getD default).at') (by assumption) (by assumption))) (List.mem_of_getElem? (i := 0) rfl) rfl rfl rfl rfl rfl rfl rfl rfl ?_ fun b20 c20 A20 o20 => ?_
                · exact .le fun a => by simp [List.count_cons, List.count_append, Blk.ent, St.hall, setR, zeros, List.append]; omega
                · omega
                apply loop_stepA (k + 1, _, _, _, _)
                · exact .refl _
                · repeat' (first | exact trivial | refine ⟨⟨_, rfl, by first | rfl | exact inc_eq _ (by omega) | (refine sl_eq ?_; simp; done), by first | exact trivial | simp [SV.ok]⟩, ?_⟩)
                · exact ⟨rfl, trivial⟩
                · try dsimp only
                  exact ⟨by omega, by rw [pick_yes (by omega) (tw_yes (by assumption) (by omega) (by assumption)), hps], by assumption⟩
                · try dsimp only
                  omega
              ·
                apply loop_stepA (k + 1, _, _, _, _)
                · exact .refl _
                · repeat' (first | exact trivial | refine ⟨⟨_, rfl, by first | rfl | exact inc_eq _ (by omega) | (refine sl_eq ?_; simp; done), by first | exact trivial | simp [SV.ok]⟩, ?_⟩)
                · exact ⟨rfl, trivial⟩
                · try dsimp only
                  exact ⟨by omega, by rw [pick_no (by omega) (tw_no3 (by assumption))]; exact hps, by assumption⟩
                · try dsimp only
                  omega
            ·
              simp at q14
              apply loop_stepA (k + 1, _, _, _, _)
              · exact .refl _
              · repeat' (first | exact trivial | refine ⟨⟨_, rfl, by first | rfl | exact inc_eq _ (by omega) | (refine sl_eq ?_; simp; done), by first | exact trivial | simp [SV.ok]⟩, ?_⟩)
              · exact ⟨rfl, trivial⟩
              · try dsimp only
                exact ⟨by omega, by rw [pick_no (by omega) (tw_no2 (by omega))]; exact hps, by assumption⟩
              · try dsimp only
                omega
          ·
            simp at q13
            apply loop_stepA (k + 1, _, _, _, _)
            · exact .refl _
            · repeat' (first | exact trivial | refine ⟨⟨_, rfl, by first | rfl | exact inc_eq _ (by omega) | (refine sl_eq ?_; simp; done), by first | exact trivial | simp [SV.ok]⟩, ?_⟩)
            · exact ⟨rfl, trivial⟩
            · try dsimp only
              exact ⟨by omega, by rw [pick_no (by omega) (tw_no2 (by omega))]; exact hps, by assumption⟩
            · try dsimp only
              omega
        ·
          simp at q12
          apply loop_stepA (k + 1, _, _, _, _)
          · exact .refl _
          · repeat' (first | exact trivial | refine ⟨⟨_, rfl, by first | rfl | exact inc_eq _ (by omega) | (refine sl_eq ?_; simp; done), by first | exact trivial | simp [SV.ok]⟩, ?_⟩)
          · exact ⟨rfl, trivial⟩
          · try dsimp only
            exact ⟨by omega, by rw [pick_no (by omega) (tw_no1 (by assumption))]; exact hps, by assumption⟩
          · try dsimp only
            omega
      ·
        simp at q8
        have hke : k = ws.length := (by omega)
        subst hke
        rw [List.take_length] at hps
        have hpl : ps.length ≤ ws.length := (by rw [hps]; exact pick_len _ _ _)
        refine callR_part (D) [A5, H] (sortPairs_ct _ _ _ _ oD ?_) ?_ trivial ?_
        · omega
        · exact .refl _
        rintro _ AS ⟨rfl, xs1, hp1, hs1, oS⟩
        have hl1 := hp1.length_eq
        rw [hl1] at oS
        refine ⟨[AS], by simp, ?_⟩
        refine callR_part (AS) [A5, H] (compactPairs_ct _ _ _ _ oS ?_ hs1) ?_ trivial ?_
        · omega
        · exact .refl _
        rintro _ AC ⟨xs2, rfl, hu2, hm2, oC⟩
        refine ⟨[AC], by simp, ?_⟩
        have hc2 := rd_cap (Gt.owrd _ oC)
        refine call_val (clipPairs_ct _ _ _ ?_) trivial ?_
        · trivial
        rintro _ rfl
        (have he := pairs_done (ws := ws) (by assumption) (by assumption) hps hp1 hu2 hm2; subst he; exact ⟨_, ⟨_, _, rfl, clip_ow oC⟩, (.le fun a => by (try simp only [setR, List.cons_append, List.nil_append]); simp [List.count_cons, Blk.ent, idOf]; try omega)⟩)
end Go.Proofs.YtjgehblllhkdbaaGreat

namespace Go.Proofs.YtjgehblllhkdbaaGreat
open Go.SX Go.Proofs
set_option linter.unusedSimpArgs false
set_option linter.unusedVariables false
set_option maxHeartbeats 4000000
attribute [local irreducible] IntKind.wrap namesM queryM nfaOf
theorem tw_no4 {a : Nfa} {at' : Int} {w : Walk} (hN : (a.ends.length : Int) = a.states) (h : inR 0 (a.states - 1) w.state = false) : takeW a at' w = false := by unfold takeW; rw [hN, h]; simp
theorem tw_yes5 {a : Nfa} {at' : Int} {w : Walk} (hN : (a.ends.length : Int) = a.states) (h : w.atom = at') (h1 : inR 0 (a.states - 1) w.state = true) (h2 : (a.ends[w.state.toNat]?.getD false) = true) : takeW a at' w = true := by
  unfold takeW; rw [decide_eq_true h, hN, h1, h2]; rfl
theorem zp_no {a : Nfa} {at' : Int} {ws : List Walk} {k : Nat} {xs : List Item} (hk : k < ws.length) (h : takeW a at' (ws[k]?.getD default) = false) (hx : xs = zK (pickW a at' (ws.take k))) : xs = zK (pickW a at' (ws.take (k + 1))) := by rw [pick_no hk h]; exact hx
theorem zp_yes {a : Nfa} {at' : Int} {ws : List Walk} {k : Nat} {xs : List Item} (hk : k < ws.length) (h : takeW a at' (ws[k]?.getD default) = true) (hx : xs = zK (pickW a at' (ws.take k))) : putZ xs [(ws[k]?.getD default).src, (ws[k]?.getD default).at'] 1 (plR xs [(ws[k]?.getD default).src, (ws[k]?.getD default).at']) = zK (pickW a at' (ws.take (k + 1))) := by
  rw [pick_yes hk h, zK_snoc, ← hx]; rfl
abbrev gR1 : Gt (RawC gIL.size) := gRaw gIL.size gIL.pos
theorem raw_app1 {l : List Value} (h : l.length = gIL.size ∧ allOne l = true) : gR1.ow l ⟨l, h⟩ [] := ⟨rfl, trivial, rfl⟩
def rawR (ls : List (RawC gItem.size)) : List (RawC gIL.size) := ls.map fun c => ⟨[c.1[0]?.getD (Value.bool false)], rfl, by
  have h := c.2
  obtain ⟨l, h1, h2⟩ := c
  match l, h1 with
  | [x, y], _ =>
    show allOne [x] = true
    cases x <;> simp_all [allOne]⟩
theorem rawR_len (ls : List (RawC gItem.size)) : (rawR ls).length = ls.length := by unfold rawR; exact List.length_map ..
theorem rawR_at {ls : List (RawC gItem.size)} {i : Nat} (hi : i < ls.length) {u : Value} {t : Value} (e : (ls[i]'hi).1 = [u, t]) (h : [u].length = gIL.size ∧ allOne [u] = true) : (rawR ls)[i]? = some ⟨[u], h⟩ := by
  unfold rawR
  rw [List.getElem?_map, List.getElem?_eq_getElem hi, Option.map_some]
  congr 1
  apply Subtype.ext
  show [((ls[i]'hi).1)[0]?.getD (Value.bool false)] = [u]
  rw [e]; rfl
theorem zrow_at {ls : List (RawC gItem.size)} {xs : List Item} {As : List Hp} (hL : OwL gItem ls xs As) (i : Nat) (hi : i < xs.length) : ∃ u w, ((ls.zip xs)[i]?.getD default).1.1 = [.slice u (xs[i]?.getD default).row.length w, .int .i64 (xs[i]?.getD default).times] ∧ (rawR ls)[i]? = some ⟨[.slice u (xs[i]?.getD default).row.length w], rfl, rfl⟩ := by
  obtain ⟨e1, e2⟩ := hL.len
  have hg := hL.get i hi (by omega) (by omega)
  obtain ⟨u, w, A0, h1, _, _⟩ := gItem_ow.1 hg
  refine ⟨u, w, ?_, ?_⟩
  · rw [zip_at2 e1 i hi, List.getElem?_eq_getElem hi]; exact h1
  · rw [List.getElem?_eq_getElem hi]; exact rawR_at (by omega) h1 _
theorem raw_step {ls : List (RawC gItem.size)} {i : Nat} {r : RawC gIL.size} (h : (rawR ls)[i]? = some r) : (rawR ls).take (i + 1) = (rawR ls).take i ++ [r] := by
  obtain ⟨hi, e⟩ := List.getElem?_eq_some_iff.1 h
  rw [← List.take_append_getElem hi, e]
theorem rows_ow {ls : List (RawC gItem.size)} {xs : List Item} {As : List Hp} (h : OwL gItem ls xs As) : OwL gIL (rawR ls) (rowsI xs) As := by
  induction h with
  | nil => exact .nil
  | cons h hr ih =>
    obtain ⟨u, w, A0, h1, h2, h3, _⟩ := gItem_ow.1 h
    refine .cons ?_ ih
    show gIL.ow [(_)[0]?.getD (Value.bool false)] _ _
    rw [h1]
    exact gIL.owp h3 h2
open Classical in
theorem rle_items {X D A A7 Y H A0 Z : Hp} (hp : A.Perm (A0 ++ Z)) : RLe [X, D, A, A7, Y, H] [D ++ Z, H] := .le fun a => by
  have h9 := hp.count_eq a
  simp only [List.flatten_cons, List.flatten_nil, List.count_append, List.append_nil] at *
  omega
attribute [local irreducible] putZ rawR
theorem specPairsIn_ct (l : List Value) (b : Option Addr) (m c : Nat) (x : Query) (ws : List Walk) (at' : Int) (hx : gQuery.sz x ≤ 1048576) (hws : ws.length ≤ 1048576) :
    Ct Tryz.prog 92 [.agg ⟨l⟩, .slice b m c, .int .i64 at'] [] (fun H => gQuery.rd H l x ∧ (gSl 164 gWalk).rd H [.slice b m c] ws)
      (fun v A => ∃ b c, v = .slice b (pairsM x ws at').length c ∧ (gSl 27 (gSl 3 gI)).ow [.slice b (pairsM x ws at').length c] (pairsM x ws at') A) := by
  refine Ct.intro0 G_ok Tryz.func92 rfl rfl rfl fun E H hp => ?_
  obtain ⟨hp, hq⟩ := hp
  obtain ⟨rfl, hcl, hl⟩ := sl_len hq
  obtain ⟨b1p, c1p, b2p, c2p, b3p, c3p, rfl, h1p, h2p, h3p⟩ := gQuery_rd.1 hp
  have hal := atoms_len hx
  have hwA : IntKind.i64.wrap ((x.atoms.length : Int) - 1) = (x.atoms.length : Int) - 1 := wrap_of (by omega) (by omega)
  refine VCnew.intro fun x0 => ?_
  refine VCnew.intro fun x1 => ?_
  refine VCnew.intro fun x2 => ?_
  refine call_val (specQueryOk_ct _ (x) ?_) (Rp.mono _ (mem_at 1 rfl) hp) ?_
  · trivial
  rintro _ rfl
  refine VCsplit.intro (fun q4 => ?_) (fun q4 => ?_)
  ·
    simp at q4
    (rw [pairs_no1 (by assumption)]; exact ⟨[], ⟨_, _, rfl, sl_nil _ _ _⟩, (.le fun a => by (try simp only [setR, List.cons_append, List.nil_append]); simp [List.count_cons, Blk.ent, idOf]; try omega)⟩)
  ·
    simp at q4
    refine call_val (l01In_ct _ _ _) trivial ?_
    rintro _ rfl
    refine VCsplit.intro (fun q6 => ?_) (fun q6 => ?_)
    ·
      simp at q6
      simp (disch := omega) only [wrap_of] at q6
      (rw [pairs_no2 (by assumption)]; exact ⟨[], ⟨_, _, rfl, sl_nil _ _ _⟩, (.le fun a => by (try simp only [setR, List.cons_append, List.nil_append]); simp [List.count_cons, Blk.ent, idOf]; try omega)⟩)
    ·
      simp at q6
      simp (disch := omega) only [wrap_of] at q6
      have hai := inR_iff.1 ‹inR 0 _ at' = true›
      obtain ⟨hNe, hN1, hN2⟩ := nfa_ends (nfas_ok ‹queryM x = true› (k := at'.toNat) (by omega))
      have hwS : IntKind.i64.wrap (((nfasM x.atoms)[at'.toNat]?.getD default).states - 1) = ((nfasM x.atoms)[at'.toNat]?.getD default).states - 1 := wrap_of (by omega) (by omega)
      refine call_new (l20Nfas_ct _ (x) ?_) (Rp.mono _ (mem_at 1 rfl) hp) ?_
      · trivial
      rintro v7 A7 o7
      obtain ⟨b7, c7, rfl, o7⟩ := o7
      refine idx_rd (Gt.owrd _ o7) ?_ ?_ fun b8 o8 hb8 => ?_
      · omega
      · (rw [nfas_len]; omega)
      refine load_all default (Gt.owrd _ o7) ?_ ?_ hb8 rfl (mem_at 0 rfl) fun l9 hl9 => ?_
      · omega
      · (rw [nfas_len]; omega)
      obtain ⟨b1x9, c1x9, b2x9, c2x9, rfl, w0x9, h1x9, h2x9⟩ := gNfa_rd.1 hl9
      refine VCnew.intro fun x10 => ?_
      apply loop_mod (α := (Nat) × (List Item) × (Hp) × (Option Addr) × (Nat)) G_ok [33, 34, 35, 36, 39, 40, 41, 42, 11, 43, 44, 45, 46, 47, 48, 49, 50, 51, 52, 53, 54, 55, 56, 57, 58, 59, 60, 61, 62, 63, 64, 65, 66, 67, 68, 69, 37, 38, 10] (fun z => [(10, .v (.int .i64 z.1))]) (fun z => [⟨x0, [Value.bool x.each, Value.slice b1p x.out.length c1p, Value.slice b2p x.atoms.length c2p, Value.slice b3p x.filters.length c3p], (39 : Nat)⟩, ⟨x1, [.slice z.2.2.2.1 z.2.1.length z.2.2.2.2], (33 : Nat)⟩, ⟨x10, [Value.int IntKind.i64 ((nfasM x.atoms)[at'.toNat]?.getD default).states, Value.slice b1x9 ((nfasM x.atoms)[at'.toNat]?.getD default).arcs.length c1x9, Value.slice b2x9 ((nfasM x.atoms)[at'.toNat]?.getD default).ends.length c2x9], (169 : Nat)⟩]) (fun z => [z.2.2.1, A7, [(x2, Obj.cells { toList := zeros (0 : Nat) [Value.slice none (0 : Nat) (0 : Nat)] } (27 : TypeId))], H]) (fun z => ws.length - z.1) (fun z => z.1 ≤ ws.length ∧ z.2.1 = zK (pickW ((nfasM x.atoms)[at'.toNat]?.getD default) at' (ws.take z.1)) ∧ (gSl 218 gItem).ow [.slice z.2.2.2.1 z.2.1.length z.2.2.2.2] z.2.1 z.2.2.1) ((0, [], [], none, 0))
      · repeat' (first | exact trivial | refine ⟨⟨_, rfl, by first | rfl | exact inc_eq _ (by omega) | (refine sl_eq ?_; simp; done) | exact sl_eq (by rw [raw_step hri, List.length_append, List.length_append]; rfl), by first | exact trivial | simp [SV.ok]⟩, ?_⟩)
      · exact ⟨rfl, rfl, rfl, trivial⟩
      · try dsimp only
        exact ⟨Nat.zero_le _, rfl, sl_nil _ _ _⟩
      · exact .refl _
      rintro ⟨k, xs, A, lb, lc⟩ hI
      obtain ⟨hk, hxs, oA⟩ : k ≤ ws.length ∧ xs = zK (pickW ((nfasM x.atoms)[at'.toNat]?.getD default) at' (ws.take k)) ∧ (gSl 218 gItem).ow [.slice lb xs.length lc] xs A := hI
      try dsimp only
      refine VCsplit.intro (fun q11 => ?_) (fun q11 => ?_)
      ·
        simp at q11
        have hxl : xs.length ≤ ws.length := (by rw [hxs]; exact Nat.le_trans (zK_len _) (Nat.le_trans (pick_len _ _ _) (by rw [List.length_take]; omega)))
        have hxi : InvT xs := hxs ▸ zK_inv _
        refine idx_rd hq ?_ ?_ fun b12 o12 hb12 => ?_
        · omega
        · omega
        refine load_allN default (k) rfl hq ?_ ?_ hb12 rfl (mem_at 3 rfl) fun l13 hl13 => ?_
        · omega
        · omega
        obtain ⟨rfl, w0x13, w1x13, w2x13, w3x13⟩ := gWalk_rd.1 hl13
        refine VCnew.intro fun x14 => ?_
        refine VCsplit.intro (fun q15 => ?_) (fun q15 => ?_)
        ·
          simp at q15
          refine call_val (l01In_ct _ _ _) trivial ?_
          rintro _ rfl
          refine VCsplit.intro (fun q17 => ?_) (fun q17 => ?_)
          ·
            simp (disch := omega) only [wrap_of] at q17
            refine idx_rd h2x9 ?_ ?_ fun b18 o18 hb18 => ?_
            · (have h9 := inR_iff.1 ‹inR 0 _ (ws[k]?.getD default).state = true›; omega)
            · (have h9 := inR_iff.1 ‹inR 0 _ (ws[k]?.getD default).state = true›; omega)
            refine load_all false h2x9 ?_ ?_ hb18 rfl (mem_at 1 rfl) fun l19 hl19 => ?_
            · (have h9 := inR_iff.1 ‹inR 0 _ (ws[k]?.getD default).state = true›; omega)
            · (have h9 := inR_iff.1 ‹inR 0 _ (ws[k]?.getD default).state = true›; omega)
            obtain ⟨rfl, hw19⟩ := hl19
            refine VCsplit.intro (fun q20 => ?_) (fun q20 => ?_)
            ·
              refine VCnew.intro fun x21 => ?_
              refine callR_part (A) [[(x21, Obj.cells { toList := Value.int IntKind.i64 (ws[k]?.getD default).src :: Value.int IntKind.i64 (ws[k]?.getD default).at' :: [].append (zeros (nat_lit 0) [Value.int IntKind.i64 (0 : Int)]) } (3 : TypeId))], A7, [(x2, Obj.cells { toList := zeros (0 : Nat) [Value.slice none (0 : Nat) (0 : Nat)] } (27 : TypeId))], H] (l03Put_ct _ _ _ _ _ _ xs _ [(ws[k]?.getD default).src, (ws[k]?.getD default).at'] 1 (plR xs [(ws[k]?.getD default).src, (ws[k]?.getD default).at']) oA ?_ ?_ ?_ ?_ ?_) ?_ (Rp.mono _ (mem_at 0 rfl) (Ow.rd (Ow.lit (f := flInt) (T := (3 : TypeId)) (b := x21) (xs := [(ws[k]?.getD default).src, (ws[k]?.getD default).at']) (by first | (simp [flInt, okI]; done) | (simp only [List.forall_mem_cons]; simp_all [flInt, okI])) (by simp)))) ?_
              · omega
              · simp_all
              · trivial
              · exact hxi.2
              · exact plR_at hxi.1
              · exact .le fun a => by (try simp only [setR, List.cons_append, List.nil_append]); simp only [List.flatten_append, List.flatten_cons, List.flatten_nil, List.count_append, List.count_nil, List.append_nil, List.nil_append]; omega
              rintro _ A22 ⟨b22, c22, rfl, o22⟩
              refine ⟨[A22], by simp, ?_⟩
              apply loop_stepA (k + 1, _, _, _, _)
              · exact .sub (by repeat (first | exact .slnil | apply List.Sublist.cons_cons | apply List.Sublist.cons))
              · repeat' (first | exact trivial | refine ⟨⟨_, rfl, by first | rfl | exact inc_eq _ (by omega) | (refine sl_eq ?_; simp; done) | exact sl_eq (by rw [raw_step hri, List.length_append, List.length_append]; rfl), by first | exact trivial | simp [SV.ok]⟩, ?_⟩)
              · exact ⟨rfl, rfl, rfl, trivial⟩
              · try dsimp only
                exact ⟨by omega, zp_yes (by omega) (tw_yes5 hNe (by assumption) (by assumption) (by assumption)) hxs, by assumption⟩
              · try dsimp only
                omega
            ·
              apply loop_stepA (k + 1, xs, A, lb, lc)
              · exact .refl _
              · repeat' (first | exact trivial | refine ⟨⟨_, rfl, by first | rfl | exact inc_eq _ (by omega) | (refine sl_eq ?_; simp; done) | exact sl_eq (by rw [raw_step hri, List.length_append, List.length_append]; rfl), by first | exact trivial | simp [SV.ok]⟩, ?_⟩)
              · exact ⟨rfl, rfl, rfl, trivial⟩
              · try dsimp only
                exact ⟨by omega, zp_no (by omega) (tw_no3 (by assumption)) hxs, oA⟩
              · try dsimp only
                omega
          ·
            simp (disch := omega) only [wrap_of] at q17
            apply loop_stepA (k + 1, xs, A, lb, lc)
            · exact .refl _
            · repeat' (first | exact trivial | refine ⟨⟨_, rfl, by first | rfl | exact inc_eq _ (by omega) | (refine sl_eq ?_; simp; done) | exact sl_eq (by rw [raw_step hri, List.length_append, List.length_append]; rfl), by first | exact trivial | simp [SV.ok]⟩, ?_⟩)
            · exact ⟨rfl, rfl, rfl, trivial⟩
            · try dsimp only
              exact ⟨by omega, zp_no (by omega) (tw_no4 hNe (by assumption)) hxs, oA⟩
            · try dsimp only
              omega
        ·
          simp at q15
          apply loop_stepA (k + 1, xs, A, lb, lc)
          · exact .refl _
          · repeat' (first | exact trivial | refine ⟨⟨_, rfl, by first | rfl | exact inc_eq _ (by omega) | (refine sl_eq ?_; simp; done) | exact sl_eq (by rw [raw_step hri, List.length_append, List.length_append]; rfl), by first | exact trivial | simp [SV.ok]⟩, ?_⟩)
          · exact ⟨rfl, rfl, rfl, trivial⟩
          · try dsimp only
            exact ⟨by omega, zp_no (by omega) (tw_no1 (by assumption)) hxs, oA⟩
          · try dsimp only
            omega
      ·
        simp at q11
        have hke : k = ws.length := (by omega)
        subst hke
        rw [List.take_length] at hxs
        have hxl : xs.length ≤ ws.length := (by rw [hxs]; exact Nat.le_trans (zK_len _) (pick_len _ _ _))
        obtain ⟨v9, ls, A0, As, ev9, hoB, hpB, hLB⟩ := oA
        cases ev9
        have rz := zip_rd hoB hpB hLB
        have hls := hLB.len
        apply loop_mod (α := (Nat) × (Hp) × (Option Addr) × (Nat)) G_ok [70, 71, 72, 73, 74, 77, 78, 79, 80, 81, 82, 83, 84, 85, 8, 75, 76, 12] (fun z => [(12, .v (.int .i64 z.1)), (8, .v (.slice z.2.2.1 ((rawR ls).take z.1).length z.2.2.2))]) (fun z => [{ id := x0, cs := [Value.bool x.each, Value.slice b1p x.out.length c1p, Value.slice b2p x.atoms.length c2p, Value.slice b3p x.filters.length c3p], ty := (39 : Nat) }, { id := x1, cs := [Value.slice lb xs.length lc], ty := (33 : Nat) }, { id := x10, cs := [Value.int IntKind.i64 ((nfasM x.atoms)[at'.toNat]?.getD default).states, Value.slice b1x9 ((nfasM x.atoms)[at'.toNat]?.getD default).arcs.length c1x9, Value.slice b2x9 ((nfasM x.atoms)[at'.toNat]?.getD default).ends.length c2x9], ty := (169 : Nat) }]) (fun z => [z.2.1, A, A7, [(x2, Obj.cells { toList := zeros (0 : Nat) [Value.slice none (0 : Nat) (0 : Nat)] } (27 : TypeId))], H]) (fun z => xs.length - z.1) (fun z => z.1 ≤ xs.length ∧ (gSl 27 gR1).ow [.slice z.2.2.1 ((rawR ls).take z.1).length z.2.2.2] ((rawR ls).take z.1) z.2.1) ((0, [], _, 0))
        · repeat' (first | exact trivial | refine ⟨⟨_, rfl, by first | rfl | exact inc_eq _ (by omega) | (refine sl_eq ?_; simp; done) | exact sl_eq (by rw [raw_step hri, List.length_append, List.length_append]; rfl), by first | exact trivial | simp [SV.ok]⟩, ?_⟩)
        · exact ⟨rfl, rfl, rfl, trivial⟩
        · try dsimp only
          exact ⟨Nat.zero_le _, sl_nil _ _ _⟩
        · exact .refl _
        rintro ⟨i, D, lo, co⟩ hI
        obtain ⟨hi, oD⟩ : i ≤ xs.length ∧ (gSl 27 gR1).ow [.slice lo ((rawR ls).take i).length co] ((rawR ls).take i) D := hI
        try dsimp only
        refine VCsplit.intro (fun q23 => ?_) (fun q23 => ?_)
        ·
          simp at q23
          obtain ⟨ur, wr, hzi, hri⟩ := zrow_at hLB i (by omega)
          refine idx_rd rz ?_ ?_ fun b24 o24 hb24 => ?_
          · omega
          · simp; omega
          refine load_partN default (i) 0 rfl rz ?_ ?_ hb24 rfl (by decide) (mem_at 1 rfl) fun l25 hl25 => ?_
          · omega
          · simp; omega
          (obtain ⟨e25, _⟩ := hl25; rw [e25, hzi])
          refine VCnew.intro fun x26 => ?_
          refine gappend1 (g := gR1) (T := (27 : TypeId)) G_ok D [] [A, A7, [(x2, Obj.cells { toList := zeros (0 : Nat) [Value.slice none (0 : Nat) (0 : Nat)] } (27 : TypeId))], H] ?_ oD (raw_app1 ⟨rfl, rfl⟩) (List.mem_of_getElem? (i := 0) rfl) rfl rfl rfl rfl rfl rfl rfl rfl ?_ fun b27 c27 A27 o27 => ?_
          · exact .tl
          · simp; omega
          apply loop_stepA (i + 1, _, _, _)
          · exact .refl _
          · repeat' (first | exact trivial | refine ⟨⟨_, rfl, by first | rfl | exact inc_eq _ (by omega) | (refine sl_eq ?_; simp; done) | exact sl_eq (by rw [raw_step hri, List.length_append, List.length_append]; rfl), by first | exact trivial | simp [SV.ok]⟩, ?_⟩)
          · exact ⟨rfl, rfl, rfl, trivial⟩
          · try dsimp only
            exact ⟨by omega, by rw [raw_step hri]; assumption⟩
          · try dsimp only
            omega
        ·
          simp at q23
          (have hie : i = xs.length := (by omega); subst hie; have hrl : (rawR ls).take xs.length = rawR ls := List.take_of_length_le (by rw [rawR_len]; omega); rw [hrl] at oD ⊢; rw [pairs_yes (by assumption) (by assumption), ← hxs]; have hln : (rawR ls).length = (rowsI xs).length := (by rw [rawR_len, rowsI_len]; omega); rw [hln] at oD ⊢; exact ⟨D ++ As.flatten, ⟨_, _, rfl, ⟨_, rawR ls, D, As, rfl, fl_ow oD, .refl _, rows_ow hLB⟩⟩, rle_items hpB⟩)
end Go.Proofs.YtjgehblllhkdbaaGreat

namespace Go.Proofs.YtjgehblllhkdbaaGreat
open Go.SX Go.Proofs
set_option linter.unusedSimpArgs false
set_option linter.unusedVariables false
set_option maxHeartbeats 4000000
attribute [local irreducible] IntKind.wrap pairsM
noncomputable def wpM (w : Work) (a : Int) : List (List Int) := if w.begun = true then pairsM w.query w.seen a else []
theorem wp_no {w : Work} {a : Int} (h : w.begun = false) : wpM w a = [] := if_neg (by rw [h]; decide)
theorem wp_yes {w : Work} {a : Int} (h : w.begun = true) : wpM w a = pairsM w.query w.seen a := if_pos h
theorem wp_len (w : Work) (a : Int) : (wpM w a).length ≤ w.seen.length := by
  unfold wpM
  split
  · exact pairs_len _ _ _
  · exact Nat.zero_le _
theorem work_q {w : Work} (h : gWork.sz w ≤ 1048576) : gQuery.sz w.query ≤ 1048576 ∧ w.seen.length ≤ 1048576 := by
  have h1 := gWork_sz w
  have h2 := len_szL gWalk w.seen
  omega
--@ct impl.WorkPairs new implWorkPairs_ct _ $1 _ ?_ | %1 | obtain ⟨b#, c#, rfl, o#⟩ := o#
theorem implWorkPairs_ct (l : List Value) (x : Work) (a : Int) (hx : gWork.sz x ≤ 1048576) :
    Ct Tryz.prog 28 [.agg ⟨l⟩, .int .i64 a] [] (fun H => gWork.rd H l x) (fun v A => ∃ b c, v = .slice b (wpM x a).length c ∧ (gSl 27 (gSl 3 gI)).ow [.slice b (wpM x a).length c] (wpM x a) A) := by
  refine Ct.intro0 G_ok Tryz.func28 rfl rfl rfl fun E H hp => ?_
  obtain ⟨hz1, hz2⟩ := work_q hx
  obtain ⟨l1p, b2p, c2p, b4p, c4p, l11p, b13p, c13p, rfl, h1p, h2p, w3p, h4p, w5p, w8p, h11p, h13p⟩ := gWork_rd.1 hp
  obtain ⟨b1_1p, c1_1p, b2_1p, c2_1p, b3_1p, c3_1p, rfl, h1_1p, h2_1p, h3_1p⟩ := gQuery_rd.1 h1p
  obtain ⟨l0_11p, b1_11p, c1_11p, b4_11p, c4_11p, rfl, h0_11p, h1_11p, w2_11p, w3_11p, h4_11p⟩ := gCell_rd.1 h11p
  obtain ⟨b1_0_11p, c1_0_11p, b2_0_11p, c2_0_11p, b3_0_11p, c3_0_11p, rfl, h1_0_11p, h2_0_11p, h3_0_11p⟩ := gQuery_rd.1 h0_11p
  refine VCnew.intro fun x0 => ?_
  refine VCsplit.intro (fun q1 => ?_) (fun q1 => ?_)
  ·
    simp at q1
    (rw [wp_no (by assumption)]; exact ⟨[], ⟨_, _, rfl, sl_nil _ _ _⟩, (.le fun a => by (try simp only [setR, List.cons_append, List.nil_append]); simp [List.count_cons, Blk.ent, idOf]; try omega)⟩)
  ·
    simp at q1
    refine call_new (implPairsIn_ct _ _ _ _ x.query x.seen _ ?_ ?_) ⟨(Rp.mono _ (mem_at 0 rfl) h1p), (Rp.mono _ (mem_at 0 rfl) h4p)⟩ ?_
    · trivial
    · trivial
    rintro v2 A2 o2
    obtain ⟨bP, cP, rfl, oP⟩ := o2
    (rw [wp_yes (by assumption)]; exact ⟨_, ⟨_, _, rfl, oP⟩, (.le fun a => by (try simp only [setR, List.cons_append, List.nil_append]); simp [List.count_cons, Blk.ent, idOf]; try omega)⟩)
--@ct spec.WorkPairs new specWorkPairs_ct _ $1 _ ?_ | %1 | obtain ⟨b#, c#, rfl, o#⟩ := o#
theorem specWorkPairs_ct (l : List Value) (x : Work) (a : Int) (hx : gWork.sz x ≤ 1048576) :
    Ct Tryz.prog 26 [.agg ⟨l⟩, .int .i64 a] [] (fun H => gWork.rd H l x) (fun v A => ∃ b c, v = .slice b (wpM x a).length c ∧ (gSl 27 (gSl 3 gI)).ow [.slice b (wpM x a).length c] (wpM x a) A) := by
  refine Ct.intro0 G_ok Tryz.func26 rfl rfl rfl fun E H hp => ?_
  obtain ⟨hz1, hz2⟩ := work_q hx
  obtain ⟨l1p, b2p, c2p, b4p, c4p, l11p, b13p, c13p, rfl, h1p, h2p, w3p, h4p, w5p, w8p, h11p, h13p⟩ := gWork_rd.1 hp
  obtain ⟨b1_1p, c1_1p, b2_1p, c2_1p, b3_1p, c3_1p, rfl, h1_1p, h2_1p, h3_1p⟩ := gQuery_rd.1 h1p
  obtain ⟨l0_11p, b1_11p, c1_11p, b4_11p, c4_11p, rfl, h0_11p, h1_11p, w2_11p, w3_11p, h4_11p⟩ := gCell_rd.1 h11p
  obtain ⟨b1_0_11p, c1_0_11p, b2_0_11p, c2_0_11p, b3_0_11p, c3_0_11p, rfl, h1_0_11p, h2_0_11p, h3_0_11p⟩ := gQuery_rd.1 h0_11p
  refine VCnew.intro fun x0 => ?_
  refine VCsplit.intro (fun q1 => ?_) (fun q1 => ?_)
  ·
    simp at q1
    refine VCnew.intro fun x2 => ?_
    (rw [wp_no (by assumption)]; exact ⟨[], ⟨_, _, rfl, sl_nil _ _ _⟩, (.le fun a => by (try simp only [setR, List.cons_append, List.nil_append]); simp [List.count_cons, Blk.ent, idOf]; try omega)⟩)
  ·
    simp at q1
    refine call_new (specPairsIn_ct _ _ _ _ x.query x.seen _ ?_ ?_) ⟨(Rp.mono _ (mem_at 0 rfl) h1p), (Rp.mono _ (mem_at 0 rfl) h4p)⟩ ?_
    · trivial
    · trivial
    rintro v3 A3 o3
    obtain ⟨bP, cP, rfl, oP⟩ := o3
    (rw [wp_yes (by assumption)]; exact ⟨_, ⟨_, _, rfl, oP⟩, (.le fun a => by (try simp only [setR, List.cons_append, List.nil_append]); simp [List.count_cons, Blk.ent, idOf]; try omega)⟩)
end Go.Proofs.YtjgehblllhkdbaaGreat

namespace Go.Proofs.YtjgehblllhkdbaaGreat
open Go.SX Go.Proofs
set_option maxHeartbeats 4000000
set_option linter.unusedSimpArgs false
set_option linter.unusedVariables false
theorem dgs_size : ∀ (f k : Nat) (out : ByteArray), (dgs f k out).size ≤ f + out.size
  | 0, k, out => by simp [dgs]
  | f + 1, k, out => by
    unfold dgs
    split
    · omega
    · have := dgs_size f (k / 10) (⟨#[UInt8.ofNat (48 + k % 10)]⟩ ++ out)
      rw [ByteArray.size_append] at this
      have e : (⟨#[UInt8.ofNat (48 + k % 10)]⟩ : ByteArray).size = 1 := rfl
      omega
theorem sz1 (x : UInt8) : (⟨#[x]⟩ : ByteArray).size = 1 := rfl
theorem dgs_dig (q : Nat) : ((q : Int).tmod 10) = ((q % 10 : Nat) : Int) := by rw [Int.tmod_eq_emod_of_nonneg (by omega)]; omega
theorem dgs_fr (q : Nat) (o : ByteArray) : Value.string (⟨(([IntKind.u8.wrap (IntKind.i64.wrap (48 + (q : Int).tmod 10))] : List Int).map fun v => UInt8.ofNat v.toNat).toArray⟩ ++ o) = Value.string (⟨#[UInt8.ofNat (48 + q % 10)]⟩ ++ o) := by
  rw [dgs_dig]
  have h : IntKind.u8.wrap (IntKind.i64.wrap (48 + ((q % 10 : Nat) : Int))) = ((48 + q % 10 : Nat) : Int) := by
    simp (disch := omega) only [wrap_of, u8_wrap]; omega
  rw [h]; rfl
theorem mtx_size (k : Int) : (mtx k).size ≤ 9223372036854775807 := by
  unfold mtx
  split
  · decide
  · have := dgs_size 20 k.toNat .empty
    rw [ByteArray.size_append]
    have e : (⟨#[109]⟩ : ByteArray).size = 1 := rfl
    have e2 : ByteArray.empty.size = 0 := rfl
    omega
--@ct laws.markText val markText_ct _ ?_
theorem markText_ct (k : Int) (h1 : k ≤ 4611686018427387904) : Ct Tryz.prog 173 [.int .i64 k] [] (fun _ => True) (fun v A => v = .string (mtx k) ∧ A = []) := by
  refine Ct.intro0 G_ok Tryz.func173 rfl rfl rfl fun E H hp => ?_
  refine VCsplit.intro (fun q0 => ?_) (fun q0 => ?_)
  ·
    simp at q0
    exact ⟨[], ⟨by unfold mtx; rw [if_pos (by omega)], rfl⟩, (.le fun a => by (try simp only [setR, List.cons_append, List.nil_append]); simp only [List.flatten_append, List.flatten_cons, List.flatten_nil, List.count_append, List.count_nil, List.append_nil, List.nil_append]; omega)⟩
  ·
    simp at q0
    apply loop_mod (α := (Nat) × (Nat) × (ByteArray)) G_ok [6, 7, 8, 9, 10, 11, 12, 13, 14, 15, 3, 16, 17, 0] (fun z => [(3, .v (.string z.2.2)), (0, .v (.int .i64 z.2.1))]) (fun z => []) (fun z => [H]) (fun z => z.2.1) (fun z => dgs z.1 z.2.1 z.2.2 = dgs 20 k.toNat .empty ∧ z.2.1 < 10 ^ z.1 ∧ z.2.2.size + z.1 ≤ 20 ∧ z.2.1 ≤ 4611686018427387904) ((20, k.toNat, .empty))
    · repeat' (first | exact trivial | refine ⟨⟨_, rfl, by first | rfl | exact inc_eq _ (by omega) | (refine sl_eq ?_; simp; done) | (refine svi_eq ?_; (try dsimp only); omega) | exact dgs_fr q o | (refine svi_eq ?_; (try dsimp only); rw [Int.tdiv_eq_ediv_of_nonneg (show (0 : Int) ≤ (q : Int) by omega)]; (try simp (disch := omega) only [wrap_of]); omega), by first | exact trivial | simp [SV.ok]⟩, ?_⟩)
    · exact trivial
    · try dsimp only
      exact ⟨rfl, by omega, by decide, by omega⟩
    · exact .refl _
    rintro ⟨f, q, o⟩ hI
    obtain ⟨hd, hq, hs, hm⟩ : dgs f q o = dgs 20 k.toNat .empty ∧ q < 10 ^ f ∧ o.size + f ≤ 20 ∧ q ≤ 4611686018427387904 := hI
    try dsimp only
    refine VCsplit.intro (fun q1 => ?_) (fun q1 => ?_)
    ·
      simp at q1
      obtain ⟨f, rfl⟩ : ∃ f', f = f' + 1 := by cases f with | zero => simp at hq; omega | succ f' => exact ⟨f', rfl⟩
      refine VC.intro ?_ ?_
      · trivial
      refine VCnew.intro fun x2 => ?_
      refine conv_bs G_ok (([IntKind.u8.wrap (IntKind.i64.wrap ((48 : Int) + (↑q : Int).tmod (10 : Int)))] : List Int).map fun v => UInt8.ofNat v.toNat) rfl (lit_bs [IntKind.u8.wrap (IntKind.i64.wrap ((48 : Int) + (↑q : Int).tmod (10 : Int)))] (mem_at 0 rfl _ (List.mem_singleton.2 rfl)) rfl ?_ (by simp)) rfl rfl rfl ?_
      · (simp only [inU8, u8_wrap, and_true]; omega)
      refine VC.intro ?_ ?_
      · (rw [bsz]; simp only [List.length_map, List.length_cons, List.length_nil]; have : IntKind.i64.max = 9223372036854775807 := rfl; omega)
      refine VC.intro ?_ ?_
      · trivial
      apply loop_stepA (f, q / 10, ⟨#[UInt8.ofNat (48 + q % 10)]⟩ ++ o)
      · exact .sub (by repeat (first | exact .slnil | apply List.Sublist.cons_cons | apply List.Sublist.cons))
      · repeat' (first | exact trivial | refine ⟨⟨_, rfl, by first | rfl | exact inc_eq _ (by omega) | (refine sl_eq ?_; simp; done) | (refine svi_eq ?_; (try dsimp only); omega) | exact dgs_fr q o | (refine svi_eq ?_; (try dsimp only); rw [Int.tdiv_eq_ediv_of_nonneg (show (0 : Int) ≤ (q : Int) by omega)]; (try simp (disch := omega) only [wrap_of]); omega), by first | exact trivial | simp [SV.ok]⟩, ?_⟩)
      · exact trivial
      · try dsimp only
        exact ⟨by rw [← hd]; conv => rhs; unfold dgs; rw [if_neg (by omega : ¬ q = 0)], by rw [Nat.pow_succ] at hq; omega, by rw [ByteArray.size_append, sz1]; omega, by omega⟩
      · try dsimp only
        omega
    ·
      simp at q1
      obtain rfl : q = 0 := by omega
      have hd0 : o = dgs 20 k.toNat .empty := by rw [← hd]; cases f <;> simp [dgs]
      refine VC.intro ?_ ?_
      · (have e1 : (⟨#[109]⟩ : ByteArray).size = 1 := rfl; have : IntKind.i64.max = 9223372036854775807 := rfl; omega)
      exact ⟨[], ⟨by unfold mtx; rw [if_neg (by omega), hd0], rfl⟩, (.le fun a => by (try simp only [setR, List.cons_append, List.nil_append]); simp only [List.flatten_append, List.flatten_cons, List.flatten_nil, List.count_append, List.count_nil, List.append_nil, List.nil_append]; omega)⟩
--@ct laws.markIntS mark1 markIntS_ct _ _ _ _ _ _ ~ ?_ ?_
theorem markIntS_ct (b : Option Addr) (m c : Nat) (xs : List Int) (A : Hp) (k0 : Int) (ho : (gSl 3 gI).ow [.slice b m c] xs A) (h0 : 0 ≤ k0) (h1 : k0 + cntL gI xs ≤ 4611686018427387904) :
    CtR Tryz.prog 21 [.slice b m c, .int .i64 k0] A (fun _ => True) (fun v A => v = .int .i64 (k0 + cntL gI xs) ∧ (gSl 3 gI).ow [.slice b m c] (mkL gI k0 xs) A) := by
  obtain ⟨rfl, hcl, hl⟩ := sl_len (Gt.owrd _ ho)
  refine CtR.intro G_ok [A] Tryz.func21 rfl rfl rfl (by simp) fun E H hp => ?_
  apply loop_mod (α := (Nat) × (Hp)) G_ok [6, 7, 8, 9, 12, 13, 14, 15, 16, 17, 1, 10, 11, 5] (fun z => [(5, .v (.int .i64 z.1)), (1, .v (.int .i64 (k0 + cntL gI (xs.take z.1))))]) (fun z => []) (fun z => [z.2, H]) (fun z => xs.length - z.1) (fun z => z.1 ≤ xs.length ∧ (gSl 3 gI).ow [.slice b xs.length c] (mkL gI k0 (xs.take z.1) ++ xs.drop z.1) z.2) ((0, A))
  · repeat' (first | exact trivial | refine ⟨⟨_, rfl, by first | rfl | exact inc_eq _ (by omega) | (refine sl_eq ?_; simp; done) | (refine svi_eq ?_; subst_vars; (try dsimp only); (try simp (disch := omega) only [wrap_of]); omega) | (simp [cntL]), by first | exact trivial | simp [SV.ok]⟩, ?_⟩)
  · exact trivial
  · try dsimp only
    exact ⟨by omega, by simpa [mkL] using ho⟩
  · exact .refl _
  rintro ⟨k, B⟩ hI
  obtain ⟨hk, oB⟩ : k ≤ xs.length ∧ (gSl 3 gI).ow [.slice b xs.length c] (mkL gI k0 (xs.take k) ++ xs.drop k) B := hI
  try dsimp only
  refine VCsplit.intro (fun q0 => ?_) (fun q0 => ?_)
  ·
    simp at q0
    have hs : cntL gI (xs.take (k + 1)) = cntL gI (xs.take k) + 1 := (cntL_step gI xs k 0 (by omega))
    have hs2 := cntL_take_le gI xs (k + 1)
    refine idx_rd (Gt.owrd _ oB) ?_ ?_ fun b1 o1 hb1 => ?_
    · omega
    · (rw [mk_len _ _ _ _ (by omega)]; omega)
    refine gstoreN (Fld.id _) 0 (k) 0 rfl rfl oB ?_ ?_ hb1 rfl gI_pl _ (gI_ow ?_) fun A2 o2 => ?_
    · omega
    · (rw [mk_len _ _ _ _ (by omega)]; omega)
    · unfold okI; omega
    apply loop_stepA (k + 1, _)
    · exact .refl _
    · repeat' (first | exact trivial | refine ⟨⟨_, rfl, by first | rfl | exact inc_eq _ (by omega) | (refine sl_eq ?_; simp; done) | (refine svi_eq ?_; subst_vars; (try dsimp only); (try simp (disch := omega) only [wrap_of]); omega) | (simp [cntL]), by first | exact trivial | simp [SV.ok]⟩, ?_⟩)
    · exact trivial
    · try dsimp only
      exact ⟨by omega, by rw [← mk_step gI 0 xs k0 k (by omega)] ; assumption⟩
    · try dsimp only
      omega
  ·
    simp at q0
    obtain rfl : k = xs.length := by omega
    rw [List.take_length, List.drop_length, List.append_nil] at oB
    exact ⟨_, ⟨by rw [List.take_length], oB⟩, (.le fun a => by (try simp only [setR, List.cons_append, List.nil_append]); simp only [List.flatten_append, List.flatten_cons, List.flatten_nil, List.count_append, List.count_nil, List.append_nil, List.nil_append]; omega)⟩
--@ct laws.heldIntS val heldIntS_ct _ _ _ _ _ _ ?_ ?_ ?_ | %1
theorem heldIntS_ct (b : Option Addr) (m c : Nat) (xs : List Int) (k0 k1 : Int) (hk1 : k0 = k1) (h0 : 0 ≤ k0) (h1 : k0 + cntL gI xs ≤ 4611686018427387904) :
    Ct Tryz.prog 100 [.slice b m c, .int .i64 k0] [] (fun H => (gSl 3 gI).rd H [.slice b m c] (mkL gI k1 xs)) (fun v A => v = .int .i64 (k0 + cntL gI xs) ∧ A = []) := by
  subst hk1
  refine Ct.intro0 G_ok Tryz.func100 rfl rfl rfl fun E H hp => ?_
  have hm0 := (sl_len hp).1
  rw [mkL_len] at hm0; subst hm0
  obtain ⟨-, hcl, hl⟩ := sl_len hp
  rw [mkL_len] at hcl hl
  have hln := mkL_len gI xs k0
  apply loop_mod (α := (Nat)) G_ok [6, 7, 8, 9, 12, 13, 14, 15, 16, 17, 4, 18, 19, 1, 10, 11, 5] (fun z => [(5, .v (.int .i64 z)), (1, .v (.int .i64 (k0 + cntL gI (xs.take z))))]) (fun z => []) (fun z => [H]) (fun z => xs.length - z) (fun z => z ≤ xs.length) (0)
  · repeat' (first | exact trivial | refine ⟨⟨_, rfl, by first | rfl | exact inc_eq _ (by omega) | (refine sl_eq ?_; simp; done) | (refine svi_eq ?_; (try dsimp only); (try simp (disch := omega) only [wrap_of]); omega) | (simp [cntL]), by first | exact trivial | simp [SV.ok]⟩, ?_⟩)
  · exact trivial
  · omega
  · exact .refl _
  rintro k hI
  obtain hk : k ≤ xs.length := hI
  try dsimp only
  refine VCsplit.intro (fun q0 => ?_) (fun q0 => ?_)
  ·
    simp at q0
    have hs : cntL gI (xs.take (k + 1)) = cntL gI (xs.take k) + 1 := (cntL_step gI xs k 0 (by omega))
    have hs2 := cntL_take_le gI xs (k + 1)
    have hm : (mkL gI k0 xs)[k]?.getD 0 = k0 + cntL gI (xs.take k) := mkL_get gI 0 xs k0 k (by omega)
    refine idx_rd hp ?_ ?_ fun b1 o1 hb1 => ?_
    · omega
    · omega
    refine load_allN 0 (k) rfl hp ?_ ?_ hb1 rfl (mem_at 0 rfl) fun l2 hl2 => ?_
    · omega
    · omega
    rw [hm] at hl2
    obtain ⟨rfl, hw2⟩ := hl2; simp only [flStr, flInt, okI] at hw2
    refine VCsplit.intro (fun q3 => ?_) (fun q3 => ?_)
    ·
      simp at q3
    ·
      simp at q3
      apply loop_stepA (k + 1)
      · exact .refl _
      · repeat' (first | exact trivial | refine ⟨⟨_, rfl, by first | rfl | exact inc_eq _ (by omega) | (refine sl_eq ?_; simp; done) | (refine svi_eq ?_; (try dsimp only); (try simp (disch := omega) only [wrap_of]); omega) | (simp [cntL]), by first | exact trivial | simp [SV.ok]⟩, ?_⟩)
      · exact trivial
      · trivial
      · omega
  ·
    simp at q0
    obtain rfl : k = xs.length := by omega
    exact ⟨[], ⟨by rw [List.take_length], rfl⟩, (.le fun a => by (try simp only [setR, List.cons_append, List.nil_append]); simp only [List.flatten_append, List.flatten_cons, List.flatten_nil, List.count_append, List.count_nil, List.append_nil, List.nil_append]; omega)⟩
--@ct laws.markStringS mark1 markStringS_ct _ _ _ _ _ _ ~ ?_ ?_
theorem markStringS_ct (b : Option Addr) (m c : Nat) (xs : List ByteArray) (A : Hp) (k0 : Int) (ho : (gSl 9 gS).ow [.slice b m c] xs A) (h0 : 0 ≤ k0) (h1 : k0 + cntL gS xs ≤ 4611686018427387904) :
    CtR Tryz.prog 85 [.slice b m c, .int .i64 k0] A (fun _ => True) (fun v A => v = .int .i64 (k0 + cntL gS xs) ∧ (gSl 9 gS).ow [.slice b m c] (mkL gS k0 xs) A) := by
  obtain ⟨rfl, hcl, hl⟩ := sl_len (Gt.owrd _ ho)
  refine CtR.intro G_ok [A] Tryz.func85 rfl rfl rfl (by simp) fun E H hp => ?_
  apply loop_mod (α := (Nat) × (Hp)) G_ok [6, 7, 8, 9, 12, 13, 14, 15, 16, 17, 18, 1, 10, 11, 5] (fun z => [(5, .v (.int .i64 z.1)), (1, .v (.int .i64 (k0 + cntL gS (xs.take z.1))))]) (fun z => []) (fun z => [z.2, H]) (fun z => xs.length - z.1) (fun z => z.1 ≤ xs.length ∧ (gSl 9 gS).ow [.slice b xs.length c] (mkL gS k0 (xs.take z.1) ++ xs.drop z.1) z.2) ((0, A))
  · repeat' (first | exact trivial | refine ⟨⟨_, rfl, by first | rfl | exact inc_eq _ (by omega) | (refine sl_eq ?_; simp; done) | (refine svi_eq ?_; subst_vars; (try dsimp only); (try simp (disch := omega) only [wrap_of]); omega) | (simp [cntL]), by first | exact trivial | simp [SV.ok]⟩, ?_⟩)
  · exact trivial
  · try dsimp only
    exact ⟨by omega, by simpa [mkL] using ho⟩
  · exact .refl _
  rintro ⟨k, B⟩ hI
  obtain ⟨hk, oB⟩ : k ≤ xs.length ∧ (gSl 9 gS).ow [.slice b xs.length c] (mkL gS k0 (xs.take k) ++ xs.drop k) B := hI
  try dsimp only
  refine VCsplit.intro (fun q0 => ?_) (fun q0 => ?_)
  ·
    simp at q0
    have hs : cntL gS (xs.take (k + 1)) = cntL gS (xs.take k) + 1 := (cntL_step gS xs k ByteArray.empty (by omega))
    have hs2 := cntL_take_le gS xs (k + 1)
    refine call_val (markText_ct _ ?_) trivial ?_
    · omega
    rintro _ rfl
    refine idx_rd (Gt.owrd _ oB) ?_ ?_ fun b2 o2 hb2 => ?_
    · omega
    · (rw [mk_len _ _ _ _ (by omega)]; omega)
    refine gstoreN (Fld.id _) ByteArray.empty (k) 0 rfl rfl oB ?_ ?_ hb2 rfl fl_pl _ (gS_ow ?_) fun A3 o3 => ?_
    · omega
    · (rw [mk_len _ _ _ _ (by omega)]; omega)
    · exact mtx_size _
    apply loop_stepA (k + 1, _)
    · exact .refl _
    · repeat' (first | exact trivial | refine ⟨⟨_, rfl, by first | rfl | exact inc_eq _ (by omega) | (refine sl_eq ?_; simp; done) | (refine svi_eq ?_; subst_vars; (try dsimp only); (try simp (disch := omega) only [wrap_of]); omega) | (simp [cntL]), by first | exact trivial | simp [SV.ok]⟩, ?_⟩)
    · exact trivial
    · try dsimp only
      exact ⟨by omega, by rw [← mk_step gS ByteArray.empty xs k0 k (by omega)] ; assumption⟩
    · try dsimp only
      omega
  ·
    simp at q0
    obtain rfl : k = xs.length := by omega
    rw [List.take_length, List.drop_length, List.append_nil] at oB
    exact ⟨_, ⟨by rw [List.take_length], oB⟩, (.le fun a => by (try simp only [setR, List.cons_append, List.nil_append]); simp only [List.flatten_append, List.flatten_cons, List.flatten_nil, List.count_append, List.count_nil, List.append_nil, List.nil_append]; omega)⟩
--@ct laws.markItemS mark1 markItemS_ct _ _ _ _ _ _ ~ ?_ ?_
theorem markItemS_ct (b : Option Addr) (m c : Nat) (xs : List Item) (A : Hp) (k0 : Int) (ho : (gSl 218 gItem).ow [.slice b m c] xs A) (h0 : 0 ≤ k0) (h1 : k0 + cntL gItem xs ≤ 4611686018427387904) :
    CtR Tryz.prog 88 [.slice b m c, .int .i64 k0] A (fun _ => True) (fun v A => v = .int .i64 (k0 + cntL gItem xs) ∧ (gSl 218 gItem).ow [.slice b m c] (mkL gItem k0 xs) A) := by
  obtain ⟨rfl, hcl, hl⟩ := sl_len (Gt.owrd _ ho)
  refine CtR.intro G_ok [A] Tryz.func88 rfl rfl rfl (by simp) fun E H hp => ?_
  apply loop_mod (α := (Nat) × (Hp)) G_ok [6, 7, 8, 9, 12, 13, 14, 15, 16, 17, 18, 1, 19, 20, 21, 22, 23, 24, 25, 10, 11, 5] (fun z => [(5, .v (.int .i64 z.1)), (1, .v (.int .i64 (k0 + cntL gItem (xs.take z.1))))]) (fun z => []) (fun z => [z.2, H]) (fun z => xs.length - z.1) (fun z => z.1 ≤ xs.length ∧ (gSl 218 gItem).ow [.slice b xs.length c] (mkL gItem k0 (xs.take z.1) ++ xs.drop z.1) z.2) ((0, A))
  · repeat' (first | exact trivial | refine ⟨⟨_, rfl, by first | rfl | exact inc_eq _ (by omega) | (refine sl_eq ?_; simp; done) | (refine svi_eq ?_; subst_vars; (try dsimp only); (try simp (disch := omega) only [wrap_of]); omega) | (simp [cntL]), by first | exact trivial | simp [SV.ok]⟩, ?_⟩)
  · exact trivial
  · try dsimp only
    exact ⟨by omega, by simpa [mkL] using ho⟩
  · exact .refl _
  rintro ⟨k, B⟩ hI
  obtain ⟨hk, oB⟩ : k ≤ xs.length ∧ (gSl 218 gItem).ow [.slice b xs.length c] (mkL gItem k0 (xs.take k) ++ xs.drop k) B := hI
  try dsimp only
  refine VCsplit.intro (fun q0 => ?_) (fun q0 => ?_)
  ·
    simp at q0
    have hs := (cntL_step gItem xs k default (by omega))
    simp only [gItem_cnt] at hs
    have hs2 := cntL_take_le gItem xs (k + 1)
    obtain ⟨y, ey, oe⟩ := OwE.mk default k oB (by rw [mk_len _ _ _ _ (by omega)]; omega)
    rw [mk_get _ _ _ _ _ (by omega)] at ey
    clear oB
    refine oe_idx oe ?_ fun b1 o1 hb1 => ?_
    · rfl
    refine oe_load gItem_row oe rfl hb1 rfl (mem_at 0 rfl) fun l2 hl2 hf2 => ?_
    obtain ⟨u2, w2, rfl, hl2⟩ := sl_rd hl2
    refine call_foc 0 rfl hf2 (fun Af3 oa3 => markIntS_ct _ _ _ _ _ _ oa3 ?_ ?_) (fun _ _ => trivial) ?_
    · omega
    · simp_all; omega
    rintro _ A3 rfl ⟨y3, ey3, o3⟩
    try dsimp only at ey3
    refine oe_idx o3 ?_ fun b4 o4 hb4 => ?_
    · rfl
    refine oe_store gItem_times 0 rfl o3 rfl hb4 rfl gI_pl _ (gI_ow ?_) fun y5 A5 ey5 o5 => ?_
    · (subst_vars; unfold okI; (try dsimp only at *); omega)
    apply loop_stepA (k + 1, _)
    · exact .refl _
    · repeat' (first | exact trivial | refine ⟨⟨_, rfl, by first | rfl | exact inc_eq _ (by omega) | (refine sl_eq ?_; simp; done) | (refine svi_eq ?_; subst_vars; (try dsimp only); (try simp (disch := omega) only [wrap_of]); omega) | (simp [cntL]), by first | exact trivial | simp [SV.ok]⟩, ?_⟩)
    · exact trivial
    · try dsimp only
      exact ⟨by omega, OwE.done (by assumption) (by rw [← mk_step gItem default xs k0 k (by omega)]; congr 1; subst_vars; (try simp only [gItem_mark, gItem_cnt]); (try simp (disch := omega) only [wrap_of]); (try rfl))⟩
    · try dsimp only
      omega
  ·
    simp at q0
    obtain rfl : k = xs.length := by omega
    rw [List.take_length, List.drop_length, List.append_nil] at oB
    exact ⟨_, ⟨by rw [List.take_length], oB⟩, (.le fun a => by (try simp only [setR, List.cons_append, List.nil_append]); simp only [List.flatten_append, List.flatten_cons, List.flatten_nil, List.count_append, List.count_nil, List.append_nil, List.nil_append]; omega)⟩
--@ct laws.heldItemS val heldItemS_ct _ _ _ _ _ _ ?_ ?_ ?_ | %1
--@ct laws.markBag mark1 markBag_ct _ _ _ _ ~ ?_ ?_
--@ct laws.heldBag val heldBag_ct _ _ _ _ ?_ ?_ ?_ | %1
--@ct laws.markAtomS mark1 markAtomS_ct _ _ _ _ _ _ ~ ?_ ?_
theorem markAtomS_ct (b : Option Addr) (m c : Nat) (xs : List Atom) (A : Hp) (k0 : Int) (ho : (gSl 118 gAtom).ow [.slice b m c] xs A) (h0 : 0 ≤ k0) (h1 : k0 + cntL gAtom xs ≤ 4611686018427387904) :
    CtR Tryz.prog 86 [.slice b m c, .int .i64 k0] A (fun _ => True) (fun v A => v = .int .i64 (k0 + cntL gAtom xs) ∧ (gSl 118 gAtom).ow [.slice b m c] (mkL gAtom k0 xs) A) := by
  obtain ⟨rfl, hcl, hl⟩ := sl_len (Gt.owrd _ ho)
  refine CtR.intro G_ok [A] Tryz.func86 rfl rfl rfl (by simp) fun E H hp => ?_
  apply loop_mod (α := (Nat) × (Hp)) G_ok [6, 7, 8, 9, 12, 13, 14, 15, 16, 17, 18, 19, 1, 20, 21, 22, 23, 24, 25, 26, 27, 28, 29, 30, 31, 32, 33, 34, 35, 10, 11, 5] (fun z => [(5, .v (.int .i64 z.1)), (1, .v (.int .i64 (k0 + cntL gAtom (xs.take z.1))))]) (fun z => []) (fun z => [z.2, H]) (fun z => xs.length - z.1) (fun z => z.1 ≤ xs.length ∧ (gSl 118 gAtom).ow [.slice b xs.length c] (mkL gAtom k0 (xs.take z.1) ++ xs.drop z.1) z.2) ((0, A))
  · repeat' (first | exact trivial | refine ⟨⟨_, rfl, by first | rfl | exact inc_eq _ (by omega) | (refine sl_eq ?_; simp; done) | (refine svi_eq ?_; subst_vars; (try dsimp only); (try simp (disch := omega) only [wrap_of]); omega) | (simp [cntL]), by first | exact trivial | simp [SV.ok]⟩, ?_⟩)
  · exact trivial
  · try dsimp only
    exact ⟨by omega, by simpa [mkL] using ho⟩
  · exact .refl _
  rintro ⟨k, B⟩ hI
  obtain ⟨hk, oB⟩ : k ≤ xs.length ∧ (gSl 118 gAtom).ow [.slice b xs.length c] (mkL gAtom k0 (xs.take k) ++ xs.drop k) B := hI
  try dsimp only
  refine VCsplit.intro (fun q0 => ?_) (fun q0 => ?_)
  ·
    simp at q0
    have hs := (cntL_step gAtom xs k default (by omega))
    simp only [gAtom_cnt] at hs
    have hs2 := cntL_take_le gAtom xs (k + 1)
    obtain ⟨y, ey, oe⟩ := OwE.mk default k oB (by rw [mk_len _ _ _ _ (by omega)]; omega)
    rw [mk_get _ _ _ _ _ (by omega)] at ey
    clear oB
    refine call_val (markText_ct _ ?_) trivial ?_
    · omega
    rintro _ rfl
    refine oe_idx oe ?_ fun b2 o2 hb2 => ?_
    · rfl
    refine oe_store gAtom_from 0 rfl oe rfl hb2 rfl fl_pl _ (gS_ow ?_) fun y3 A3 ey3 o3 => ?_
    · exact mtx_size _
    refine call_val (markText_ct _ ?_) trivial ?_
    · (simp (disch := omega) only [wrap_of]; omega)
    rintro _ rfl
    refine oe_idx o3 ?_ fun b5 o5 hb5 => ?_
    · rfl
    refine oe_store gAtom_path 0 rfl o3 rfl hb5 rfl fl_pl _ (gS_ow ?_) fun y6 A6 ey6 o6 => ?_
    · exact mtx_size _
    refine call_val (markText_ct _ ?_) trivial ?_
    · (simp (disch := omega) only [wrap_of]; omega)
    rintro _ rfl
    refine oe_idx o6 ?_ fun b8 o8 hb8 => ?_
    · rfl
    refine oe_store gAtom_to 0 rfl o6 rfl hb8 rfl fl_pl _ (gS_ow ?_) fun y9 A9 ey9 o9 => ?_
    · exact mtx_size _
    apply loop_stepA (k + 1, _)
    · exact .refl _
    · repeat' (first | exact trivial | refine ⟨⟨_, rfl, by first | rfl | exact inc_eq _ (by omega) | (refine sl_eq ?_; simp; done) | (refine svi_eq ?_; subst_vars; (try dsimp only); (try simp (disch := omega) only [wrap_of]); omega) | (simp [cntL]), by first | exact trivial | simp [SV.ok]⟩, ?_⟩)
    · exact trivial
    · try dsimp only
      exact ⟨by omega, OwE.done (by assumption) (by rw [← mk_step gAtom default xs k0 k (by omega)]; congr 1; subst_vars; (try simp only [gAtom_mark, gAtom_cnt]); (try simp (disch := omega) only [wrap_of]); (try rfl))⟩
    · try dsimp only
      omega
  ·
    simp at q0
    obtain rfl : k = xs.length := by omega
    rw [List.take_length, List.drop_length, List.append_nil] at oB
    exact ⟨_, ⟨by rw [List.take_length], oB⟩, (.le fun a => by (try simp only [setR, List.cons_append, List.nil_append]); simp only [List.flatten_append, List.flatten_cons, List.flatten_nil, List.count_append, List.count_nil, List.append_nil, List.nil_append]; omega)⟩
--@ct laws.markFilterS mark1 markFilterS_ct _ _ _ _ _ _ ~ ?_ ?_
theorem markFilterS_ct (b : Option Addr) (m c : Nat) (xs : List Filter) (A : Hp) (k0 : Int) (ho : (gSl 220 gFilter).ow [.slice b m c] xs A) (h0 : 0 ≤ k0) (h1 : k0 + cntL gFilter xs ≤ 4611686018427387904) :
    CtR Tryz.prog 87 [.slice b m c, .int .i64 k0] A (fun _ => True) (fun v A => v = .int .i64 (k0 + cntL gFilter xs) ∧ (gSl 220 gFilter).ow [.slice b m c] (mkL gFilter k0 xs) A) := by
  obtain ⟨rfl, hcl, hl⟩ := sl_len (Gt.owrd _ ho)
  refine CtR.intro G_ok [A] Tryz.func87 rfl rfl rfl (by simp) fun E H hp => ?_
  apply loop_mod (α := (Nat) × (Hp)) G_ok [6, 7, 8, 9, 12, 13, 14, 15, 16, 17, 18, 19, 1, 20, 21, 22, 23, 24, 25, 26, 27, 28, 29, 30, 31, 32, 33, 34, 35, 36, 37, 38, 39, 40, 41, 10, 11, 5] (fun z => [(5, .v (.int .i64 z.1)), (1, .v (.int .i64 (k0 + cntL gFilter (xs.take z.1))))]) (fun z => []) (fun z => [z.2, H]) (fun z => xs.length - z.1) (fun z => z.1 ≤ xs.length ∧ (gSl 220 gFilter).ow [.slice b xs.length c] (mkL gFilter k0 (xs.take z.1) ++ xs.drop z.1) z.2) ((0, A))
  · repeat' (first | exact trivial | refine ⟨⟨_, rfl, by first | rfl | exact inc_eq _ (by omega) | (refine sl_eq ?_; simp; done) | (refine svi_eq ?_; subst_vars; (try dsimp only); (try simp (disch := omega) only [wrap_of]); omega) | (simp [cntL]), by first | exact trivial | simp [SV.ok]⟩, ?_⟩)
  · exact trivial
  · try dsimp only
    exact ⟨by omega, by simpa [mkL] using ho⟩
  · exact .refl _
  rintro ⟨k, B⟩ hI
  obtain ⟨hk, oB⟩ : k ≤ xs.length ∧ (gSl 220 gFilter).ow [.slice b xs.length c] (mkL gFilter k0 (xs.take k) ++ xs.drop k) B := hI
  try dsimp only
  refine VCsplit.intro (fun q0 => ?_) (fun q0 => ?_)
  ·
    simp at q0
    have hs := (cntL_step gFilter xs k default (by omega))
    simp only [gFilter_cnt] at hs
    have hs2 := cntL_take_le gFilter xs (k + 1)
    obtain ⟨y, ey, oe⟩ := OwE.mk default k oB (by rw [mk_len _ _ _ _ (by omega)]; omega)
    rw [mk_get _ _ _ _ _ (by omega)] at ey
    clear oB
    refine call_val (markText_ct _ ?_) trivial ?_
    · omega
    rintro _ rfl
    refine oe_idx oe ?_ fun b2 o2 hb2 => ?_
    · rfl
    refine oe_store gFilter_left 0 rfl oe rfl hb2 rfl fl_pl _ (gS_ow ?_) fun y3 A3 ey3 o3 => ?_
    · exact mtx_size _
    refine oe_idx o3 ?_ fun b4 o4 hb4 => ?_
    · rfl
    refine oe_store gFilter_op 0 rfl o3 rfl hb4 rfl gI_pl _ (gI_ow ?_) fun y5 A5 ey5 o5 => ?_
    · exact okI_wrap _
    refine call_val (markText_ct _ ?_) trivial ?_
    · (simp (disch := omega) only [wrap_of]; omega)
    rintro _ rfl
    refine oe_idx o5 ?_ fun b7 o7 hb7 => ?_
    · rfl
    refine oe_store gFilter_right 0 rfl o5 rfl hb7 rfl fl_pl _ (gS_ow ?_) fun y8 A8 ey8 o8 => ?_
    · exact mtx_size _
    refine oe_idx o8 ?_ fun b9 o9 hb9 => ?_
    · rfl
    refine oe_store gFilter_num 0 rfl o8 rfl hb9 rfl gI_pl _ (gI_ow ?_) fun y10 A10 ey10 o10 => ?_
    · exact okI_wrap _
    apply loop_stepA (k + 1, _)
    · exact .refl _
    · repeat' (first | exact trivial | refine ⟨⟨_, rfl, by first | rfl | exact inc_eq _ (by omega) | (refine sl_eq ?_; simp; done) | (refine svi_eq ?_; subst_vars; (try dsimp only); (try simp (disch := omega) only [wrap_of]); omega) | (simp [cntL]), by first | exact trivial | simp [SV.ok]⟩, ?_⟩)
    · exact trivial
    · try dsimp only
      exact ⟨by omega, OwE.done (by assumption) (by rw [← mk_step gFilter default xs k0 k (by omega)]; congr 1; subst_vars; (try simp only [gFilter_mark, gFilter_cnt]); (try simp (disch := omega) only [wrap_of]); (try rfl))⟩
    · try dsimp only
      omega
  ·
    simp at q0
    obtain rfl : k = xs.length := by omega
    rw [List.take_length, List.drop_length, List.append_nil] at oB
    exact ⟨_, ⟨by rw [List.take_length], oB⟩, (.le fun a => by (try simp only [setR, List.cons_append, List.nil_append]); simp only [List.flatten_append, List.flatten_cons, List.flatten_nil, List.count_append, List.count_nil, List.append_nil, List.nil_append]; omega)⟩
--@ct laws.markQuery mark1 markQuery_ct _ _ _ _ ~ ?_ ?_
theorem markQuery_ct (l : List Value) (x : Query) (A : Hp) (k0 : Int) (ho : gQuery.ow l x A) (h0 : 0 ≤ k0) (h1 : k0 + gQuery.cntV x ≤ 4611686018427387904) :
    CtR Tryz.prog 20 [.agg ⟨l⟩, .int .i64 k0] A (fun _ => True) (fun v A => v = .int .i64 (k0 + gQuery.cntV x) ∧ gQuery.ow l (gQuery.markV k0 x) A) := by
  obtain ⟨b1, c1, A1, b2, c2, A2, b3, c3, A3, rfl, hpm, h1, h2, h3⟩ := gQuery_ow.1 ho
  have hz := gQuery_cntV x
  refine CtR.introP G_ok [A1, A2, A3] Tryz.func20 rfl rfl rfl (hpm.trans (by simp)) fun E H hp => ?_
  refine VCnew.intro fun x0 => ?_
  refine callR_at 0 rfl (markStringS_ct _ _ _ _ _ _ h1 ?_ ?_) trivial ?_
  · trivial
  · omega
  rintro _ A1 ⟨rfl, o1⟩
  refine callR_at 1 rfl (markAtomS_ct _ _ _ _ _ _ h2 ?_ ?_) trivial ?_
  · omega
  · omega
  rintro _ A2 ⟨rfl, o2⟩
  refine callR_at 2 rfl (markFilterS_ct _ _ _ _ _ _ h3 ?_ ?_) trivial ?_
  · omega
  · omega
  rintro _ A3 ⟨rfl, o3⟩
  exact ⟨_, ⟨by rw [hz]; (try simp); (try omega), by rw [gQuery_markV]; exact gQuery_ow.2 ⟨_, _, _, _, _, _, _, _, _, by simp only [mkL_len]; rfl, .refl _, by rw [mkL_len]; assumption, by rw [mkL_len]; assumption, by rw [mkL_len]; assumption⟩⟩, (.le fun a => by (try simp only [setR, List.cons_append, List.nil_append]); simp only [List.flatten_append, List.flatten_cons, List.flatten_nil, List.count_append, List.count_nil, List.append_nil, List.nil_append]; omega)⟩
--@ct laws.markWalkS mark1 markWalkS_ct _ _ _ _ _ _ ~ ?_ ?_
theorem markWalkS_ct (b : Option Addr) (m c : Nat) (xs : List Walk) (A : Hp) (k0 : Int) (ho : (gSl 164 gWalk).ow [.slice b m c] xs A) (h0 : 0 ≤ k0) (h1 : k0 + cntL gWalk xs ≤ 4611686018427387904) :
    CtR Tryz.prog 98 [.slice b m c, .int .i64 k0] A (fun _ => True) (fun v A => v = .int .i64 (k0 + cntL gWalk xs) ∧ (gSl 164 gWalk).ow [.slice b m c] (mkL gWalk k0 xs) A) := by
  obtain ⟨rfl, hcl, hl⟩ := sl_len (Gt.owrd _ ho)
  refine CtR.intro G_ok [A] Tryz.func98 rfl rfl rfl (by simp) fun E H hp => ?_
  apply loop_mod (α := (Nat) × (Hp)) G_ok [6, 7, 8, 9, 12, 13, 14, 15, 16, 17, 18, 1, 19, 20, 21, 22, 23, 24, 25, 26, 27, 28, 29, 30, 31, 32, 33, 34, 35, 36, 37, 38, 39, 10, 11, 5] (fun z => [(5, .v (.int .i64 z.1)), (1, .v (.int .i64 (k0 + cntL gWalk (xs.take z.1))))]) (fun z => []) (fun z => [z.2, H]) (fun z => xs.length - z.1) (fun z => z.1 ≤ xs.length ∧ (gSl 164 gWalk).ow [.slice b xs.length c] (mkL gWalk k0 (xs.take z.1) ++ xs.drop z.1) z.2) ((0, A))
  · repeat' (first | exact trivial | refine ⟨⟨_, rfl, by first | rfl | exact inc_eq _ (by omega) | (refine sl_eq ?_; simp; done) | (refine svi_eq ?_; subst_vars; (try dsimp only); (try simp (disch := omega) only [wrap_of]); omega) | (simp [cntL]), by first | exact trivial | simp [SV.ok]⟩, ?_⟩)
  · exact trivial
  · try dsimp only
    exact ⟨by omega, by simpa [mkL] using ho⟩
  · exact .refl _
  rintro ⟨k, B⟩ hI
  obtain ⟨hk, oB⟩ : k ≤ xs.length ∧ (gSl 164 gWalk).ow [.slice b xs.length c] (mkL gWalk k0 (xs.take k) ++ xs.drop k) B := hI
  try dsimp only
  refine VCsplit.intro (fun q0 => ?_) (fun q0 => ?_)
  ·
    simp at q0
    have hs := (cntL_step gWalk xs k default (by omega))
    simp only [gWalk_cnt] at hs
    have hs2 := cntL_take_le gWalk xs (k + 1)
    obtain ⟨y, ey, oe⟩ := OwE.mk default k oB (by rw [mk_len _ _ _ _ (by omega)]; omega)
    rw [mk_get _ _ _ _ _ (by omega)] at ey
    clear oB
    refine oe_idx oe ?_ fun b1 o1 hb1 => ?_
    · rfl
    refine oe_store gWalk_atom 0 rfl oe rfl hb1 rfl gI_pl _ (gI_ow ?_) fun y2 A2 ey2 o2 => ?_
    · unfold okI; omega
    refine oe_idx o2 ?_ fun b3 o3 hb3 => ?_
    · rfl
    refine oe_store gWalk_src 0 rfl o2 rfl hb3 rfl gI_pl _ (gI_ow ?_) fun y4 A4 ey4 o4 => ?_
    · exact okI_wrap _
    refine oe_idx o4 ?_ fun b5 o5 hb5 => ?_
    · rfl
    refine oe_store gWalk_at 0 rfl o4 rfl hb5 rfl gI_pl _ (gI_ow ?_) fun y6 A6 ey6 o6 => ?_
    · exact okI_wrap _
    refine oe_idx o6 ?_ fun b7 o7 hb7 => ?_
    · rfl
    refine oe_store gWalk_state 0 rfl o6 rfl hb7 rfl gI_pl _ (gI_ow ?_) fun y8 A8 ey8 o8 => ?_
    · exact okI_wrap _
    apply loop_stepA (k + 1, _)
    · exact .refl _
    · repeat' (first | exact trivial | refine ⟨⟨_, rfl, by first | rfl | exact inc_eq _ (by omega) | (refine sl_eq ?_; simp; done) | (refine svi_eq ?_; subst_vars; (try dsimp only); (try simp (disch := omega) only [wrap_of]); omega) | (simp [cntL]), by first | exact trivial | simp [SV.ok]⟩, ?_⟩)
    · exact trivial
    · try dsimp only
      exact ⟨by omega, OwE.done (by assumption) (by rw [← mk_step gWalk default xs k0 k (by omega)]; congr 1; subst_vars; (try simp only [gWalk_mark, gWalk_cnt]); (try simp (disch := omega) only [wrap_of]); (try rfl))⟩
    · try dsimp only
      omega
  ·
    simp at q0
    obtain rfl : k = xs.length := by omega
    rw [List.take_length, List.drop_length, List.append_nil] at oB
    exact ⟨_, ⟨by rw [List.take_length], oB⟩, (.le fun a => by (try simp only [setR, List.cons_append, List.nil_append]); simp only [List.flatten_append, List.flatten_cons, List.flatten_nil, List.count_append, List.count_nil, List.append_nil, List.nil_append]; omega)⟩
--@ct laws.markGotS mark1 markGotS_ct _ _ _ _ _ _ ~ ?_ ?_
theorem markGotS_ct (b : Option Addr) (m c : Nat) (xs : List Got) (A : Hp) (k0 : Int) (ho : (gSl 188 gGot).ow [.slice b m c] xs A) (h0 : 0 ≤ k0) (h1 : k0 + cntL gGot xs ≤ 4611686018427387904) :
    CtR Tryz.prog 135 [.slice b m c, .int .i64 k0] A (fun _ => True) (fun v A => v = .int .i64 (k0 + cntL gGot xs) ∧ (gSl 188 gGot).ow [.slice b m c] (mkL gGot k0 xs) A) := by
  obtain ⟨rfl, hcl, hl⟩ := sl_len (Gt.owrd _ ho)
  refine CtR.intro G_ok [A] Tryz.func135 rfl rfl rfl (by simp) fun E H hp => ?_
  apply loop_mod (α := (Nat) × (Hp)) G_ok [6, 7, 8, 9, 12, 13, 14, 15, 16, 17, 18, 1, 19, 20, 21, 22, 23, 24, 25, 26, 27, 28, 29, 30, 31, 32, 33, 10, 11, 5] (fun z => [(5, .v (.int .i64 z.1)), (1, .v (.int .i64 (k0 + cntL gGot (xs.take z.1))))]) (fun z => []) (fun z => [z.2, H]) (fun z => xs.length - z.1) (fun z => z.1 ≤ xs.length ∧ (gSl 188 gGot).ow [.slice b xs.length c] (mkL gGot k0 (xs.take z.1) ++ xs.drop z.1) z.2) ((0, A))
  · repeat' (first | exact trivial | refine ⟨⟨_, rfl, by first | rfl | exact inc_eq _ (by omega) | (refine sl_eq ?_; simp; done) | (refine svi_eq ?_; subst_vars; (try dsimp only); (try simp (disch := omega) only [wrap_of]); omega) | (simp [cntL]), by first | exact trivial | simp [SV.ok]⟩, ?_⟩)
  · exact trivial
  · try dsimp only
    exact ⟨by omega, by simpa [mkL] using ho⟩
  · exact .refl _
  rintro ⟨k, B⟩ hI
  obtain ⟨hk, oB⟩ : k ≤ xs.length ∧ (gSl 188 gGot).ow [.slice b xs.length c] (mkL gGot k0 (xs.take k) ++ xs.drop k) B := hI
  try dsimp only
  refine VCsplit.intro (fun q0 => ?_) (fun q0 => ?_)
  ·
    simp at q0
    have hs := (cntL_step gGot xs k default (by omega))
    simp only [gBag_cnt, gGot_cnt] at hs
    have hs2 := cntL_take_le gGot xs (k + 1)
    obtain ⟨y, ey, oe⟩ := OwE.mk default k oB (by rw [mk_len _ _ _ _ (by omega)]; omega)
    rw [mk_get _ _ _ _ _ (by omega)] at ey
    clear oB
    refine oe_idx oe ?_ fun b1 o1 hb1 => ?_
    · rfl
    refine oe_store gGot_from 0 rfl oe rfl hb1 rfl gI_pl _ (gI_ow ?_) fun y2 A2 ey2 o2 => ?_
    · unfold okI; omega
    refine oe_idx o2 ?_ fun b3 o3 hb3 => ?_
    · rfl
    refine oe_store gGot_atom 0 rfl o2 rfl hb3 rfl gI_pl _ (gI_ow ?_) fun y4 A4 ey4 o4 => ?_
    · exact okI_wrap _
    refine oe_idx o4 ?_ fun b5 o5 hb5 => ?_
    · rfl
    refine oe_load gGot_bag o4 rfl hb5 rfl (mem_at 0 rfl) fun l6 hl6 hf6 => ?_
    obtain ⟨b0x6, c0x6, rfl, h0x6⟩ := gBag_rd.1 hl6
    refine call_foc 0 rfl hf6 (fun Af7 oa7 => markItemS_ct _ _ _ _ _ _ oa7 ?_ ?_) (fun _ _ => trivial) ?_
    · (simp (disch := omega) only [wrap_of]; omega)
    · (subst_vars; (try dsimp only at *); (try simp (disch := omega) only [wrap_of] at *); omega)
    rintro _ A7 rfl ⟨y7, ey7, o7⟩
    try dsimp only at ey7
    apply loop_stepA (k + 1, _)
    · exact .refl _
    · repeat' (first | exact trivial | refine ⟨⟨_, rfl, by first | rfl | exact inc_eq _ (by omega) | (refine sl_eq ?_; simp; done) | (refine svi_eq ?_; subst_vars; (try dsimp only); (try simp (disch := omega) only [wrap_of]); omega) | (simp [cntL]), by first | exact trivial | simp [SV.ok]⟩, ?_⟩)
    · exact trivial
    · try dsimp only
      exact ⟨by omega, OwE.done (by assumption) (by rw [← mk_step gGot default xs k0 k (by omega)]; congr 1; subst_vars; (try simp only [gBag_mark, gBag_cnt, gGot_mark, gGot_cnt]); (try simp (disch := omega) only [wrap_of]); (try rfl))⟩
    · try dsimp only
      omega
  ·
    simp at q0
    obtain rfl : k = xs.length := by omega
    rw [List.take_length, List.drop_length, List.append_nil] at oB
    exact ⟨_, ⟨by rw [List.take_length], oB⟩, (.le fun a => by (try simp only [setR, List.cons_append, List.nil_append]); simp only [List.flatten_append, List.flatten_cons, List.flatten_nil, List.count_append, List.count_nil, List.append_nil, List.nil_append]; omega)⟩
--@ct laws.markCell mark1 markCell_ct _ _ _ _ ~ ?_ ?_
theorem markCell_ct (l : List Value) (x : Cell) (A : Hp) (k0 : Int) (ho : gCell.ow l x A) (h0 : 0 ≤ k0) (h1 : k0 + gCell.cntV x ≤ 4611686018427387904) :
    CtR Tryz.prog 47 [.agg ⟨l⟩, .int .i64 k0] A (fun _ => True) (fun v A => v = .int .i64 (k0 + gCell.cntV x) ∧ gCell.ow l (gCell.markV k0 x) A) := by
  obtain ⟨l0, A0, b1, c1, A1, b4, c4, A4, rfl, hpm, h0, h1, w2, w3, h4⟩ := gCell_ow.1 ho
  have r0 := Gt.owrd _ h0
  obtain ⟨b1_0, c1_0, b2_0, c2_0, b3_0, c3_0, rfl, h1_0, h2_0, h3_0⟩ := gQuery_rd.1 r0
  have hz := gCell_cntV x
  refine CtR.introP G_ok [A0, A1, A4] Tryz.func47 rfl rfl rfl (hpm.trans (by simp)) fun E H hp => ?_
  refine VCnew.intro fun x0 => ?_
  refine callR_at 0 rfl (markQuery_ct _ _ _ _ h0 ?_ ?_) trivial ?_
  · trivial
  · omega
  rintro _ A1 ⟨rfl, o1⟩
  refine callR_at 1 rfl (markIntS_ct _ _ _ _ _ _ h1 ?_ ?_) trivial ?_
  · omega
  · omega
  rintro _ A2 ⟨rfl, o2⟩
  refine callR_at 2 rfl (markGotS_ct _ _ _ _ _ _ h4 ?_ ?_) trivial ?_
  · omega
  · omega
  rintro _ A3 ⟨rfl, o3⟩
  exact ⟨_, ⟨by rw [hz]; (try simp); (try omega), by rw [gCell_markV]; exact gCell_ow.2 ⟨_, _, _, _, _, _, _, _, by simp only [mkL_len]; rfl, .refl _, by assumption, by rw [mkL_len]; assumption, by assumption, by assumption, by rw [mkL_len]; assumption⟩⟩, (.le fun a => by (try simp only [setR, List.cons_append, List.nil_append]); simp only [List.flatten_append, List.flatten_cons, List.flatten_nil, List.count_append, List.count_nil, List.append_nil, List.nil_append]; omega)⟩
--@ct laws.markMailS mark1 markMailS_ct _ _ _ _ _ _ ~ ?_ ?_
theorem markMailS_ct (b : Option Addr) (m c : Nat) (xs : List Mail) (A : Hp) (k0 : Int) (ho : (gSl 245 gMail).ow [.slice b m c] xs A) (h0 : 0 ≤ k0) (h1 : k0 + cntL gMail xs ≤ 4611686018427387904) :
    CtR Tryz.prog 99 [.slice b m c, .int .i64 k0] A (fun _ => True) (fun v A => v = .int .i64 (k0 + cntL gMail xs) ∧ (gSl 245 gMail).ow [.slice b m c] (mkL gMail k0 xs) A) := by
  obtain ⟨rfl, hcl, hl⟩ := sl_len (Gt.owrd _ ho)
  refine CtR.intro G_ok [A] Tryz.func99 rfl rfl rfl (by simp) fun E H hp => ?_
  apply loop_mod (α := (Nat) × (Hp)) G_ok [6, 7, 8, 9, 12, 13, 14, 15, 16, 17, 18, 1, 19, 20, 21, 22, 23, 24, 25, 26, 27, 28, 29, 30, 31, 32, 33, 34, 35, 36, 37, 38, 39, 40, 41, 42, 43, 44, 45, 46, 47, 48, 49, 50, 51, 52, 53, 54, 55, 56, 57, 58, 59, 60, 61, 62, 63, 64, 65, 66, 67, 68, 69, 10, 11, 5] (fun z => [(5, .v (.int .i64 z.1)), (1, .v (.int .i64 (k0 + cntL gMail (xs.take z.1))))]) (fun z => []) (fun z => [z.2, H]) (fun z => xs.length - z.1) (fun z => z.1 ≤ xs.length ∧ (gSl 245 gMail).ow [.slice b xs.length c] (mkL gMail k0 (xs.take z.1) ++ xs.drop z.1) z.2) ((0, A))
  · repeat' (first | exact trivial | refine ⟨⟨_, rfl, by first | rfl | exact inc_eq _ (by omega) | (refine sl_eq ?_; simp; done) | (refine svi_eq ?_; subst_vars; (try dsimp only); (try simp (disch := omega) only [wrap_of]); omega) | (simp [cntL]), by first | exact trivial | simp [SV.ok]⟩, ?_⟩)
  · exact trivial
  · try dsimp only
    exact ⟨by omega, by simpa [mkL] using ho⟩
  · exact .refl _
  rintro ⟨k, B⟩ hI
  obtain ⟨hk, oB⟩ : k ≤ xs.length ∧ (gSl 245 gMail).ow [.slice b xs.length c] (mkL gMail k0 (xs.take k) ++ xs.drop k) B := hI
  try dsimp only
  refine VCsplit.intro (fun q0 => ?_) (fun q0 => ?_)
  ·
    simp at q0
    have hs := (cntL_step gMail xs k default (by omega))
    simp only [gLetter_cnt, gMail_cnt] at hs
    have hs2 := cntL_take_le gMail xs (k + 1)
    obtain ⟨y, ey, oe⟩ := OwE.mk default k oB (by rw [mk_len _ _ _ _ (by omega)]; omega)
    rw [mk_get _ _ _ _ _ (by omega)] at ey
    clear oB
    refine oe_idx oe ?_ fun b1 o1 hb1 => ?_
    · rfl
    refine oe_store gMail_peer 0 rfl oe rfl hb1 rfl gI_pl _ (gI_ow ?_) fun y2 A2 ey2 o2 => ?_
    · unfold okI; omega
    refine oe_idx o2 ?_ fun b3 o3 hb3 => ?_
    · rfl
    refine oe_store gMail_letter_kind 0 rfl o2 rfl hb3 rfl gI_pl _ (gI_ow ?_) fun y4 A4 ey4 o4 => ?_
    · exact okI_wrap _
    dsimp only at ey4
    refine oe_idx o4 ?_ fun b5 o5 hb5 => ?_
    · rfl
    refine oe_store gMail_letter_atom 0 rfl o4 rfl hb5 rfl gI_pl _ (gI_ow ?_) fun y6 A6 ey6 o6 => ?_
    · exact okI_wrap _
    dsimp only at ey6
    refine oe_idx o6 ?_ fun b7 o7 hb7 => ?_
    · rfl
    refine oe_store gMail_letter_num 0 rfl o6 rfl hb7 rfl gI_pl _ (gI_ow ?_) fun y8 A8 ey8 o8 => ?_
    · exact okI_wrap _
    dsimp only at ey8
    refine VC.intro ?_ ?_
    · trivial
    refine oe_idx o8 ?_ fun b9 o9 hb9 => ?_
    · rfl
    refine oe_store gMail_letter_black 0 rfl o8 rfl hb9 rfl gB_pl _ (gB_ow trivial) fun y10 A10 ey10 o10 => ?_
    dsimp only at ey10
    refine oe_idx o10 ?_ fun b11 o11 hb11 => ?_
    · rfl
    refine oe_load gMail_letter_walks o10 rfl hb11 rfl (mem_at 0 rfl) fun l12 hl12 hf12 => ?_
    dsimp only at hl12 hf12
    obtain ⟨u12, w12, rfl, hl12⟩ := sl_rd hl12
    refine call_foc 0 rfl hf12 (fun Af13 oa13 => markWalkS_ct _ _ _ _ _ _ oa13 ?_ ?_) (fun _ _ => trivial) ?_
    · (simp (disch := omega) only [wrap_of]; omega)
    · (subst_vars; (try dsimp only at *); (try simp (disch := omega) only [wrap_of] at *); omega)
    rintro _ A13 rfl ⟨y13, ey13, o13⟩
    try dsimp only at ey13
    refine call_val (markText_ct _ ?_) trivial ?_
    · (subst_vars; (try dsimp only at *); (try simp (disch := omega) only [wrap_of] at *); omega)
    rintro _ rfl
    refine oe_idx o13 ?_ fun b15 o15 hb15 => ?_
    · rfl
    refine oe_store gMail_letter_text 0 rfl o13 rfl hb15 rfl fl_pl _ (gS_ow ?_) fun y16 A16 ey16 o16 => ?_
    · exact mtx_size _
    dsimp only at ey16
    apply loop_stepA (k + 1, _)
    · exact .refl _
    · repeat' (first | exact trivial | refine ⟨⟨_, rfl, by first | rfl | exact inc_eq _ (by omega) | (refine sl_eq ?_; simp; done) | (refine svi_eq ?_; subst_vars; (try dsimp only); (try simp (disch := omega) only [wrap_of]); omega) | (simp [cntL]), by first | exact trivial | simp [SV.ok]⟩, ?_⟩)
    · exact trivial
    · try dsimp only
      exact ⟨by omega, OwE.done (by assumption) (by rw [← mk_step gMail default xs k0 k (by omega)]; congr 1; subst_vars; (try simp only [gLetter_mark, gLetter_cnt, gMail_mark, gMail_cnt]); (try simp (disch := omega) only [wrap_of]); (try rfl))⟩
    · try dsimp only
      omega
  ·
    simp at q0
    obtain rfl : k = xs.length := by omega
    rw [List.take_length, List.drop_length, List.append_nil] at oB
    exact ⟨_, ⟨by rw [List.take_length], oB⟩, (.le fun a => by (try simp only [setR, List.cons_append, List.nil_append]); simp only [List.flatten_append, List.flatten_cons, List.flatten_nil, List.count_append, List.count_nil, List.append_nil, List.nil_append]; omega)⟩
--@ct laws.markWork mark1 markWork_ct _ _ _ _ ~ ?_ ?_
theorem markWork_ct (l : List Value) (x : Work) (A : Hp) (k0 : Int) (ho : gWork.ow l x A) (h0 : 0 ≤ k0) (h1 : k0 + gWork.cntV x ≤ 4611686018427387904) :
    CtR Tryz.prog 30 [.agg ⟨l⟩, .int .i64 k0] A (fun _ => True) (fun v A => v = .int .i64 (k0 + gWork.cntV x) ∧ gWork.ow l (gWork.markV k0 x) A) := by
  obtain ⟨l1, A1, b2, c2, A2, b4, c4, A4, l11, A11, b13, c13, A13, rfl, hpm, h1, h2, w3, h4, w5, w8, h11, h13⟩ := gWork_ow.1 ho
  have r1 := Gt.owrd _ h1
  obtain ⟨b1_1, c1_1, b2_1, c2_1, b3_1, c3_1, rfl, h1_1, h2_1, h3_1⟩ := gQuery_rd.1 r1
  have r11 := Gt.owrd _ h11
  obtain ⟨l0_11, b1_11, c1_11, b4_11, c4_11, rfl, h0_11, h1_11, w2_11, w3_11, h4_11⟩ := gCell_rd.1 r11
  obtain ⟨b1_0_11, c1_0_11, b2_0_11, c2_0_11, b3_0_11, c3_0_11, rfl, h1_0_11, h2_0_11, h3_0_11⟩ := gQuery_rd.1 h0_11
  have hz := gWork_cntV x
  refine CtR.introP G_ok [A1, A2, A4, A11, A13] Tryz.func30 rfl rfl rfl (hpm.trans (by simp)) fun E H hp => ?_
  refine VCnew.intro fun x0 => ?_
  refine callR_at 0 rfl (markQuery_ct _ _ _ _ h1 ?_ ?_) trivial ?_
  · trivial
  · omega
  rintro _ A1 ⟨rfl, o1⟩
  refine callR_at 1 rfl (markIntS_ct _ _ _ _ _ _ h2 ?_ ?_) trivial ?_
  · omega
  · omega
  rintro _ A2 ⟨rfl, o2⟩
  refine callR_at 2 rfl (markWalkS_ct _ _ _ _ _ _ h4 ?_ ?_) trivial ?_
  · omega
  · omega
  rintro _ A3 ⟨rfl, o3⟩
  refine callR_at 3 rfl (markCell_ct _ _ _ _ h11 ?_ ?_) trivial ?_
  · omega
  · omega
  rintro _ A4 ⟨rfl, o4⟩
  refine callR_at 4 rfl (markMailS_ct _ _ _ _ _ _ h13 ?_ ?_) trivial ?_
  · omega
  · omega
  rintro _ A5 ⟨rfl, o5⟩
  exact ⟨_, ⟨by rw [hz]; (try simp); (try omega), by rw [gWork_markV]; exact gWork_ow.2 ⟨_, _, _, _, _, _, _, _, _, _, _, _, _, by simp only [mkL_len]; rfl, .refl _, by assumption, by rw [mkL_len]; assumption, by assumption, by rw [mkL_len]; assumption, by assumption, by assumption, by assumption, by rw [mkL_len]; assumption⟩⟩, (.le fun a => by (try simp only [setR, List.cons_append, List.nil_append]); simp only [List.flatten_append, List.flatten_cons, List.flatten_nil, List.count_append, List.count_nil, List.append_nil, List.nil_append]; omega)⟩
--@ct laws.markIntSS mark1 markIntSS_ct _ _ _ _ _ _ ~ ?_ ?_
theorem markIntSS_ct (b : Option Addr) (m c : Nat) (xs : List (List Int)) (A : Hp) (k0 : Int) (ho : (gSl 27 (gSl 3 gI)).ow [.slice b m c] xs A) (h0 : 0 ≤ k0) (h1 : k0 + cntL (gSl 3 gI) xs ≤ 4611686018427387904) :
    CtR Tryz.prog 22 [.slice b m c, .int .i64 k0] A (fun _ => True) (fun v A => v = .int .i64 (k0 + cntL (gSl 3 gI) xs) ∧ (gSl 27 (gSl 3 gI)).ow [.slice b m c] (mkL (gSl 3 gI) k0 xs) A) := by
  obtain ⟨rfl, hcl, hl⟩ := sl_len (Gt.owrd _ ho)
  refine CtR.intro G_ok [A] Tryz.func22 rfl rfl rfl (by simp) fun E H hp => ?_
  apply loop_mod (α := (Nat) × (Hp)) G_ok [6, 7, 8, 9, 12, 13, 14, 15, 16, 17, 1, 10, 11, 5] (fun z => [(5, .v (.int .i64 z.1)), (1, .v (.int .i64 (k0 + cntL (gSl 3 gI) (xs.take z.1))))]) (fun z => []) (fun z => [z.2, H]) (fun z => xs.length - z.1) (fun z => z.1 ≤ xs.length ∧ (gSl 27 (gSl 3 gI)).ow [.slice b xs.length c] (mkL (gSl 3 gI) k0 (xs.take z.1) ++ xs.drop z.1) z.2) ((0, A))
  · repeat' (first | exact trivial | refine ⟨⟨_, rfl, by first | rfl | exact inc_eq _ (by omega) | (refine sl_eq ?_; simp; done) | (refine svi_eq ?_; subst_vars; (try dsimp only); (try simp (disch := omega) only [wrap_of]); omega) | (simp [cntL]), by first | exact trivial | simp [SV.ok]⟩, ?_⟩)
  · exact trivial
  · try dsimp only
    exact ⟨by omega, by simpa [mkL] using ho⟩
  · exact .refl _
  rintro ⟨k, B⟩ hI
  obtain ⟨hk, oB⟩ : k ≤ xs.length ∧ (gSl 27 (gSl 3 gI)).ow [.slice b xs.length c] (mkL (gSl 3 gI) k0 (xs.take k) ++ xs.drop k) B := hI
  try dsimp only
  refine VCsplit.intro (fun q0 => ?_) (fun q0 => ?_)
  ·
    simp at q0
    have hs := (cntL_step (gSl 3 gI) xs k [] (by omega))
    change _ = _ + cntL _ _ at hs
    have hs2 := cntL_take_le (gSl 3 gI) xs (k + 1)
    obtain ⟨y, ey, oe⟩ := OwE.mk [] k oB (by rw [mk_len _ _ _ _ (by omega)]; omega)
    rw [mk_get _ _ _ _ _ (by omega)] at ey
    clear oB
    refine oe_idx oe ?_ fun b1 o1 hb1 => ?_
    · rfl
    refine oe_load fldId oe rfl hb1 rfl (mem_at 0 rfl) fun l2 hl2 hf2 => ?_
    obtain ⟨u2, w2, rfl, hl2⟩ := sl_rd hl2
    refine call_foc 0 rfl hf2 (fun Af3 oa3 => markIntS_ct _ _ _ _ _ _ oa3 ?_ ?_) (fun _ _ => trivial) ?_
    · omega
    · simp_all; omega
    rintro _ A3 rfl ⟨y3, ey3, o3⟩
    try dsimp only at ey3
    apply loop_stepA (k + 1, _)
    · exact .refl _
    · repeat' (first | exact trivial | refine ⟨⟨_, rfl, by first | rfl | exact inc_eq _ (by omega) | (refine sl_eq ?_; simp; done) | (refine svi_eq ?_; subst_vars; (try dsimp only); (try simp (disch := omega) only [wrap_of]); omega) | (simp [cntL]), by first | exact trivial | simp [SV.ok]⟩, ?_⟩)
    · exact trivial
    · try dsimp only
      exact ⟨by omega, OwE.done (by assumption) (by rw [← mk_step (gSl 3 gI) [] xs k0 k (by omega)]; congr 1; subst_vars; (try simp only [mkL]); (try simp (disch := omega) only [wrap_of]); (try rfl))⟩
    · try dsimp only
      omega
  ·
    simp at q0
    obtain rfl : k = xs.length := by omega
    rw [List.take_length, List.drop_length, List.append_nil] at oB
    exact ⟨_, ⟨by rw [List.take_length], oB⟩, (.le fun a => by (try simp only [setR, List.cons_append, List.nil_append]); simp only [List.flatten_append, List.flatten_cons, List.flatten_nil, List.count_append, List.count_nil, List.append_nil, List.nil_append]; omega)⟩
--@ct laws.heldIntSS val heldIntSS_ct _ _ _ _ _ _ ?_ ?_ ?_ | %1
theorem heldIntSS_ct (b : Option Addr) (m c : Nat) (xs : List (List Int)) (k0 k1 : Int) (hk1 : k0 = k1) (h0 : 0 ≤ k0) (h1 : k0 + cntL (gSl 3 gI) xs ≤ 4611686018427387904) :
    Ct Tryz.prog 31 [.slice b m c, .int .i64 k0] [] (fun H => (gSl 27 (gSl 3 gI)).rd H [.slice b m c] (mkL (gSl 3 gI) k1 xs)) (fun v A => v = .int .i64 (k0 + cntL (gSl 3 gI) xs) ∧ A = []) := by
  subst hk1
  refine Ct.intro0 G_ok Tryz.func31 rfl rfl rfl fun E H hp => ?_
  have hm0 := (sl_len hp).1
  rw [mkL_len] at hm0; subst hm0
  obtain ⟨-, hcl, hl⟩ := sl_len hp
  rw [mkL_len] at hcl hl
  have hln := mkL_len (gSl 3 gI) xs k0
  apply loop_mod (α := (Nat)) G_ok [6, 7, 8, 9, 12, 13, 14, 15, 16, 17, 1, 18, 19, 4, 10, 11, 5] (fun z => [(5, .v (.int .i64 z)), (1, .v (.int .i64 (k0 + cntL (gSl 3 gI) (xs.take z))))]) (fun z => []) (fun z => [H]) (fun z => xs.length - z) (fun z => z ≤ xs.length) (0)
  · repeat' (first | exact trivial | refine ⟨⟨_, rfl, by first | rfl | exact inc_eq _ (by omega) | (refine sl_eq ?_; simp; done) | (refine svi_eq ?_; (try dsimp only); (try simp (disch := omega) only [wrap_of]); omega) | (simp [cntL]), by first | exact trivial | simp [SV.ok]⟩, ?_⟩)
  · exact trivial
  · omega
  · exact .refl _
  rintro k hI
  obtain hk : k ≤ xs.length := hI
  try dsimp only
  refine VCsplit.intro (fun q0 => ?_) (fun q0 => ?_)
  ·
    simp at q0
    have hs := (cntL_step (gSl 3 gI) xs k [] (by omega))
    change _ = _ + cntL _ _ at hs
    have hs2 := cntL_take_le (gSl 3 gI) xs (k + 1)
    have hm := mkL_get (gSl 3 gI) [] xs k0 k (by omega)
    change _ = mkL _ _ _ at hm
    refine idx_rd hp ?_ ?_ fun b1 o1 hb1 => ?_
    · omega
    · omega
    refine load_allN [] (k) rfl hp ?_ ?_ hb1 rfl (mem_at 0 rfl) fun l2 hl2 => ?_
    · omega
    · omega
    rw [hm] at hl2
    obtain ⟨u2, w2, rfl, hl2⟩ := sl_rd hl2
    refine call_val (heldIntS_ct _ _ _ _ _ _ ?_ ?_ ?_) (Rp.mono _ (mem_at 0 rfl) hl2) ?_
    · rfl
    · omega
    · omega
    rintro _ rfl
    refine VCsplit.intro (fun q4 => ?_) (fun q4 => ?_)
    ·
      simp at q4
      exfalso; omega
    ·
      simp at q4
      apply loop_stepA (k + 1)
      · exact .refl _
      · repeat' (first | exact trivial | refine ⟨⟨_, rfl, by first | rfl | exact inc_eq _ (by omega) | (refine sl_eq ?_; simp; done) | (refine svi_eq ?_; (try dsimp only); (try simp (disch := omega) only [wrap_of]); omega) | (simp [cntL]), by first | exact trivial | simp [SV.ok]⟩, ?_⟩)
      · exact trivial
      · trivial
      · omega
  ·
    simp at q0
    obtain rfl : k = xs.length := by omega
    exact ⟨[], ⟨by rw [List.take_length], rfl⟩, (.le fun a => by (try simp only [setR, List.cons_append, List.nil_append]); simp only [List.flatten_append, List.flatten_cons, List.flatten_nil, List.count_append, List.count_nil, List.append_nil, List.nil_append]; omega)⟩
end Go.Proofs.YtjgehblllhkdbaaGreat

namespace Go.Proofs.YtjgehblllhkdbaaGreat
open Go.SX Go.Proofs
set_option linter.unusedSimpArgs false
set_option linter.unusedVariables false
set_option maxHeartbeats 8000000
theorem szI7 : ∀ xs : List Int, szL gI xs = xs.length
  | [] => rfl
  | x :: r => by
    have := szI7 r
    show 1 + 0 + szL gI r = _
    rw [this, List.length_cons]; omega
theorem szP7 : ∀ xs : List (List Int), (∀ r ∈ xs, r.length = 2) → szL (gSl 3 gI) xs = 3 * xs.length
  | [], _ => rfl
  | x :: r, h => by
    have ih := szP7 r fun y hy => h y (List.mem_cons_of_mem _ hy)
    have h0 := h x (List.mem_cons_self ..)
    show 1 + szL gI x + szL (gSl 3 gI) r = _
    rw [szI7, ih, h0, List.length_cons]; omega
theorem wp_two {w : Work} {a : Int} : ∀ r ∈ wpM w a, r.length = 2 := by
  intro r hr
  unfold wpM pairsM at hr
  split at hr
  · split at hr
    · rw [zK_mem] at hr
      unfold pickW at hr
      obtain ⟨y, _, rfl⟩ := List.mem_map.1 hr
      rfl
    · cases hr
  · cases hr
theorem wp_cnt7 (w : Work) (a : Int) (h : gWork.sz w ≤ 1048576) : (cntL (gSl 3 gI) (wpM w a) : Int) ≤ 1000000000 := by
  have h1 := cntL_le (gSl 3 gI) (wpM w a)
  have h2 : (gSl 3 gI).w ≤ 50 := by decide
  have h3 := szP7 (wpM w a) wp_two
  have h4 := wp_len w a
  have h5 := (work_q h).2
  have := Nat.mul_le_mul h2 (show szL (gSl 3 gI) (wpM w a) ≤ 3145728 by omega)
  omega
theorem work_cnt7 (x : Work) (h : gWork.sz x ≤ 1048576) : (gWork.cntV x : Int) ≤ 2000000000 := by
  have h1 := gWork.cntV_le x
  have h2 : gWork.w ≤ 1000 := by decide
  have := Nat.mul_le_mul h2 (show 1 + gWork.sz x ≤ 1048577 by omega)
  omega
attribute [local irreducible] wpM
theorem fnExactWorkPairs_ct (v0 v1 : Value) :
    Ct Tryz.prog 4 [v0, v1] [] (fun H => (∃ x, rdV true gWork.toRp H v0 x) ∧ (∃ x, rdV false gI.toRp H v1 x)) (fun v A => v = .bool true ∧ A = []) := by
  refine Ct.intro0 G_ok Tryz.func4 rfl rfl rfl fun E H hp => ?_
  obtain ⟨⟨xa0, hp0⟩, ⟨xa1, hp1⟩⟩ := hp
  obtain ⟨la0, rfl, hp0⟩ := hp0
  obtain ⟨l1a0, b2a0, c2a0, b4a0, c4a0, l11a0, b13a0, c13a0, rfl, h1a0, h2a0, w3a0, h4a0, w5a0, w8a0, h11a0, h13a0⟩ := gWork_rd.1 hp0
  obtain ⟨b1_1a0, c1_1a0, b2_1a0, c2_1a0, b3_1a0, c3_1a0, rfl, h1_1a0, h2_1a0, h3_1a0⟩ := gQuery_rd.1 h1a0
  obtain ⟨l0_11a0, b1_11a0, c1_11a0, b4_11a0, c4_11a0, rfl, h0_11a0, h1_11a0, w2_11a0, w3_11a0, h4_11a0⟩ := gCell_rd.1 h11a0
  obtain ⟨b1_0_11a0, c1_0_11a0, b2_0_11a0, c2_0_11a0, b3_0_11a0, c3_0_11a0, rfl, h1_0_11a0, h2_0_11a0, h3_0_11a0⟩ := gQuery_rd.1 h0_11a0
  obtain ⟨ea1, wa1⟩ := hp1; cases ea1
  refine VCnew.intro fun x0 => ?_
  refine call_q (szWork_ct _ (xa0) _ ?_ ?_) (Rp.mono _ (mem_at 0 rfl) hp0) ?_
  · trivial
  · trivial
  rintro _ ⟨r1, rfl, hr1⟩
  refine VCsplit.intro (fun q2 => ?_) (fun q2 => ?_)
  ·
    simp at q2
    exact ⟨[], ⟨rfl, rfl⟩, (.le fun a => by (try simp only [setR, List.cons_append, List.nil_append]); simp only [List.flatten_append, List.flatten_cons, List.flatten_nil, List.count_append, List.count_nil, List.append_nil, List.nil_append]; omega)⟩
  ·
    simp at q2
    refine call_new (toWork_ct _ (xa0) ?_) (Rp.mono _ (mem_at 0 rfl) hp0) ?_
    · omega
    rintro v3 A3 o3
    obtain ⟨l3, rfl, o3⟩ := o3
    have r3 := Gt.owrd _ o3
    obtain ⟨l1x3, b2x3, c2x3, b4x3, c4x3, l11x3, b13x3, c13x3, rfl, h1x3, h2x3, w3x3, h4x3, w5x3, w8x3, h11x3, h13x3⟩ := gWork_rd.1 r3
    obtain ⟨b1_1x3, c1_1x3, b2_1x3, c2_1x3, b3_1x3, c3_1x3, rfl, h1_1x3, h2_1x3, h3_1x3⟩ := gQuery_rd.1 h1x3
    obtain ⟨l0_11x3, b1_11x3, c1_11x3, b4_11x3, c4_11x3, rfl, h0_11x3, h1_11x3, w2_11x3, w3_11x3, h4_11x3⟩ := gCell_rd.1 h11x3
    obtain ⟨b1_0_11x3, c1_0_11x3, b2_0_11x3, c2_0_11x3, b3_0_11x3, c3_0_11x3, rfl, h1_0_11x3, h2_0_11x3, h3_0_11x3⟩ := gQuery_rd.1 h0_11x3
    refine call_new (specWorkPairs_ct _ (xa0) _ ?_) (Rp.mono _ (mem_at 0 rfl) r3) ?_
    · omega
    rintro v4 A4 o4
    obtain ⟨b4, c4, rfl, o4⟩ := o4
    refine call_new (toWork_ct _ (xa0) ?_) (Rp.mono _ (mem_at 2 rfl) hp0) ?_
    · omega
    rintro v5 A5 o5
    obtain ⟨l5, rfl, o5⟩ := o5
    have r5 := Gt.owrd _ o5
    obtain ⟨l1x5, b2x5, c2x5, b4x5, c4x5, l11x5, b13x5, c13x5, rfl, h1x5, h2x5, w3x5, h4x5, w5x5, w8x5, h11x5, h13x5⟩ := gWork_rd.1 r5
    obtain ⟨b1_1x5, c1_1x5, b2_1x5, c2_1x5, b3_1x5, c3_1x5, rfl, h1_1x5, h2_1x5, h3_1x5⟩ := gQuery_rd.1 h1x5
    obtain ⟨l0_11x5, b1_11x5, c1_11x5, b4_11x5, c4_11x5, rfl, h0_11x5, h1_11x5, w2_11x5, w3_11x5, h4_11x5⟩ := gCell_rd.1 h11x5
    obtain ⟨b1_0_11x5, c1_0_11x5, b2_0_11x5, c2_0_11x5, b3_0_11x5, c3_0_11x5, rfl, h1_0_11x5, h2_0_11x5, h3_0_11x5⟩ := gQuery_rd.1 h0_11x5
    refine VCnew.intro fun x6 => ?_
    refine call_new (implWorkPairs_ct _ (xa0) _ ?_) (Rp.mono _ (mem_at 0 rfl) r5) ?_
    · omega
    rintro v7 A7 o7
    obtain ⟨b7, c7, rfl, o7⟩ := o7
    refine call_val (eqIntSS_ct _ _ _ _ _ _ (wpM xa0 xa1) (wpM xa0 xa1)) ⟨(Rp.mono _ (mem_at 0 rfl) (Gt.owrd _ o7)), (Rp.mono _ (mem_at 2 rfl) (Gt.owrd _ o4))⟩ ?_
    rintro _ rfl
    refine VCsplit.intro (fun q9 => ?_) (fun q9 => ?_)
    ·
      simp at q9
    ·
      simp at q9
      refine draw G_ok mixed none (.q 0 (.q 1 (.f 2 (.f 3 (.q 4 (.nil)))))) (by decide +kernel) ?_
      refine call_new (toWork_ct _ (xa0) ?_) (Rp.mono _ (mem_at 4 rfl) hp0) ?_
      · omega
      rintro v10 A10 o10
      obtain ⟨l10, rfl, o10⟩ := o10
      have r10 := Gt.owrd _ o10
      obtain ⟨l1x10, b2x10, c2x10, b4x10, c4x10, l11x10, b13x10, c13x10, rfl, h1x10, h2x10, w3x10, h4x10, w5x10, w8x10, h11x10, h13x10⟩ := gWork_rd.1 r10
      obtain ⟨b1_1x10, c1_1x10, b2_1x10, c2_1x10, b3_1x10, c3_1x10, rfl, h1_1x10, h2_1x10, h3_1x10⟩ := gQuery_rd.1 h1x10
      obtain ⟨l0_11x10, b1_11x10, c1_11x10, b4_11x10, c4_11x10, rfl, h0_11x10, h1_11x10, w2_11x10, w3_11x10, h4_11x10⟩ := gCell_rd.1 h11x10
      obtain ⟨b1_0_11x10, c1_0_11x10, b2_0_11x10, c2_0_11x10, b3_0_11x10, c3_0_11x10, rfl, h1_0_11x10, h2_0_11x10, h3_0_11x10⟩ := gQuery_rd.1 h0_11x10
      refine VC.intro ?_ ?_
      · exact keep_new
      refine call_val (eqWork_ct _ _ (xa0) (xa0)) ⟨(Rp.mono _ (mem_at 2 rfl) r5), (Rp.mono _ (mem_at 0 rfl) r10)⟩ ?_
      rintro _ rfl
      refine VC.intro ?_ ?_
      · exact keep_new
      refine VCsplit.intro (fun q12 => ?_) (fun q12 => ?_)
      ·
        simp at q12
      ·
        simp at q12
        refine callR_at 2 rfl (markWork_ct _ _ _ _ o5 ?_ ?_) trivial ?_
        · trivial
        · (have := work_cnt7 xa0 (by omega); omega)
        rintro _ A13 ⟨rfl, o13⟩
        refine VCsplit.intro (fun q14 => ?_) (fun q14 => ?_)
        ·
          simp at q14
          exfalso; omega
        ·
          simp at q14
          refine call_val (eqIntSS_ct _ _ _ _ _ _ (wpM xa0 xa1) (wpM xa0 xa1)) ⟨(Rp.mono _ (mem_at 1 rfl) (Gt.owrd _ o7)), (Rp.mono _ (mem_at 3 rfl) (Gt.owrd _ o4))⟩ ?_
          rintro _ rfl
          refine VCsplit.intro (fun q16 => ?_) (fun q16 => ?_)
          ·
            simp at q16
          ·
            simp at q16
            refine callR_at 1 rfl (markIntSS_ct _ _ _ _ _ _ o7 ?_ ?_) trivial ?_
            · trivial
            · (have := wp_cnt7 xa0 xa1 (by omega); omega)
            rintro _ A17 ⟨rfl, o17⟩
            refine call_val (heldIntSS_ct _ _ _ _ _ _ ?_ ?_ ?_) (Rp.mono _ (mem_at 1 rfl) (Gt.owrd _ o17)) ?_
            · rfl
            · trivial
            · (have := wp_cnt7 xa0 xa1 (by omega); omega)
            rintro _ rfl
            refine VCsplit.intro (fun q19 => ?_) (fun q19 => ?_)
            ·
              simp at q19
              exfalso; omega
            ·
              simp at q19
              refine VCsplit.intro (fun q20 => ?_) (fun q20 => ?_)
              ·
                simp at q20
              ·
                simp at q20
                refine call_new (toWork_ct _ (xa0) ?_) (Rp.mono _ (mem_at 5 rfl) hp0) ?_
                · omega
                rintro v21 A21 o21
                obtain ⟨l21, rfl, o21⟩ := o21
                have r21 := Gt.owrd _ o21
                obtain ⟨l1x21, b2x21, c2x21, b4x21, c4x21, l11x21, b13x21, c13x21, rfl, h1x21, h2x21, w3x21, h4x21, w5x21, w8x21, h11x21, h13x21⟩ := gWork_rd.1 r21
                obtain ⟨b1_1x21, c1_1x21, b2_1x21, c2_1x21, b3_1x21, c3_1x21, rfl, h1_1x21, h2_1x21, h3_1x21⟩ := gQuery_rd.1 h1x21
                obtain ⟨l0_11x21, b1_11x21, c1_11x21, b4_11x21, c4_11x21, rfl, h0_11x21, h1_11x21, w2_11x21, w3_11x21, h4_11x21⟩ := gCell_rd.1 h11x21
                obtain ⟨b1_0_11x21, c1_0_11x21, b2_0_11x21, c2_0_11x21, b3_0_11x21, c3_0_11x21, rfl, h1_0_11x21, h2_0_11x21, h3_0_11x21⟩ := gQuery_rd.1 h0_11x21
                refine call_new (implWorkPairs_ct _ (xa0) _ ?_) (Rp.mono _ (mem_at 0 rfl) r21) ?_
                · omega
                rintro v22 A22 o22
                obtain ⟨b22, c22, rfl, o22⟩ := o22
                refine call_val (eqIntSS_ct _ _ _ _ _ _ (wpM xa0 xa1) (wpM xa0 xa1)) ⟨(Rp.mono _ (mem_at 0 rfl) (Gt.owrd _ o22)), (Rp.mono _ (mem_at 5 rfl) (Gt.owrd _ o4))⟩ ?_
                rintro _ rfl
                refine VCsplit.intro (fun q24 => ?_) (fun q24 => ?_)
                ·
                  simp at q24
                ·
                  simp at q24
                  refine call_val (heldIntSS_ct _ _ _ _ _ _ ?_ ?_ ?_) (Rp.mono _ (mem_at 3 rfl) (Gt.owrd _ o17)) ?_
                  · rfl
                  · trivial
                  · (have := wp_cnt7 xa0 xa1 (by omega); omega)
                  rintro _ rfl
                  refine VCsplit.intro (fun q26 => ?_) (fun q26 => ?_)
                  ·
                    simp at q26
                    exfalso; omega
                  ·
                    simp at q26
                    refine VCsplit.intro (fun q27 => ?_) (fun q27 => ?_)
                    ·
                      simp at q27
                    ·
                      simp at q27
                      exact ⟨[], ⟨rfl, rfl⟩, (.le fun a => by (try simp only [setR, List.cons_append, List.nil_append]); simp only [List.flatten_append, List.flatten_cons, List.flatten_nil, List.count_append, List.count_nil, List.append_nil, List.nil_append]; omega)⟩
end Go.Proofs.YtjgehblllhkdbaaGreat
