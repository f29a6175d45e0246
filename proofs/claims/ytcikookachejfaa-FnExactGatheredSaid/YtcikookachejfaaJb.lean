/-
  Valid graphs: what their edges are; edges put into their place. Plain. Conditions: none.
-/
import Derived.Test.YtcikookachejfaaHf
namespace Go.Proofs.Ytcikookachejfaa
open Go.SX Go.Proofs
set_option maxHeartbeats 1000000

theorem edgeLess_iff {a b : Edge} : edgeLess a b = true ↔ a.from' < b.from' ∨ (a.from' = b.from' ∧ (a.label.toNat < b.label.toNat ∨ (a.label.toNat = b.label.toNat ∧ a.to < b.to))) := by
  unfold edgeLess
  by_cases e1 : a.from' = b.from'
  · rw [if_pos e1]
    by_cases e3 : a.label = b.label
    · rw [if_pos e3, decide_eq_true_iff, e3]; omega
    · have : ¬ a.label.toNat = b.label.toNat := fun h => e3 (UInt8.toNat_inj.1 h)
      rw [if_neg e3, decide_eq_true_iff]; omega
  · rw [if_neg e1, decide_eq_true_iff]; omega
theorem edgeLess_no {a b : Edge} : edgeLess a b = false ↔ ¬ (a.from' < b.from' ∨ (a.from' = b.from' ∧ (a.label.toNat < b.label.toNat ∨ (a.label.toNat = b.label.toNat ∧ a.to < b.to)))) := by
  rw [← edgeLess_iff, Bool.not_eq_true]
theorem edgeLess_trans {a b c : Edge} (h1 : edgeLess a b = true) (h2 : edgeLess b c = true) : edgeLess a c = true := by
  rw [edgeLess_iff] at *; omega
theorem edgeLess_irr (a : Edge) : edgeLess a a = false := by rw [edgeLess_no]; omega
theorem edgeLess_asym {a b : Edge} (h : edgeLess a b = true) : edgeLess b a = false := by
  rw [edgeLess_iff] at h; rw [edgeLess_no]; omega
theorem edgeLess_total {a b : Edge} (h1 : edgeLess a b = false) (h2 : edgeLess b a = false) : a = b := by
  rw [edgeLess_no] at h1 h2
  have h3 : a.label = b.label := UInt8.toNat_inj.1 (by omega)
  have h4 : a.from' = b.from' := by omega
  have h5 : a.to = b.to := by omega
  cases a; cases b; simp_all
/-- an edge that a graph of this size may have -/
def eOk (n : Int) (e : Edge) : Bool := inR 0 (n - 1) e.from' && (inR 0 (n - 1) e.to && labelOk e.label)
def sortedE (l : List Edge) : Prop := l.Pairwise fun a b => edgeLess a b = true
def gOk (n : Int) (l : List Edge) : Prop := (∀ e ∈ l, eOk n e = true) ∧ sortedE l

theorem edgeOk_iff {g : Graph} {i : Nat} : edgeOk g i = true ↔ eOk g.size (g.edges[i]?.getD default) = true ∧ (i = 0 ∨ edgeLess (g.edges[i - 1]?.getD default) (g.edges[i]?.getD default) = true) := by
  unfold edgeOk eOk; simp only [Bool.and_eq_true, Bool.or_eq_true, decide_eq_true_iff, and_assoc]
theorem allOk_iff {g : Graph} : ∀ {n : Nat}, allOk g n = true ↔ ∀ i, i < n → edgeOk g i = true
  | 0 => by unfold allOk; simp
  | n + 1 => by
    unfold allOk; rw [Bool.and_eq_true, allOk_iff]
    constructor
    · rintro ⟨h1, h2⟩ i hi
      rcases Nat.lt_or_ge i n with h | h
      · exact h1 i h
      · rw [show i = n by omega]; exact h2
    · exact fun h => ⟨fun i hi => h i (by omega), h n (by omega)⟩
theorem adj_pair {l : List Edge} (h : ∀ i, i + 1 < l.length → edgeLess (l[i]?.getD default) (l[i + 1]?.getD default) = true) : sortedE l := by
  induction l with
  | nil => exact .nil
  | cons a l ih =>
    have h2 := ih fun i hi => by have := h (i + 1) (by simp; omega); simpa using this
    refine List.Pairwise.cons ?_ h2
    intro b hb
    cases l with
    | nil => cases hb
    | cons c l =>
      have h3 : edgeLess a c = true := by have := h 0 (by simp); simpa using this
      rcases List.mem_cons.1 hb with rfl | hb
      · exact h3
      · exact edgeLess_trans h3 ((List.pairwise_cons.1 h2).1 b hb)
theorem getD_mem {l : List Edge} {i : Nat} (h : i < l.length) : l[i]?.getD default ∈ l := by
  rw [List.getElem?_eq_getElem h]; exact List.getElem_mem h
theorem sorted_at {l : List Edge} (h : sortedE l) {i j : Nat} (hij : i < j) (hj : j < l.length) : edgeLess (l[i]?.getD default) (l[j]?.getD default) = true := by
  rw [List.getElem?_eq_getElem hj, List.getElem?_eq_getElem (by omega : i < l.length)]
  exact List.pairwise_iff_getElem.1 h i j (by omega) hj hij
theorem graphOk_iff {g : Graph} : graphOk g = true ↔ (1 ≤ g.size ∧ g.size ≤ 12) ∧ g.edges.length ≤ 40 ∧ gOk g.size g.edges := by
  unfold graphOk
  rw [Bool.and_eq_true, Bool.and_eq_true, inR_iff, decide_eq_true_iff, allOk_iff]
  refine and_congr_right fun _ => and_congr_right fun _ => ⟨fun h => ⟨?_, ?_⟩, fun h i hi => edgeOk_iff.2 ⟨h.1 _ (getD_mem hi), ?_⟩⟩
  · intro e he
    obtain ⟨i, hi, rfl⟩ := List.getElem_of_mem he
    have := (edgeOk_iff.1 (h i hi)).1
    rw [List.getElem?_eq_getElem hi] at this; exact this
  · refine adj_pair fun i hi => ?_
    have := (edgeOk_iff.1 (h (i + 1) hi)).2
    rcases this with h | h
    · omega
    · exact h
  · rcases Nat.eq_zero_or_pos i with h0 | h0
    · exact .inl h0
    · exact .inr (sorted_at h.2 (by omega) hi)
theorem graphOk_filter {g : Graph} (p : Edge → Bool) (h : graphOk g = true) : graphOk ⟨g.size, g.edges.filter p⟩ = true := by
  obtain ⟨h1, h2, h3, h4⟩ := graphOk_iff.1 h
  refine graphOk_iff.2 ⟨h1, Nat.le_trans (List.length_filter_le _ _) h2, fun e he => h3 e ((List.mem_filter.1 he).1), ?_⟩
  exact List.Pairwise.filter _ h4

/-! edges put into their place -/
def putE (l : List Edge) (e : Edge) : List Edge := l.filter (fun x => edgeLess x e) ++ ([e] ++ l.filter (fun x => edgeLess e x))
theorem putE_mem {l : List Edge} {e x : Edge} (h : x ∈ putE l e) : x = e ∨ x ∈ l := by
  unfold putE at h
  simp only [List.mem_append, List.mem_filter, List.mem_singleton] at h
  rcases h with h | h | h
  · exact .inr h.1
  · exact .inl h
  · exact .inr h.1
theorem putE_sorted {l : List Edge} (e : Edge) (h : sortedE l) : sortedE (putE l e) := by
  unfold putE sortedE
  refine List.pairwise_append.2 ⟨List.Pairwise.filter _ h, List.pairwise_append.2 ⟨List.pairwise_singleton _ _, List.Pairwise.filter _ h, ?_⟩, ?_⟩
  · intro a ha b hb
    rw [List.mem_singleton] at ha; subst ha
    exact (List.mem_filter.1 hb).2
  · intro a ha b hb
    have h1 := (List.mem_filter.1 ha).2
    rcases List.mem_append.1 hb with hb | hb
    · rw [List.mem_singleton] at hb; subst hb; exact h1
    · exact edgeLess_trans h1 (List.mem_filter.1 hb).2
theorem putE_ok {n : Int} {l : List Edge} {e : Edge} (h : gOk n l) (he : eOk n e = true) : gOk n (putE l e) := by
  refine ⟨fun x hx => ?_, putE_sorted e h.2⟩
  rcases putE_mem hx with rfl | hx
  · exact he
  · exact h.1 x hx
/-- a sorted list around a place -/
theorem filt_lt {l : List Edge} {e : Edge} {k : Nat} (h1 : ∀ i, i < k → edgeLess (l[i]?.getD default) e = true) (h2 : ∀ i, k ≤ i → i < l.length → edgeLess (l[i]?.getD default) e = false) (hk : k ≤ l.length) : l.filter (fun x => edgeLess x e) = l.take k := by
  conv => lhs; rw [← List.take_append_drop k l]
  rw [List.filter_append, List.filter_eq_self.2, List.filter_eq_nil_iff.2, List.append_nil]
  · intro x hx
    obtain ⟨i, hi, rfl⟩ := List.getElem_of_mem hx
    rw [List.length_drop] at hi
    have := h2 (k + i) (by omega) (by omega)
    rw [List.getElem?_eq_getElem (by omega)] at this
    rw [List.getElem_drop]; simpa using this
  · intro x hx
    obtain ⟨i, hi, rfl⟩ := List.getElem_of_mem hx
    rw [List.length_take] at hi
    have := h1 i (by omega)
    rw [List.getElem?_eq_getElem (by omega)] at this
    rw [List.getElem_take]; simpa using this
theorem filt_gt {l : List Edge} {e : Edge} {k : Nat} (h1 : ∀ i, i < k → edgeLess e (l[i]?.getD default) = false) (h2 : ∀ i, k ≤ i → i < l.length → edgeLess e (l[i]?.getD default) = true) (hk : k ≤ l.length) : l.filter (fun x => edgeLess e x) = l.drop k := by
  conv => lhs; rw [← List.take_append_drop k l]
  rw [List.filter_append, List.filter_eq_nil_iff.2, List.filter_eq_self.2, List.nil_append]
  · intro x hx
    obtain ⟨i, hi, rfl⟩ := List.getElem_of_mem hx
    rw [List.length_drop] at hi
    have := h2 (k + i) (by omega) (by omega)
    rw [List.getElem?_eq_getElem (by omega)] at this
    rw [List.getElem_drop]; simpa using this
  · intro x hx
    obtain ⟨i, hi, rfl⟩ := List.getElem_of_mem hx
    rw [List.length_take] at hi
    have := h1 i (by omega)
    rw [List.getElem?_eq_getElem (by omega)] at this
    rw [List.getElem_take]; simpa using this
/-- the place of an edge in a sorted list: all ahead of it are less, those from it on are not -/
def atE (l : List Edge) (e : Edge) (k : Nat) : Prop := k ≤ l.length ∧ (∀ i, i < k → edgeLess (l[i]?.getD default) e = true) ∧ ∀ i, k ≤ i → i < l.length → edgeLess (l[i]?.getD default) e = false
theorem putE_new {l : List Edge} {e : Edge} {k : Nat} (h : sortedE l) (ha : atE l e k) (hn : ¬ (k < l.length ∧ l[k]?.getD default = e)) : putE l e = l.take k ++ ([e] ++ l.drop k) := by
  obtain ⟨hk, h1, h2⟩ := ha
  unfold putE
  rw [filt_lt h1 h2 hk, filt_gt (fun i hi => edgeLess_asym (h1 i hi)) ?_ hk]
  intro i hi1 hi2
  have h3 := h2 i hi1 hi2
  cases e1 : edgeLess e (l[i]?.getD default) with
  | true => rfl
  | false =>
    have h4 := edgeLess_total h3 e1
    exfalso
    rcases Nat.lt_or_ge k i with h5 | h5
    · have h6 := sorted_at h h5 hi2
      rw [h4, h2 k (Nat.le_refl _) (by omega)] at h6; cases h6
    · have : i = k := by omega
      subst this
      exact hn ⟨hi2, h4⟩
theorem putE_old {l : List Edge} {e : Edge} {k : Nat} (h : sortedE l) (ha : atE l e k) (hk : k < l.length) (he : l[k]?.getD default = e) : putE l e = l := by
  obtain ⟨_, h1, h2⟩ := ha
  unfold putE
  rw [filt_lt h1 h2 (by omega), filt_gt (k := k + 1) ?_ ?_ (by omega)]
  · have h3 := List.drop_eq_getElem_cons hk
    rw [List.getElem?_eq_getElem hk] at he
    simp only [Option.getD_some] at he
    rw [he] at h3
    rw [show [e] ++ l.drop (k + 1) = l.drop k from h3.symm, List.take_append_drop]
  · intro i hi
    rcases Nat.lt_or_ge i k with h3 | h3
    · exact edgeLess_asym (h1 i h3)
    · rw [show i = k by omega, he, edgeLess_irr]
  · intro i hi1 hi2
    have := sorted_at h (show k < i by omega) hi2
    rw [he] at this; exact this
theorem atE_uniq {l : List Edge} {e : Edge} {j k : Nat} (h1 : atE l e j) (h2 : atE l e k) : j = k := by
  rcases Nat.lt_trichotomy j k with h | h | h
  · have := h1.2.2 j (Nat.le_refl _) (by have := h2.1; omega); rw [h2.2.1 j h] at this; cases this
  · exact h
  · have := h2.2.2 k (Nat.le_refl _) (by have := h1.1; omega); rw [h1.2.1 k h] at this; cases this

end Go.Proofs.Ytcikookachejfaa
