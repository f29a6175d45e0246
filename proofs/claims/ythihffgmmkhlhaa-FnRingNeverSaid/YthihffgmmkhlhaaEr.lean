/-
  The token of a ring tells the end only when it is reached (plain). Conditions: none.
-/
import Derived.Test.YthihffgmmkhlhaaEm
namespace Go.Proofs.Ythihffgmmkhlhaa
open Go.SX Go.Proofs
set_option linter.unusedSimpArgs false
set_option linter.unusedVariables false
set_option maxHeartbeats 4000000

def ringQuiet (r : Ring) : Bool := !r.actives.contains true && decide (r.flying = [])

/-- the sum of the first k -/
def sm (xs : List Int) : Nat → Int
  | 0 => 0
  | k + 1 => sm xs k + xs[k]?.getD 0
theorem sm_sum (xs : List Int) : ∀ k, k ≤ xs.length → sm xs k = (xs.take k).sum
  | 0, _ => by simp [sm]
  | k + 1, h => by
    rw [sm, sm_sum xs k (by omega), sum_step xs k (by omega), List.getElem?_eq_getElem (by omega)]; rfl
theorem sm_set (xs : List Int) (i : Nat) (v : Int) (hi : i < xs.length) : ∀ k, sm (xs.set i v) k = sm xs k + (if i < k then v - xs[i]?.getD 0 else 0)
  | 0 => by simp [sm]
  | k + 1 => by
    rw [sm, sm, sm_set xs i v hi k, List.getElem?_set]
    by_cases h1 : i = k
    · subst h1
      simp [hi]; omega
    · simp only [h1, if_false]
      by_cases h2 : i < k
      · rw [if_pos h2, if_pos (by omega)]; omega
      · rw [if_neg h2, if_neg (by omega)]; omega
theorem getB_set (xs : List Bool) (i j : Nat) (v : Bool) (hi : i < xs.length) : (xs.set i v)[j]?.getD false = if i = j then v else xs[j]?.getD false := by
  rw [List.getElem?_set]
  by_cases h : i = j
  · subst h; simp [hi]
  · simp [h]
theorem getI_set (xs : List Int) (i j : Nat) (v : Int) (hi : i < xs.length) : (xs.set i v)[j]?.getD 0 = if i = j then v else xs[j]?.getD 0 := by
  rw [List.getElem?_set]
  by_cases h : i = j
  · subst h; simp [hi]
  · simp [h]

abbrev Ring.A (r : Ring) (i : Nat) : Bool := r.actives[i]?.getD false
abbrev Ring.B (r : Ring) (i : Nat) : Bool := r.blacks[i]?.getD false
abbrev Ring.C (r : Ring) (i : Nat) : Int := r.counts[i]?.getD 0
/-- up to where the token has been -/
def Ring.e (r : Ring) : Nat := if r.held = 0 then r.actives.length else r.held.toNat

def Safe (r : Ring) : Prop :=
  ((∀ i, 1 ≤ i → i < r.e → r.A i = false) ∧ sm r.counts r.e - sm r.counts 1 = r.num) ∨
  (0 < sm r.counts r.actives.length - (sm r.counts r.e - sm r.counts 1) + r.num) ∨
  (∃ i, i < r.actives.length ∧ ¬ (1 ≤ i ∧ i < r.e) ∧ r.B i = true) ∨ r.black = true
def InvR (r : Ring) : Prop :=
  ringOk r = true ∧ sm r.counts r.actives.length = r.flying.length ∧ (r.over = true → ringQuiet r = true) ∧ (r.over = false → Safe r)

theorem contains_none' {xs : List Bool} (h : ∀ i, i < xs.length → xs[i]?.getD false = false) : xs.contains true = false := by
  cases e : xs.contains true with
  | false => rfl
  | true =>
    rw [List.contains_iff_mem] at e
    obtain ⟨i, hi, e⟩ := List.getElem_of_mem e
    have := h i hi
    rw [List.getElem?_eq_getElem hi] at this
    simp [e] at this

theorem quiet_of (r : Ring) (h1 : ∀ i, i < r.actives.length → r.A i = false) (h2 : r.flying = []) : ringQuiet r = true := by
  unfold ringQuiet
  rw [contains_none' h1, h2]; rfl
theorem inv_send (r : Ring) (t : Turn) (h : InvR r) (hov : r.over = false) (ht : inR 0 (r.actives.length - 1) t.at' = true) (ha : r.A t.at'.toNat = true) (hok : ringOk (sendT r t) = true) : InvR (sendT r t) := by
  obtain ⟨h1, h2, _, h4⟩ := h
  have hl := ringOk_len h1
  have hi := inR_le ht
  have hlt : t.at'.toNat < r.counts.length := by omega
  have hs := sm_set r.counts t.at'.toNat (r.counts[t.at'.toNat]?.getD 0 + 1) hlt
  refine ⟨hok, ?_, fun h => ?_, fun _ => ?_⟩
  · show sm (r.counts.set _ _) r.actives.length = ((r.flying ++ [t.to]).length : Nat)
    rw [hs, if_pos (by omega), List.length_append, h2]; simp; omega
  · rw [show (sendT r t).over = r.over from rfl, hov] at h; cases h
  · rcases h4 hov with ⟨g1, g2⟩ | g | ⟨i, g1, g2, g3⟩ | g
    · refine .inl ⟨g1, ?_⟩
      show sm (r.counts.set _ _) r.e - sm (r.counts.set _ _) 1 = r.num
      have hn : ¬ (1 ≤ t.at'.toNat ∧ t.at'.toNat < r.e) := fun hh => by
        have := g1 _ hh.1 hh.2; rw [ha] at this; cases this
      rw [hs, hs]
      have hh := ringOk_held h1
      have he : 1 ≤ r.e := by unfold Ring.e; split <;> omega
      split <;> split <;> omega
    · refine .inr (.inl ?_)
      show 0 < sm (r.counts.set _ _) r.actives.length - (sm (r.counts.set _ _) r.e - sm (r.counts.set _ _) 1) + r.num
      rw [hs, hs, hs]
      split <;> split <;> split <;> omega
    · exact .inr (.inr (.inl ⟨i, g1, g2, g3⟩))
    · exact .inr (.inr (.inr g))

theorem inv_take (r : Ring) (j : Nat) (h : InvR r) (hov : r.over = false) (hj : j < r.flying.length) (hok : ringOk (takeT r j) = true) : InvR (takeT r j) := by
  obtain ⟨h1, h2, _, h4⟩ := h
  have hl := ringOk_len h1
  have hf := ringOk_fly h1 j hj
  have hs := sm_set r.counts (r.flying[j]?.getD 0).toNat (r.counts[(r.flying[j]?.getD 0).toNat]?.getD 0 - 1) (by omega)
  have hfl : ((takeT r j).flying.length : Int) = r.flying.length - 1 := by
    show ((r.flying.take j ++ r.flying.drop (j + 1)).length : Int) = _
    rw [List.length_append, List.length_take, List.length_drop]; omega
  have hlen : (takeT r j).actives.length = r.actives.length := by simp [takeT]
  have he : (takeT r j).e = r.e := by unfold Ring.e; rw [hlen]; rfl
  have hb : ∀ i, (takeT r j).B i = if (r.flying[j]?.getD 0).toNat = i then true else r.B i := fun i => getB_set _ _ _ _ (by omega)
  refine ⟨hok, ?_, fun h => ?_, fun _ => ?_⟩
  · rw [hfl, hlen]
    show sm (r.counts.set _ _) r.actives.length = _
    rw [hs, if_pos (by omega), h2]; omega
  · rw [show (takeT r j).over = r.over from rfl, hov] at h; cases h
  · unfold Safe
    rw [he, hlen]
    by_cases hv : 1 ≤ (r.flying[j]?.getD 0).toNat ∧ (r.flying[j]?.getD 0).toNat < r.e
    · have hc : ∀ k, sm (takeT r j).counts k = sm r.counts k + (if (r.flying[j]?.getD 0).toNat < k then -1 else 0) := by
        intro k
        show sm (r.counts.set _ _) k = _
        rw [hs]; split <;> omega
      have he1 : r.e ≤ r.actives.length := by
        have := ringOk_held h1
        unfold Ring.e; split <;> omega
      rcases h4 hov with ⟨g1, g2⟩ | g | ⟨i, g1, g2, g3⟩ | g
      · refine .inr (.inl ?_)
        rw [hc, hc, hc, if_pos (by omega), if_pos (by omega), if_neg (by omega)]
        show 0 < _ + r.num
        omega
      · refine .inr (.inl ?_)
        rw [hc, hc, hc, if_pos (by omega), if_pos (by omega), if_neg (by omega)]
        show 0 < _ + r.num
        omega
      · refine .inr (.inr (.inl ⟨i, g1, g2, ?_⟩))
        rw [hb]; split
        · rfl
        · exact g3
      · exact .inr (.inr (.inr g))
    · refine .inr (.inr (.inl ⟨(r.flying[j]?.getD 0).toNat, by omega, hv, ?_⟩))
      rw [hb, if_pos rfl]

theorem inv_rest (r : Ring) (i : Nat) (h : InvR r) (hov : r.over = false) (hi : i < r.actives.length) (hok : ringOk (restT r i) = true) : InvR (restT r i) := by
  obtain ⟨h1, h2, _, h4⟩ := h
  have hlen : (restT r i).actives.length = r.actives.length := by simp [restT]
  have he : (restT r i).e = r.e := by unfold Ring.e; rw [hlen]; rfl
  refine ⟨hok, by rw [hlen]; exact h2, fun h => ?_, fun _ => ?_⟩
  · rw [show (restT r i).over = r.over from rfl, hov] at h; cases h
  · unfold Safe
    rw [he, hlen]
    rcases h4 hov with ⟨g1, g2⟩ | g | g | g
    · refine .inl ⟨fun k hk1 hk2 => ?_, g2⟩
      show (r.actives.set i false)[k]?.getD false = false
      rw [getB_set _ _ _ _ hi]; split
      · rfl
      · exact g1 k hk1 hk2
    · exact .inr (.inl g)
    · exact .inr (.inr (.inl g))
    · exact .inr (.inr (.inr g))

theorem pass_e (r : Ring) (h1 : ringOk r = true) (hn : over1 r = false) : (passT r).e = if r.held = 0 then 1 else r.held.toNat + 1 := by
  have hl := ringOk_len h1
  have hh := ringOk_held h1
  have hp : passT r = { r with num := if r.held = 0 then 0 else r.num + r.counts[r.held.toNat]?.getD 0
                               black := if r.held = 0 then false else (r.black || r.blacks[r.held.toNat]?.getD false)
                               blacks := r.blacks.set r.held.toNat false
                               held := (r.held + 1).tmod r.actives.length } := by unfold passT; rw [hn]; rfl
  rw [hp]
  unfold Ring.e
  simp only
  rw [Int.tmod_eq_emod_of_nonneg (by omega)]
  by_cases hw : r.held + 1 = r.actives.length
  · have : (r.held + 1) % (r.actives.length : Int) = 0 := by rw [hw]; exact Int.emod_self
    rw [this]
    simp only [if_true]
    split <;> omega
  · have : (r.held + 1) % (r.actives.length : Int) = r.held + 1 := Int.emod_eq_of_lt (by omega) (by omega)
    rw [this, if_neg (by omega)]
    split <;> omega

theorem inv_pass (r : Ring) (h : InvR r) (hov : r.over = false) (ha : r.A r.held.toNat = false) (hok : ringOk (passT r) = true) : InvR (passT r) := by
  obtain ⟨h1, h2, _, h4⟩ := h
  have hl := ringOk_len h1
  have hh := ringOk_held h1
  cases hn : over1 r with
  | true =>
    have hp : passT r = { r with over := true } := by unfold passT; rw [hn]; rfl
    rw [hp] at hok ⊢
    refine ⟨hok, h2, fun _ => ?_, fun h => by cases h⟩
    simp only [over1, Bool.and_eq_true, beq_iff_eq, Bool.not_eq_true'] at hn
    obtain ⟨⟨⟨k1, k2⟩, k3⟩, k4⟩ := hn
    have he : r.e = r.actives.length := by unfold Ring.e; rw [if_pos k1]
    have hs1 : sm r.counts 1 = r.counts[0]?.getD 0 := by simp [sm]
    rcases h4 hov with ⟨g1, g2⟩ | g | ⟨i, g1, g2, g3⟩ | g
    · rw [he] at g1 g2
      refine quiet_of _ (fun i hi => ?_) ?_
      · rcases Nat.eq_zero_or_pos i with rfl | hp
        · rw [k1] at ha; exact ha
        · exact g1 i hp hi
      · have : r.flying.length = 0 := by omega
        exact List.length_eq_zero_iff.1 this
    · rw [he] at g; omega
    · rw [he] at g2
      have : i = 0 := by omega
      subst this
      rw [show r.B 0 = r.blacks[0]?.getD false from rfl, k3] at g3; cases g3
    · rw [k2] at g; cases g
  | false =>
    have hpe := pass_e r h1 hn
    have hp : passT r = { r with num := if r.held = 0 then 0 else r.num + r.counts[r.held.toNat]?.getD 0
                                 black := if r.held = 0 then false else (r.black || r.blacks[r.held.toNat]?.getD false)
                                 blacks := r.blacks.set r.held.toNat false
                                 held := (r.held + 1).tmod r.actives.length } := by unfold passT; rw [hn]; rfl
    have hact : (passT r).actives = r.actives := by rw [hp]
    have hcnt : (passT r).counts = r.counts := by rw [hp]
    have hfly : (passT r).flying = r.flying := by rw [hp]
    have hnum : (passT r).num = if r.held = 0 then 0 else r.num + r.counts[r.held.toNat]?.getD 0 := by rw [hp]
    have hblk : (passT r).black = if r.held = 0 then false else (r.black || r.blacks[r.held.toNat]?.getD false) := by rw [hp]
    have hB : ∀ i, (passT r).B i = if r.held.toNat = i then false else r.B i := fun i => by
      rw [hp]; exact getB_set _ _ _ _ (by omega)
    have hover : (passT r).over = r.over := by rw [hp]
    refine ⟨hok, by rw [hact, hcnt, hfly]; exact h2, fun h => ?_, fun _ => ?_⟩
    · rw [hover, hov] at h; cases h
    · unfold Safe
      rw [hpe, hact, hcnt, hnum]
      by_cases h0 : r.held = 0
      · simp only [h0, if_true]
        exact .inl ⟨fun i h1 h2 => by omega, by omega⟩
      · simp only [h0, if_false]
        have he : r.e = r.held.toNat := by unfold Ring.e; rw [if_neg h0]
        have hs : sm r.counts (r.held.toNat + 1) = sm r.counts r.held.toNat + r.counts[r.held.toNat]?.getD 0 := rfl
        rcases h4 hov with ⟨g1, g2⟩ | g | ⟨i, g1, g2, g3⟩ | g
        · refine .inl ⟨fun i hi1 hi2 => ?_, by rw [he] at g2; omega⟩
          rw [show (passT r).A i = r.A i by unfold Ring.A; rw [hact]]
          by_cases hi : i = r.held.toNat
          · rw [hi]; exact ha
          · exact g1 i hi1 (by omega)
        · exact .inr (.inl (by rw [he] at g; omega))
        · rw [he] at g2
          by_cases hi : i = r.held.toNat
          · refine .inr (.inr (.inr ?_))
            rw [hblk, if_neg h0, ← hi, show r.blacks[i]?.getD false = true from g3, Bool.or_true]
          · refine .inr (.inr (.inl ⟨i, g1, by omega, ?_⟩))
            rw [hB, if_neg (fun e => hi e.symm)]; exact g3
        · refine .inr (.inr (.inr ?_))
          rw [hblk, if_neg h0, g, Bool.true_or]

theorem inv_step (r : Ring) (t : Turn) (h : InvR r) : InvR (ringStep r t).1 := by
  unfold ringStep
  split
  · rename_i hc
    obtain ⟨h1, h2, h3, h4⟩ := hc
    simp only [turnOk] at h3
    simp only [turnT] at h4 ⊢
    by_cases k1 : t.kind = 1
    · simp only [k1, if_true, Bool.and_eq_true] at h3 h4 ⊢
      exact inv_send r t h h2 h3.1.1 h3.2 h4
    · by_cases k2 : t.kind = 2
      · simp only [k2, if_true, show ¬ ((2 : Int) = 1) by decide, if_false] at h3 h4 ⊢
        have := inR_le h3
        exact inv_take r _ h h2 (by omega) h4
      · by_cases k3 : t.kind = 3
        · simp only [k3, if_true, show ¬ ((3 : Int) = 1) by decide, show ¬ ((3 : Int) = 2) by decide, if_false, Bool.and_eq_true] at h3 h4 ⊢
          have := inR_le h3.1
          exact inv_rest r _ h h2 (by omega) h4
        · simp only [k1, k2, k3, if_false] at h3 h4 ⊢
          split at h3
          · exact inv_pass r h h2 (by simpa using h3) h4
          · cases h3
  · exact h

theorem inv_new (n : Nat) (h1 : 1 ≤ n) (h2 : n ≤ 8) : InvR (ringNew n) := by
  have hz : ∀ k, sm (List.replicate n 0) k = 0 := by
    intro k
    induction k with
    | zero => rfl
    | succ k ih =>
      rw [sm, ih]
      by_cases hk : k < n
      · simp [hk]
      · rw [List.getElem?_eq_none (by simp; omega)]; rfl
  refine ⟨ringNew_ok n h1 h2, hz _, fun h => (by cases h), fun _ => .inr (.inr (.inr rfl))⟩

theorem inv_run (n : Int) (ts : List Turn) (h1 : 1 ≤ n) (h2 : n ≤ 8) (h3 : ts.length ≤ 120) : InvR (runRing n ts).1 := by
  have hk : runOk n ts = true := by simp [runOk, inR, h1, h2, h3]
  rw [runRing, hk, if_pos rfl]
  have : ∀ (ts : List Turn) (p : Ring × List Int), InvR p.1 → InvR (ts.foldl runF p).1 := by
    intro ts
    induction ts with
    | nil => intro p h; exact h
    | cons t r ih => intro p h; rw [List.foldl_cons]; exact ih _ (inv_step _ _ h)
  exact this ts _ (inv_new _ (by omega) (by omega))

theorem inv_sum (r : Ring) (h : InvR r) : ringSum r = true := by
  obtain ⟨h1, h2, _⟩ := h
  have hl := ringOk_len h1
  have := sm_sum r.counts r.counts.length (Nat.le_refl _)
  rw [List.take_length] at this
  simp only [ringSum, h1, Bool.true_and, beq_iff_eq]
  rw [← this, hl.2.2.1]; exact h2
theorem run_quiet (n : Int) (ts : List Turn) (h1 : 1 ≤ n) (h2 : n ≤ 8) (h3 : ts.length ≤ 120) : (runRing n ts).1.over = true → ringQuiet (runRing n ts).1 = true := (inv_run n ts h1 h2 h3).2.2.1
theorem run_sum (n : Int) (ts : List Turn) (h1 : 1 ≤ n) (h2 : n ≤ 8) (h3 : ts.length ≤ 120) : ringSum (runRing n ts).1 = true := inv_sum _ (inv_run n ts h1 h2 h3)
end Go.Proofs.Ythihffgmmkhlhaa
