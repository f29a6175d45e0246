/-
  RingOk and RingSum of both sides. Conditions: none.
-/
import Derived.Test.YthihffgmmkhlhaaCr
namespace Go.Proofs.Ythihffgmmkhlhaa
open Go.SX Go.Proofs

theorem all_step {α : Type} (p : α → Bool) (xs : List α) (k : Nat) (h : k < xs.length) : (xs.take (k + 1)).all p = ((xs.take k).all p && p xs[k]) := by
  rw [← List.take_append_getElem h, List.all_append]; simp
theorem all_no {α : Type} (p : α → Bool) (xs : List α) (k : Nat) (h : k < xs.length) (hp : p xs[k] = false) : xs.all p = false := by
  cases e : xs.all p with
  | false => rfl
  | true => rw [List.all_eq_true.1 e xs[k] (List.getElem_mem h)] at hp; cases hp

def ringOk (r : Ring) : Bool :=
  inR 1 8 r.actives.length && r.counts.length == r.actives.length && r.blacks.length == r.actives.length && decide (r.flying.length ≤ 100) &&
  inR 0 (r.actives.length - 1) r.held && inR (-8000) 8000 r.num && r.counts.all (inR (-1000) 1000) && r.flying.all (inR 0 (r.actives.length - 1))

theorem implRingOk_ct (v : Value) (r : Ring) :
    Ct Try.prog 28 [v] [] (fun H => rdV true rpRing H v r) (fun w A => w = .bool (ringOk r) ∧ A = []) := by
  refine Ct.intro0 G_ok Try.func28 rfl rfl rfl fun E H hp => ?_
  obtain ⟨_, rfl, b1, b2, b3, b4, c1, c2, c3, c4, rfl, h1, h2, h3, h4, h5, h6⟩ := hp
  have l1 := (rd_len h1).2
  have l2 := (rd_len h2).2
  have l3 := (rd_len h3).2
  have l4 := (rd_len h4).2
  refine VCnew.intro fun bb => ?_
  refine call_val (isWorkers_ct _) trivial ?_
  rintro _ rfl
  refine VCsplit.intro (fun h => ?_) (fun n1 => ?_)
  · exact ⟨[], ⟨by simp at h; simp [ringOk, h], rfl⟩, .tl⟩
  refine VCsplit.intro (fun h => ?_) (fun n2 => ?_)
  · exact ⟨[], ⟨by simp at h; simp [ringOk]; intros; omega, rfl⟩, .tl⟩
  refine VCsplit.intro (fun h => ?_) (fun n3 => ?_)
  · exact ⟨[], ⟨by simp at h; simp [ringOk]; intros; omega, rfl⟩, .tl⟩
  refine VCsplit.intro (fun h => ?_) (fun n4 => ?_)
  · exact ⟨[], ⟨by simp at h; simp [ringOk]; intros; omega, rfl⟩, .tl⟩
  have m1 : inR 1 8 r.actives.length = true := by simpa using n1
  have m2 : r.counts.length = r.actives.length := by simp at n2; omega
  have m3 : r.blacks.length = r.actives.length := by simp at n3; omega
  have m4 : r.flying.length ≤ 100 := by simp at n4; omega
  have hw1 : IntKind.i64.wrap ((r.actives.length : Int) - 1) = r.actives.length - 1 := wrap_ok (by unfold okI; omega)
  refine loop_intro (α := Nat) G_ok (fun k => ⟨[(1, .p 0 0), (3, .v (.int .i64 r.actives.length)), (35, .v (.slice b2 r.counts.length c2)), (36, .v (.int .i64 r.counts.length)), (37, .v (.int .i64 k))], [⟨bb, ringCells r b1 b2 b3 b4 c1 c2 c3 c4, 34⟩], [H]⟩)
    (fun k => r.counts.length - k) (fun k => k ≤ r.counts.length ∧ (r.counts.take k).all (inR (-1000) 1000) = true) 0 ⟨Nat.zero_le _, rfl⟩
    ⟨⟨⟨_, rfl, rfl, Nat.zero_lt_one⟩, ⟨_, rfl, rfl, trivial⟩, ⟨_, rfl, rfl, trivial⟩, ⟨_, rfl, rfl, trivial⟩, ⟨_, rfl, rfl, trivial⟩, trivial⟩, ⟨rfl, trivial⟩, .refl _⟩ ?_
  rintro k ⟨hk, ha⟩
  refine VCsplit.intro (fun h => ?_) (fun h => ?_)
  · have hlt : k < r.counts.length := by simpa using h
    refine idx_rd h2 (by omega) (by omega) fun b o hb => ?_
    refine load_rd (r := flInt.rp) h2 (by omega) (by omega) hb (mem_at 0 rfl) fun l hl => ?_
    obtain ⟨rfl, hw⟩ := hl
    refine call_val (inRange_ct _ _ _) trivial ?_
    rintro _ rfl
    refine VCsplit.intro (fun h => ?_) (fun h => ?_)
    · refine ⟨[], ⟨?_, rfl⟩, .tl⟩
      have hx : inR (-1000) 1000 r.counts[k] = false := by simpa using h
      have := all_no _ _ _ hlt hx
      simp [ringOk, this]
    · refine ⟨k + 1, ⟨hlt, ?_⟩, by omega, ⟨⟨⟨_, rfl, rfl, Nat.zero_lt_one⟩, ⟨_, rfl, rfl, trivial⟩, ⟨_, rfl, rfl, trivial⟩, ⟨_, rfl, rfl, trivial⟩, ⟨_, rfl, inc_eq k (by omega), trivial⟩, trivial⟩, ⟨rfl, trivial⟩, .refl _⟩⟩
      have hx : inR (-1000) 1000 r.counts[k] = true := by simpa using h
      rw [all_step _ _ _ hlt, ha, hx]; rfl
  have q1 : r.counts.all (inR (-1000) 1000) = true := by
    have : k = r.counts.length := by
      have : ¬ (k : Int) < r.counts.length := by simpa using h
      omega
    subst this
    rwa [List.take_length] at ha
  clear ha hk h
  refine loop_intro (α := Nat) G_ok (fun k => ⟨[(1, .p 0 0), (3, .v (.int .i64 r.actives.length)), (46, .v (.slice b4 r.flying.length c4)), (47, .v (.int .i64 r.flying.length)), (48, .v (.int .i64 k))], [⟨bb, ringCells r b1 b2 b3 b4 c1 c2 c3 c4, 34⟩], [H]⟩)
    (fun k => r.flying.length - k) (fun k => k ≤ r.flying.length ∧ (r.flying.take k).all (inR 0 (r.actives.length - 1)) = true) 0 ⟨Nat.zero_le _, rfl⟩
    ⟨⟨⟨_, rfl, rfl, Nat.zero_lt_one⟩, ⟨_, rfl, rfl, trivial⟩, ⟨_, rfl, rfl, trivial⟩, ⟨_, rfl, rfl, trivial⟩, ⟨_, rfl, rfl, trivial⟩, trivial⟩, ⟨rfl, trivial⟩, .refl _⟩ ?_
  rintro k ⟨hk, ha⟩
  refine VCsplit.intro (fun h => ?_) (fun h => ?_)
  · have hlt : k < r.flying.length := by simpa using h
    refine idx_rd h4 (by omega) (by omega) fun b o hb => ?_
    refine load_rd (r := flInt.rp) h4 (by omega) (by omega) hb (mem_at 0 rfl) fun l hl => ?_
    obtain ⟨rfl, hw⟩ := hl
    refine call_val (inRange_ct _ _ _) trivial ?_
    rintro _ rfl
    refine VCsplit.intro (fun h => ?_) (fun h => ?_)
    · refine ⟨[], ⟨?_, rfl⟩, .tl⟩
      have hx : inR 0 (r.actives.length - 1) r.flying[k] = false := by simpa [hw1] using h
      have := all_no _ _ _ hlt hx
      simp [ringOk, this]
    · refine ⟨k + 1, ⟨hlt, ?_⟩, by omega, ⟨⟨⟨_, rfl, rfl, Nat.zero_lt_one⟩, ⟨_, rfl, rfl, trivial⟩, ⟨_, rfl, rfl, trivial⟩, ⟨_, rfl, rfl, trivial⟩, ⟨_, rfl, inc_eq k (by omega), trivial⟩, trivial⟩, ⟨rfl, trivial⟩, .refl _⟩⟩
      have hx : inR 0 (r.actives.length - 1) r.flying[k] = true := by simpa [hw1] using h
      rw [all_step _ _ _ hlt, ha, hx]; rfl
  have q2 : r.flying.all (inR 0 (r.actives.length - 1)) = true := by
    have : k = r.flying.length := by
      have : ¬ (k : Int) < r.flying.length := by simpa using h
      omega
    subst this
    rwa [List.take_length] at ha
  clear ha hk h
  refine call_val (inRange_ct _ _ _) trivial ?_
  rintro _ rfl
  rw [hw1]
  refine VCsplit.intro (fun n5 => ?_) (fun h => ?_)
  · refine call_val (inRange_ct _ _ _) trivial ?_
    rintro _ rfl
    exact ⟨[], ⟨by simp [ringOk, m1, m2, m3, m4, n5, q1, q2], rfl⟩, .tl⟩
  · exact ⟨[], ⟨by simp [ringOk, h], rfl⟩, .tl⟩
theorem specRingOk_ct (v : Value) (r : Ring) :
    Ct Try.prog 37 [v] [] (fun H => rdV true rpRing H v r) (fun w A => w = .bool (ringOk r) ∧ A = []) := by
  refine Ct.intro0 G_ok Try.func37 rfl rfl rfl fun E H hp => ?_
  obtain ⟨_, rfl, b1, b2, b3, b4, c1, c2, c3, c4, rfl, h1, h2, h3, h4, h5, h6⟩ := hp
  have l1 := (rd_len h1).2
  have l2 := (rd_len h2).2
  have l3 := (rd_len h3).2
  have l4 := (rd_len h4).2
  refine VCnew.intro fun bb => ?_
  refine call_val (l01In_ct _ _ _) trivial ?_
  rintro _ rfl
  refine VCsplit.intro (fun h => ?_) (fun n1 => ?_)
  · exact ⟨[], ⟨by simp at h; simp [ringOk, h], rfl⟩, .tl⟩
  refine VCsplit.intro (fun h => ?_) (fun n2 => ?_)
  · exact ⟨[], ⟨by simp at h; simp [ringOk]; intros; omega, rfl⟩, .tl⟩
  refine VCsplit.intro (fun h => ?_) (fun n3 => ?_)
  · exact ⟨[], ⟨by simp at h; simp [ringOk]; intros; omega, rfl⟩, .tl⟩
  refine VCsplit.intro (fun h => ?_) (fun n4 => ?_)
  · exact ⟨[], ⟨by simp at h; simp [ringOk]; intros; omega, rfl⟩, .tl⟩
  have m1 : inR 1 8 r.actives.length = true := by simpa using n1
  have m2 : r.counts.length = r.actives.length := by simp at n2; omega
  have m3 : r.blacks.length = r.actives.length := by simp at n3; omega
  have m4 : r.flying.length ≤ 100 := by simp at n4; omega
  have hw1 : IntKind.i64.wrap ((r.actives.length : Int) - 1) = r.actives.length - 1 := wrap_ok (by unfold okI; omega)
  refine call_val (l01In_ct _ _ _) trivial ?_
  rintro _ rfl
  rw [hw1]
  refine VCsplit.intro (fun h => ?_) (fun n5 => ?_)
  · exact ⟨[], ⟨by simp at h; simp [ringOk, h], rfl⟩, .tl⟩
  refine call_val (l01In_ct _ _ _) trivial ?_
  rintro _ rfl
  refine VCsplit.intro (fun h => ?_) (fun n6 => ?_)
  · exact ⟨[], ⟨by simp at h; simp [ringOk, h], rfl⟩, .tl⟩
  have m5 : inR 0 (r.actives.length - 1) r.held = true := by simpa using n5
  have m6 : inR (-8000) 8000 r.num = true := by simpa using n6
  refine loop_intro (α := Nat) G_ok (fun k => ⟨[(1, .p 0 0), (3, .v (.int .i64 r.actives.length)), (4, .v (.int .i64 k))], [⟨bb, ringCells r b1 b2 b3 b4 c1 c2 c3 c4, 34⟩], [H]⟩)
    (fun k => r.counts.length - k) (fun k => k ≤ r.counts.length ∧ (r.counts.take k).all (inR (-1000) 1000) = true) 0 ⟨Nat.zero_le _, rfl⟩
    ⟨⟨⟨_, rfl, rfl, Nat.zero_lt_one⟩, ⟨_, rfl, rfl, trivial⟩, ⟨_, rfl, rfl, trivial⟩, trivial⟩, ⟨rfl, trivial⟩, .refl _⟩ ?_
  rintro k ⟨hk, ha⟩
  refine VCsplit.intro (fun h => ?_) (fun h => ?_)
  · have hlt : k < r.counts.length := by simp at h; omega
    refine idx_rd h2 (by omega) (by omega) fun b o hb => ?_
    refine load_rd (r := flInt.rp) h2 (by omega) (by omega) hb (mem_at 0 rfl) fun l hl => ?_
    obtain ⟨rfl, hw⟩ := hl
    refine call_val (l01In_ct _ _ _) trivial ?_
    rintro _ rfl
    refine VCsplit.intro (fun h => ?_) (fun h => ?_)
    · refine ⟨[], ⟨?_, rfl⟩, .tl⟩
      have hx : inR (-1000) 1000 r.counts[k] = false := by simpa using h
      have := all_no _ _ _ hlt hx
      simp [ringOk, this]
    · refine ⟨k + 1, ⟨hlt, ?_⟩, by omega, ⟨⟨⟨_, rfl, rfl, Nat.zero_lt_one⟩, ⟨_, rfl, rfl, trivial⟩, ⟨_, rfl, inc_eq k (by omega), trivial⟩, trivial⟩, ⟨rfl, trivial⟩, .refl _⟩⟩
      have hx : inR (-1000) 1000 r.counts[k] = true := by simpa using h
      rw [all_step _ _ _ hlt, ha, hx]; rfl
  have q1 : r.counts.all (inR (-1000) 1000) = true := by
    have : k = r.counts.length := by
      simp at h; omega
    subst this
    rwa [List.take_length] at ha
  clear ha hk h
  refine loop_intro (α := Nat) G_ok (fun k => ⟨[(1, .p 0 0), (3, .v (.int .i64 r.actives.length)), (5, .v (.int .i64 k))], [⟨bb, ringCells r b1 b2 b3 b4 c1 c2 c3 c4, 34⟩], [H]⟩)
    (fun k => r.flying.length - k) (fun k => k ≤ r.flying.length ∧ (r.flying.take k).all (inR 0 (r.actives.length - 1)) = true) 0 ⟨Nat.zero_le _, rfl⟩
    ⟨⟨⟨_, rfl, rfl, Nat.zero_lt_one⟩, ⟨_, rfl, rfl, trivial⟩, ⟨_, rfl, rfl, trivial⟩, trivial⟩, ⟨rfl, trivial⟩, .refl _⟩ ?_
  rintro k ⟨hk, ha⟩
  refine VCsplit.intro (fun h => ?_) (fun h => ?_)
  · have hlt : k < r.flying.length := by simp at h; omega
    refine idx_rd h4 (by omega) (by omega) fun b o hb => ?_
    refine load_rd (r := flInt.rp) h4 (by omega) (by omega) hb (mem_at 0 rfl) fun l hl => ?_
    obtain ⟨rfl, hw⟩ := hl
    refine call_val (l01In_ct _ _ _) trivial ?_
    rintro _ rfl
    refine VCsplit.intro (fun h => ?_) (fun h => ?_)
    · refine ⟨[], ⟨?_, rfl⟩, .tl⟩
      have hx : inR 0 (r.actives.length - 1) r.flying[k] = false := by simpa [hw1] using h
      have := all_no _ _ _ hlt hx
      simp [ringOk, this]
    · refine ⟨k + 1, ⟨hlt, ?_⟩, by omega, ⟨⟨⟨_, rfl, rfl, Nat.zero_lt_one⟩, ⟨_, rfl, rfl, trivial⟩, ⟨_, rfl, inc_eq k (by omega), trivial⟩, trivial⟩, ⟨rfl, trivial⟩, .refl _⟩⟩
      have hx : inR 0 (r.actives.length - 1) r.flying[k] = true := by simpa [hw1] using h
      rw [all_step _ _ _ hlt, ha, hx]; rfl
  have q2 : r.flying.all (inR 0 (r.actives.length - 1)) = true := by
    have : k = r.flying.length := by
      simp at h; omega
    subst this
    rwa [List.take_length] at ha
  clear ha hk h
  exact ⟨[], ⟨by simp [ringOk, m1, m2, m3, m4, m5, m6, q1, q2], rfl⟩, .tl⟩

def ringSum (r : Ring) : Bool := ringOk r && r.counts.sum == r.flying.length

theorem sum_step (xs : List Int) (k : Nat) (h : k < xs.length) : (xs.take (k + 1)).sum = (xs.take k).sum + xs[k] := by
  rw [← List.take_append_getElem h, List.sum_append]; simp
theorem sum_bound (m : Int) (xs : List Int) (h : ∀ x ∈ xs, -m ≤ x ∧ x ≤ m) : -(m * xs.length) ≤ xs.sum ∧ xs.sum ≤ m * xs.length := by
  induction xs with
  | nil => simp
  | cons x r ih =>
    have h1 := h x (by simp)
    have h2 := ih fun y hy => h y (by simp [hy])
    rw [List.sum_cons, List.length_cons]
    have e : m * ((r.length + 1 : Nat) : Int) = m * r.length + m := by
      rw [Int.natCast_add, Int.mul_add]; simp
    omega
theorem ringOk_len {r : Ring} (h : ringOk r = true) : 1 ≤ r.actives.length ∧ r.actives.length ≤ 8 ∧ r.counts.length = r.actives.length ∧ r.blacks.length = r.actives.length ∧ r.flying.length ≤ 100 := by
  simp [ringOk, inR] at h; omega
theorem ringOk_sum {r : Ring} (h : ringOk r = true) (k : Nat) : -8000 ≤ (r.counts.take k).sum ∧ (r.counts.take k).sum ≤ 8000 := by
  have h1 := ringOk_len h
  have h2 : ∀ x ∈ r.counts.take k, (-1000 : Int) ≤ x ∧ x ≤ 1000 := by
    intro x hx
    have h3 : r.counts.all (inR (-1000) 1000) = true := by
      simp only [ringOk, Bool.and_eq_true] at h; exact h.1.2
    have := List.all_eq_true.1 h3 x (List.mem_of_mem_take hx)
    simpa [inR] using this
  have h4 := sum_bound 1000 _ h2
  have h5 : (r.counts.take k).length ≤ 8 := by rw [List.length_take]; omega
  omega

theorem implRingSum_ct (v : Value) (r : Ring) :
    Ct Try.prog 18 [v] [] (fun H => rdV true rpRing H v r) (fun w A => w = .bool (ringSum r) ∧ A = []) := by
  refine Ct.intro0 G_ok Try.func18 rfl rfl rfl fun E H hp => ?_
  have hp0 := hp
  obtain ⟨_, rfl, b1, b2, b3, b4, c1, c2, c3, c4, rfl, h1, h2, h3, h4, h5, h6⟩ := hp
  have l2 := (rd_len h2).2
  have l4 := (rd_len h4).2
  refine VCnew.intro fun bb => ?_
  refine call_val (implRingOk_ct _ r) (rdV_mono (mem_at 0 rfl) hp0) ?_
  rintro _ rfl
  refine VCsplit.intro (fun h => ?_) (fun n1 => ?_)
  · exact ⟨[], ⟨by simp at h; simp [ringSum, h], rfl⟩, .tl⟩
  have m1 : ringOk r = true := by simpa using n1
  have hbd := ringOk_sum m1
  have hc := ringOk_len m1
  refine loop_intro (α := Nat) G_ok (fun k => ⟨[(1, .p 0 0), (3, .v (.int .i64 (r.counts.take k).sum)), (10, .v (.slice b2 r.counts.length c2)), (11, .v (.int .i64 r.counts.length)), (12, .v (.int .i64 k))], [⟨bb, ringCells r b1 b2 b3 b4 c1 c2 c3 c4, 34⟩], [H]⟩)
    (fun k => r.counts.length - k) (fun k => k ≤ r.counts.length) 0 (Nat.zero_le _)
    ⟨⟨⟨_, rfl, rfl, Nat.zero_lt_one⟩, ⟨_, rfl, rfl, trivial⟩, ⟨_, rfl, rfl, trivial⟩, ⟨_, rfl, rfl, trivial⟩, ⟨_, rfl, rfl, trivial⟩, trivial⟩, ⟨rfl, trivial⟩, .refl _⟩ ?_
  intro k hk
  refine VCsplit.intro (fun h => ?_) (fun h => ?_)
  · have hlt : k < r.counts.length := by simp at h; omega
    refine idx_rd h2 (by omega) (by omega) fun b o hb => ?_
    refine load_rd (r := flInt.rp) h2 (by omega) (by omega) hb (mem_at 0 rfl) fun l hl => ?_
    obtain ⟨rfl, hw⟩ := hl
    have e1 := sum_step r.counts k hlt
    have e2 := hbd (k + 1)
    refine ⟨k + 1, hlt, by omega, ⟨⟨⟨_, rfl, rfl, Nat.zero_lt_one⟩, ⟨_, rfl, int_eq (by unfold okI; simp; omega) (by simp; omega), trivial⟩, ⟨_, rfl, rfl, trivial⟩, ⟨_, rfl, rfl, trivial⟩, ⟨_, rfl, inc_eq k (by omega), trivial⟩, trivial⟩, ⟨rfl, trivial⟩, .refl _⟩⟩
  have : k = r.counts.length := by
    simp at h; omega
  subst this
  exact ⟨[], ⟨by simp [ringSum, m1], rfl⟩, .tl⟩

theorem specRingSum_ct (v : Value) (r : Ring) :
    Ct Try.prog 16 [v] [] (fun H => rdV true rpRing H v r) (fun w A => w = .bool (ringSum r) ∧ A = []) := by
  refine Ct.intro0 G_ok Try.func16 rfl rfl rfl fun E H hp => ?_
  have hp0 := hp
  obtain ⟨_, rfl, b1, b2, b3, b4, c1, c2, c3, c4, rfl, h1, h2, h3, h4, h5, h6⟩ := hp
  have l2 := (rd_len h2).2
  have l4 := (rd_len h4).2
  refine VCnew.intro fun bb => ?_
  refine call_val (specRingOk_ct _ r) (rdV_mono (mem_at 0 rfl) hp0) ?_
  rintro _ rfl
  refine VCsplit.intro (fun h => ?_) (fun n1 => ?_)
  · exact ⟨[], ⟨by simp at h; simp [ringSum, h], rfl⟩, .tl⟩
  have m1 : ringOk r = true := by simpa using n1
  have hbd := ringOk_sum m1
  have hc := ringOk_len m1
  refine loop_intro (α := Nat) G_ok (fun k => ⟨[(1, .p 0 0), (3, .v (.int .i64 (r.counts.take k).sum)), (4, .v (.int .i64 k))], [⟨bb, ringCells r b1 b2 b3 b4 c1 c2 c3 c4, 34⟩], [H]⟩)
    (fun k => r.counts.length - k) (fun k => k ≤ r.counts.length) 0 (Nat.zero_le _)
    ⟨⟨⟨_, rfl, rfl, Nat.zero_lt_one⟩, ⟨_, rfl, rfl, trivial⟩, ⟨_, rfl, rfl, trivial⟩, trivial⟩, ⟨rfl, trivial⟩, .refl _⟩ ?_
  intro k hk
  refine VCsplit.intro (fun h => ?_) (fun h => ?_)
  · have hlt : k < r.counts.length := by simp at h; omega
    refine idx_rd h2 (by omega) (by omega) fun b o hb => ?_
    refine load_rd (r := flInt.rp) h2 (by omega) (by omega) hb (mem_at 0 rfl) fun l hl => ?_
    obtain ⟨rfl, hw⟩ := hl
    have e1 := sum_step r.counts k hlt
    have e2 := hbd (k + 1)
    refine ⟨k + 1, hlt, by omega, ⟨⟨⟨_, rfl, rfl, Nat.zero_lt_one⟩, ⟨_, rfl, int_eq (by unfold okI; simp; omega) (by simp; omega), trivial⟩, ⟨_, rfl, inc_eq k (by omega), trivial⟩, trivial⟩, ⟨rfl, trivial⟩, .refl _⟩⟩
  have : k = r.counts.length := by
    simp at h; omega
  subst this
  exact ⟨[], ⟨by simp [ringSum, m1], rfl⟩, .tl⟩
end Go.Proofs.Ythihffgmmkhlhaa
