/-
  Contracts of the laws' helpers over slices of plain elements. Conditions: none.
-/
import Derived.Test.YthihffgmmkhlhaaCh
namespace Go.Proofs.Ythihffgmmkhlhaa
open Go.SX Go.Proofs

theorem take_step {α : Type} (xs : List α) (k : Nat) (z : α) (h : k < xs.length) : (xs.take k ++ List.replicate (xs.length - k) z).set k xs[k] = xs.take (k + 1) ++ List.replicate (xs.length - (k + 1)) z := by
  rw [List.set_append_right _ _ (by simp; omega)]
  have e1 : k - (xs.take k).length = 0 := by simp; omega
  rw [e1, show xs.length - k = (xs.length - (k + 1)) + 1 by omega, List.replicate_succ, List.set_cons_zero]
  rw [← List.take_append_getElem h, List.append_assoc]
  rfl

theorem rd_wf {α : Type} {f : Fl α} {H : Hp} {v : Value} {xs : List α} (h : (rpSl f.rp).rd H [v] xs) : ∀ x ∈ xs, f.wf x := by
  obtain ⟨_, _, _, _, h⟩ := h
  intro x hx
  obtain ⟨i, hi, rfl⟩ := List.getElem_of_mem hx
  obtain ⟨_, _, _, _, _, h2⟩ := h i hi
  exact h2.2
theorem rd_len {α : Type} {r : Rp α} {H : Hp} {base : Option Addr} {m cap : Nat} {xs : List α} (h : (rpSl r).rd H [.slice base m cap] xs) : m = xs.length ∧ xs.length ≤ 9223372036854775807 := by
  obtain ⟨_, _, e, ⟨_, h⟩, _⟩ := h; cases e; exact ⟨rfl, h⟩

theorem rd_cap {α : Type} {r : Rp α} {H : Hp} {base : Option Addr} {m cap : Nat} {xs : List α} (h : (rpSl r).rd H [.slice base m cap] xs) : xs.length ≤ cap := by
  obtain ⟨_, _, e, ⟨h, _⟩, _⟩ := h; cases e; exact h

theorem mixed : Try.prog.follows .mixedOrders = true := by kernel_rfl

theorem szIntS_ct (base : Option Addr) (m cap : Nat) (left : Int) (h0 : 0 ≤ left) (h1 : left ≤ 1048576) (hm : m ≤ 9223372036854775807) :
    Ct Try.prog 51 [.slice base m cap, .int .i64 left] [] (fun _ => True) (fun v A => v = .int .i64 (if left - m < 0 then -1 else left - m) ∧ A = []) := by
  refine Ct.intro0 G_ok Try.func51 rfl rfl rfl fun E H _ => ?_
  have e : IntKind.i64.wrap (left - m) = left - m := wrap_ok (by unfold okI; omega)
  refine VCsplit.intro (fun h => ?_) (fun h => ?_)
  · refine ⟨[], ⟨?_, rfl⟩, .refl _⟩
    rw [e] at h; rw [if_pos (by simpa using h)]
  · refine ⟨[], ⟨?_, rfl⟩, .refl _⟩
    rw [e] at h ⊢; rw [if_neg (by simpa using h)]

theorem toIntS_ct (base : Option Addr) (m cap : Nat) (xs : List Int) (hx : xs.length ≤ 1048576) :
    Ct Try.prog 53 [.slice base m cap] [] (fun H => (rpSl flInt.rp).rd H [.slice base m cap] xs) (fun v A => Ow flInt 3 v xs A) := by
  refine Ct.intro0 G_ok Try.func53 rfl rfl rfl fun E H hp => ?_
  have hwf := rd_wf hp
  obtain ⟨rfl, _⟩ := rd_len hp
  refine VCmake.intro (by omega) (by omega) (by omega) (by omega) fun b => ?_
  refine loop_intro (α := Nat × Hp) G_ok (fun x => ⟨[(0, .v (.slice base xs.length cap)), (3, .v (.slice (some ⟨b, 0, none⟩) xs.length xs.length)), (4, .v (.int .i64 x.1))], [], [x.2, H]⟩)
    (fun x => xs.length - x.1) (fun x => x.1 ≤ xs.length ∧ Ow flInt 3 (.slice (some ⟨b, 0, none⟩) xs.length xs.length) (xs.take x.1 ++ List.replicate (xs.length - x.1) (0 : Int)) x.2)
    (0, _) ⟨Nat.zero_le _, Ow.make (f := flInt) (z := (0 : Int)) (b := b) (by first | trivial | (unfold flInt okI; omega)) (Nat.le_refl _) (by omega)⟩
    ⟨⟨⟨_, rfl, rfl, trivial⟩, ⟨_, rfl, rfl, trivial⟩, ⟨_, rfl, rfl, trivial⟩, trivial⟩, trivial, .refl _⟩ ?_
  rintro ⟨k, A⟩ ⟨hk, ho⟩
  refine VCsplit.intro (fun h => ?_) (fun h => ?_)
  · have hlt : k < xs.length := by simpa using h
    refine idx_rd hp (by omega) (by simp; omega) fun b1 o1 hb1 => ?_
    refine load_rd (r := flInt.rp) hp (by omega) (by simp; omega) hb1 (mem_at 1 rfl) fun l hl => ?_
    obtain ⟨rfl, hw⟩ := hl
    refine idx_ow ho (by omega) (by simp; omega) fun b2 o2 hb2 => ?_
    refine store_ow (f := flInt) (y := xs[k]) 0 rfl ho (by omega) (by simp; omega) hb2 rfl hw rfl fun A' ho' => ?_
    refine ⟨(k + 1, A'), ⟨hlt, ?_⟩, by simp; omega, ⟨⟨_, rfl, rfl, trivial⟩, ⟨_, rfl, rfl, trivial⟩, ⟨_, rfl, inc_eq k (by omega), trivial⟩, trivial⟩, trivial, .refl _⟩
    have e := take_step xs k (0 : Int) hlt
    simp only [Int.toNat_natCast] at ho'
    rw [e] at ho'; exact ho'
  · have he : k = xs.length := by
      have : ¬ (k : Int) < xs.length := by simpa using h
      omega
    subst he
    refine ⟨A, by simpa using ho, .refl _⟩

theorem eqIntS_ct (b1 b2 : Option Addr) (m1 c1 m2 c2 : Nat) (xs ys : List Int) :
    Ct Try.prog 43 [.slice b1 m1 c1, .slice b2 m2 c2] [] (fun H => (rpSl flInt.rp).rd H [.slice b1 m1 c1] xs ∧ (rpSl flInt.rp).rd H [.slice b2 m2 c2] ys) (fun v A => v = .bool (decide (xs = ys)) ∧ A = []) := by
  refine Ct.intro0 G_ok Try.func43 rfl rfl rfl fun E H hp => ?_
  obtain ⟨hp1, hp2⟩ := hp
  obtain ⟨rfl, hl1⟩ := rd_len hp1
  obtain ⟨rfl, hl2⟩ := rd_len hp2
  refine VCsplit.intro (fun h => ?_) (fun h => ?_)
  · refine ⟨[], ⟨?_, rfl⟩, .refl _⟩
    have : ¬ (xs.length : Int) = ys.length := by simpa using h
    rw [decide_eq_false (fun e => this (by rw [e]))]
  have hlen : xs.length = ys.length := by
    have : (xs.length : Int) = ys.length := by simpa using h
    omega
  refine loop_intro (α := Nat) G_ok (fun k => ⟨[(0, .v (.slice b1 xs.length c1)), (1, .v (.slice b2 ys.length c2)), (5, .v (.int .i64 k))], [], [H]⟩)
    (fun k => xs.length - k) (fun k => k ≤ xs.length ∧ xs.take k = ys.take k) 0 ⟨Nat.zero_le _, rfl⟩
    ⟨⟨⟨_, rfl, rfl, trivial⟩, ⟨_, rfl, rfl, trivial⟩, ⟨_, rfl, rfl, trivial⟩, trivial⟩, trivial, .refl _⟩ ?_
  rintro k ⟨hk, he⟩
  refine VCsplit.intro (fun h => ?_) (fun h => ?_)
  · have hlt : k < xs.length := by simpa using h
    have hlt2 : k < ys.length := by omega
    refine draw G_ok mixed none (.q 0 (.q 1 (.q 2 (.q 3 (.q 4 (.q 5 (.q 6 (.q 7 (.q 8 (.nil)))))))))) (by decide +kernel) ?_
    refine idx_rd hp1 (by omega) (by simp; omega) fun b1 o1 hb1 => ?_
    refine load_rd (r := flInt.rp) hp1 (by omega) (by simp; omega) hb1 (mem_at 0 rfl) fun l hl => ?_
    obtain ⟨rfl, hw⟩ := hl
    refine idx_rd hp2 (by omega) (by simp; omega) fun b1 o1 hb1 => ?_
    refine load_rd (r := flInt.rp) hp2 (by omega) (by simp; omega) hb1 (mem_at 0 rfl) fun l hl => ?_
    obtain ⟨rfl, hw⟩ := hl
    refine VCsplit.intro (fun h => ?_) (fun h => ?_)
    · refine ⟨[], ⟨?_, rfl⟩, .refl _⟩
      have hne : xs[k] ≠ ys[k] := by simpa using h
      rw [decide_eq_false (fun e => hne (by subst e; rfl))]
    · refine ⟨k + 1, ⟨hlt, ?_⟩, by omega, ⟨⟨_, rfl, rfl, trivial⟩, ⟨_, rfl, rfl, trivial⟩, ⟨_, rfl, inc_eq k (by omega), trivial⟩, trivial⟩, trivial, .refl _⟩
      have heq : xs[k] = ys[k] := by simpa using h
      rw [← List.take_append_getElem hlt, ← List.take_append_getElem hlt2, he, heq]
  · have hge : ¬ (k : Int) < xs.length := by simpa using h
    have hk2 : k = xs.length := by omega
    refine ⟨[], ⟨?_, rfl⟩, .refl _⟩
    rw [hk2, List.take_length, hlen, List.take_length] at he
    rw [decide_eq_true he]
theorem szBoolS_ct (base : Option Addr) (m cap : Nat) (left : Int) (h0 : 0 ≤ left) (h1 : left ≤ 1048576) (hm : m ≤ 9223372036854775807) :
    Ct Try.prog 50 [.slice base m cap, .int .i64 left] [] (fun _ => True) (fun v A => v = .int .i64 (if left - m < 0 then -1 else left - m) ∧ A = []) := by
  refine Ct.intro0 G_ok Try.func50 rfl rfl rfl fun E H _ => ?_
  have e : IntKind.i64.wrap (left - m) = left - m := wrap_ok (by unfold okI; omega)
  refine VCsplit.intro (fun h => ?_) (fun h => ?_)
  · refine ⟨[], ⟨?_, rfl⟩, .refl _⟩
    rw [e] at h; rw [if_pos (by simpa using h)]
  · refine ⟨[], ⟨?_, rfl⟩, .refl _⟩
    rw [e] at h ⊢; rw [if_neg (by simpa using h)]

theorem toBoolS_ct (base : Option Addr) (m cap : Nat) (xs : List Bool) (hx : xs.length ≤ 1048576) :
    Ct Try.prog 52 [.slice base m cap] [] (fun H => (rpSl flBool.rp).rd H [.slice base m cap] xs) (fun v A => Ow flBool 4 v xs A) := by
  refine Ct.intro0 G_ok Try.func52 rfl rfl rfl fun E H hp => ?_
  have hwf := rd_wf hp
  obtain ⟨rfl, _⟩ := rd_len hp
  refine VCmake.intro (by omega) (by omega) (by omega) (by omega) fun b => ?_
  refine loop_intro (α := Nat × Hp) G_ok (fun x => ⟨[(0, .v (.slice base xs.length cap)), (3, .v (.slice (some ⟨b, 0, none⟩) xs.length xs.length)), (4, .v (.int .i64 x.1))], [], [x.2, H]⟩)
    (fun x => xs.length - x.1) (fun x => x.1 ≤ xs.length ∧ Ow flBool 4 (.slice (some ⟨b, 0, none⟩) xs.length xs.length) (xs.take x.1 ++ List.replicate (xs.length - x.1) false) x.2)
    (0, _) ⟨Nat.zero_le _, Ow.make (f := flBool) (z := false) (b := b) (by first | trivial | (unfold flBool okI; omega)) (Nat.le_refl _) (by omega)⟩
    ⟨⟨⟨_, rfl, rfl, trivial⟩, ⟨_, rfl, rfl, trivial⟩, ⟨_, rfl, rfl, trivial⟩, trivial⟩, trivial, .refl _⟩ ?_
  rintro ⟨k, A⟩ ⟨hk, ho⟩
  refine VCsplit.intro (fun h => ?_) (fun h => ?_)
  · have hlt : k < xs.length := by simpa using h
    refine idx_rd hp (by omega) (by simp; omega) fun b1 o1 hb1 => ?_
    refine load_rd (r := flBool.rp) hp (by omega) (by simp; omega) hb1 (mem_at 1 rfl) fun l hl => ?_
    obtain ⟨rfl, hw⟩ := hl
    refine idx_ow ho (by omega) (by simp; omega) fun b2 o2 hb2 => ?_
    refine store_ow (f := flBool) (y := xs[k]) 0 rfl ho (by omega) (by simp; omega) hb2 rfl hw rfl fun A' ho' => ?_
    refine ⟨(k + 1, A'), ⟨hlt, ?_⟩, by simp; omega, ⟨⟨_, rfl, rfl, trivial⟩, ⟨_, rfl, rfl, trivial⟩, ⟨_, rfl, inc_eq k (by omega), trivial⟩, trivial⟩, trivial, .refl _⟩
    have e := take_step xs k false hlt
    simp only [Int.toNat_natCast] at ho'
    rw [e] at ho'; exact ho'
  · have he : k = xs.length := by
      have : ¬ (k : Int) < xs.length := by simpa using h
      omega
    subst he
    refine ⟨A, by simpa using ho, .refl _⟩

theorem eqBoolS_ct (b1 b2 : Option Addr) (m1 c1 m2 c2 : Nat) (xs ys : List Bool) :
    Ct Try.prog 54 [.slice b1 m1 c1, .slice b2 m2 c2] [] (fun H => (rpSl flBool.rp).rd H [.slice b1 m1 c1] xs ∧ (rpSl flBool.rp).rd H [.slice b2 m2 c2] ys) (fun v A => v = .bool (decide (xs = ys)) ∧ A = []) := by
  refine Ct.intro0 G_ok Try.func54 rfl rfl rfl fun E H hp => ?_
  obtain ⟨hp1, hp2⟩ := hp
  obtain ⟨rfl, hl1⟩ := rd_len hp1
  obtain ⟨rfl, hl2⟩ := rd_len hp2
  refine VCsplit.intro (fun h => ?_) (fun h => ?_)
  · refine ⟨[], ⟨?_, rfl⟩, .refl _⟩
    have : ¬ (xs.length : Int) = ys.length := by simpa using h
    rw [decide_eq_false (fun e => this (by rw [e]))]
  have hlen : xs.length = ys.length := by
    have : (xs.length : Int) = ys.length := by simpa using h
    omega
  refine loop_intro (α := Nat) G_ok (fun k => ⟨[(0, .v (.slice b1 xs.length c1)), (1, .v (.slice b2 ys.length c2)), (5, .v (.int .i64 k))], [], [H]⟩)
    (fun k => xs.length - k) (fun k => k ≤ xs.length ∧ xs.take k = ys.take k) 0 ⟨Nat.zero_le _, rfl⟩
    ⟨⟨⟨_, rfl, rfl, trivial⟩, ⟨_, rfl, rfl, trivial⟩, ⟨_, rfl, rfl, trivial⟩, trivial⟩, trivial, .refl _⟩ ?_
  rintro k ⟨hk, he⟩
  refine VCsplit.intro (fun h => ?_) (fun h => ?_)
  · have hlt : k < xs.length := by simpa using h
    have hlt2 : k < ys.length := by omega
    refine draw G_ok mixed none (.q 0 (.q 1 (.q 2 (.q 3 (.q 4 (.q 5 (.q 6 (.q 7 (.q 8 (.nil)))))))))) (by decide +kernel) ?_
    refine idx_rd hp1 (by omega) (by simp; omega) fun b1 o1 hb1 => ?_
    refine load_rd (r := flBool.rp) hp1 (by omega) (by simp; omega) hb1 (mem_at 0 rfl) fun l hl => ?_
    obtain ⟨rfl, hw⟩ := hl
    refine idx_rd hp2 (by omega) (by simp; omega) fun b1 o1 hb1 => ?_
    refine load_rd (r := flBool.rp) hp2 (by omega) (by simp; omega) hb1 (mem_at 0 rfl) fun l hl => ?_
    obtain ⟨rfl, hw⟩ := hl
    refine VCsplit.intro (fun h => ?_) (fun h => ?_)
    · refine ⟨[], ⟨?_, rfl⟩, .refl _⟩
      have hne : xs[k] ≠ ys[k] := by simpa using h
      rw [decide_eq_false (fun e => hne (by subst e; rfl))]
    · refine ⟨k + 1, ⟨hlt, ?_⟩, by omega, ⟨⟨_, rfl, rfl, trivial⟩, ⟨_, rfl, rfl, trivial⟩, ⟨_, rfl, inc_eq k (by omega), trivial⟩, trivial⟩, trivial, .refl _⟩
      have heq : xs[k] = ys[k] := by simpa using h
      rw [← List.take_append_getElem hlt, ← List.take_append_getElem hlt2, he, heq]
  · have hge : ¬ (k : Int) < xs.length := by simpa using h
    have hk2 : k = xs.length := by omega
    refine ⟨[], ⟨?_, rfl⟩, .refl _⟩
    rw [hk2, List.take_length, hlen, List.take_length] at he
    rw [decide_eq_true he]

def markInt (k : Int) (m : Nat) : List Int := (List.range m).map fun (i : Nat) => k + (i : Int)
def markBool (k : Int) (m : Nat) : List Bool := (List.range m).map fun (i : Nat) => (k + (i : Int)).tmod 3 == 0
theorem markInt_len (k : Int) (m : Nat) : (markInt k m).length = m := by simp [markInt]
theorem markBool_len (k : Int) (m : Nat) : (markBool k m).length = m := by simp [markBool]
theorem markInt_succ (k : Int) (m : Nat) : markInt k (m + 1) = markInt k m ++ [k + m] := by simp [markInt, List.range_succ]
theorem markBool_succ (k : Int) (m : Nat) : markBool k (m + 1) = markBool k m ++ [(k + m).tmod 3 == 0] := by simp [markBool, List.range_succ]
theorem mark_step {α : Type} (g : List α) (xs : List α) (k : Nat) (z : α) (h : k < xs.length) (hg : g.length = k) : (g ++ xs.drop k).set k z = g ++ [z] ++ xs.drop (k + 1) := by
  rw [List.set_append_right _ _ (by omega), hg, Nat.sub_self, List.append_assoc]
  rw [List.drop_eq_getElem_cons h, List.set_cons_zero]
  rfl

theorem markIntS_ct (base : Option Addr) (m cap : Nat) (xs : List Int) (A : Hp) (k : Int) (ho : Ow flInt 3 (.slice base m cap) xs A) (hk0 : 0 ≤ k) (hk : k ≤ 1099511627776) (hm : m ≤ 1099511627776) :
    Ct Try.prog 46 [.slice base m cap, .int .i64 k] A (fun _ => True) (fun v A' => v = .int .i64 (k + m) ∧ Ow flInt 3 (.slice base m cap) (markInt k m) A') := by
  refine Ct.intro G_ok Try.func46 rfl rfl rfl fun E H _ => ?_
  have hml : m = xs.length := (rd_len ho.rd).1
  subst hml
  refine loop_intro (α := Nat × Hp) G_ok (fun x => ⟨[(0, .v (.slice base xs.length cap)), (1, .v (.int .i64 (k + x.1))), (5, .v (.int .i64 x.1))], [], [x.2, H]⟩)
    (fun x => xs.length - x.1) (fun x => x.1 ≤ xs.length ∧ Ow flInt 3 (.slice base xs.length cap) (markInt k x.1 ++ xs.drop x.1) x.2)
    (0, A) ⟨Nat.zero_le _, ho⟩
    ⟨⟨⟨_, rfl, rfl, trivial⟩, ⟨_, rfl, by show Value.int .i64 k = Value.int .i64 (k + ((0 : Nat) : Int)); simp, trivial⟩, ⟨_, rfl, rfl, trivial⟩, trivial⟩, trivial, .refl _⟩ ?_
  rintro ⟨j, B⟩ ⟨hj, hB⟩
  have hlen : (markInt k j ++ xs.drop j).length = xs.length := by rw [List.length_append, markInt_len, List.length_drop]; omega
  refine VCsplit.intro (fun h => ?_) (fun h => ?_)
  · have hlt : j < xs.length := by simpa using h
    refine idx_ow hB (by omega) (by rw [hlen]; omega) fun b2 o2 hb2 => ?_
    refine store_ow (f := flInt) (y := k + j) 0 rfl hB (by omega) (by rw [hlen]; omega) hb2 rfl (by first | trivial | (unfold flInt okI; omega)) rfl fun B' hB' => ?_
    refine ⟨(j + 1, B'), ⟨hlt, ?_⟩, by simp; omega, ⟨⟨_, rfl, rfl, trivial⟩, ⟨_, rfl, int_eq (by unfold okI; omega) (by simp; omega), trivial⟩, ⟨_, rfl, inc_eq j (by omega), trivial⟩, trivial⟩, trivial, .refl _⟩
    simp only [Int.toNat_natCast] at hB'
    rw [mark_step (markInt k j) xs j _ hlt (markInt_len k j)] at hB'
    rw [markInt_succ]; exact hB'
  · have he : j = xs.length := by
      have : ¬ (j : Int) < xs.length := by simpa using h
      omega
    subst he
    exact ⟨B, ⟨rfl, by simpa using hB⟩, .tl⟩

theorem heldIntS_ct (base : Option Addr) (m cap : Nat) (k : Int) (hk0 : 0 ≤ k) (hk : k ≤ 1099511627776) (hm : m ≤ 1099511627776) :
    Ct Try.prog 47 [.slice base m cap, .int .i64 k] [] (fun H => (rpSl flInt.rp).rd H [.slice base m cap] (markInt k m)) (fun v A' => v = .int .i64 (k + m) ∧ A' = []) := by
  refine Ct.intro0 G_ok Try.func47 rfl rfl rfl fun E H hp => ?_
  refine loop_intro (α := Nat) G_ok (fun j => ⟨[(0, .v (.slice base m cap)), (1, .v (.int .i64 (k + j))), (5, .v (.int .i64 j))], [], [H]⟩)
    (fun j => m - j) (fun j => j ≤ m)
    0 (Nat.zero_le _)
    ⟨⟨⟨_, rfl, rfl, trivial⟩, ⟨_, rfl, by show Value.int .i64 k = Value.int .i64 (k + ((0 : Nat) : Int)); simp, trivial⟩, ⟨_, rfl, rfl, trivial⟩, trivial⟩, trivial, .refl _⟩ ?_
  intro j hj
  refine VCsplit.intro (fun h => ?_) (fun h => ?_)
  · have hlt : j < m := by simpa using h
    refine idx_rd hp (by omega) (by rw [markInt_len]; omega) fun b1 o1 hb1 => ?_
    refine load_rd (r := flInt.rp) hp (by omega) (by rw [markInt_len]; omega) hb1 (mem_at 0 rfl) fun l hl => ?_
    obtain ⟨rfl, hw⟩ := hl
    refine VCsplit.intro (fun h => ?_) (fun h => ?_)
    · simp [markInt] at h
    · exact ⟨j + 1, hlt, by omega, ⟨⟨_, rfl, rfl, trivial⟩, ⟨_, rfl, int_eq (by unfold okI; omega) (by simp; omega), trivial⟩, ⟨_, rfl, inc_eq j (by omega), trivial⟩, trivial⟩, trivial, .refl _⟩
  · have he : j = m := by
      have : ¬ (j : Int) < m := by simpa using h
      omega
    subst he
    exact ⟨[], ⟨rfl, rfl⟩, .refl _⟩
theorem markBoolS_ct (base : Option Addr) (m cap : Nat) (xs : List Bool) (A : Hp) (k : Int) (ho : Ow flBool 4 (.slice base m cap) xs A) (hk0 : 0 ≤ k) (hk : k ≤ 1099511627776) (hm : m ≤ 1099511627776) :
    Ct Try.prog 67 [.slice base m cap, .int .i64 k] A (fun _ => True) (fun v A' => v = .int .i64 (k + m) ∧ Ow flBool 4 (.slice base m cap) (markBool k m) A') := by
  refine Ct.intro G_ok Try.func67 rfl rfl rfl fun E H _ => ?_
  have hml : m = xs.length := (rd_len ho.rd).1
  subst hml
  refine loop_intro (α := Nat × Hp) G_ok (fun x => ⟨[(0, .v (.slice base xs.length cap)), (1, .v (.int .i64 (k + x.1))), (5, .v (.int .i64 x.1))], [], [x.2, H]⟩)
    (fun x => xs.length - x.1) (fun x => x.1 ≤ xs.length ∧ Ow flBool 4 (.slice base xs.length cap) (markBool k x.1 ++ xs.drop x.1) x.2)
    (0, A) ⟨Nat.zero_le _, ho⟩
    ⟨⟨⟨_, rfl, rfl, trivial⟩, ⟨_, rfl, by show Value.int .i64 k = Value.int .i64 (k + ((0 : Nat) : Int)); simp, trivial⟩, ⟨_, rfl, rfl, trivial⟩, trivial⟩, trivial, .refl _⟩ ?_
  rintro ⟨j, B⟩ ⟨hj, hB⟩
  have hlen : (markBool k j ++ xs.drop j).length = xs.length := by rw [List.length_append, markBool_len, List.length_drop]; omega
  refine VCsplit.intro (fun h => ?_) (fun h => ?_)
  · have hlt : j < xs.length := by simpa using h
    refine VC.intro (by omega) ?_
    refine idx_ow hB (by omega) (by rw [hlen]; omega) fun b2 o2 hb2 => ?_
    refine store_ow (f := flBool) (y := ((k + j).tmod 3 == 0)) 0 rfl hB (by omega) (by rw [hlen]; omega) hb2 rfl (by first | trivial | (unfold flBool okI; omega)) rfl fun B' hB' => ?_
    refine ⟨(j + 1, B'), ⟨hlt, ?_⟩, by simp; omega, ⟨⟨_, rfl, rfl, trivial⟩, ⟨_, rfl, int_eq (by unfold okI; omega) (by simp; omega), trivial⟩, ⟨_, rfl, inc_eq j (by omega), trivial⟩, trivial⟩, trivial, .refl _⟩
    simp only [Int.toNat_natCast] at hB'
    rw [mark_step (markBool k j) xs j _ hlt (markBool_len k j)] at hB'
    rw [markBool_succ]; exact hB'
  · have he : j = xs.length := by
      have : ¬ (j : Int) < xs.length := by simpa using h
      omega
    subst he
    exact ⟨B, ⟨rfl, by simpa using hB⟩, .tl⟩

theorem heldBoolS_ct (base : Option Addr) (m cap : Nat) (k : Int) (hk0 : 0 ≤ k) (hk : k ≤ 1099511627776) (hm : m ≤ 1099511627776) :
    Ct Try.prog 68 [.slice base m cap, .int .i64 k] [] (fun H => (rpSl flBool.rp).rd H [.slice base m cap] (markBool k m)) (fun v A' => v = .int .i64 (k + m) ∧ A' = []) := by
  refine Ct.intro0 G_ok Try.func68 rfl rfl rfl fun E H hp => ?_
  refine loop_intro (α := Nat) G_ok (fun j => ⟨[(0, .v (.slice base m cap)), (1, .v (.int .i64 (k + j))), (5, .v (.int .i64 j))], [], [H]⟩)
    (fun j => m - j) (fun j => j ≤ m)
    0 (Nat.zero_le _)
    ⟨⟨⟨_, rfl, rfl, trivial⟩, ⟨_, rfl, by show Value.int .i64 k = Value.int .i64 (k + ((0 : Nat) : Int)); simp, trivial⟩, ⟨_, rfl, rfl, trivial⟩, trivial⟩, trivial, .refl _⟩ ?_
  intro j hj
  refine VCsplit.intro (fun h => ?_) (fun h => ?_)
  · have hlt : j < m := by simpa using h
    refine idx_rd hp (by omega) (by rw [markBool_len]; omega) fun b1 o1 hb1 => ?_
    refine load_rd (r := flBool.rp) hp (by omega) (by rw [markBool_len]; omega) hb1 (mem_at 0 rfl) fun l hl => ?_
    obtain ⟨rfl, hw⟩ := hl
    refine VC.intro (by omega) ?_
    refine VCsplit.intro (fun h => ?_) (fun h => ?_)
    · simp [markBool] at h
    · exact ⟨j + 1, hlt, by omega, ⟨⟨_, rfl, rfl, trivial⟩, ⟨_, rfl, int_eq (by unfold okI; omega) (by simp; omega), trivial⟩, ⟨_, rfl, inc_eq j (by omega), trivial⟩, trivial⟩, trivial, .refl _⟩
  · have he : j = m := by
      have : ¬ (j : Int) < m := by simpa using h
      omega
    subst he
    exact ⟨[], ⟨rfl, rfl⟩, .refl _⟩
end Go.Proofs.Ythihffgmmkhlhaa
