/-
  The laws' helpers over slices of turns. Conditions: none.
-/
import Derived.Test.YthihffgmmkhlhaaDl
namespace Go.Proofs.Ythihffgmmkhlhaa
open Go.SX Go.Proofs

def flTurn : Fl Turn := ⟨3, turnCells, fun t => okI t.kind ∧ okI t.at' ∧ okI t.to, fun _ => rfl, fun _ => rfl, by omega⟩

theorem szTurnS_ct (base : Option Addr) (m cap : Nat) (left : Int) (h0 : 0 ≤ left) (h1 : left ≤ 1048576) (hm : m ≤ 9223372036854775807) :
    Ct Try.prog 41 [.slice base m cap, .int .i64 left] [] (fun _ => True) (fun v A => v = .int .i64 (if left - m < 0 then -1 else left - m) ∧ A = []) := by
  refine Ct.intro0 G_ok Try.func41 rfl rfl rfl fun E H _ => ?_
  have e : IntKind.i64.wrap (left - m) = left - m := wrap_ok (by unfold okI; omega)
  refine VCsplit.intro (fun h => ?_) (fun h => ?_)
  · refine ⟨[], ⟨?_, rfl⟩, .refl _⟩
    rw [e] at h; rw [if_pos (by simpa using h)]
  · refine ⟨[], ⟨?_, rfl⟩, .refl _⟩
    rw [e] at h ⊢; rw [if_neg (by simpa using h)]

theorem eqTurn_ct (s t : Turn) :
    Ct Try.prog 71 [.agg ⟨turnCells s⟩, .agg ⟨turnCells t⟩] [] (fun _ => True) (fun v A => v = .bool (decide (s = t)) ∧ A = []) := by
  obtain ⟨s1, s2, s3⟩ := s
  obtain ⟨t1, t2, t3⟩ := t
  refine Ct.intro0 G_ok Try.func71 rfl rfl rfl fun E H _ => ?_
  refine VCnew.intro fun b1 => VCnew.intro fun b2 => ?_
  refine VCsplit.intro (fun h => ?_) (fun h => ?_)
  · exact ⟨[], ⟨by rw [decide_eq_false]; intro e; cases e; simp at h, rfl⟩, .mem (by simp)⟩
  obtain rfl : s1 = t1 := by simpa using h
  refine VCsplit.intro (fun h => ?_) (fun h => ?_)
  · exact ⟨[], ⟨by rw [decide_eq_false]; intro e; cases e; simp at h, rfl⟩, .mem (by simp)⟩
  obtain rfl : s2 = t2 := by simpa using h
  refine VCsplit.intro (fun h => ?_) (fun h => ?_)
  · exact ⟨[], ⟨by rw [decide_eq_false]; intro e; cases e; simp at h, rfl⟩, .mem (by simp)⟩
  obtain rfl : s3 = t3 := by simpa using h
  exact ⟨[], ⟨by rw [decide_eq_true]; rfl, rfl⟩, .mem (by simp)⟩

theorem toTurnS_ct (base : Option Addr) (m cap : Nat) (xs : List Turn) (hx : xs.length ≤ 1048576) :
    Ct Try.prog 42 [.slice base m cap] [] (fun H => (rpSl flTurn.rp).rd H [.slice base m cap] xs) (fun v A => Ow flTurn 43 v xs A) := by
  refine Ct.intro0 G_ok Try.func42 rfl rfl rfl fun E H hp => ?_
  have hwf := rd_wf hp
  obtain ⟨rfl, _⟩ := rd_len hp
  refine VCmake.intro (by omega) (by omega) (by omega) (by omega) fun b => ?_
  refine loop_intro (α := Nat × Hp) G_ok (fun x => ⟨[(0, .v (.slice base xs.length cap)), (3, .v (.slice (some ⟨b, 0, none⟩) xs.length xs.length)), (4, .v (.int .i64 x.1))], [], [x.2, H]⟩)
    (fun x => xs.length - x.1) (fun x => x.1 ≤ xs.length ∧ Ow flTurn 43 (.slice (some ⟨b, 0, none⟩) xs.length xs.length) (xs.take x.1 ++ List.replicate (xs.length - x.1) ⟨0, 0, 0⟩) x.2)
    (0, _) ⟨Nat.zero_le _, Ow.make (f := flTurn) (z := ⟨0, 0, 0⟩) (b := b) (by unfold flTurn okI; simp) (Nat.le_refl _) (by omega)⟩
    ⟨⟨⟨_, rfl, rfl, trivial⟩, ⟨_, rfl, rfl, trivial⟩, ⟨_, rfl, rfl, trivial⟩, trivial⟩, trivial, .refl _⟩ ?_
  rintro ⟨k, A⟩ ⟨hk, ho⟩
  refine VCsplit.intro (fun h => ?_) (fun h => ?_)
  · have hlt : k < xs.length := by simpa using h
    refine idx_rd hp (by omega) (by simp; omega) fun b1 o1 hb1 => ?_
    refine load_rd (r := flTurn.rp) hp (by omega) (by simp; omega) hb1 (mem_at 1 rfl) fun l hl => ?_
    obtain ⟨rfl, hw⟩ := hl
    refine call_val (toTurn_ct _ _ _) trivial ?_
    rintro _ rfl
    refine idx_ow ho (by omega) (by simp; omega) fun b2 o2 hb2 => ?_
    refine store_ow (f := flTurn) (y := xs[k]) 0 rfl ho (by omega) (by simp; omega) hb2 rfl hw rfl fun A' ho' => ?_
    refine ⟨(k + 1, A'), ⟨hlt, ?_⟩, by simp; omega, ⟨⟨_, rfl, rfl, trivial⟩, ⟨_, rfl, rfl, trivial⟩, ⟨_, rfl, inc_eq k (by omega), trivial⟩, trivial⟩, trivial, .refl _⟩
    have e := take_step xs k ⟨0, 0, 0⟩ hlt
    simp only [Int.toNat_natCast] at ho'
    rw [e] at ho'; exact ho'
  · have he : k = xs.length := by
      have : ¬ (k : Int) < xs.length := by simpa using h
      omega
    subst he
    refine ⟨A, by simpa using ho, .refl _⟩

theorem eqTurnS_ct (b1 b2 : Option Addr) (m1 c1 m2 c2 : Nat) (xs ys : List Turn) :
    Ct Try.prog 44 [.slice b1 m1 c1, .slice b2 m2 c2] [] (fun H => (rpSl flTurn.rp).rd H [.slice b1 m1 c1] xs ∧ (rpSl flTurn.rp).rd H [.slice b2 m2 c2] ys) (fun v A => v = .bool (decide (xs = ys)) ∧ A = []) := by
  refine Ct.intro0 G_ok Try.func44 rfl rfl rfl fun E H hp => ?_
  obtain ⟨hp1, hp2⟩ := hp
  obtain ⟨rfl, hl1⟩ := rd_len hp1
  obtain ⟨rfl, hl2⟩ := rd_len hp2
  refine VCsplit.intro (fun h => ?_) (fun h => ?_)
  · refine ⟨[], ⟨?_, rfl⟩, .refl _⟩
    have : ¬ (xs.length : Int) = ys.length := by simpa using h
    rw [decide_eq_false (fun e => this (by rw [e]))]
  have hlen : xs.length = ys.length := by
    have : (xs.length : Int) = ys.length := by simpa using h
    omega
  refine loop_intro (α := Nat) G_ok (fun k => ⟨[(0, .v (.slice b1 xs.length c1)), (1, .v (.slice b2 ys.length c2)), (5, .v (.int .i64 k))], [], [H]⟩)
    (fun k => xs.length - k) (fun k => k ≤ xs.length ∧ xs.take k = ys.take k) 0 ⟨Nat.zero_le _, rfl⟩
    ⟨⟨⟨_, rfl, rfl, trivial⟩, ⟨_, rfl, rfl, trivial⟩, ⟨_, rfl, rfl, trivial⟩, trivial⟩, trivial, .refl _⟩ ?_
  rintro k ⟨hk, he⟩
  refine VCsplit.intro (fun h => ?_) (fun h => ?_)
  · have hlt : k < xs.length := by simpa using h
    have hlt2 : k < ys.length := by omega
    refine draw G_ok mixed none (.q 0 (.q 1 (.q 2 (.q 3 (.q 4 (.q 5 (.q 6 (.q 7 (.f 8 (.q 9 (.nil))))))))))) (by decide +kernel) ?_
    refine idx_rd hp1 (by omega) (by simp; omega) fun b1 o1 hb1 => ?_
    refine load_rd (r := flTurn.rp) hp1 (by omega) (by simp; omega) hb1 (mem_at 0 rfl) fun l hl => ?_
    obtain ⟨rfl, hw⟩ := hl
    refine idx_rd hp2 (by omega) (by simp; omega) fun b1 o1 hb1 => ?_
    refine load_rd (r := flTurn.rp) hp2 (by omega) (by simp; omega) hb1 (mem_at 0 rfl) fun l hl => ?_
    obtain ⟨rfl, hw⟩ := hl
    refine call_val (eqTurn_ct xs[k] ys[k]) trivial ?_
    rintro _ rfl
    try refine VC.intro (fun _ h => h) ?_
    refine VCsplit.intro (fun h => ?_) (fun h => ?_)
    · refine ⟨[], ⟨?_, rfl⟩, .refl _⟩
      have hne : xs[k] ≠ ys[k] := by simpa using h
      rw [decide_eq_false (fun e => hne (by subst e; rfl))]
    · refine ⟨k + 1, ⟨hlt, ?_⟩, by omega, ⟨⟨_, rfl, rfl, trivial⟩, ⟨_, rfl, rfl, trivial⟩, ⟨_, rfl, inc_eq k (by omega), trivial⟩, trivial⟩, trivial, .refl _⟩
      have heq : xs[k] = ys[k] := by simpa using h
      rw [← List.take_append_getElem hlt, ← List.take_append_getElem hlt2, he, heq]
  · have hge : ¬ (k : Int) < xs.length := by simpa using h
    have hk2 : k = xs.length := by omega
    refine ⟨[], ⟨?_, rfl⟩, .refl _⟩
    rw [hk2, List.take_length, hlen, List.take_length] at he
    rw [decide_eq_true he]

theorem markTurnS_ct (base : Option Addr) (m cap : Nat) (xs : List Turn) (A : Hp) (k : Int) (ho : Ow flTurn 43 (.slice base m cap) xs A) (hk0 : 0 ≤ k) (hk : k ≤ 1099511627776) (hm : m ≤ 1099511627776) :
    Ct Try.prog 45 [.slice base m cap, .int .i64 k] A (fun _ => True) (fun v A' => v = .int .i64 (k + 3 * m) ∧ ∃ ys : List Turn, ys.length = xs.length ∧ Ow flTurn 43 (.slice base m cap) ys A') := by
  refine Ct.intro G_ok Try.func45 rfl rfl rfl fun E H _ => ?_
  have hml : m = xs.length := (rd_len ho.rd).1
  subst hml
  refine loop_intro (α := Nat × List Turn × Hp) G_ok (fun x => ⟨[(0, .v (.slice base xs.length cap)), (1, .v (.int .i64 (k + 3 * x.1))), (5, .v (.int .i64 x.1))], [], [x.2.2, H]⟩)
    (fun x => xs.length - x.1) (fun x => x.1 ≤ xs.length ∧ x.2.1.length = xs.length ∧ Ow flTurn 43 (.slice base xs.length cap) x.2.1 x.2.2)
    (0, xs, A) ⟨Nat.zero_le _, rfl, ho⟩
    ⟨⟨⟨_, rfl, rfl, trivial⟩, ⟨_, rfl, by show Value.int .i64 k = Value.int .i64 (k + 3 * ((0 : Nat) : Int)); simp, trivial⟩, ⟨_, rfl, rfl, trivial⟩, trivial⟩, trivial, .refl _⟩ ?_
  rintro ⟨j, ys, B⟩ ⟨hj, hl, hB⟩
  refine VCsplit.intro (fun h => ?_) (fun h => ?_)
  · have hlt : j < xs.length := by simpa using h
    have hj' : j < ys.length := by have : ys.length = xs.length := hl; omega
    have hw : flTurn.wf ys[j] := hB.1 _ (List.getElem_mem hj')
    have hk1 : IntKind.i64.wrap (k + 3 * (j : Int) + 1) = k + 3 * j + 1 := wrap_ok (by unfold okI; omega)
    have hk2 : IntKind.i64.wrap (k + 3 * (j : Int) + 1 + 1) = k + 3 * j + 1 + 1 := wrap_ok (by unfold okI; omega)
    have hk3 : IntKind.i64.wrap (k + 3 * (j : Int) + 1 + 1 + 1) = k + 3 * j + 1 + 1 + 1 := wrap_ok (by unfold okI; omega)
    have hle : ys.length = xs.length := hl
    have hB : Ow flTurn 43 (.slice base xs.length cap) ys B := hB
    refine idx_ow hB (by simp) (by simp; omega) fun b2 o2 hb2 => ?_
    refine store_part (f := flTurn) ⟨k + 3 * j, ys[j].at', ys[j].to⟩ 0 (.int .i64 (k + 3 * j)) 0 rfl hB (by simp) (by simp; omega) hb2 rfl (by decide) ⟨by show okI (k + 3 * j); unfold okI; omega, hw.2.1, hw.2.2⟩ rfl rfl fun B1 hB1 => ?_
    have l1 : (ys.set j ⟨k + 3 * j, ys[j].at', ys[j].to⟩).length = xs.length := by rw [List.length_set]; exact hle
    refine idx_ow hB1 (by simp) (by simp; omega) fun b2 o2 hb2 => ?_
    refine store_part (f := flTurn) ⟨k + 3 * j, k + 3 * j + 1, ys[j].to⟩ 1 (.int .i64 (k + 3 * j + 1)) 0 rfl hB1 (by simp) (by simp; omega) hb2 (by simp only [hk1]) (by decide) ⟨by show okI (k + 3 * j); unfold okI; omega, by show okI (k + 3 * j + 1); unfold okI; omega, hw.2.2⟩ (by simp [flTurn, turnCells, setAt]) rfl fun B2 hB2 => ?_
    have l2 : ((ys.set j ⟨k + 3 * j, ys[j].at', ys[j].to⟩).set j ⟨k + 3 * j, k + 3 * j + 1, ys[j].to⟩).length = xs.length := by rw [List.length_set]; exact l1
    refine idx_ow hB2 (by simp) (by simp; omega) fun b2 o2 hb2 => ?_
    refine store_part (f := flTurn) ⟨k + 3 * j, k + 3 * j + 1, k + 3 * j + 1 + 1⟩ 2 (.int .i64 (k + 3 * j + 1 + 1)) 0 rfl hB2 (by simp) (by simp; omega) hb2 (by simp only [hk1, hk2]) (by decide) ⟨by show okI (k + 3 * j); unfold okI; omega, by show okI (k + 3 * j + 1); unfold okI; omega, by show okI (k + 3 * j + 1 + 1); unfold okI; omega⟩ (by simp [flTurn, turnCells, setAt]) rfl fun B3 hB3 => ?_
    exact ⟨(j + 1, _, B3), ⟨hlt, by simpa using hle, hB3⟩, by simp; omega, ⟨⟨_, rfl, rfl, trivial⟩, ⟨_, rfl, by simp only [hk1, hk2, hk3]; show Value.int .i64 (k + 3 * j + 1 + 1 + 1) = Value.int .i64 (k + 3 * ((j + 1 : Nat) : Int)); congr 1; omega, trivial⟩, ⟨_, rfl, inc_eq j (by omega), trivial⟩, trivial⟩, trivial, .refl _⟩
  · have he : j = xs.length := by
      have : ¬ (j : Int) < xs.length := by simpa using h
      omega
    subst he
    exact ⟨B, ⟨rfl, ys, hl, hB⟩, .tl⟩
end Go.Proofs.Ythihffgmmkhlhaa
