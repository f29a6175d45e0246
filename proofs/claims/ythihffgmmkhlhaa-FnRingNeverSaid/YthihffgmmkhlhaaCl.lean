/-
  RingSum of the program is the reference's. Conditions: none.
-/
import Derived.Test.YthihffgmmkhlhaaCs
namespace Go.Proofs.Ythihffgmmkhlhaa
open Go.SX Go.Proofs

theorem opens_ring {P : Program} {T tb ti tbs tis : TypeId} (h : UD.ok P T (.struct [(0, tbs), (1, tis), (2, tbs), (3, tis), (4, ti), (5, ti), (6, tb), (7, tb)])) (hT : P.cellsOf T = 8)
    (c1 : P.cellsOf tb = 1) (c2 : P.cellsOf ti = 1) (c3 : P.cellsOf tbs = 1) (c4 : P.cellsOf tis = 1)
    (ob : Opens P rpBool tb) (oi : Opens P rpInt ti) (obs : Opens P (rpSl flBool.rp) tbs) (ois : Opens P (rpSl flInt.rp) tis) : Opens P rpRing T := by
  intro H' enc w H sp hd fuel cs d ps hcov ht
  obtain ⟨h1, h2⟩ := trod_fields h ht
  rw [hT] at h1
  match cs, h1 with
  | [x0, x1, x2, x3, x4, x5, x6, x7], _ =>
    obtain ⟨_, _, g0⟩ := h2 0 0 _ rfl
    obtain ⟨_, _, g1⟩ := h2 1 1 _ rfl
    obtain ⟨_, _, g2⟩ := h2 2 2 _ rfl
    obtain ⟨_, _, g3⟩ := h2 3 3 _ rfl
    obtain ⟨_, _, g4⟩ := h2 4 4 _ rfl
    obtain ⟨_, _, g5⟩ := h2 5 5 _ rfl
    obtain ⟨_, _, g6⟩ := h2 6 6 _ rfl
    obtain ⟨_, _, g7⟩ := h2 7 7 _ rfl
    rw [c3] at g0 g2; rw [c4] at g1 g3; rw [c2] at g4 g5; rw [c1] at g6 g7
    obtain ⟨a0, b0, n0, e0, k0⟩ := obs _ _ H _ _ _ _ _ _ hcov g0
    obtain ⟨a1, b1, n1, e1, k1⟩ := ois _ _ H _ _ _ _ _ _ hcov g1
    obtain ⟨a2, b2, n2, e2, k2⟩ := obs _ _ H _ _ _ _ _ _ hcov g2
    obtain ⟨a3, b3, n3, e3, k3⟩ := ois _ _ H _ _ _ _ _ _ hcov g3
    obtain ⟨a4, e4, k4⟩ := oi _ _ H _ _ _ _ _ _ hcov g4
    obtain ⟨a5, e5, k5⟩ := oi _ _ H _ _ _ _ _ _ hcov g5
    obtain ⟨a6, e6⟩ := ob _ _ H _ _ _ _ _ _ hcov g6
    obtain ⟨a7, e7⟩ := ob _ _ H _ _ _ _ _ _ hcov g7
    simp only [rpBool, List.drop_zero, List.take_succ_cons, List.take_zero, List.cons.injEq, and_true, List.drop_succ_cons] at e0 e1 e2 e3 e4 e5 e6 e7
    subst e0 e1 e2 e3 e4 e5 e6 e7
    exact ⟨⟨a0, a1, a2, a3, a4, a5, a6, a7⟩, b0, b1, b2, b3, n0, n1, n2, n3, rfl, ⟨_, _, rfl, k0⟩, ⟨_, _, rfl, k1⟩, ⟨_, _, rfl, k2⟩, ⟨_, _, rfl, k3⟩, k4, k5⟩

theorem fnExactRingSum_ct (v : Value) : Ct Try.prog 4 [v] [] (fun H => ∃ x, rdV true rpRing H v x) (fun v A => v = .bool true ∧ A = []) := by
  refine Ct.intro0 G_ok Try.func4 rfl rfl rfl fun E H hp => ?_
  obtain ⟨r, hr⟩ := hp
  have hr0 := hr
  obtain ⟨_, rfl, b1, b2, b3, b4, c1, c2, c3, c4, rfl, h1, h2, h3, h4, h5, h6⟩ := hr
  refine VCnew.intro fun bb => ?_
  refine call_val (szRing_ct r b1 b2 b3 b4 c1 c2 c3 c4 _ (by omega) (by omega) ⟨(rd_len h1).2, (rd_len h2).2, (rd_len h3).2, (rd_len h4).2⟩) trivial ?_
  rintro _ ⟨z, rfl, hz⟩
  refine VCsplit.intro (fun h => ?_) (fun h => ?_)
  · exact ⟨[], ⟨rfl, rfl⟩, .tl⟩
  have hs : (r.actives.length : Int) + r.counts.length + r.blacks.length + r.flying.length ≤ 1048576 := by
    rcases hz with hz | hz
    · simp at h; omega
    · exact hz
  refine call_new (toRing_ct _ r hs) (rdV_mono (mem_at 0 rfl) hr0) ?_
  rintro v1 A1 o1
  refine call_val (specRingSum_ct _ r) (rdV_mono (mem_at 0 rfl) o1.rd) ?_
  rintro _ rfl
  refine call_new (toRing_ct _ r hs) (rdV_mono (mem_at 1 rfl) hr0) ?_
  rintro v2 A2 o2
  obtain ⟨d1, d2, d3, d4, k1, k2, k3, k4, B1, B2, B3, B4, rfl, hA2, _⟩ := id o2
  refine VCnew.intro fun bx => ?_
  refine call_val (implRingSum_ct _ r) (rdV_mono (mem_at 0 rfl) o2.rd) ?_
  rintro _ rfl
  refine VCsplit.intro (fun h => ?_) (fun h => ?_)
  · simp at h
  refine draw G_ok mixed none (.q 0 (.q 1 (.f 2 (.f 3 (.q 4 (.nil)))))) (by decide +kernel) ?_
  refine call_new (toRing_ct _ r hs) (rdV_mono (mem_at 2 rfl) hr0) ?_
  rintro v3 A3 o3
  try refine VC.intro keep_new ?_
  refine call_val (eqRing_ct _ _ r r) ⟨rdV_mono (mem_at 1 rfl) o2.rd, rdV_mono (mem_at 0 rfl) o3.rd⟩ ?_
  rintro _ rfl
  try refine VC.intro (fun _ h => h) ?_
  refine VCsplit.intro (fun h => ?_) (fun h => ?_)
  · simp at h
  exact ⟨[], ⟨rfl, rfl⟩, .mem (by simp)⟩
end Go.Proofs.Ythihffgmmkhlhaa
