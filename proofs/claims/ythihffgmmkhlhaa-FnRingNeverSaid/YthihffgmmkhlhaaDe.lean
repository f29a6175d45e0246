/-
  The law of CalmRing, walked. Conditions: none.
-/
import Derived.Test.YthihffgmmkhlhaaDc
namespace Go.Proofs.Ythihffgmmkhlhaa
open Go.SX Go.Proofs

theorem calm_cells (r : Ring) (h : r.cells ≤ 1048576) : (calm r).cells ≤ 1048576 := stepN_cells _ _ (stepN_cells _ _ (stepN_cells _ _ h _) _) _

theorem fnExactCalmRing_ct (v : Value) : Ct Try.prog 10 [v] [] (fun H => ∃ x, rdV true rpRing H v x) (fun v A => v = .bool true ∧ A = []) := by
  refine Ct.intro0 G_ok Try.func10 rfl rfl rfl fun E H hp => ?_
  obtain ⟨r, hr⟩ := hp
  have hr0 := hr
  obtain ⟨_, rfl, b1, b2, b3, b4, c1, c2, c3, c4, rfl, h1, h2, h3, h4, h5, h6⟩ := hr
  refine VCnew.intro fun bb => ?_
  refine call_val (szRing_ct r b1 b2 b3 b4 c1 c2 c3 c4 _ (by omega) (by omega) ⟨(rd_len h1).2, (rd_len h2).2, (rd_len h3).2, (rd_len h4).2⟩) trivial ?_
  rintro _ ⟨z, rfl, hz⟩
  refine VCsplit.intro (fun h => ?_) (fun h => ?_)
  · exact ⟨[], ⟨rfl, rfl⟩, .mem (by simp)⟩
  have hs : (r.actives.length : Int) + r.counts.length + r.blacks.length + r.flying.length ≤ 1048576 := by
    rcases hz with hz | hz
    · simp at h; omega
    · exact hz
  have hc : r.cells ≤ 1048576 := by unfold Ring.cells; omega
  clear hz
  have hcs := calm_cells r hc
  refine call_new (toRing_ct _ r hs) (rdV_mono (mem_at 0 rfl) hr0) ?_
  rintro v1 A1 o1
  refine call_new (specCalmRing_ct v1 r hc) (rdV_mono (mem_at 0 rfl) o1.rd) ?_
  rintro _ Aw ow
  obtain ⟨d1, d2, d3, d4, k1, k2, k3, k4, B1, B2, B3, B4, rfl, hA2, _⟩ := id ow
  refine VCnew.intro fun bw => ?_
  refine call_new (toRing_ct _ r hs) (rdV_mono (mem_at 2 rfl) hr0) ?_
  rintro vx Ax ox
  obtain ⟨e1, e2, e3, e4, l1, l2, l3, l4, C1, C2, C3, C4, rfl, hAx, _⟩ := id ox
  refine VCnew.intro fun bx => ?_
  refine call_new (implCalmRing_ct _ r hc) (rdV_mono (mem_at 0 rfl) ox.rd) ?_
  rintro _ Ag og
  obtain ⟨f1, f2, f3, f4, m1, m2, m3, m4, D1, D2, D3, D4, rfl, hAg, _⟩ := id og
  refine VCnew.intro fun bg => ?_
  refine call_val (eqRing_ct _ _ (calm r) (calm r)) ⟨rdV_mono (mem_at 0 rfl) og.rd, rdV_mono (mem_at 2 rfl) ow.rd⟩ ?_
  rintro _ rfl
  refine VCsplit.intro (fun h => ?_) (fun h => ?_)
  · simp at h
  refine draw G_ok mixed none (.q 0 (.q 1 (.f 2 (.f 3 (.q 4 (.nil)))))) (by decide +kernel) ?_
  refine call_new (toRing_ct _ r hs) (rdV_mono (mem_at 4 rfl) hr0) ?_
  rintro vy Ay oy
  try refine VC.intro keep_new ?_
  refine call_val (eqRing_ct _ _ r r) ⟨rdV_mono (mem_at 2 rfl) ox.rd, rdV_mono (mem_at 0 rfl) oy.rd⟩ ?_
  rintro _ rfl
  try refine VC.intro (fun _ h => h) ?_
  refine VCsplit.intro (fun h => ?_) (fun h => ?_)
  · simp at h
  refine call_at 2 rfl (markRing_ct _ r Ax 1 ox (by omega) (by omega) (by omega)) (fun _ _ _ => trivial) ?_
  rintro _ Ax' ⟨rfl, ox'⟩
  refine VCsplit.intro (fun h => ?_) (fun h => ?_)
  · simp at h; omega
  refine call_val (eqRing_ct _ _ (calm r) (calm r)) ⟨rdV_mono (mem_at 1 rfl) og.rd, rdV_mono (mem_at 3 rfl) ow.rd⟩ ?_
  rintro _ rfl
  refine VCsplit.intro (fun h => ?_) (fun h => ?_)
  · simp at h
  refine call_at 1 rfl (markRing_ct _ _ Ag 1 og (by omega) (by omega) (by omega)) (fun _ _ _ => trivial) ?_
  rintro _ Ag' ⟨rfl, og'⟩
  refine call_val (heldRing_ct _ (calm r) 1 (by omega) (by omega) (by omega)) (rdV_mono (mem_at 1 rfl) og'.rd) ?_
  rintro _ rfl
  refine VCsplit.intro (fun h => ?_) (fun h => ?_)
  · simp at h; omega
  refine VCsplit.intro (fun h => ?_) (fun h => ?_)
  · simp at h
  refine call_new (toRing_ct _ r hs) (rdV_mono (mem_at 5 rfl) hr0) ?_
  rintro v3 A3 o3
  refine call_new (implCalmRing_ct v3 r hc) (rdV_mono (mem_at 0 rfl) o3.rd) ?_
  rintro _ Ah oh
  obtain ⟨_, _, _, _, _, _, _, _, _, _, _, _, rfl, -, -⟩ := id oh
  refine VCnew.intro fun bh => ?_
  refine call_val (eqRing_ct _ _ (calm r) (calm r)) ⟨rdV_mono (mem_at 0 rfl) oh.rd, rdV_mono (mem_at 5 rfl) ow.rd⟩ ?_
  rintro _ rfl
  refine VCsplit.intro (fun h => ?_) (fun h => ?_)
  · simp at h
  refine call_val (heldRing_ct _ (calm r) 1 (by omega) (by omega) (by omega)) (rdV_mono (mem_at 3 rfl) og'.rd) ?_
  rintro _ rfl
  refine VCsplit.intro (fun h => ?_) (fun h => ?_)
  · simp at h; omega
  refine VCsplit.intro (fun h => ?_) (fun h => ?_)
  · simp at h
  exact ⟨[], ⟨rfl, rfl⟩, .mem (by simp [setR])⟩
end Go.Proofs.Ythihffgmmkhlhaa
