/-
  The law of RingStep, walked. Conditions: none.
-/
import Derived.Test.YthihffgmmkhlhaaCy
namespace Go.Proofs.Ythihffgmmkhlhaa
open Go.SX Go.Proofs

theorem toTurn_ct (k at' to : Int) : Ct Try.prog 30 [.agg ⟨[.int .i64 k, .int .i64 at', .int .i64 to]⟩] [] (fun _ => True) (fun v A => v = .agg ⟨[.int .i64 k, .int .i64 at', .int .i64 to]⟩ ∧ A = []) := by
  refine Ct.intro0 G_ok Try.func30 rfl rfl rfl fun E H _ => ?_
  refine VCnew.intro fun b1 => VCnew.intro fun b2 => VCnew.intro fun b3 => ?_
  exact ⟨[], ⟨rfl, rfl⟩, .mem (by simp)⟩

def rpTurn : Rp Turn where
  size := 3
  rd _ l x := l = [.int .i64 x.kind, .int .i64 x.at', .int .i64 x.to] ∧ okI x.kind ∧ okI x.at' ∧ okI x.to
  mono _ h := h
  len h := by rw [h.1]; rfl

theorem ringStep_cells (r : Ring) (t : Turn) (h : r.cells ≤ 1048576) : (ringStep r t).1.cells ≤ 1048576 := by
  unfold ringStep
  split
  · rename_i h1
    have := ringOk_len h1.2.2.2
    unfold Ring.cells
    simp only
    omega
  · exact h

theorem fnExactRingStep_ct (v v' : Value) : Ct Try.prog 7 [v, v'] [] (fun H => (∃ x, rdV true rpRing H v x) ∧ ∃ x, rdV true rpTurn H v' x) (fun v A => v = .bool true ∧ A = []) := by
  refine Ct.intro0 G_ok Try.func7 rfl rfl rfl fun E H hp => ?_
  obtain ⟨⟨r, hr⟩, ⟨⟨k, at', to⟩, _, rfl, rfl, ok1, ok2, ok3⟩⟩ := hp
  have hr0 := hr
  obtain ⟨_, rfl, b1, b2, b3, b4, c1, c2, c3, c4, rfl, h1, h2, h3, h4, h5, h6⟩ := hr
  refine VCnew.intro fun bb => VCnew.intro fun bt => ?_
  refine call_val (szRing_ct r b1 b2 b3 b4 c1 c2 c3 c4 _ (by omega) (by omega) ⟨(rd_len h1).2, (rd_len h2).2, (rd_len h3).2, (rd_len h4).2⟩) trivial ?_
  rintro _ ⟨z, rfl, hz⟩
  refine VCsplit.intro (fun h => ?_) (fun h => ?_)
  · exact ⟨[], ⟨rfl, rfl⟩, .mem (by simp)⟩
  have hs : (r.actives.length : Int) + r.counts.length + r.blacks.length + r.flying.length ≤ 1048576 := by
    rcases hz with hz | hz
    · simp at h; omega
    · exact hz
  have hc : r.cells ≤ 1048576 := by unfold Ring.cells; omega
  clear hz
  refine draw_join (α := Nat × List Value × Hp) (fun z => ⟨[(2, .p 0 0), (3, .p 1 0), (6, .p 2 0), (7, .v (.bool (ringStep r ⟨k, at', to⟩).2))], [⟨bb, ringCells r b1 b2 b3 b4 c1 c2 c3 c4, 31⟩, ⟨bt, [.int .i64 k, .int .i64 at', .int .i64 to], 50⟩, ⟨z.1, z.2.1, 34⟩], [z.2.2, H]⟩)
    (fun z => OwR (.agg ⟨z.2.1⟩) (ringStep r ⟨k, at', to⟩).1 z.2.2) ?_ ?_
  · refine draw G_ok mixed (some 9) (.q 0 (.q 2 (.hd (.alt 1 (.hd (.alt 3 (.hd (.alt 4 (.q 5 (.q 6 (.q 7 (.f 8 (.tl 9 (.f 10 (.nil))))))) (.alt 8 (.f 4 (.q 5 (.q 6 (.q 7 (.tl 9 (.f 10 (.nil))))))) (.nil)))) (.alt 8 (.f 3 (.f 4 (.q 5 (.q 6 (.q 7 (.tl 9 (.f 10 (.nil)))))))) (.nil)))) (.alt 8 (.f 1 (.f 3 (.f 4 (.q 5 (.q 6 (.q 7 (.tl 9 (.f 10 (.nil))))))))) (.nil)))))) (by decide +kernel) ?_
    refine VC.intro ?_ ?_
    ·
      refine call_new (toRing_ct _ r hs) (rdV_mono (mem_at 0 rfl) hr0) ?_
      rintro v1 A1 o1
      try refine VC.intro keep_new ?_
      refine VC.intro ?_ ?_
      ·
        refine call_val (toTurn_ct _ _ _) trivial ?_
        rintro _ rfl
        try refine VC.intro (fun _ h => h) ?_
        refine VC.intro ?_ ?_
        ·
          refine call_new (specRingStep_ct v1 r ⟨k, at', to⟩ hc ok3) (rdV_mono (mem_at 0 rfl) o1.rd) ?_
          rintro _ A2 ⟨w, rfl, o2⟩
          try refine VC.intro keep_new ?_
          obtain ⟨d1, d2, d3, d4, k1, k2, k3, k4, B1, B2, B3, B4, rfl, hA2, _⟩ := id o2
          refine VCnew.intro fun bw => ?_
          try refine VC.intro (keep_blk (by simp)) ?_
          exact ⟨(bw, _, A2), o2, ⟨⟨_, rfl, rfl, by simp [SV.ok]⟩, ⟨_, rfl, rfl, by simp [SV.ok]⟩, ⟨_, rfl, rfl, by simp [SV.ok]⟩, ⟨_, rfl, rfl, trivial⟩, trivial⟩, ⟨rfl, rfl, rfl, trivial⟩, .le fun a => by simp⟩
        · refine VC.intro ?_ trivial
          refine VCnew.intro fun bw => ?_
          try refine VC.intro (keep_blk (by simp)) ?_
          refine call_new (specRingStep_ct v1 r ⟨k, at', to⟩ hc ok3) (rdV_mono (mem_at 0 rfl) o1.rd) ?_
          rintro _ A2 ⟨w, rfl, o2⟩
          try refine VC.intro keep_new ?_
          obtain ⟨d1, d2, d3, d4, k1, k2, k3, k4, B1, B2, B3, B4, rfl, hA2, _⟩ := id o2
          exact ⟨(bw, _, A2), o2, ⟨⟨_, rfl, rfl, by simp [SV.ok]⟩, ⟨_, rfl, rfl, by simp [SV.ok]⟩, ⟨_, rfl, rfl, by simp [SV.ok]⟩, ⟨_, rfl, rfl, trivial⟩, trivial⟩, ⟨rfl, rfl, rfl, trivial⟩, .le fun a => by simp⟩
      · refine VC.intro ?_ trivial
        refine VCnew.intro fun bw => ?_
        try refine VC.intro (keep_blk (by simp)) ?_
        refine call_val (toTurn_ct _ _ _) trivial ?_
        rintro _ rfl
        try refine VC.intro (fun _ h => h) ?_
        refine call_new (specRingStep_ct v1 r ⟨k, at', to⟩ hc ok3) (rdV_mono (mem_at 0 rfl) o1.rd) ?_
        rintro _ A2 ⟨w, rfl, o2⟩
        try refine VC.intro keep_new ?_
        obtain ⟨d1, d2, d3, d4, k1, k2, k3, k4, B1, B2, B3, B4, rfl, hA2, _⟩ := id o2
        exact ⟨(bw, _, A2), o2, ⟨⟨_, rfl, rfl, by simp [SV.ok]⟩, ⟨_, rfl, rfl, by simp [SV.ok]⟩, ⟨_, rfl, rfl, by simp [SV.ok]⟩, ⟨_, rfl, rfl, trivial⟩, trivial⟩, ⟨rfl, rfl, rfl, trivial⟩, .le fun a => by simp⟩
    · refine VC.intro ?_ trivial
      refine VCnew.intro fun bw => ?_
      try refine VC.intro (keep_blk (by simp)) ?_
      refine call_new (toRing_ct _ r hs) (rdV_mono (mem_at 0 rfl) hr0) ?_
      rintro v1 A1 o1
      try refine VC.intro keep_new ?_
      refine call_val (toTurn_ct _ _ _) trivial ?_
      rintro _ rfl
      try refine VC.intro (fun _ h => h) ?_
      refine call_new (specRingStep_ct v1 r ⟨k, at', to⟩ hc ok3) (rdV_mono (mem_at 0 rfl) o1.rd) ?_
      rintro _ A2 ⟨w, rfl, o2⟩
      try refine VC.intro keep_new ?_
      obtain ⟨d1, d2, d3, d4, k1, k2, k3, k4, B1, B2, B3, B4, rfl, hA2, _⟩ := id o2
      exact ⟨(bw, _, A2), o2, ⟨⟨_, rfl, rfl, by simp [SV.ok]⟩, ⟨_, rfl, rfl, by simp [SV.ok]⟩, ⟨_, rfl, rfl, by simp [SV.ok]⟩, ⟨_, rfl, rfl, trivial⟩, trivial⟩, ⟨rfl, rfl, rfl, trivial⟩, .le fun a => by simp⟩
  rintro ⟨bw, lw, Aw⟩ ow
  obtain ⟨d1, d2, d3, d4, k1, k2, k3, k4, B1, B2, B3, B4, ew, hAw, _⟩ := id ow
  cases ew
  refine call_new (toRing_ct _ r hs) (rdV_mono (mem_at 1 rfl) hr0) ?_
  rintro vx Ax ox
  obtain ⟨e1, e2, e3, e4, l1, l2, l3, l4, C1, C2, C3, C4, rfl, hAx, _⟩ := id ox
  refine VCnew.intro fun bx => ?_
  refine draw_join (α := Nat × List Value × Hp) (fun z => ⟨[(2, .p 0 0), (3, .p 1 0), (6, .p 2 0), (7, .v (.bool (ringStep r ⟨k, at', to⟩).2)), (8, .p 3 0), (9, .p 4 0), (10, .v (.bool (ringStep r ⟨k, at', to⟩).2))],
      [⟨bb, ringCells r b1 b2 b3 b4 c1 c2 c3 c4, 31⟩, ⟨bt, [.int .i64 k, .int .i64 at', .int .i64 to], 50⟩, ⟨bw, ringCells (ringStep r ⟨k, at', to⟩).1 d1 d2 d3 d4 k1 k2 k3 k4, 34⟩, ⟨bx, ringCells r e1 e2 e3 e4 l1 l2 l3 l4, 34⟩, ⟨z.1, z.2.1, 34⟩], [z.2.2, Ax, Aw, H]⟩)
    (fun z => OwR (.agg ⟨z.2.1⟩) (ringStep r ⟨k, at', to⟩).1 z.2.2) ?_ ?_
  · refine draw G_ok mixed (some 8) (.q 0 (.q 1 (.hd (.alt 2 (.hd (.alt 3 (.q 4 (.q 5 (.q 6 (.f 7 (.tl 8 (.f 9 (.nil))))))) (.alt 7 (.f 3 (.q 4 (.q 5 (.q 6 (.tl 8 (.f 9 (.nil))))))) (.nil)))) (.alt 7 (.f 2 (.f 3 (.q 4 (.q 5 (.q 6 (.tl 8 (.f 9 (.nil)))))))) (.nil)))))) (by decide +kernel) ?_
    refine VC.intro ?_ ?_
    ·
      refine call_val (toTurn_ct _ _ _) trivial ?_
      rintro _ rfl
      try refine VC.intro (fun _ h => h) ?_
      refine VC.intro ?_ ?_
      ·
        refine call_new (implRingStep_ct _ r ⟨k, at', to⟩ hc ok3) (rdV_mono (mem_at 0 rfl) ox.rd) ?_
        rintro _ A2 ⟨w, rfl, o2⟩
        try refine VC.intro keep_new ?_
        obtain ⟨_, _, _, _, _, _, _, _, _, _, _, _, rfl, _, _⟩ := id o2
        refine VCnew.intro fun bg => ?_
        try refine VC.intro (keep_blk (by simp)) ?_
        exact ⟨(bg, _, A2), o2, ⟨⟨_, rfl, rfl, by simp [SV.ok]⟩, ⟨_, rfl, rfl, by simp [SV.ok]⟩, ⟨_, rfl, rfl, by simp [SV.ok]⟩, ⟨_, rfl, rfl, trivial⟩, ⟨_, rfl, rfl, by simp [SV.ok]⟩, ⟨_, rfl, rfl, by simp [SV.ok]⟩, ⟨_, rfl, rfl, trivial⟩, trivial⟩, ⟨rfl, rfl, rfl, rfl, rfl, trivial⟩, .refl _⟩
      · refine VC.intro ?_ trivial
        refine VCnew.intro fun bg => ?_
        try refine VC.intro (keep_blk (by simp)) ?_
        refine call_new (implRingStep_ct _ r ⟨k, at', to⟩ hc ok3) (rdV_mono (mem_at 0 rfl) ox.rd) ?_
        rintro _ A2 ⟨w, rfl, o2⟩
        try refine VC.intro keep_new ?_
        obtain ⟨_, _, _, _, _, _, _, _, _, _, _, _, rfl, _, _⟩ := id o2
        exact ⟨(bg, _, A2), o2, ⟨⟨_, rfl, rfl, by simp [SV.ok]⟩, ⟨_, rfl, rfl, by simp [SV.ok]⟩, ⟨_, rfl, rfl, by simp [SV.ok]⟩, ⟨_, rfl, rfl, trivial⟩, ⟨_, rfl, rfl, by simp [SV.ok]⟩, ⟨_, rfl, rfl, by simp [SV.ok]⟩, ⟨_, rfl, rfl, trivial⟩, trivial⟩, ⟨rfl, rfl, rfl, rfl, rfl, trivial⟩, .refl _⟩
    · refine VC.intro ?_ trivial
      refine VCnew.intro fun bg => ?_
      try refine VC.intro (keep_blk (by simp)) ?_
      refine call_val (toTurn_ct _ _ _) trivial ?_
      rintro _ rfl
      try refine VC.intro (fun _ h => h) ?_
      refine call_new (implRingStep_ct _ r ⟨k, at', to⟩ hc ok3) (rdV_mono (mem_at 0 rfl) ox.rd) ?_
      rintro _ A2 ⟨w, rfl, o2⟩
      try refine VC.intro keep_new ?_
      obtain ⟨_, _, _, _, _, _, _, _, _, _, _, _, rfl, _, _⟩ := id o2
      exact ⟨(bg, _, A2), o2, ⟨⟨_, rfl, rfl, by simp [SV.ok]⟩, ⟨_, rfl, rfl, by simp [SV.ok]⟩, ⟨_, rfl, rfl, by simp [SV.ok]⟩, ⟨_, rfl, rfl, trivial⟩, ⟨_, rfl, rfl, by simp [SV.ok]⟩, ⟨_, rfl, rfl, by simp [SV.ok]⟩, ⟨_, rfl, rfl, trivial⟩, trivial⟩, ⟨rfl, rfl, rfl, rfl, rfl, trivial⟩, .refl _⟩
  rintro ⟨bg, lg, Ag⟩ og
  obtain ⟨f1, f2, f3, f4, m1, m2, m3, m4, D1, D2, D3, D4, eg, hAg, _⟩ := id og
  cases eg
  have hcs := ringStep_cells r ⟨k, at', to⟩ hc
  refine call_val (eqRing_ct _ _ (ringStep r ⟨k, at', to⟩).1 (ringStep r ⟨k, at', to⟩).1) ⟨rdV_mono (mem_at 0 rfl) og.rd, rdV_mono (mem_at 2 rfl) ow.rd⟩ ?_
  rintro _ rfl
  refine VCsplit.intro (fun h => ?_) (fun h => ?_)
  · simp at h
  refine VCsplit.intro (fun h => ?_) (fun h => ?_)
  · simp at h
  refine draw G_ok mixed none (.q 0 (.q 1 (.f 2 (.f 3 (.q 4 (.nil)))))) (by decide +kernel) ?_
  refine call_new (toRing_ct _ r hs) (rdV_mono (mem_at 3 rfl) hr0) ?_
  rintro vy Ay oy
  try refine VC.intro keep_new ?_
  refine call_val (eqRing_ct _ _ r r) ⟨rdV_mono (mem_at 2 rfl) ox.rd, rdV_mono (mem_at 0 rfl) oy.rd⟩ ?_
  rintro _ rfl
  try refine VC.intro (fun _ h => h) ?_
  refine VCsplit.intro (fun h => ?_) (fun h => ?_)
  · simp at h
  refine call_at 2 rfl (markRing_ct _ r Ax 1 ox (by omega) (by omega) (by omega)) (fun _ _ _ => trivial) ?_
  rintro _ Ax' ⟨rfl, ox'⟩
  refine VCsplit.intro (fun h => ?_) (fun h => ?_)
  · simp at h; omega
  refine call_val (eqRing_ct _ _ (ringStep r ⟨k, at', to⟩).1 (ringStep r ⟨k, at', to⟩).1) ⟨rdV_mono (mem_at 1 rfl) og.rd, rdV_mono (mem_at 3 rfl) ow.rd⟩ ?_
  rintro _ rfl
  refine VCsplit.intro (fun h => ?_) (fun h => ?_)
  · simp at h
  refine VCsplit.intro (fun h => ?_) (fun h => ?_)
  · simp at h
  refine call_at 1 rfl (markRing_ct _ _ Ag 1 og (by omega) (by omega) (by omega)) (fun _ _ _ => trivial) ?_
  rintro _ Ag' ⟨rfl, og'⟩
  refine call_val (heldRing_ct _ (ringStep r ⟨k, at', to⟩).1 1 (by omega) (by omega) (by omega)) (rdV_mono (mem_at 1 rfl) og'.rd) ?_
  rintro _ rfl
  refine VCsplit.intro (fun h => ?_) (fun h => ?_)
  · simp at h; omega
  refine VCsplit.intro (fun h => ?_) (fun h => ?_)
  · simp at h
  refine draw_join (α := Nat × List Value × Hp) (fun z => ⟨[(6, .p 2 0), (7, .v (.bool (ringStep r ⟨k, at', to⟩).2)), (9, .p 4 0), (12, .v (.int .i64 (1 + (ringStep r ⟨k, at', to⟩).1.cells))), (14, .p 5 0), (15, .v (.bool (ringStep r ⟨k, at', to⟩).2))],
      [⟨bb, ringCells r b1 b2 b3 b4 c1 c2 c3 c4, 31⟩, ⟨bt, [.int .i64 k, .int .i64 at', .int .i64 to], 50⟩, ⟨bw, ringCells (ringStep r ⟨k, at', to⟩).1 d1 d2 d3 d4 k1 k2 k3 k4, 34⟩, ⟨bx, ringCells r e1 e2 e3 e4 l1 l2 l3 l4, 34⟩,
       ⟨bg, ringCells (ringStep r ⟨k, at', to⟩).1 f1 f2 f3 f4 m1 m2 m3 m4, 34⟩, ⟨z.1, z.2.1, 34⟩], [z.2.2, Ag', Aw, H]⟩)
    (fun z => OwR (.agg ⟨z.2.1⟩) (ringStep r ⟨k, at', to⟩).1 z.2.2) ?_ ?_
  · refine draw G_ok mixed (some 9) (.q 0 (.q 2 (.hd (.alt 1 (.hd (.alt 3 (.hd (.alt 4 (.q 5 (.q 6 (.q 7 (.f 8 (.tl 9 (.f 10 (.nil))))))) (.alt 8 (.f 4 (.q 5 (.q 6 (.q 7 (.tl 9 (.f 10 (.nil))))))) (.nil)))) (.alt 8 (.f 3 (.f 4 (.q 5 (.q 6 (.q 7 (.tl 9 (.f 10 (.nil)))))))) (.nil)))) (.alt 8 (.f 1 (.f 3 (.f 4 (.q 5 (.q 6 (.q 7 (.tl 9 (.f 10 (.nil))))))))) (.nil)))))) (by decide +kernel) ?_
    refine VC.intro ?_ ?_
    ·
      refine call_new (toRing_ct _ r hs) (rdV_mono (mem_at 4 rfl) hr0) ?_
      rintro v1 A1 o1
      try refine VC.intro keep_new ?_
      refine VC.intro ?_ ?_
      ·
        refine call_val (toTurn_ct _ _ _) trivial ?_
        rintro _ rfl
        try refine VC.intro (fun _ h => h) ?_
        refine VC.intro ?_ ?_
        ·
          refine call_new (implRingStep_ct v1 r ⟨k, at', to⟩ hc ok3) (rdV_mono (mem_at 0 rfl) o1.rd) ?_
          rintro _ A2 ⟨w, rfl, o2⟩
          try refine VC.intro keep_new ?_
          obtain ⟨_, _, _, _, _, _, _, _, _, _, _, _, rfl, _, _⟩ := id o2
          refine VCnew.intro fun bw' => ?_
          try refine VC.intro (keep_blk (by simp)) ?_
          exact ⟨(bw', _, A2), o2, ⟨⟨_, rfl, rfl, by simp [SV.ok]⟩, ⟨_, rfl, rfl, trivial⟩, ⟨_, rfl, rfl, by simp [SV.ok]⟩, ⟨_, rfl, rfl, trivial⟩, ⟨_, rfl, rfl, by simp [SV.ok]⟩, ⟨_, rfl, rfl, trivial⟩, trivial⟩, ⟨rfl, rfl, rfl, rfl, rfl, rfl, trivial⟩, .le fun a => by simp [setR]; try omega⟩
        · refine VC.intro ?_ trivial
          refine VCnew.intro fun bw' => ?_
          try refine VC.intro (keep_blk (by simp)) ?_
          refine call_new (implRingStep_ct v1 r ⟨k, at', to⟩ hc ok3) (rdV_mono (mem_at 0 rfl) o1.rd) ?_
          rintro _ A2 ⟨w, rfl, o2⟩
          try refine VC.intro keep_new ?_
          obtain ⟨_, _, _, _, _, _, _, _, _, _, _, _, rfl, _, _⟩ := id o2
          exact ⟨(bw', _, A2), o2, ⟨⟨_, rfl, rfl, by simp [SV.ok]⟩, ⟨_, rfl, rfl, trivial⟩, ⟨_, rfl, rfl, by simp [SV.ok]⟩, ⟨_, rfl, rfl, trivial⟩, ⟨_, rfl, rfl, by simp [SV.ok]⟩, ⟨_, rfl, rfl, trivial⟩, trivial⟩, ⟨rfl, rfl, rfl, rfl, rfl, rfl, trivial⟩, .le fun a => by simp [setR]; try omega⟩
      · refine VC.intro ?_ trivial
        refine VCnew.intro fun bw' => ?_
        try refine VC.intro (keep_blk (by simp)) ?_
        refine call_val (toTurn_ct _ _ _) trivial ?_
        rintro _ rfl
        try refine VC.intro (fun _ h => h) ?_
        refine call_new (implRingStep_ct v1 r ⟨k, at', to⟩ hc ok3) (rdV_mono (mem_at 0 rfl) o1.rd) ?_
        rintro _ A2 ⟨w, rfl, o2⟩
        try refine VC.intro keep_new ?_
        obtain ⟨_, _, _, _, _, _, _, _, _, _, _, _, rfl, _, _⟩ := id o2
        exact ⟨(bw', _, A2), o2, ⟨⟨_, rfl, rfl, by simp [SV.ok]⟩, ⟨_, rfl, rfl, trivial⟩, ⟨_, rfl, rfl, by simp [SV.ok]⟩, ⟨_, rfl, rfl, trivial⟩, ⟨_, rfl, rfl, by simp [SV.ok]⟩, ⟨_, rfl, rfl, trivial⟩, trivial⟩, ⟨rfl, rfl, rfl, rfl, rfl, rfl, trivial⟩, .le fun a => by simp [setR]; try omega⟩
    · refine VC.intro ?_ trivial
      refine VCnew.intro fun bw' => ?_
      try refine VC.intro (keep_blk (by simp)) ?_
      refine call_new (toRing_ct _ r hs) (rdV_mono (mem_at 4 rfl) hr0) ?_
      rintro v1 A1 o1
      try refine VC.intro keep_new ?_
      refine call_val (toTurn_ct _ _ _) trivial ?_
      rintro _ rfl
      try refine VC.intro (fun _ h => h) ?_
      refine call_new (implRingStep_ct v1 r ⟨k, at', to⟩ hc ok3) (rdV_mono (mem_at 0 rfl) o1.rd) ?_
      rintro _ A2 ⟨w, rfl, o2⟩
      try refine VC.intro keep_new ?_
      obtain ⟨_, _, _, _, _, _, _, _, _, _, _, _, rfl, _, _⟩ := id o2
      exact ⟨(bw', _, A2), o2, ⟨⟨_, rfl, rfl, by simp [SV.ok]⟩, ⟨_, rfl, rfl, trivial⟩, ⟨_, rfl, rfl, by simp [SV.ok]⟩, ⟨_, rfl, rfl, trivial⟩, ⟨_, rfl, rfl, by simp [SV.ok]⟩, ⟨_, rfl, rfl, trivial⟩, trivial⟩, ⟨rfl, rfl, rfl, rfl, rfl, rfl, trivial⟩, .le fun a => by simp [setR]; try omega⟩
  rintro ⟨bh, lh, Ah⟩ oh
  obtain ⟨_, _, _, _, _, _, _, _, _, _, _, _, eh, _, _⟩ := id oh
  cases eh
  refine call_val (eqRing_ct _ _ (ringStep r ⟨k, at', to⟩).1 (ringStep r ⟨k, at', to⟩).1) ⟨rdV_mono (mem_at 0 rfl) oh.rd, rdV_mono (mem_at 2 rfl) ow.rd⟩ ?_
  rintro _ rfl
  refine VCsplit.intro (fun h => ?_) (fun h => ?_)
  · simp at h
  refine VCsplit.intro (fun h => ?_) (fun h => ?_)
  · simp at h
  refine call_val (heldRing_ct _ (ringStep r ⟨k, at', to⟩).1 1 (by omega) (by omega) (by omega)) (rdV_mono (mem_at 1 rfl) og'.rd) ?_
  rintro _ rfl
  refine VCsplit.intro (fun h => ?_) (fun h => ?_)
  · simp at h; omega
  refine VCsplit.intro (fun h => ?_) (fun h => ?_)
  · simp at h
  exact ⟨[], ⟨rfl, rfl⟩, .mem (by simp)⟩
end Go.Proofs.Ythihffgmmkhlhaa
