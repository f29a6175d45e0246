/-
  A step of a ring: the reference's. Conditions: none.
-/
import Derived.Test.YthihffgmmkhlhaaCv
import Derived.Test.YthihffgmmkhlhaaCw
namespace Go.Proofs.Ythihffgmmkhlhaa
open Go.SX Go.Proofs

theorem specRingStep1_ct (v : Value) (r : Ring) (k at' to : Int) (hl : r.cells ≤ 1048576) (ht : okI to) :
    Ct Try.prog 29 [v, .agg ⟨[.int .i64 k, .int .i64 at', .int .i64 to]⟩] [] (fun H => rdV true rpRing H v r)
      (fun v A => ∃ v', v = .tuple #[v', .bool (ringStep r ⟨k, at', to⟩).2] ∧ OwR v' (ringStep r ⟨k, at', to⟩).1 A) := by
  refine Ct.intro0 G_ok Try.func29 rfl rfl rfl fun E H hp => ?_
  have hp0 := hp
  obtain ⟨_, rfl, b1, b2, b3, b4, c1, c2, c3, c4, rfl, h1, h2, h3, h4, h5, h6⟩ := hp
  refine VCnew.intro fun bb => VCnew.intro fun bz => VCnew.intro fun by' => ?_
  refine call_newL (l22Copy_ct _ r hl) (rdV_mono (mem_at 0 rfl) hp0) ?_
  rintro v1 A1 o1
  obtain ⟨d1, d2, d3, d4, g1, g2, g3, g4, B1, B2, B3, B4, rfl, rfl, p1, p2, p3, p4, p5, p6⟩ := id o1
  refine ⟨[B1, B2, B3, B4], by simp, ?_⟩
  refine VCnew.intro fun bx => ?_
  refine call_val (specRingOk_ct _ r) (rdV_mono (mem_at 4 rfl) hp0) ?_
  rintro _ rfl
  refine VCsplit.intro (fun q1 => ?_) (fun q1 => ?_)
  · have hs : ringStep r ⟨k, at', to⟩ = (r, false) := by rw [ringStep, if_neg (by simp at q1; simp [q1])]
    rw [hs]
    exact ⟨_, ⟨_, rfl, o1⟩, .le fun a => by simp [List.count_cons]; omega⟩
  have q1 : ringOk r = true := by simpa using q1
  refine VCsplit.intro (fun q2 => ?_) (fun q2 => ?_)
  · have hs : ringStep r ⟨k, at', to⟩ = (r, false) := by rw [ringStep, if_neg (by simp [q2])]
    rw [hs]
    exact ⟨_, ⟨_, rfl, o1⟩, .le fun a => by simp [List.count_cons]; omega⟩
  have hlen := ringOk_len q1
  have hfl := rd_len h4
  have hw1 : IntKind.i64.wrap ((r.actives.length : Int) - 1) = r.actives.length - 1 := wrap_ok (by unfold okI; omega)
  have hw2 : IntKind.i64.wrap ((r.flying.length : Int) - 1) = r.flying.length - 1 := wrap_ok (by unfold okI; omega)
  have l1 : (1 : Int) ≤ r.actives.length ∧ (r.actives.length : Int) ≤ 8 ∧ (r.counts.length : Int) = r.actives.length ∧ (r.blacks.length : Int) = r.actives.length := by omega
  refine VCsplit.intro (fun k1 => ?_) (fun k1 => ?_)
  · obtain rfl : k = 1 := by simpa using k1
    refine call_val (l01In_ct _ _ _) trivial ?_
    rintro _ rfl
    rw [hw1]
    refine VCsplit.intro (fun q3 => ?_) (fun q3 => ?_)
    · have q4 := inR_le q3
      refine call_val (l01In_ct _ _ _) trivial ?_
      rintro _ rfl
      rw [hw1]
      refine VCsplit.intro (fun q5 => ?_) (fun q5 => ?_)
      · have q6 := inR_le q5
        refine idx_rd (r := flBool.rp) h1 (by omega) (by omega) fun b o hb => ?_
        refine load_rdD (r := flBool.rp) false h1 (by omega) (by omega) hb (mem_at 4 rfl) fun l hl => ?_
        obtain ⟨rfl, -⟩ := hl
        refine VCsplit.intro (fun q7 => ?_) (fun q7 => ?_)
        · have hto : turnOk r ⟨1, at', to⟩ = true := by simp [turnOk, q3, q5, q7]
          refine idx_ow p2 (by omega) (by omega) fun b o hb => ?_
          refine load_rdD (r := flInt.rp) 0 p2.rd (by omega) (by omega) hb (mem_at 1 rfl) fun l hl => ?_
          obtain ⟨rfl, -⟩ := hl
          have hcn := ringOk_count q1 at'.toNat
          have hw3 : IntKind.i64.wrap (r.counts[at'.toNat]?.getD 0 + 1) = r.counts[at'.toNat]?.getD 0 + 1 := wrap_ok (by unfold okI; omega)
          refine idx_ow p2 (by omega) (by omega) fun b o hb => ?_
          refine store_ow (f := flInt) (y := r.counts[at'.toNat]?.getD 0 + 1) 1 rfl p2 (by omega) (by omega) hb (by rw [hw3]; rfl) (by unfold flInt okI; simp; omega) rfl fun A2' o2' => ?_
          refine VCnew.intro fun bq => ?_
          refine append_ow (f := flInt) G_ok 4 rfl p4 ((rpSl _).mono (mem_at 0 rfl) (Ow.lit (f := flInt) (T := 3) (b := bq) (xs := [to]) (by intro x hx; simp at hx; subst hx; exact ht) (by simp)).rd) (by intro x hx; simp at hx; subst hx; exact ht) rfl rfl rfl rfl rfl rfl rfl rfl (by simp; omega) ?_
          intro d4' g4' A4' o4' _
          have hA : OwR (.agg ⟨[.slice d1 r.actives.length g1, .slice d2 r.counts.length g2, .slice d3 r.blacks.length g3, .slice d4' (r.flying.length + [to].length) g4', .int .i64 r.held, .int .i64 r.num, .bool r.black, .bool r.over]⟩) (turnT r ⟨1, at', to⟩) (B1 ++ (A2' ++ (B3 ++ A4'))) :=
            ⟨d1, d2, d3, d4', g1, g2, g3, g4', B1, A2', B3, A4', by simp [ringCells, turnT, sendT], rfl, by simpa [turnT, sendT] using p1, by simpa [turnT, sendT] using o2', by simpa [turnT, sendT] using p3, by simpa [turnT, sendT] using o4', p5, p6⟩
          refine call_val (specRingOk_ct _ (turnT r ⟨1, at', to⟩)) (rdV_mono mem_5 hA.rd) ?_
          rintro _ rfl
          refine VCsplit.intro (fun z1 => ?_) (fun z1 => ?_)
          · have hs : ringStep r ⟨1, at', to⟩ = (r, false) := by
              rw [ringStep, if_neg (by simp at z1; simp [z1])]
            refine call_new (l22Copy_ct _ r hl) (rdV_mono (mem_at 5 rfl) hp0) ?_
            rintro v1 A2 o2
            obtain ⟨_, _, _, _, _, _, _, _, _, _, _, _, rfl, _⟩ := id o2
            rw [hs]
            exact ⟨_, ⟨_, rfl, o2⟩, .le fun a => by simp [setR, List.count_cons]; try omega⟩
          · have hs : ringStep r ⟨1, at', to⟩ = (turnT r ⟨1, at', to⟩, true) := by
              rw [ringStep, if_pos ⟨q1, q2, hto, by simpa using z1⟩]
            rw [hs]
            exact ⟨_, ⟨_, rfl, hA⟩, .le fun a => by simp [setR, List.count_cons]; try omega⟩
        ·
          have hs : ringStep r ⟨1, at', to⟩ = (r, false) := by rw [ringStep, if_neg (by simp_all [turnOk])]
          refine call_new (l22Copy_ct _ r hl) (rdV_mono (mem_at 4 rfl) hp0) ?_
          rintro v1 A2 o2
          obtain ⟨_, _, _, _, _, _, _, _, _, _, _, _, rfl, _⟩ := id o2
          rw [hs]
          exact ⟨_, ⟨_, rfl, o2⟩, .le fun a => by simp [List.count_cons]; try omega⟩
      ·
        have hs : ringStep r ⟨1, at', to⟩ = (r, false) := by rw [ringStep, if_neg (by simp_all [turnOk])]
        refine call_new (l22Copy_ct _ r hl) (rdV_mono (mem_at 4 rfl) hp0) ?_
        rintro v1 A2 o2
        obtain ⟨_, _, _, _, _, _, _, _, _, _, _, _, rfl, _⟩ := id o2
        rw [hs]
        exact ⟨_, ⟨_, rfl, o2⟩, .le fun a => by simp [List.count_cons]; try omega⟩
    ·
      have hs : ringStep r ⟨1, at', to⟩ = (r, false) := by rw [ringStep, if_neg (by simp_all [turnOk])]
      refine call_new (l22Copy_ct _ r hl) (rdV_mono (mem_at 4 rfl) hp0) ?_
      rintro v1 A2 o2
      obtain ⟨_, _, _, _, _, _, _, _, _, _, _, _, rfl, _⟩ := id o2
      rw [hs]
      exact ⟨_, ⟨_, rfl, o2⟩, .le fun a => by simp [List.count_cons]; try omega⟩
  refine VCsplit.intro (fun k2 => ?_) (fun k2 => ?_)
  · obtain rfl : k = 2 := by simpa using k2
    refine call_val (l01In_ct _ _ _) trivial ?_
    rintro _ rfl
    rw [hw2]
    refine VCsplit.intro (fun q3 => ?_) (fun q3 => ?_)
    · have q4 := inR_le q3
      have hf := ringOk_fly q1 at'.toNat (by omega)
      refine idx_rd (r := flInt.rp) h4 (by omega) (by omega) fun b o hb => ?_
      refine load_rdD (r := flInt.rp) 0 h4 (by omega) (by omega) hb (mem_at 4 rfl) fun l hl => ?_
      obtain ⟨rfl, -⟩ := hl
      have hto : turnOk r ⟨2, at', to⟩ = true := by simp [turnOk, q3]
      refine draw G_ok mixed (some 13) (.q 1 (.q 2 (.q 3 (.q 4 (.q 5 (.q 7 (.q 8 (.q 9 (.q 10 (.q 11 (.q 12 (.f 0 (.f 6 (.tl 13 (.f 14 (.f 15 (.nil))))))))))))))))) (by decide +kernel) ?_
      have hcp := rd_cap h4
      have hw3 : IntKind.i64.wrap (at' + 1) = at' + 1 := wrap_ok (by unfold okI; omega)
      refine VC.intro (by omega) ?_
      refine VC.intro (by omega) ?_
      refine VCnew.intro fun bq => ?_
      try refine VC.intro keep_new ?_
      refine append_new (f := flInt) G_ok (rd_sub (r := flInt.rp) (l := 0) (h := at'.toNat) ((rpSl _).mono (mem_at 5 rfl) h4) (by omega) (by omega)) (fun y hy => rd_wf h4 y (List.mem_of_mem_take (List.mem_of_mem_drop hy))) rfl rfl rfl rfl rfl rfl rfl rfl (by simp; omega) ?_
      intro e4 f4 X4 oX
      try refine VC.intro keep_new ?_
      refine append_ow (f := flInt) G_ok 0 rfl oX (rd_sub (r := flInt.rp) (l := (IntKind.i64.wrap (at' + 1)).toNat) (h := r.flying.length) ((rpSl _).mono (mem_at 6 rfl) h4) (by omega) (by omega)) (fun y hy => rd_wf h4 y (List.mem_of_mem_take (List.mem_of_mem_drop hy))) rfl rfl rfl rfl rfl rfl rfl rfl (by simp; omega) ?_
      intro e4' f4' X4' oX' _
      refine idx_ow p1 (by omega) (by omega) fun b o hb => ?_
      refine store_ow (f := flBool) (y := true) 2 rfl p1 (by omega) (by omega) hb rfl trivial rfl fun A1' o1' => ?_
      refine idx_ow p3 (by omega) (by omega) fun b o hb => ?_
      refine store_ow (f := flBool) (y := true) 4 rfl p3 (by omega) (by omega) hb rfl trivial rfl fun A3' o3' => ?_
      refine idx_ow p2 (by omega) (by omega) fun b o hb => ?_
      refine load_rdD (r := flInt.rp) 0 p2.rd (by omega) (by omega) hb (mem_at 3 rfl) fun l hl => ?_
      obtain ⟨rfl, -⟩ := hl
      have hcn := ringOk_count q1 (r.flying[at'.toNat]?.getD 0).toNat
      have hw4 : IntKind.i64.wrap (r.counts[(r.flying[at'.toNat]?.getD 0).toNat]?.getD 0 - 1) = r.counts[(r.flying[at'.toNat]?.getD 0).toNat]?.getD 0 - 1 := wrap_ok (by unfold okI; omega)
      refine idx_ow p2 (by omega) (by omega) fun b o hb => ?_
      refine store_ow (f := flInt) (y := r.counts[(r.flying[at'.toNat]?.getD 0).toNat]?.getD 0 - 1) 3 rfl p2 (by omega) (by omega) hb (by rw [hw4]; rfl) (by unfold flInt okI; simp; omega) rfl fun A2' o2' => ?_
      have ew : (IntKind.i64.wrap (at' + 1)).toNat = at'.toNat + 1 := by rw [hw3]; omega
      have hA : OwR (.agg ⟨[.slice d1 r.actives.length g1, .slice d2 r.counts.length g2, .slice d3 r.blacks.length g3, .slice e4' ((List.drop 0 (List.take at'.toNat r.flying)).length + (List.drop (IntKind.i64.wrap (at' + 1)).toNat (List.take r.flying.length r.flying)).length) f4', .int .i64 r.held, .int .i64 r.num, .bool r.black, .bool r.over]⟩) (turnT r ⟨2, at', to⟩) (A1' ++ (A2' ++ (A3' ++ X4'))) :=
        ⟨d1, d2, d3, e4', g1, g2, g3, f4', A1', A2', A3', X4', by simp [ringCells, turnT, takeT, ew], rfl, by simpa [turnT, takeT] using o1', by simpa [turnT, takeT] using o2', by simpa [turnT, takeT] using o3', by simpa [turnT, takeT, ew] using oX', p5, p6⟩
      refine call_val (specRingOk_ct _ (turnT r ⟨2, at', to⟩)) (rdV_mono mem_6 hA.rd) ?_
      rintro _ rfl
      refine VCsplit.intro (fun z1 => ?_) (fun z1 => ?_)
      · have hs : ringStep r ⟨2, at', to⟩ = (r, false) := by
          rw [ringStep, if_neg (by simp at z1; simp [z1])]
        refine call_new (l22Copy_ct _ r hl) (rdV_mono (mem_at 6 rfl) hp0) ?_
        rintro v1 A2 o2
        obtain ⟨_, _, _, _, _, _, _, _, _, _, _, _, rfl, _⟩ := id o2
        rw [hs]
        exact ⟨_, ⟨_, rfl, o2⟩, .le fun a => by simp [setR, List.count_cons]; try omega⟩
      · have hs : ringStep r ⟨2, at', to⟩ = (turnT r ⟨2, at', to⟩, true) := by
          rw [ringStep, if_pos ⟨q1, q2, hto, by simpa using z1⟩]
        rw [hs]
        exact ⟨_, ⟨_, rfl, hA⟩, .le fun a => by simp [setR, List.count_cons]; try omega⟩
    ·
      have hs : ringStep r ⟨2, at', to⟩ = (r, false) := by rw [ringStep, if_neg (by simp_all [turnOk])]
      refine call_new (l22Copy_ct _ r hl) (rdV_mono (mem_at 4 rfl) hp0) ?_
      rintro v1 A2 o2
      obtain ⟨_, _, _, _, _, _, _, _, _, _, _, _, rfl, _⟩ := id o2
      rw [hs]
      exact ⟨_, ⟨_, rfl, o2⟩, .le fun a => by simp [List.count_cons]; try omega⟩
  refine VCsplit.intro (fun k3 => ?_) (fun k3 => ?_)
  · obtain rfl : k = 3 := by simpa using k3
    refine call_val (l01In_ct _ _ _) trivial ?_
    rintro _ rfl
    rw [hw1]
    refine VCsplit.intro (fun q3 => ?_) (fun q3 => ?_)
    · have q4 := inR_le q3
      refine idx_rd (r := flBool.rp) h1 (by omega) (by omega) fun b o hb => ?_
      refine load_rdD (r := flBool.rp) false h1 (by omega) (by omega) hb (mem_at 4 rfl) fun l hl => ?_
      obtain ⟨rfl, -⟩ := hl
      refine VCsplit.intro (fun q5 => ?_) (fun q5 => ?_)
      · refine idx_ow p1 (by omega) (by omega) fun b o hb => ?_
        refine store_ow (f := flBool) (y := false) 0 rfl p1 (by omega) (by omega) hb rfl trivial rfl fun A1' o1' => ?_
        have hA : OwR (.agg ⟨ringCells r d1 d2 d3 d4 g1 g2 g3 g4⟩) (turnT r ⟨3, at', to⟩) (A1' ++ (B2 ++ (B3 ++ B4))) :=
          ⟨d1, d2, d3, d4, g1, g2, g3, g4, A1', B2, B3, B4, by simp [ringCells, turnT, restT], rfl, by simpa [turnT, restT] using o1', p2, p3, p4, p5, p6⟩
        have hto : turnOk r ⟨3, at', to⟩ = true := by simp [turnOk, q3, q5]
        refine call_val (specRingOk_ct _ (turnT r ⟨3, at', to⟩)) (rdV_mono mem_4 hA.rd) ?_
        rintro _ rfl
        refine VCsplit.intro (fun z1 => ?_) (fun z1 => ?_)
        · have hs : ringStep r ⟨3, at', to⟩ = (r, false) := by
            rw [ringStep, if_neg (by simp at z1; simp [z1])]
          refine call_new (l22Copy_ct _ r hl) (rdV_mono (mem_at 4 rfl) hp0) ?_
          rintro v1 A2 o2
          obtain ⟨_, _, _, _, _, _, _, _, _, _, _, _, rfl, _⟩ := id o2
          rw [hs]
          exact ⟨_, ⟨_, rfl, o2⟩, .le fun a => by simp [setR, List.count_cons]; try omega⟩
        · have hs : ringStep r ⟨3, at', to⟩ = (turnT r ⟨3, at', to⟩, true) := by
            rw [ringStep, if_pos ⟨q1, q2, hto, by simpa using z1⟩]
          rw [hs]
          exact ⟨_, ⟨_, rfl, hA⟩, .le fun a => by simp [setR, List.count_cons]; try omega⟩
      ·
        have hs : ringStep r ⟨3, at', to⟩ = (r, false) := by rw [ringStep, if_neg (by simp_all [turnOk])]
        refine call_new (l22Copy_ct _ r hl) (rdV_mono (mem_at 4 rfl) hp0) ?_
        rintro v1 A2 o2
        obtain ⟨_, _, _, _, _, _, _, _, _, _, _, _, rfl, _⟩ := id o2
        rw [hs]
        exact ⟨_, ⟨_, rfl, o2⟩, .le fun a => by simp [List.count_cons]; try omega⟩
    ·
      have hs : ringStep r ⟨3, at', to⟩ = (r, false) := by rw [ringStep, if_neg (by simp_all [turnOk])]
      refine call_new (l22Copy_ct _ r hl) (rdV_mono (mem_at 4 rfl) hp0) ?_
      rintro v1 A2 o2
      obtain ⟨_, _, _, _, _, _, _, _, _, _, _, _, rfl, _⟩ := id o2
      rw [hs]
      exact ⟨_, ⟨_, rfl, o2⟩, .le fun a => by simp [List.count_cons]; try omega⟩
  refine VCsplit.intro (fun k4 => ?_) (fun k4 => ?_)
  · obtain rfl : k = 4 := by simpa using k4
    have hh := ringOk_held q1
    refine idx_rd (r := flBool.rp) h1 (by omega) (by omega) fun b o hb => ?_
    refine load_rdD (r := flBool.rp) false h1 (by omega) (by omega) hb (mem_at 4 rfl) fun l hl => ?_
    obtain ⟨rfl, -⟩ := hl
    refine VCsplit.intro (fun q3 => ?_) (fun q3 => ?_)
    rotate_left
    ·
      have hs : ringStep r ⟨4, at', to⟩ = (r, false) := by rw [ringStep, if_neg (by simp_all [turnOk])]
      refine call_new (l22Copy_ct _ r hl) (rdV_mono (mem_at 4 rfl) hp0) ?_
      rintro v1 A2 o2
      obtain ⟨_, _, _, _, _, _, _, _, _, _, _, _, rfl, _⟩ := id o2
      rw [hs]
      exact ⟨_, ⟨_, rfl, o2⟩, .le fun a => by simp [List.count_cons]; try omega⟩
    have hto : turnOk r ⟨4, at', to⟩ = true := by simpa [turnOk] using q3
    refine call_gen (A0 := (bx, Obj.cells ⟨ringCells r d1 d2 d3 d4 g1 g2 g3 g4⟩ 34) :: (B1 ++ (B2 ++ (B3 ++ B4)))) ((bb, Obj.cells ⟨ringCells r b1 b2 b3 b4 c1 c2 c3 c4⟩ 34) :: (bz, Obj.cells ⟨[.int .i64 4, .int .i64 at', .int .i64 to]⟩ 43) :: (by', Obj.cells ⟨ringCells ⟨[], [], [], [], 0, 0, false, false⟩ none none none none 0 0 0 0⟩ 34) :: H)
      (l22Pass_ct bx _ _ r o1 q1) (.le fun a => by simp [List.count_cons, St.hall, Blk.ent, ringCells]; omega) trivial ?_
    intro v A hv
    obtain ⟨l', A', hA, rfl⟩ := hv
    obtain ⟨f1, f2, f3, f4, m1, m2, m3, m4, C1, C2, C3, C4, el, hA', _⟩ := id hA
    cases el
    refine ⟨[⟨bb, _, 34⟩, ⟨bz, _, 43⟩, ⟨by', _, 34⟩, ⟨bx, ringCells (passT r) f1 f2 f3 f4 m1 m2 m3 m4, 34⟩], [A', H], rfl, .le fun a => by simp [List.count_cons, St.hall, Blk.ent, ringCells]; omega, ?_⟩
    have hA : OwR (.agg ⟨ringCells (passT r) f1 f2 f3 f4 m1 m2 m3 m4⟩) (turnT r ⟨4, at', to⟩) A' := hA
    refine call_val (specRingOk_ct _ (turnT r ⟨4, at', to⟩)) (rdV_mono (mem_at 0 rfl) hA.rd) ?_
    rintro _ rfl
    refine VCsplit.intro (fun z1 => ?_) (fun z1 => ?_)
    · have hs : ringStep r ⟨4, at', to⟩ = (r, false) := by
        rw [ringStep, if_neg (by simp at z1; simp [z1])]
      refine call_new (l22Copy_ct _ r hl) (rdV_mono (mem_at 1 rfl) hp0) ?_
      rintro v1 A2 o2
      obtain ⟨_, _, _, _, _, _, _, _, _, _, _, _, rfl, _⟩ := id o2
      rw [hs]
      exact ⟨_, ⟨_, rfl, o2⟩, .le fun a => by simp [ List.count_cons]; try omega⟩
    · have hs : ringStep r ⟨4, at', to⟩ = (turnT r ⟨4, at', to⟩, true) := by
        rw [ringStep, if_pos ⟨q1, q2, hto, by simpa using z1⟩]
      rw [hs]
      exact ⟨_, ⟨_, rfl, hA⟩, .le fun a => by simp [ List.count_cons]; try omega⟩
  ·
    have hs : ringStep r ⟨k, at', to⟩ = (r, false) := by rw [ringStep, if_neg (by simp_all [turnOk])]
    refine call_new (l22Copy_ct _ r hl) (rdV_mono (mem_at 4 rfl) hp0) ?_
    rintro v1 A2 o2
    obtain ⟨_, _, _, _, _, _, _, _, _, _, _, _, rfl, _⟩ := id o2
    rw [hs]
    exact ⟨_, ⟨_, rfl, o2⟩, .le fun a => by simp [List.count_cons]; try omega⟩

theorem specRingStep_ct (v : Value) (r : Ring) (t : Turn) (hl : r.cells ≤ 1048576) (ht : okI t.to) :
    Ct Try.prog 29 [v, .agg ⟨turnCells t⟩] [] (fun H => rdV true rpRing H v r)
      (fun v A => ∃ v', v = .tuple #[v', .bool (ringStep r t).2] ∧ OwR v' (ringStep r t).1 A) := specRingStep1_ct v r t.kind t.at' t.to hl ht
end Go.Proofs.Ythihffgmmkhlhaa
