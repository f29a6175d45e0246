/-
  Turns of a ring: the reference's passing of the token. Conditions: none.
-/
import Derived.Test.YthihffgmmkhlhaaCq
namespace Go.Proofs.Ythihffgmmkhlhaa
open Go.SX Go.Proofs

theorem l22Pass_ct (bb : Nat) (l : List Value) (A' : Hp) (r : Ring) (ho : OwR (.agg ⟨l⟩) r A') (hok : ringOk r = true) :
    Ct Try.prog 65 [.pointer (some ⟨bb, 0, none⟩)] ((bb, Obj.cells ⟨l⟩ 34) :: A') (fun _ => True)
      (fun _ A => OwRB bb (passT r) A) := by
  obtain ⟨b1, b2, b3, b4, c1, c2, c3, c4, A1, A2, A3, A4, e, rfl, o1, o2, o3, o4, h5, h6⟩ := ho
  cases e
  have hlen := ringOk_len hok
  refine Ct.introB G_ok [.p 0 0] [⟨bb, ringCells r b1 b2 b3 b4 c1 c2 c3 c4, 34⟩] [A1, A2, A3, A4] Try.func65 rfl rfl rfl rfl (by simp [SV.ok]) (by simp [Blk.ent]) fun E H _ => ?_
  have l1 : (1 : Int) ≤ r.actives.length ∧ (r.actives.length : Int) ≤ 8 ∧ (r.counts.length : Int) = r.actives.length ∧ (r.blacks.length : Int) = r.actives.length := by omega
  have hh := ringOk_held hok
  have hwf := rd_wf o2.rd
  have hw1 : IntKind.i64.wrap (r.held + 1) = r.held + 1 := wrap_ok (by unfold okI; omega)
  refine draw G_ok mixed none (.q 0 (.q 1 (.q 2 (.q 3 (.q 4 (.q 5 (.q 6 (.q 7 (.q 8 (.q 9 (.q 10 (.q 11 (.q 12 (.q 13 (.q 14 (.q 15 (.q 16 (.q 17 (.q 18 (.q 19 (.q 20 (.q 21 (.q 22 (.q 23 (.q 24 (.q 25 (.q 26 (.q 27 (.q 28 (.q 29 (.q 30 (.q 31 (.nil))))))))))))))))))))))))))))))))) (by decide +kernel) ?_
  refine VCsplit.intro (fun a1 => ?_) (fun a1 => ?_)
  · refine VCsplit.intro (fun a2 => ?_) (fun a2 => ?_)
    · refine idx_ow o3 (by omega) (by omega) fun b o hb => ?_
      refine load_rdD (r := flBool.rp) false o3.rd (by omega) (by omega) hb (mem_at 2 rfl) fun l hl => ?_
      obtain ⟨rfl, -⟩ := hl
      refine VCsplit.intro (fun a3 => ?_) (fun a3 => ?_)
      · refine idx_ow o2 (by omega) (by omega) fun b o hb => ?_
        refine load_rdD (r := flInt.rp) 0 o2.rd (by omega) (by omega) hb (mem_at 1 rfl) fun l hl => ?_
        obtain ⟨rfl, -⟩ := hl
        have hc := ringOk_count hok 0
        have hw : IntKind.i64.wrap (r.num + r.counts[0]?.getD 0) = r.num + r.counts[0]?.getD 0 := wrap_ok (by unfold okI; omega)
        refine VCsplit.intro (fun a4 => ?_) (fun a4 => ?_)
        · have ho : over1 r = true := by
            simp at a1 a2 a3 a4; simp [over1, hw] at a4 ⊢; simp [a1, a2, a3, a4]
          refine ⟨(bb, Obj.cells ⟨ringCells { r with over := true } b1 b2 b3 b4 c1 c2 c3 c4⟩ 34) :: (A1 ++ (A2 ++ (A3 ++ A4))), ?_, .le fun a => by simp [List.count_cons, Blk.ent, ringCells]⟩
          show OwRB bb (passT r) _
          rw [passT, if_pos ho]
          exact ⟨_, _, ⟨b1, b2, b3, b4, c1, c2, c3, c4, A1, A2, A3, A4, rfl, rfl, o1, o2, o3, o4, h5, h6⟩, rfl⟩
        · have hov : over1 r = false := by
            simp [hw] at a4; simp [over1, a4]
          refine VCsplit.intro (fun d1 => ?_) (fun d1 => ?_)
          · have e0 : r.held = 0 := by simpa using d1
            refine idx_ow o3 (by omega) (by omega) fun b o hb => ?_
            refine store_ow (f := flBool) (y := false) 2 rfl o3 (by omega) (by omega) hb rfl trivial rfl fun A3' o3' => ?_
            refine VC.intro (by omega) ?_
            refine ⟨_, ?_, .box4⟩
            refine ⟨_, _, ⟨b1, b2, b3, b4, c1, c2, c3, c4, A1, A2, A3', A4, ?_, rfl, ?_, ?_, ?_, ?_, ?_, ?_⟩, rfl⟩
            · simp_all [ringCells, passT]
            · simpa [passT, hov] using o1
            · simpa [passT, hov] using o2
            · simpa [passT, hov] using o3'
            · simpa [passT, hov] using o4
            · have := tmod_lt (r.held + 1) r.actives.length (by omega) (by omega)
              simp only [passT, hov]; unfold okI; simp; omega
            · simp only [passT, hov]; unfold okI; simp [e0]; try omega
          · simp at a1 d1; omega
      · have hov : over1 r = false := by
          simp at a3; simp [over1, a3]
        refine VCsplit.intro (fun d1 => ?_) (fun d1 => ?_)
        · have e0 : r.held = 0 := by simpa using d1
          refine idx_ow o3 (by omega) (by omega) fun b o hb => ?_
          refine store_ow (f := flBool) (y := false) 2 rfl o3 (by omega) (by omega) hb rfl trivial rfl fun A3' o3' => ?_
          refine VC.intro (by omega) ?_
          refine ⟨_, ?_, .box4⟩
          refine ⟨_, _, ⟨b1, b2, b3, b4, c1, c2, c3, c4, A1, A2, A3', A4, ?_, rfl, ?_, ?_, ?_, ?_, ?_, ?_⟩, rfl⟩
          · simp_all [ringCells, passT]
          · simpa [passT, hov] using o1
          · simpa [passT, hov] using o2
          · simpa [passT, hov] using o3'
          · simpa [passT, hov] using o4
          · have := tmod_lt (r.held + 1) r.actives.length (by omega) (by omega)
            simp only [passT, hov]; unfold okI; simp; omega
          · simp only [passT, hov]; unfold okI; simp [e0]; try omega
        · simp at a1 d1; omega
    · have hov : over1 r = false := by
        simp at a2; simp [over1, a2]
      refine VCsplit.intro (fun d1 => ?_) (fun d1 => ?_)
      · have e0 : r.held = 0 := by simpa using d1
        refine idx_ow o3 (by omega) (by omega) fun b o hb => ?_
        refine store_ow (f := flBool) (y := false) 2 rfl o3 (by omega) (by omega) hb rfl trivial rfl fun A3' o3' => ?_
        refine VC.intro (by omega) ?_
        refine ⟨_, ?_, .box4⟩
        refine ⟨_, _, ⟨b1, b2, b3, b4, c1, c2, c3, c4, A1, A2, A3', A4, ?_, rfl, ?_, ?_, ?_, ?_, ?_, ?_⟩, rfl⟩
        · simp_all [ringCells, passT]
        · simpa [passT, hov] using o1
        · simpa [passT, hov] using o2
        · simpa [passT, hov] using o3'
        · simpa [passT, hov] using o4
        · have := tmod_lt (r.held + 1) r.actives.length (by omega) (by omega)
          simp only [passT, hov]; unfold okI; simp; omega
        · simp only [passT, hov]; unfold okI; simp [e0]; try omega
      · simp at a1 d1; omega
  · have hov : over1 r = false := by
      simp at a1; simp [over1, a1]
    refine VCsplit.intro (fun d1 => ?_) (fun d1 => ?_)
    · simp at a1 d1; omega
    · have e0 : ¬ r.held = 0 := by simpa using d1
      refine draw G_ok mixed (some 15) (.q 0 (.q 1 (.q 2 (.q 3 (.q 4 (.q 5 (.q 6 (.q 7 (.q 8 (.q 9 (.q 10 (.q 11 (.q 12 (.q 13 (.q 14 (.tl 15 (.nil))))))))))))))))) (by decide +kernel) ?_
      refine idx_ow o2 (by omega) (by omega) fun b o hb => ?_
      refine load_rdD (r := flInt.rp) 0 o2.rd (by omega) (by omega) hb (mem_at 1 rfl) fun l hl => ?_
      obtain ⟨rfl, -⟩ := hl
      have hcn := ringOk_count hok r.held.toNat
      have hw2 : IntKind.i64.wrap (r.num + r.counts[r.held.toNat]?.getD 0) = r.num + r.counts[r.held.toNat]?.getD 0 := wrap_ok (by unfold okI; omega)
      refine VCsplit.intro (fun d2 => ?_) (fun d2 => ?_)
      · refine idx_ow o3 (by omega) (by omega) fun b o hb => ?_
        refine store_ow (f := flBool) (y := false) 2 rfl o3 (by omega) (by omega) hb rfl trivial rfl fun A3' o3' => ?_
        refine VC.intro (by omega) ?_
        refine ⟨_, ?_, .box4⟩
        refine ⟨_, _, ⟨b1, b2, b3, b4, c1, c2, c3, c4, A1, A2, A3', A4, ?_, rfl, ?_, ?_, ?_, ?_, ?_, ?_⟩, rfl⟩
        · simp_all [ringCells, passT]
        · simpa [passT, hov] using o1
        · simpa [passT, hov] using o2
        · simpa [passT, hov] using o3'
        · simpa [passT, hov] using o4
        · have := tmod_lt (r.held + 1) r.actives.length (by omega) (by omega)
          simp only [passT, hov]; unfold okI; simp; omega
        · simp only [passT, hov]; unfold okI; simp [e0]; try omega
      · refine idx_ow o3 (by omega) (by omega) fun b o hb => ?_
        refine load_rdD (r := flBool.rp) false o3.rd (by omega) (by omega) hb (mem_at 2 rfl) fun l hl => ?_
        obtain ⟨rfl, -⟩ := hl
        refine idx_ow o3 (by omega) (by omega) fun b o hb => ?_
        refine store_ow (f := flBool) (y := false) 2 rfl o3 (by omega) (by omega) hb rfl trivial rfl fun A3' o3' => ?_
        refine VC.intro (by omega) ?_
        refine ⟨_, ?_, .box4⟩
        refine ⟨_, _, ⟨b1, b2, b3, b4, c1, c2, c3, c4, A1, A2, A3', A4, ?_, rfl, ?_, ?_, ?_, ?_, ?_, ?_⟩, rfl⟩
        · simp_all [ringCells, passT]
        · simpa [passT, hov] using o1
        · simpa [passT, hov] using o2
        · simpa [passT, hov] using o3'
        · simpa [passT, hov] using o4
        · have := tmod_lt (r.held + 1) r.actives.length (by omega) (by omega)
          simp only [passT, hov]; unfold okI; simp; omega
        · simp only [passT, hov]; unfold okI; simp [e0]; try omega
end Go.Proofs.Ythihffgmmkhlhaa
