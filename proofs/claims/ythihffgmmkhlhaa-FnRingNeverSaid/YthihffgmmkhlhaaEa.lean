/-
  The drawing of numbers out of bytes: what is drawn lies in its range. Conditions: none.
-/
import Derived.Test.YthihffgmmkhlhaaCh
import Derived.Test.YthihffgmmkhlhaaCb
import Derived.Test.YthihffgmmkhlhaaSxC
namespace Go.Proofs.Ythihffgmmkhlhaa
open Go.SX Go.Proofs
set_option linter.unusedSimpArgs false
set_option linter.unusedVariables false
set_option maxHeartbeats 4000000

theorem pre_at {P H' : Hp} {bl : List Blk} {R pr po : List Hp} {A0 : Hp} (e : R = pr ++ A0 :: po) (h : ∀ p ∈ P, p ∈ St.hall ⟨[], bl, R⟩) (hh : H' = St.hall ⟨[], bl, pr ++ po⟩) : ∀ p ∈ P, p ∈ A0 ++ H' := by
  intro p hp
  have := h p hp
  subst e hh
  simp only [St.hall, List.flatten_append, List.flatten_cons, List.mem_append] at this ⊢
  grind

theorem getD_mem {ls : List Int} (i : Nat) (z : Int) (h : i < ls.length) : ls[i]?.getD z ∈ ls := by
  rw [List.getElem?_eq_getElem h]; exact List.getElem_mem h

theorem and255 (x : Int) : ∃ z : Int, IntKind.i64.wrap (BitVec.ofInt IntKind.i64.bits x &&& BitVec.ofInt IntKind.i64.bits 255).toNat = z ∧ 0 ≤ z ∧ z ≤ 255 := by
  have h1 : (BitVec.ofInt IntKind.i64.bits x &&& BitVec.ofInt IntKind.i64.bits 255).toNat ≤ 255 := by
    rw [BitVec.toNat_and]
    exact Nat.and_le_right
  refine ⟨((BitVec.ofInt IntKind.i64.bits x &&& BitVec.ofInt IntKind.i64.bits 255).toNat : Nat), ?_, by omega, by omega⟩
  exact wrap_ok (by unfold okI; omega)

theorem and255b (x : Int) : 0 ≤ IntKind.i64.wrap (BitVec.ofInt IntKind.i64.bits x &&& BitVec.ofInt IntKind.i64.bits 255).toNat ∧ IntKind.i64.wrap (BitVec.ofInt IntKind.i64.bits x &&& BitVec.ofInt IntKind.i64.bits 255).toNat ≤ 255 := by
  obtain ⟨z, h1, h2, h3⟩ := and255 x
  rw [h1]; exact ⟨h2, h3⟩

theorem below4 (x y z w : Int) (hx : 0 ≤ x) (hx' : x ≤ 255) (hy : 0 ≤ y) (hy' : y ≤ 255) (hz : 0 ≤ z) (hz' : z ≤ 255) (hw : 0 ≤ w) (hw' : w ≤ 255) :
    0 ≤ IntKind.i64.wrap (IntKind.i64.wrap (IntKind.i64.wrap (IntKind.i64.wrap (x * 16777216) + IntKind.i64.wrap (y * 65536)) + IntKind.i64.wrap (z * 256)) + w) := by
  have e1 : IntKind.i64.wrap (x * 16777216) = x * 16777216 := wrap_ok (by unfold okI; omega)
  have e2 : IntKind.i64.wrap (y * 65536) = y * 65536 := wrap_ok (by unfold okI; omega)
  have e3 : IntKind.i64.wrap (z * 256) = z * 256 := wrap_ok (by unfold okI; omega)
  rw [e1, e2, e3]
  have e4 : IntKind.i64.wrap (x * 16777216 + y * 65536) = x * 16777216 + y * 65536 := wrap_ok (by unfold okI; omega)
  rw [e4]
  have e5 : IntKind.i64.wrap (x * 16777216 + y * 65536 + z * 256) = x * 16777216 + y * 65536 + z * 256 := wrap_ok (by unfold okI; omega)
  rw [e5]
  rw [wrap_ok (by unfold okI; omega)]
  omega

def curHp (bb : Nat) (b : Option Addr) (m c : Nat) (i h : Int) : Hp := [(bb, Obj.cells ⟨[.slice b m c, .int .i64 i, .int .i64 h]⟩ 86)]

--@ct spec.l01New raw refine call_new (l01New_ct _ _ _ _) %1 ?_ | | rintro _ A# ⟨bb#, h#, rfl, rfl⟩
theorem l01New_ct (b : Option Addr) (m c : Nat) (xs : List UInt8) :
    Ct Try.prog 55 [.slice b m c] [] (fun H => (rpSl flByte.rp).rd H [.slice b m c] xs)
      (fun v A => ∃ bb h, v = .pointer (some ⟨bb, 0, none⟩) ∧ A = curHp bb b m c 0 h) := by
  refine Ct.intro0 G_ok Try.func55 rfl rfl rfl fun E H hp => ?_
  obtain ⟨rfl, hl⟩ := rd_len hp
  apply loop_mod (α := (Nat) × (Int)) G_ok [8, 9, 10, 11, 12, 13, 14, 15, 18, 19, 20, 21, 22, 23, 24, 25, 26, 27, 3, 16, 17, 4] (fun z => [(4, .v (.int .i64 z.1)), (3, .v (.int .i64 z.2))]) (fun z => []) (fun z => [H]) (fun z => 4000 - z.1) (fun z => z.1 ≤ 4000) ((0, IntKind.i64.wrap (35501 + (xs.length : Int))))
  · repeat' (first | exact trivial | refine ⟨⟨_, rfl, by first | rfl | exact inc_eq _ (by omega) | (refine sl_eq ?_; simp; done), by first | exact trivial | simp [SV.ok]⟩, ?_⟩)
  · exact trivial
  · try dsimp only
    trivial
  · exact .refl _
  rintro ⟨k, h⟩ hI
  obtain hk : k ≤ 4000 := hI
  try dsimp only
  refine VCsplit.intro (fun q0 => ?_) (fun q0 => ?_)
  ·
    simp at q0
    refine VCsplit.intro (fun q1 => ?_) (fun q1 => ?_)
    ·
      simp at q1
      refine idx_rd hp ?_ ?_ fun b2 o2 hb2 => ?_
      · omega
      · omega
      refine load_allN 0 (k) rfl hp ?_ ?_ hb2 rfl (mem_at 0 rfl) fun l3 hl3 => ?_
      · omega
      · omega
      obtain ⟨rfl, hw3⟩ := hl3
      apply loop_step (k + 1, _)
      · repeat' (first | exact trivial | refine ⟨⟨_, rfl, by first | rfl | exact inc_eq _ (by omega) | (refine sl_eq ?_; simp; done), by first | exact trivial | simp [SV.ok]⟩, ?_⟩)
      · exact trivial
      · exact .refl _
      · try dsimp only
        omega
      · try dsimp only
        omega
    ·
      simp at q1
      refine VCnew.intro fun x4 => ?_
      exact ⟨_, ⟨_, _, rfl, rfl⟩, .refl _⟩
  ·
    simp at q0
    refine VCnew.intro fun x5 => ?_
    exact ⟨_, ⟨_, _, rfl, rfl⟩, .refl _⟩

--@ct spec.l01Byte raw refine callR_at @1 rfl (l01Byte_ct _ _ _ _ _ _ _ (by omega) (by omega) (by omega)) %byte ?_ | | rintro _ A# ⟨dx#, ci#, ch#, rfl, hd#, he#, hi#, hj#, rfl⟩
theorem l01Byte_ct (bb : Nat) (b : Option Addr) (m c : Nat) (xs : List UInt8) (i h : Int) (h0 : 0 ≤ i) (h1 : i ≤ m) (h2 : m ≤ 9223372036854775807) :
    CtR Try.prog 56 [.pointer (some ⟨bb, 0, none⟩)] (curHp bb b m c i h) (fun H => (rpSl flByte.rp).rd H [.slice b m c] xs)
      (fun v A => ∃ x i' h' : Int, v = .int .i64 x ∧ 0 ≤ x ∧ x ≤ 255 ∧ 0 ≤ i' ∧ i' ≤ m ∧ A = curHp bb b m c i' h') := by
  refine CtR.introB G_ok [.p 0 0] [⟨bb, [.slice b m c, .int .i64 i, .int .i64 h], 86⟩] [] Try.func56 rfl rfl rfl rfl (by simp [SV.ok]) (by simp [curHp, Blk.ent]) fun E H hp => ?_
  obtain ⟨rfl, hl⟩ := rd_len hp
  refine draw G_ok mixed none (.q 0 (.q 1 (.q 2 (.q 3 (.q 4 (.q 5 (.q 6 (.q 7 (.q 8 (.q 9 (.q 10 (.q 11 (.q 12 (.nil)))))))))))))) (by decide +kernel) ?_
  refine VC.intro ?_ ?_
  · trivial
  refine VC.intro ?_ ?_
  · trivial
  refine draw G_ok mixed none (.q 0 (.q 1 (.q 2 (.q 3 (.q 4 (.q 5 (.q 6 (.q 7 (.q 8 (.q 9 (.nil))))))))))) (by decide +kernel) ?_
  refine VCsplit.intro (fun q0 => ?_) (fun q0 => ?_)
  ·
    simp at q0
    refine draw G_ok mixed none (.q 0 (.q 1 (.q 2 (.q 3 (.q 4 (.q 5 (.q 6 (.q 7 (.q 8 (.q 9 (.q 10 (.q 11 (.q 12 (.q 13 (.q 14 (.nil)))))))))))))))) (by decide +kernel) ?_
    refine idx_rd hp ?_ ?_ fun b1 o1 hb1 => ?_
    · trivial
    · trivial
    refine load_all 0 hp ?_ ?_ hb1 rfl (mem_at 0 rfl) fun l2 hl2 => ?_
    · trivial
    · trivial
    obtain ⟨rfl, hw2⟩ := hl2
    exact ⟨_, ⟨_, _, _, rfl, (and255b _).1, (and255b _).2, by rw [wrap_ok (by unfold okI; omega)]; omega, by rw [wrap_ok (by unfold okI; omega)]; omega, rfl⟩, .refl _⟩
  ·
    simp at q0
    exact ⟨_, ⟨_, _, _, rfl, (and255b _).1, (and255b _).2, h0, h1, rfl⟩, .refl _⟩

--@ct spec.l01Below raw refine callR_at @1 rfl (l01Below_ct _ _ _ _ _ _ _ _ (by omega) (by omega) (by omega)) %byte ?_ | | rintro _ A# ⟨dx#, ci#, ch#, rfl, hd#, he#, hi#, hj#, rfl⟩
theorem l01Below_ct (bb : Nat) (b : Option Addr) (m c : Nat) (xs : List UInt8) (i h : Int) (n : Int) (h0 : 0 ≤ i) (h1 : i ≤ m) (h2 : m ≤ 9223372036854775807) :
    CtR Try.prog 57 [.pointer (some ⟨bb, 0, none⟩), .int .i64 n] (curHp bb b m c i h) (fun H => (rpSl flByte.rp).rd H [.slice b m c] xs)
      (fun v A => ∃ x i' h' : Int, v = .int .i64 x ∧ 0 ≤ x ∧ (x = 0 ∨ x < n) ∧ 0 ≤ i' ∧ i' ≤ m ∧ A = curHp bb b m c i' h') := by
  refine CtR.intro G_ok [curHp bb b m c i h] Try.func57 rfl rfl rfl (by simp) fun E H hp => ?_
  refine VCsplit.intro (fun q0 => ?_) (fun q0 => ?_)
  ·
    simp at q0
    exact ⟨_, ⟨0, i, h, rfl, by omega, by omega, h0, h1, rfl⟩, .refl _⟩
  ·
    simp at q0
    refine VCsplit.intro (fun q1 => ?_) (fun q1 => ?_)
    ·
      simp at q1
      refine callR_at 0 rfl (l01Byte_ct _ _ _ _ _ _ _ (by omega) (by omega) (by omega)) (Rp.mono _ (mem_at 1 rfl) hp) ?_
      rintro _ A2 ⟨dx2, ci2, ch2, rfl, hd2, he2, hi2, hj2, rfl⟩
      refine VC.intro ?_ ?_
      · omega
      exact ⟨_, ⟨_, _, _, rfl, Int.tmod_nonneg _ (by omega), .inr (Int.tmod_lt_of_pos _ (by omega)), by omega, by omega, rfl⟩, .refl _⟩
    ·
      simp at q1
      refine callR_at 0 rfl (l01Byte_ct _ _ _ _ _ _ _ (by omega) (by omega) (by omega)) (Rp.mono _ (mem_at 1 rfl) hp) ?_
      rintro _ A3 ⟨dx3, ci3, ch3, rfl, hd3, he3, hi3, hj3, rfl⟩
      refine callR_at 0 rfl (l01Byte_ct _ _ _ _ _ _ _ (by omega) (by omega) (by omega)) (Rp.mono _ (mem_at 1 rfl) hp) ?_
      rintro _ A4 ⟨dx4, ci4, ch4, rfl, hd4, he4, hi4, hj4, rfl⟩
      refine callR_at 0 rfl (l01Byte_ct _ _ _ _ _ _ _ (by omega) (by omega) (by omega)) (Rp.mono _ (mem_at 1 rfl) hp) ?_
      rintro _ A5 ⟨dx5, ci5, ch5, rfl, hd5, he5, hi5, hj5, rfl⟩
      refine callR_at 0 rfl (l01Byte_ct _ _ _ _ _ _ _ (by omega) (by omega) (by omega)) (Rp.mono _ (mem_at 1 rfl) hp) ?_
      rintro _ A6 ⟨dx6, ci6, ch6, rfl, hd6, he6, hi6, hj6, rfl⟩
      refine VC.intro ?_ ?_
      · omega
      exact ⟨_, ⟨_, _, _, rfl, Int.tmod_nonneg _ (below4 _ _ _ _ (by omega) (by omega) (by omega) (by omega) (by omega) (by omega) (by omega) (by omega)), .inr (Int.tmod_lt_of_pos _ (by omega)), by omega, by omega, rfl⟩, .refl _⟩

--@ct spec.l01Once raw refine callR_at @1 rfl (l01Once_ct _ _ _ _ _ _ _ _ (by omega) (by omega) (by omega)) %byte ?_ | | rintro _ A# ⟨dx#, ci#, ch#, rfl, hi#, hj#, rfl⟩
theorem l01Once_ct (bb : Nat) (b : Option Addr) (m c : Nat) (xs : List UInt8) (i h : Int) (n : Int) (h0 : 0 ≤ i) (h1 : i ≤ m) (h2 : m ≤ 9223372036854775807) :
    CtR Try.prog 70 [.pointer (some ⟨bb, 0, none⟩), .int .i64 n] (curHp bb b m c i h) (fun H => (rpSl flByte.rp).rd H [.slice b m c] xs)
      (fun v A => ∃ (x : Bool) (i' h' : Int), v = .bool x ∧ 0 ≤ i' ∧ i' ≤ m ∧ A = curHp bb b m c i' h') := by
  refine CtR.intro G_ok [curHp bb b m c i h] Try.func70 rfl rfl rfl (by simp) fun E H hp => ?_
  refine callR_at 0 rfl (l01Below_ct _ _ _ _ _ _ _ _ (by omega) (by omega) (by omega)) (Rp.mono _ (mem_at 1 rfl) hp) ?_
  rintro _ A0 ⟨dx0, ci0, ch0, rfl, hd0, he0, hi0, hj0, rfl⟩
  exact ⟨_, ⟨_, _, _, rfl, by omega, by omega, rfl⟩, .refl _⟩

--@ct spec.l01PickInt raw refine callR_at @1 rfl (l01PickInt_ct _ _ _ _ _ _ _ _ _ _ $2 (by omega) (by omega) (by omega) (by simp)) ⟨%byte, %2⟩ ?_ | | rintro _ A# ⟨dx#, ci#, ch#, rfl, hd#, hi#, hj#, rfl⟩
theorem l01PickInt_ct (bb : Nat) (b : Option Addr) (m c : Nat) (xs : List UInt8) (i h : Int) (lb : Option Addr) (lm lc : Nat) (ls : List Int) (h0 : 0 ≤ i) (h1 : i ≤ m) (h2 : m ≤ 9223372036854775807) (hne : 0 < ls.length) :
    CtR Try.prog 74 [.pointer (some ⟨bb, 0, none⟩), .slice lb lm lc] (curHp bb b m c i h) (fun H => (rpSl flByte.rp).rd H [.slice b m c] xs ∧ (rpSl flInt.rp).rd H [.slice lb lm lc] ls)
      (fun v A => ∃ (x : Int) (i' h' : Int), v = .int .i64 x ∧ x ∈ ls ∧ 0 ≤ i' ∧ i' ≤ m ∧ A = curHp bb b m c i' h') := by
  refine CtR.intro G_ok [curHp bb b m c i h] Try.func74 rfl rfl rfl (by simp) fun E H ⟨hp, hq⟩ => ?_
  obtain ⟨rfl, hl⟩ := rd_len hq
  refine callR_at 0 rfl (l01Below_ct _ _ _ _ _ _ _ _ (by omega) (by omega) (by omega)) (Rp.mono _ (mem_at 1 rfl) hp) ?_
  rintro _ A0 ⟨dx0, ci0, ch0, rfl, hd0, he0, hi0, hj0, rfl⟩
  refine idx_rd hq ?_ ?_ fun b1 o1 hb1 => ?_
  · trivial
  · omega
  refine load_all 0 hq ?_ ?_ hb1 rfl (mem_at 1 rfl) fun l2 hl2 => ?_
  · trivial
  · omega
  obtain ⟨rfl, hw2⟩ := hl2
  exact ⟨_, ⟨_, _, _, rfl, getD_mem _ _ (by omega), by omega, by omega, rfl⟩, .refl _⟩

--@ct spec.DrawPlaces new DrawPlaces_ct _ _ _ _ | %1 | obtain ⟨ps#, pb#, pc#, rfl, ⟨hpl#, hps#⟩, op#⟩ := o#
theorem DrawPlaces_ct (b : Option Addr) (m c : Nat) (xs : List UInt8) :
    Ct Try.prog 21 [.slice b m c] [] (fun H => (rpSl flByte.rp).rd H [.slice b m c] xs)
      (fun v A => ∃ (ps : List Int) (b' : Option Addr) (c' : Nat), v = .slice b' ps.length c' ∧ (ps.length = 12 ∧ ∀ x ∈ ps, 0 ≤ x ∧ x < 10000) ∧ (gSl 3 gI).ow [.slice b' ps.length c'] ps A) := by
  refine Ct.intro0 G_ok Try.func21 rfl rfl rfl fun E H hp => ?_
  obtain ⟨rfl, hl⟩ := rd_len hp
  refine call_new (l01New_ct _ _ _ _) (Rp.mono _ (mem_at 0 rfl) hp) ?_
  rintro _ A0 ⟨bb0, h0, rfl, rfl⟩
  refine callR_at 0 rfl (l01Byte_ct _ _ _ _ _ _ _ (by omega) (by omega) (by omega)) (Rp.mono _ (mem_at 1 rfl) hp) ?_
  rintro _ A1 ⟨dx1, ci1, ch1, rfl, hd1, he1, hi1, hj1, rfl⟩
  refine VCnew.intro fun x2 => ?_
  apply loop_mod (α := (Nat) × (List Int) × (Option Addr) × (Nat) × (Hp) × (Int) × (Int)) G_ok [11, 12, 15, 16, 17, 18, 19, 4, 13, 14, 5] (fun z => [(5, .v (.int .i64 z.1)), (4, .v (.slice z.2.2.1 z.2.1.length z.2.2.2.1))]) (fun z => []) (fun z => [z.2.2.2.2.1, curHp bb0 b xs.length c z.2.2.2.2.2.1 z.2.2.2.2.2.2, H]) (fun z => 12 - z.1) (fun z => (z.1 ≤ 12 ∧ 0 ≤ z.2.2.2.2.2.1 ∧ z.2.2.2.2.2.1 ≤ xs.length) ∧ (∀ x ∈ z.2.1, 0 ≤ x ∧ x < 10000) ∧ z.2.1.length = z.1 ∧ (gSl 3 gI).ow [.slice z.2.2.1 z.2.1.length z.2.2.2.1] z.2.1 z.2.2.2.2.1) ((0, [], some ⟨x2, 0, none⟩, 0, [], ci1, ch1))
  · repeat' (first | exact trivial | refine ⟨⟨_, rfl, by first | rfl | exact inc_eq _ (by omega) | (refine sl_eq ?_; simp; done), by first | exact trivial | simp [SV.ok]⟩, ?_⟩)
  · exact trivial
  · try dsimp only
    exact ⟨by omega, by simp, rfl, sl_nil _ _ _⟩
  · exact .tl
  rintro ⟨k, ps, sb, sc, A, ci, ch⟩ hI
  obtain ⟨⟨hk, hc0, hc1⟩, hps, hlen, oA⟩ : (k ≤ 12 ∧ 0 ≤ ci ∧ ci ≤ xs.length) ∧ (∀ x ∈ ps, 0 ≤ x ∧ x < 10000) ∧ ps.length = k ∧ (gSl 3 gI).ow [.slice sb ps.length sc] ps A := hI
  try dsimp only
  refine VCsplit.intro (fun q3 => ?_) (fun q3 => ?_)
  ·
    simp at q3
    refine callR_at 1 rfl (l01Below_ct _ _ _ _ _ _ _ _ (by omega) (by omega) (by omega)) (Rp.mono _ (mem_at 2 rfl) hp) ?_
    rintro _ A4 ⟨dx4, ci4, ch4, rfl, hd4, he4, hi4, hj4, rfl⟩
    refine VCnew.intro fun x5 => ?_
    refine gappend1 (g := gI) (T := (3 : TypeId)) G_ok A [] [curHp bb0 b xs.length c ci4 ch4, H] ?_ oA (gI_ow ?_) (List.mem_of_getElem? (i := 0) rfl) rfl rfl rfl rfl rfl rfl rfl rfl ?_ fun b6 c6 A6 o6 => ?_
    · exact .tl
    · unfold okI; omega
    · omega
    apply loop_step (k + 1, ps ++ [_], _, _, _, _, _)
    · repeat' (first | exact trivial | refine ⟨⟨_, rfl, by first | rfl | exact inc_eq _ (by omega) | (refine sl_eq ?_; simp; done), by first | exact trivial | simp [SV.ok]⟩, ?_⟩)
    · exact trivial
    · exact .refl _
    · try dsimp only
      exact ⟨by omega, by grind, by simp; omega, by assumption⟩
    · try dsimp only
      omega
  ·
    simp at q3
    exact ⟨A, ⟨ps, sb, sc, rfl, ⟨by omega, hps⟩, oA⟩, .le fun a => by simp⟩

end Go.Proofs.Ythihffgmmkhlhaa
