/-
  The drawing of numbers out of bytes: what is drawn lies in its range.
  Drawn pushes.
  Texts and numbers compared; pairs that are right.
  Pairs that are right, pairs that are done.
  Drawn pairs.
  Calm ways of a pair. Plain.
  Pairs that are done; pairs made calm.
  A copy of a pair, on the program's side; pairs made calm.
  Pairs made calm, on the program's side.
  Pairs made calm, on the reference's side.
  Drawn pairs, bent.
  Drawn pairs made calm.
  The law of drawn pairs made calm.
  Conditions: none.
-/
import Derived.Test.YtmmmjikanmgpfaaHa
import Derived.Test.YtmmmjikanmgpfaaSxC
import Derived.Test.YtmmmjikanmgpfaaMza
import Derived.Test.YtmmmjikanmgpfaaRows
namespace Go.Proofs.Ytmmmjikanmgpfaa
open Go.SX Go.Proofs
set_option linter.unusedSimpArgs false
set_option linter.unusedVariables false
set_option maxHeartbeats 4000000

theorem pre_at {P H' : Hp} {bl : List Blk} {R pr po : List Hp} {A0 : Hp} (e : R = pr ++ A0 :: po) (h : ∀ p ∈ P, p ∈ St.hall ⟨[], bl, R⟩) (hh : H' = St.hall ⟨[], bl, pr ++ po⟩) : ∀ p ∈ P, p ∈ A0 ++ H' := by
  intro p hp
  have := h p hp
  subst e hh
  simp only [St.hall, List.flatten_append, List.flatten_cons, List.mem_append] at this ⊢
  grind

theorem getD_mem {ls : List Int} (i : Nat) (z : Int) (h : i < ls.length) : ls[i]?.getD z ∈ ls := by
  rw [List.getElem?_eq_getElem h]; exact List.getElem_mem h

theorem and255 (x : Int) : ∃ z : Int, IntKind.i64.wrap (BitVec.ofInt IntKind.i64.bits x &&& BitVec.ofInt IntKind.i64.bits 255).toNat = z ∧ 0 ≤ z ∧ z ≤ 255 := by
  have h1 : (BitVec.ofInt IntKind.i64.bits x &&& BitVec.ofInt IntKind.i64.bits 255).toNat ≤ 255 := by
    rw [BitVec.toNat_and]
    exact Nat.and_le_right
  refine ⟨((BitVec.ofInt IntKind.i64.bits x &&& BitVec.ofInt IntKind.i64.bits 255).toNat : Nat), ?_, by omega, by omega⟩
  exact wrap_ok (by unfold okI; omega)

theorem and255b (x : Int) : 0 ≤ IntKind.i64.wrap (BitVec.ofInt IntKind.i64.bits x &&& BitVec.ofInt IntKind.i64.bits 255).toNat ∧ IntKind.i64.wrap (BitVec.ofInt IntKind.i64.bits x &&& BitVec.ofInt IntKind.i64.bits 255).toNat ≤ 255 := by
  obtain ⟨z, h1, h2, h3⟩ := and255 x
  rw [h1]; exact ⟨h2, h3⟩

theorem below4 (x y z w : Int) (hx : 0 ≤ x) (hx' : x ≤ 255) (hy : 0 ≤ y) (hy' : y ≤ 255) (hz : 0 ≤ z) (hz' : z ≤ 255) (hw : 0 ≤ w) (hw' : w ≤ 255) :
    0 ≤ IntKind.i64.wrap (IntKind.i64.wrap (IntKind.i64.wrap (IntKind.i64.wrap (x * 16777216) + IntKind.i64.wrap (y * 65536)) + IntKind.i64.wrap (z * 256)) + w) := by
  have e1 : IntKind.i64.wrap (x * 16777216) = x * 16777216 := wrap_ok (by unfold okI; omega)
  have e2 : IntKind.i64.wrap (y * 65536) = y * 65536 := wrap_ok (by unfold okI; omega)
  have e3 : IntKind.i64.wrap (z * 256) = z * 256 := wrap_ok (by unfold okI; omega)
  rw [e1, e2, e3]
  have e4 : IntKind.i64.wrap (x * 16777216 + y * 65536) = x * 16777216 + y * 65536 := wrap_ok (by unfold okI; omega)
  rw [e4]
  have e5 : IntKind.i64.wrap (x * 16777216 + y * 65536 + z * 256) = x * 16777216 + y * 65536 + z * 256 := wrap_ok (by unfold okI; omega)
  rw [e5]
  rw [wrap_ok (by unfold okI; omega)]
  omega

def curHp (bb : Nat) (b : Option Addr) (m c : Nat) (i h : Int) : Hp := [(bb, Obj.cells ⟨[.slice b m c, .int .i64 i, .int .i64 h]⟩ 78)]

--@ct spec.l01New raw refine call_new (l01New_ct _ _ _ _) %1 ?_ | | rintro _ A# ⟨bb#, h#, rfl, rfl⟩
theorem l01New_ct (b : Option Addr) (m c : Nat) (xs : List UInt8) :
    Ct Try.prog 29 [.slice b m c] [] (fun H => (rpSl flByte.rp).rd H [.slice b m c] xs)
      (fun v A => ∃ bb h, v = .pointer (some ⟨bb, 0, none⟩) ∧ A = curHp bb b m c 0 h) := by
  refine Ct.intro0 G_ok Try.func29 rfl rfl rfl fun E H hp => ?_
  obtain ⟨rfl, hl⟩ := rd_len hp
  apply loop_mod (α := (Nat) × (Int)) G_ok [8, 9, 10, 11, 12, 13, 14, 15, 18, 19, 20, 21, 22, 23, 24, 25, 26, 27, 3, 16, 17, 4] (fun z => [(4, .v (.int .i64 z.1)), (3, .v (.int .i64 z.2))]) (fun z => []) (fun z => [H]) (fun z => 4000 - z.1) (fun z => z.1 ≤ 4000) ((0, IntKind.i64.wrap (35501 + (xs.length : Int))))
  · repeat' (first | exact trivial | refine ⟨⟨_, rfl, by first | rfl | exact inc_eq _ (by omega) | (refine sl_eq ?_; simp; done), by first | exact trivial | simp [SV.ok]⟩, ?_⟩)
  · exact trivial
  · try dsimp only
    trivial
  · exact .refl _
  rintro ⟨k, h⟩ hI
  obtain hk : k ≤ 4000 := hI
  try dsimp only
  refine VCsplit.intro (fun q0 => ?_) (fun q0 => ?_)
  ·
    simp at q0
    refine VCsplit.intro (fun q1 => ?_) (fun q1 => ?_)
    ·
      simp at q1
      refine idx_rd hp ?_ ?_ fun b2 o2 hb2 => ?_
      · omega
      · omega
      refine load_allN 0 (k) rfl hp ?_ ?_ hb2 rfl (mem_at 0 rfl) fun l3 hl3 => ?_
      · omega
      · omega
      obtain ⟨rfl, hw3⟩ := hl3
      apply loop_stepA (k + 1, _)
      · exact .refl _
      · repeat' (first | exact trivial | refine ⟨⟨_, rfl, by first | rfl | exact inc_eq _ (by omega) | (refine sl_eq ?_; simp; done), by first | exact trivial | simp [SV.ok]⟩, ?_⟩)
      · exact trivial
      · try dsimp only
        omega
      · try dsimp only
        omega
    ·
      simp at q1
      refine VCnew.intro fun x4 => ?_
      exact ⟨_, ⟨_, _, rfl, rfl⟩, .refl _⟩
  ·
    simp at q0
    refine VCnew.intro fun x5 => ?_
    exact ⟨_, ⟨_, _, rfl, rfl⟩, .refl _⟩

--@ct spec.l01Byte raw refine callR_at @1 rfl (l01Byte_ct _ _ _ _ _ _ _ (by omega) (by omega) (by omega)) %byte ?_ | | rintro _ A# ⟨dx#, ci#, ch#, rfl, hd#, he#, hi#, hj#, rfl⟩
theorem l01Byte_ct (bb : Nat) (b : Option Addr) (m c : Nat) (xs : List UInt8) (i h : Int) (h0 : 0 ≤ i) (h1 : i ≤ m) (h2 : m ≤ 9223372036854775807) :
    CtR Try.prog 95 [.pointer (some ⟨bb, 0, none⟩)] (curHp bb b m c i h) (fun H => (rpSl flByte.rp).rd H [.slice b m c] xs)
      (fun v A => ∃ x i' h' : Int, v = .int .i64 x ∧ 0 ≤ x ∧ x ≤ 255 ∧ 0 ≤ i' ∧ i' ≤ m ∧ A = curHp bb b m c i' h') := by
  refine CtR.introB G_ok [.p 0 0] [⟨bb, [.slice b m c, .int .i64 i, .int .i64 h], 78⟩] [] Try.func95 rfl rfl rfl rfl (by simp [SV.ok]) (by simp [curHp, Blk.ent]) fun E H hp => ?_
  obtain ⟨rfl, hl⟩ := rd_len hp
  refine draw G_ok mixed none (.q 0 (.q 1 (.q 2 (.q 3 (.q 4 (.q 5 (.q 6 (.q 7 (.q 8 (.q 9 (.q 10 (.q 11 (.q 12 (.nil)))))))))))))) (by decide +kernel) ?_
  refine VC.intro ?_ ?_
  · trivial
  refine VC.intro ?_ ?_
  · trivial
  refine draw G_ok mixed none (.q 0 (.q 1 (.q 2 (.q 3 (.q 4 (.q 5 (.q 6 (.q 7 (.q 8 (.q 9 (.nil))))))))))) (by decide +kernel) ?_
  refine VCsplit.intro (fun q0 => ?_) (fun q0 => ?_)
  ·
    simp at q0
    refine draw G_ok mixed none (.q 0 (.q 1 (.q 2 (.q 3 (.q 4 (.q 5 (.q 6 (.q 7 (.q 8 (.q 9 (.q 10 (.q 11 (.q 12 (.q 13 (.q 14 (.nil)))))))))))))))) (by decide +kernel) ?_
    refine idx_rd hp ?_ ?_ fun b1 o1 hb1 => ?_
    · trivial
    · trivial
    refine load_all 0 hp ?_ ?_ hb1 rfl (mem_at 0 rfl) fun l2 hl2 => ?_
    · trivial
    · trivial
    obtain ⟨rfl, hw2⟩ := hl2
    exact ⟨_, ⟨_, _, _, rfl, (and255b _).1, (and255b _).2, by rw [wrap_ok (by unfold okI; omega)]; omega, by rw [wrap_ok (by unfold okI; omega)]; omega, rfl⟩, .refl _⟩
  ·
    simp at q0
    exact ⟨_, ⟨_, _, _, rfl, (and255b _).1, (and255b _).2, h0, h1, rfl⟩, .refl _⟩

--@ct spec.l01Below raw refine callR_at @1 rfl (l01Below_ct _ _ _ _ _ _ _ _ (by omega) (by omega) (by omega)) %byte ?_ | | rintro _ A# ⟨dx#, ci#, ch#, rfl, hd#, he#, hi#, hj#, rfl⟩
theorem l01Below_ct (bb : Nat) (b : Option Addr) (m c : Nat) (xs : List UInt8) (i h : Int) (n : Int) (h0 : 0 ≤ i) (h1 : i ≤ m) (h2 : m ≤ 9223372036854775807) :
    CtR Try.prog 75 [.pointer (some ⟨bb, 0, none⟩), .int .i64 n] (curHp bb b m c i h) (fun H => (rpSl flByte.rp).rd H [.slice b m c] xs)
      (fun v A => ∃ x i' h' : Int, v = .int .i64 x ∧ 0 ≤ x ∧ (x = 0 ∨ x < n) ∧ 0 ≤ i' ∧ i' ≤ m ∧ A = curHp bb b m c i' h') := by
  refine CtR.intro G_ok [curHp bb b m c i h] Try.func75 rfl rfl rfl (by simp) fun E H hp => ?_
  refine VCsplit.intro (fun q0 => ?_) (fun q0 => ?_)
  ·
    simp at q0
    exact ⟨_, ⟨0, i, h, rfl, by omega, by omega, h0, h1, rfl⟩, .refl _⟩
  ·
    simp at q0
    refine VCsplit.intro (fun q1 => ?_) (fun q1 => ?_)
    ·
      simp at q1
      refine callR_at 0 rfl (l01Byte_ct _ _ _ _ _ _ _ (by omega) (by omega) (by omega)) (Rp.mono _ (mem_at 1 rfl) hp) ?_
      rintro _ A2 ⟨dx2, ci2, ch2, rfl, hd2, he2, hi2, hj2, rfl⟩
      refine VC.intro ?_ ?_
      · omega
      exact ⟨_, ⟨_, _, _, rfl, Int.tmod_nonneg _ (by omega), .inr (Int.tmod_lt_of_pos _ (by omega)), by omega, by omega, rfl⟩, .refl _⟩
    ·
      simp at q1
      refine callR_at 0 rfl (l01Byte_ct _ _ _ _ _ _ _ (by omega) (by omega) (by omega)) (Rp.mono _ (mem_at 1 rfl) hp) ?_
      rintro _ A3 ⟨dx3, ci3, ch3, rfl, hd3, he3, hi3, hj3, rfl⟩
      refine callR_at 0 rfl (l01Byte_ct _ _ _ _ _ _ _ (by omega) (by omega) (by omega)) (Rp.mono _ (mem_at 1 rfl) hp) ?_
      rintro _ A4 ⟨dx4, ci4, ch4, rfl, hd4, he4, hi4, hj4, rfl⟩
      refine callR_at 0 rfl (l01Byte_ct _ _ _ _ _ _ _ (by omega) (by omega) (by omega)) (Rp.mono _ (mem_at 1 rfl) hp) ?_
      rintro _ A5 ⟨dx5, ci5, ch5, rfl, hd5, he5, hi5, hj5, rfl⟩
      refine callR_at 0 rfl (l01Byte_ct _ _ _ _ _ _ _ (by omega) (by omega) (by omega)) (Rp.mono _ (mem_at 1 rfl) hp) ?_
      rintro _ A6 ⟨dx6, ci6, ch6, rfl, hd6, he6, hi6, hj6, rfl⟩
      refine VC.intro ?_ ?_
      · omega
      exact ⟨_, ⟨_, _, _, rfl, Int.tmod_nonneg _ (below4 _ _ _ _ (by omega) (by omega) (by omega) (by omega) (by omega) (by omega) (by omega) (by omega)), .inr (Int.tmod_lt_of_pos _ (by omega)), by omega, by omega, rfl⟩, .refl _⟩

--@ct spec.l01PickInt raw refine callR_at @1 rfl (l01PickInt_ct _ _ _ _ _ _ _ _ _ _ $2 (by omega) (by omega) (by omega) (by simp)) ⟨%byte, %2⟩ ?_ | | rintro _ A# ⟨dx#, ci#, ch#, rfl, hd#, hi#, hj#, rfl⟩
theorem l01PickInt_ct (bb : Nat) (b : Option Addr) (m c : Nat) (xs : List UInt8) (i h : Int) (lb : Option Addr) (lm lc : Nat) (ls : List Int) (h0 : 0 ≤ i) (h1 : i ≤ m) (h2 : m ≤ 9223372036854775807) (hne : 0 < ls.length) :
    CtR Try.prog 83 [.pointer (some ⟨bb, 0, none⟩), .slice lb lm lc] (curHp bb b m c i h) (fun H => (rpSl flByte.rp).rd H [.slice b m c] xs ∧ (rpSl flInt.rp).rd H [.slice lb lm lc] ls)
      (fun v A => ∃ (x : Int) (i' h' : Int), v = .int .i64 x ∧ x ∈ ls ∧ 0 ≤ i' ∧ i' ≤ m ∧ A = curHp bb b m c i' h') := by
  refine CtR.intro G_ok [curHp bb b m c i h] Try.func83 rfl rfl rfl (by simp) fun E H ⟨hp, hq⟩ => ?_
  obtain ⟨rfl, hl⟩ := rd_len hq
  refine callR_at 0 rfl (l01Below_ct _ _ _ _ _ _ _ _ (by omega) (by omega) (by omega)) (Rp.mono _ (mem_at 1 rfl) hp) ?_
  rintro _ A0 ⟨dx0, ci0, ch0, rfl, hd0, he0, hi0, hj0, rfl⟩
  refine idx_rd hq ?_ ?_ fun b1 o1 hb1 => ?_
  · trivial
  · omega
  refine load_all 0 hq ?_ ?_ hb1 rfl (mem_at 1 rfl) fun l2 hl2 => ?_
  · trivial
  · omega
  obtain ⟨rfl, hw2⟩ := hl2; simp only [flStr, flInt, okI] at hw2
  exact ⟨_, ⟨_, _, _, rfl, getD_mem _ _ (by omega), by omega, by omega, rfl⟩, .refl _⟩


end Go.Proofs.Ytmmmjikanmgpfaa

namespace Go.Proofs.Ytmmmjikanmgpfaa
open Go.SX Go.Proofs
set_option linter.unusedSimpArgs false
set_option linter.unusedVariables false
set_option maxHeartbeats 4000000

--@ct spec.l01Text raw refine callR_at @1 rfl (l01Text_ct _ _ _ _ _ _ _ _ (by omega) (by omega) (by omega) ?_ ?_) %byte ?_ | | rintro _ A# ⟨dt#, ci#, ch#, rfl, hd#, hi#, hj#, rfl⟩
theorem l01Text_ct (bb : Nat) (b : Option Addr) (m c : Nat) (xs : List UInt8) (i h : Int) (n : Int) (h0 : 0 ≤ i) (h1 : i ≤ m) (h2 : m ≤ 9223372036854775807) (hn0 : 0 ≤ n) (hn : n ≤ 5000) :
    CtR Try.prog 84 [.pointer (some ⟨bb, 0, none⟩), .int .i64 n] (curHp bb b m c i h) (fun H => (rpSl flByte.rp).rd H [.slice b m c] xs)
      (fun v A => ∃ (t : ByteArray) (i' h' : Int), v = .string t ∧ t.size = n.toNat ∧ 0 ≤ i' ∧ i' ≤ m ∧ A = curHp bb b m c i' h') := by
  refine CtR.intro G_ok [curHp bb b m c i h] Try.func84 rfl rfl rfl (by simp) fun E H hp => ?_
  refine VCsplit.intro (fun q0 => ?_) (fun q0 => ?_)
  ·
    simp at q0
    exfalso; omega
  ·
    simp at q0
    refine VCnew.intro fun x1 => ?_
    apply loop_mod (α := (Nat) × (List UInt8) × (Option Addr) × (Nat) × (Hp) × (Int) × (Int)) G_ok [10, 11, 12, 15, 16, 17, 18, 19, 20, 5, 13, 14, 6] (fun z => [(6, .v (.int .i64 z.1)), (5, .v (.slice z.2.2.1 z.2.1.length z.2.2.2.1))]) (fun z => []) (fun z => [z.2.2.2.2.1, curHp bb b m c z.2.2.2.2.2.1 z.2.2.2.2.2.2, H]) (fun z => n.toNat - z.1) (fun z => (z.1 ≤ n.toNat ∧ 0 ≤ z.2.2.2.2.2.1 ∧ z.2.2.2.2.2.1 ≤ m) ∧ z.2.1.length = z.1 ∧ (gSl 5 gY).ow [.slice z.2.2.1 z.2.1.length z.2.2.2.1] z.2.1 z.2.2.2.2.1) ((0, [], some ⟨x1, 0, none⟩, 0, [], i, h))
    · repeat' (first | exact trivial | refine ⟨⟨_, rfl, by first | rfl | exact inc_eq _ (by omega) | (refine sl_eq ?_; simp; done), by first | exact trivial | simp [SV.ok]⟩, ?_⟩)
    · exact trivial
    · try dsimp only
      exact ⟨by omega, rfl, sl_nil _ _ _⟩
    · exact .tl
    rintro ⟨k, ys, yb, yc, T, ci, ch⟩ hI
    obtain ⟨⟨hk, hc0, hc1⟩, hlen, oT⟩ : (k ≤ n.toNat ∧ 0 ≤ ci ∧ ci ≤ m) ∧ ys.length = k ∧ (gSl 5 gY).ow [.slice yb ys.length yc] ys T := hI
    try dsimp only
    refine VCsplit.intro (fun q2 => ?_) (fun q2 => ?_)
    ·
      simp at q2
      refine callR_at 1 rfl (l01Byte_ct _ _ _ _ _ _ _ (by omega) (by omega) (by omega)) (Rp.mono _ (mem_at 2 rfl) hp) ?_
      rintro _ A3 ⟨dx3, ci3, ch3, rfl, hd3, he3, hi3, hj3, rfl⟩
      refine VCnew.intro fun x4 => ?_
      refine gappend1 (g := gY) (T := (5 : TypeId)) G_ok T [] [curHp bb b m c ci3 ch3, H] ?_ oT (gY_owM _) (List.mem_of_getElem? (i := 0) rfl) rfl rfl rfl rfl rfl rfl rfl rfl ?_ fun b5 c5 A5 o5 => ?_
      · exact .tl
      · omega
      apply loop_stepA (k + 1, ys ++ [_], _, _, _, _, _)
      · exact .refl _
      · repeat' (first | exact trivial | refine ⟨⟨_, rfl, by first | rfl | exact inc_eq _ (by omega) | (refine sl_eq ?_; simp; done), by first | exact trivial | simp [SV.ok]⟩, ?_⟩)
      · exact trivial
      · try dsimp only
        exact ⟨⟨by omega, by assumption, by assumption⟩, by simp; omega, by assumption⟩
      · try dsimp only
        omega
    ·
      simp at q2
      refine conv_bs G_ok (ys) rfl (Rp.mono _ (mem_at 0 rfl) (Gt.owrd _ oT)) rfl rfl rfl ?_
      exact ⟨_, ⟨_, _, _, rfl, by (show (List.toArray ys).size = n.toNat; rw [List.size_toArray]; omega), by assumption, by assumption, rfl⟩, rle_pick [1] 2 rfl rfl (by decide)⟩

theorem push_drawn {k s a : Int} {t : ByteArray} (hk : k ∈ ([1, 1, 2, 2, 2, 3, 3, 3, 3, 4, 5, 6] : List Int)) (hs : 0 ≤ s ∧ s ≤ 1) (ha : a ∈ ([0, 0, 1, 2, 5, 11] : List Int)) (ht : (k = 1 ∧ 1 ≤ t.size ∧ t.size ≤ 40) ∨ (¬ k = 1 ∧ t.size = 0)) : pushOk ⟨k, s, a, t⟩ = true := by
  simp at hk ha
  refine pushOk_iff.2 ?_
  dsimp only
  omega
theorem at_drawn {a : Int} (ha : a ∈ ([0, 0, 1, 2, 5, 11] : List Int)) : a ≤ 11 := by simp at ha; omega
theorem push_rd9 {x : Push} (h : pushOk x = true) (h2 : x.at' ≤ 11) : gPush.rd [] [.int .i64 x.kind, .int .i64 x.side, .int .i64 x.at', .string x.text] x := by
  have h1 := pushOk_iff.1 h
  exact gPush_rd.2 ⟨rfl, by unfold okI; omega, by unfold okI; omega, by unfold okI; omega, by omega⟩
--@ct spec.l19Push raw refine callR_at @1 rfl (l19Push_ct _ _ _ _ _ _ _ (by omega) (by omega) (by omega)) %byte ?_ | | rintro _ A# ⟨xp#, ci#, ch#, rfl, ⟨hd#, hu#⟩, hi#, hj#, rfl⟩ ;; have hx# := pushOk_iff.1 hd# ;; have rx# := push_rd9 hd# hu#
theorem l19Push_ct (bb : Nat) (b : Option Addr) (m c : Nat) (xs : List UInt8) (i h : Int) (h0 : 0 ≤ i) (h1 : i ≤ m) (h2 : m ≤ 9223372036854775807) :
    CtR Try.prog 60 [.pointer (some ⟨bb, 0, none⟩)] (curHp bb b m c i h) (fun H => (rpSl flByte.rp).rd H [.slice b m c] xs)
      (fun v A => ∃ (x : Push) (i' h' : Int), v = .agg ⟨[.int .i64 x.kind, .int .i64 x.side, .int .i64 x.at', .string x.text]⟩ ∧ (pushOk x = true ∧ x.at' ≤ 11) ∧ 0 ≤ i' ∧ i' ≤ m ∧ A = curHp bb b m c i' h') := by
  refine CtR.intro G_ok [curHp bb b m c i h] Try.func60 rfl rfl rfl (by simp) fun E H hp => ?_
  refine VCnew.intro fun x0 => ?_
  refine VCnew.intro fun x1 => ?_
  have ol1 : Ow flInt (3 : TypeId) (.slice (some ⟨x1, 0, none⟩) 12 12) [(1 : Int), (1 : Int), (2 : Int), (2 : Int), (2 : Int), (3 : Int), (3 : Int), (3 : Int), (3 : Int), (4 : Int), (5 : Int), (6 : Int)] [(x1, Obj.cells { toList := Value.int IntKind.i64 (1 : Int) :: Value.int IntKind.i64 (1 : Int) :: Value.int IntKind.i64 (2 : Int) :: Value.int IntKind.i64 (2 : Int) :: Value.int IntKind.i64 (2 : Int) :: Value.int IntKind.i64 (3 : Int) :: Value.int IntKind.i64 (3 : Int) :: Value.int IntKind.i64 (3 : Int) :: Value.int IntKind.i64 (3 : Int) :: Value.int IntKind.i64 (4 : Int) :: Value.int IntKind.i64 (5 : Int) :: Value.int IntKind.i64 (6 : Int) :: [].append (zeros (nat_lit 0) [Value.int IntKind.i64 (0 : Int)]) } (3 : TypeId))] := Ow.lit (f := flInt) (T := (3 : TypeId)) (b := x1) (xs := [(1 : Int), (1 : Int), (2 : Int), (2 : Int), (2 : Int), (3 : Int), (3 : Int), (3 : Int), (3 : Int), (4 : Int), (5 : Int), (6 : Int)]) (by simp [flInt, okI]) (by simp)
  refine callR_at 1 rfl (l01PickInt_ct _ _ _ _ _ _ _ _ _ _ ([(1 : Int), (1 : Int), (2 : Int), (2 : Int), (2 : Int), (3 : Int), (3 : Int), (3 : Int), (3 : Int), (4 : Int), (5 : Int), (6 : Int)]) (by omega) (by omega) (by omega) (by simp)) ⟨(Rp.mono _ (mem_at 2 rfl) hp), (Rp.mono _ (mem_at 0 rfl) (Ow.rd ol1))⟩ ?_
  rintro _ A2 ⟨dx2, ci2, ch2, rfl, hd2, hi2, hj2, rfl⟩
  refine callR_at 1 rfl (l01Below_ct _ _ _ _ _ _ _ _ (by omega) (by omega) (by omega)) (Rp.mono _ (mem_at 2 rfl) hp) ?_
  rintro _ A3 ⟨dx3, ci3, ch3, rfl, hd3, he3, hi3, hj3, rfl⟩
  refine VCnew.intro fun x4 => ?_
  have ol4 : Ow flInt (3 : TypeId) (.slice (some ⟨x4, 0, none⟩) 6 6) [(0 : Int), (0 : Int), (1 : Int), (2 : Int), (5 : Int), (11 : Int)] [(x4, Obj.cells { toList := Value.int IntKind.i64 (0 : Int) :: Value.int IntKind.i64 (0 : Int) :: Value.int IntKind.i64 (1 : Int) :: Value.int IntKind.i64 (2 : Int) :: Value.int IntKind.i64 (5 : Int) :: Value.int IntKind.i64 (11 : Int) :: [].append (zeros (nat_lit 0) [Value.int IntKind.i64 (0 : Int)]) } (3 : TypeId))] := Ow.lit (f := flInt) (T := (3 : TypeId)) (b := x4) (xs := [(0 : Int), (0 : Int), (1 : Int), (2 : Int), (5 : Int), (11 : Int)]) (by simp [flInt, okI]) (by simp)
  refine callR_at 2 rfl (l01PickInt_ct _ _ _ _ _ _ _ _ _ _ ([(0 : Int), (0 : Int), (1 : Int), (2 : Int), (5 : Int), (11 : Int)]) (by omega) (by omega) (by omega) (by simp)) ⟨(Rp.mono _ (mem_at 3 rfl) hp), (Rp.mono _ (mem_at 0 rfl) (Ow.rd ol4))⟩ ?_
  rintro _ A5 ⟨dx5, ci5, ch5, rfl, hd5, hi5, hj5, rfl⟩
  refine VCnew.intro fun x6 => ?_
  refine VCsplit.intro (fun q7 => ?_) (fun q7 => ?_)
  ·
    simp at q7
    refine callR_at 2 rfl (l01Below_ct _ _ _ _ _ _ _ _ (by omega) (by omega) (by omega)) (Rp.mono _ (mem_at 3 rfl) hp) ?_
    rintro _ A8 ⟨dx8, ci8, ch8, rfl, hd8, he8, hi8, hj8, rfl⟩
    refine callR_at 2 rfl (l01Text_ct _ _ _ _ _ _ _ _ (by omega) (by omega) (by omega) ?_ ?_) (Rp.mono _ (mem_at 3 rfl) hp) ?_
    · (simp (disch := omega) only [wrap_of]; omega)
    · (simp (disch := omega) only [wrap_of]; omega)
    rintro _ A9 ⟨dt9, ci9, ch9, rfl, hd9, hi9, hj9, rfl⟩
    try dsimp only
    exact ⟨_, ⟨⟨dx2, dx3, dx5, dt9⟩, _, _, rfl, ⟨push_drawn hd2 (by omega) hd5 (.inl ⟨by omega, by (simp (disch := omega) only [wrap_of] at hd9; omega)⟩), at_drawn hd5⟩, by assumption, by assumption, rfl⟩, rle_pick [2] 3 rfl rfl (by decide)⟩
  ·
    simp at q7
    try dsimp only
    exact ⟨_, ⟨⟨dx2, dx3, dx5, .empty⟩, _, _, rfl, ⟨push_drawn hd2 (by omega) hd5 (.inr ⟨by omega, rfl⟩), at_drawn hd5⟩, by assumption, by assumption, rfl⟩, rle_pick [2] 3 rfl rfl (by decide)⟩

theorem all_more {ps : List Push} {x : Push} (h : ∀ y ∈ ps, pushOk y = true) (hx : pushOk x = true) : ∀ y ∈ ps ++ [x], pushOk y = true := fun y hy => by
  rcases List.mem_append.1 hy with hy | hy
  · exact h y hy
  · rw [List.mem_singleton.1 hy]; exact hx
--@ct spec.l19Pushes part1 l19Pushes_ct _ _ _ _ _ _ _ (by omega) (by omega) (by omega) | %byte | rintro _ A# ⟨ps#, tb#, tc#, ci#, ch#, T#, rfl, ⟨hpl#, hps#⟩, hi#, hj#, hP#, ot#⟩ ;; refine ⟨[curHp _ _ _ _ ci# ch#, T#], by simpa using hP#, ?_⟩
theorem l19Pushes_ct (bb : Nat) (b : Option Addr) (m c : Nat) (xs : List UInt8) (i h : Int) (h0 : 0 ≤ i) (h1 : i ≤ m) (h2 : m ≤ 9223372036854775807) :
    CtR Try.prog 28 [.pointer (some ⟨bb, 0, none⟩), .slice b m c] (curHp bb b m c i h) (fun H => (rpSl flByte.rp).rd H [.slice b m c] xs)
      (fun v A => ∃ (ps : List Push) (tb : Option Addr) (tc : Nat) (i' h' : Int) (T : Hp), v = .slice tb ps.length tc ∧ (ps.length ≤ 85 ∧ ∀ x ∈ ps, pushOk x = true) ∧ 0 ≤ i' ∧ i' ≤ m ∧ A.Perm (curHp bb b m c i' h' ++ T) ∧ (gSl 35 gPush).ow [.slice tb ps.length tc] ps T) := by
  refine CtR.intro G_ok [curHp bb b m c i h] Try.func28 rfl rfl rfl (by simp) fun E H hp => ?_
  obtain ⟨rfl, hl⟩ := rd_len hp
  refine VCnew.intro fun x0 => ?_
  refine VC.intro ?_ ?_
  · trivial
  refine VCsplit.intro (fun q1 => ?_) (fun q1 => ?_)
  ·
    simp at q1
    simp (disch := omega) only [wrap_of] at q1
    apply loop_mod (α := (Nat) × (List Push) × (Option Addr) × (Nat) × (Hp) × (Int) × (Int)) G_ok [15, 16, 17, 20, 21, 22, 23, 24, 5, 18, 19, 7] (fun z => [(7, .v (.int .i64 z.1)), (5, .v (.slice z.2.2.1 z.2.1.length z.2.2.2.1))]) (fun z => []) (fun z => [z.2.2.2.2.1, curHp bb b xs.length c z.2.2.2.2.2.1 z.2.2.2.2.2.2, H]) (fun z => 85 - z.1) (fun z => (z.1 ≤ 85 ∧ 0 ≤ z.2.2.2.2.2.1 ∧ z.2.2.2.2.2.1 ≤ xs.length) ∧ z.2.1.length = z.1 ∧ (∀ x ∈ z.2.1, pushOk x = true) ∧ (gSl 35 gPush).ow [.slice z.2.2.1 z.2.1.length z.2.2.2.1] z.2.1 z.2.2.2.2.1) ((0, [], some ⟨x0, 0, none⟩, 0, [], i, h))
    · repeat' (first | exact trivial | refine ⟨⟨_, rfl, by first | rfl | exact inc_eq _ (by omega) | (refine sl_eq ?_; simp; done), by first | exact trivial | simp [SV.ok]⟩, ?_⟩)
    · exact trivial
    · try dsimp only
      exact ⟨⟨by omega, by omega, by omega⟩, rfl, (fun _ h => by cases h), sl_nil _ _ _⟩
    · exact .tl
    rintro ⟨k, ps, tb, tc, T, ci, ch⟩ hI
    obtain ⟨⟨hk, hc0, hc1⟩, hlen, hps, oT⟩ : (k ≤ 85 ∧ 0 ≤ ci ∧ ci ≤ xs.length) ∧ ps.length = k ∧ (∀ x ∈ ps, pushOk x = true) ∧ (gSl 35 gPush).ow [.slice tb ps.length tc] ps T := hI
    try dsimp only
    refine VCsplit.intro (fun q2 => ?_) (fun q2 => ?_)
    ·
      simp at q2
      refine callR_at 1 rfl (l19Push_ct _ _ _ _ _ _ _ (by omega) (by omega) (by omega)) (Rp.mono _ (mem_at 2 rfl) hp) ?_
      rintro _ A3 ⟨xp3, ci3, ch3, rfl, ⟨hd3, hu3⟩, hi3, hj3, rfl⟩
      have hx3 := pushOk_iff.1 hd3
      have rx3 := push_rd9 hd3 hu3
      refine VCnew.intro fun x4 => ?_
      refine gappend1 (g := gPush) (T := (35 : TypeId)) G_ok T [] [curHp bb b xs.length c ci3 ch3, H] ?_ oT (gPush_own ‹_›) (List.mem_of_getElem? (i := 0) rfl) rfl rfl rfl rfl rfl rfl rfl rfl ?_ fun b5 c5 A5 o5 => ?_
      · exact .tl
      · omega
      apply loop_stepA (k + 1, ps ++ [_], _, _, _, _, _)
      · exact .refl _
      · repeat' (first | exact trivial | refine ⟨⟨_, rfl, by first | rfl | exact inc_eq _ (by omega) | (refine sl_eq ?_; simp; done), by first | exact trivial | simp [SV.ok]⟩, ?_⟩)
      · exact trivial
      · try dsimp only
        exact ⟨⟨by omega, by assumption, by assumption⟩, by simp; omega, all_more hps (by assumption), by assumption⟩
      · try dsimp only
        omega
    ·
      simp at q2
      exact ⟨_, ⟨ps, tb, tc, _, _, T, rfl, ⟨by omega, hps⟩, by assumption, by assumption, List.perm_append_comm, oT⟩, rle_j2⟩
  ·
    simp at q1
    simp (disch := omega) only [wrap_of] at q1
    apply loop_mod (α := (Nat) × (List Push) × (Option Addr) × (Nat) × (Hp) × (Int) × (Int)) G_ok [15, 16, 17, 20, 21, 22, 23, 24, 5, 18, 19, 7] (fun z => [(7, .v (.int .i64 z.1)), (5, .v (.slice z.2.2.1 z.2.1.length z.2.2.2.1))]) (fun z => []) (fun z => [z.2.2.2.2.1, curHp bb b xs.length c z.2.2.2.2.2.1 z.2.2.2.2.2.2, H]) (fun z => 85 - z.1) (fun z => (z.1 ≤ 85 ∧ 0 ≤ z.2.2.2.2.2.1 ∧ z.2.2.2.2.2.1 ≤ xs.length) ∧ z.2.1.length = z.1 ∧ (∀ x ∈ z.2.1, pushOk x = true) ∧ (gSl 35 gPush).ow [.slice z.2.2.1 z.2.1.length z.2.2.2.1] z.2.1 z.2.2.2.2.1) ((0, [], some ⟨x0, 0, none⟩, 0, [], i, h))
    · repeat' (first | exact trivial | refine ⟨⟨_, rfl, by first | rfl | exact inc_eq _ (by omega) | (refine sl_eq ?_; simp; done), by first | exact trivial | simp [SV.ok]⟩, ?_⟩)
    · exact trivial
    · try dsimp only
      exact ⟨⟨by omega, by omega, by omega⟩, rfl, (fun _ h => by cases h), sl_nil _ _ _⟩
    · exact .tl
    rintro ⟨k, ps, tb, tc, T, ci, ch⟩ hI
    obtain ⟨⟨hk, hc0, hc1⟩, hlen, hps, oT⟩ : (k ≤ 85 ∧ 0 ≤ ci ∧ ci ≤ xs.length) ∧ ps.length = k ∧ (∀ x ∈ ps, pushOk x = true) ∧ (gSl 35 gPush).ow [.slice tb ps.length tc] ps T := hI
    try dsimp only
    refine VCsplit.intro (fun q6 => ?_) (fun q6 => ?_)
    ·
      simp at q6
      simp (disch := omega) only [wrap_of] at q6
      refine callR_at 1 rfl (l19Push_ct _ _ _ _ _ _ _ (by omega) (by omega) (by omega)) (Rp.mono _ (mem_at 2 rfl) hp) ?_
      rintro _ A7 ⟨xp7, ci7, ch7, rfl, ⟨hd7, hu7⟩, hi7, hj7, rfl⟩
      have hx7 := pushOk_iff.1 hd7
      have rx7 := push_rd9 hd7 hu7
      refine VCnew.intro fun x8 => ?_
      refine gappend1 (g := gPush) (T := (35 : TypeId)) G_ok T [] [curHp bb b xs.length c ci7 ch7, H] ?_ oT (gPush_own ‹_›) (List.mem_of_getElem? (i := 0) rfl) rfl rfl rfl rfl rfl rfl rfl rfl ?_ fun b9 c9 A9 o9 => ?_
      · exact .tl
      · omega
      apply loop_stepA (k + 1, ps ++ [_], _, _, _, _, _)
      · exact .refl _
      · repeat' (first | exact trivial | refine ⟨⟨_, rfl, by first | rfl | exact inc_eq _ (by omega) | (refine sl_eq ?_; simp; done), by first | exact trivial | simp [SV.ok]⟩, ?_⟩)
      · exact trivial
      · try dsimp only
        exact ⟨⟨by omega, by assumption, by assumption⟩, by simp; omega, all_more hps (by assumption), by assumption⟩
      · try dsimp only
        omega
    ·
      simp at q6
      simp (disch := omega) only [wrap_of] at q6
      exact ⟨_, ⟨ps, tb, tc, _, _, T, rfl, ⟨by omega, hps⟩, by assumption, by assumption, List.perm_append_comm, oT⟩, rle_j2⟩

--@ct spec.DrawPushes new DrawPushes_ct _ _ _ _ | %1 | obtain ⟨ps#, tb#, tc#, rfl, ⟨hpl#, hps#⟩, ot#⟩ := o#
theorem DrawPushes_ct (b : Option Addr) (m c : Nat) (xs : List UInt8) :
    Ct Try.prog 7 [.slice b m c] [] (fun H => (rpSl flByte.rp).rd H [.slice b m c] xs)
      (fun v A => ∃ (ps : List Push) (tb : Option Addr) (tc : Nat), v = .slice tb ps.length tc ∧ (ps.length ≤ 85 ∧ ∀ x ∈ ps, pushOk x = true) ∧ (gSl 35 gPush).ow [.slice tb ps.length tc] ps A) := by
  refine Ct.intro0 G_ok Try.func7 rfl rfl rfl fun E H hp => ?_
  obtain ⟨rfl, hl⟩ := rd_len hp
  refine call_new (l01New_ct _ _ _ _) (Rp.mono _ (mem_at 0 rfl) hp) ?_
  rintro _ A0 ⟨bb0, h0, rfl, rfl⟩
  refine callR_part (curHp bb0 b xs.length c (0 : Int) h0) [H] (l19Pushes_ct _ _ _ _ _ _ _ (by omega) (by omega) (by omega)) ?_ (Rp.mono _ (mem_at 0 rfl) hp) ?_
  · exact .le fun a => by (try simp only [setR, List.cons_append, List.nil_append]); simp only [List.flatten_append, List.flatten_cons, List.flatten_nil, List.count_append, List.count_nil, List.append_nil, List.nil_append]; omega
  rintro _ A1 ⟨ps1, tb1, tc1, ci1, ch1, T1, rfl, ⟨hpl1, hps1⟩, hi1, hj1, hP1, ot1⟩
  refine ⟨[curHp _ _ _ _ ci1 ch1, T1], by simpa using hP1, ?_⟩
  exact ⟨_, ⟨_, _, _, rfl, ⟨by assumption, by assumption⟩, by assumption⟩, rle_pick [1] 2 rfl rfl (by decide)⟩

end Go.Proofs.Ytmmmjikanmgpfaa

namespace Go.Proofs.Ytmmmjikanmgpfaa
open Go.SX Go.Proofs
set_option linter.unusedSimpArgs false
set_option linter.unusedVariables false
set_option maxHeartbeats 4000000

--@ct laws.big val big_ct _ _ _ | trivial
theorem big_ct (b : Option Addr) (m c : Nat) : Ct Try.prog 6 [.slice b m c] [] (fun _ => True) (fun v A => v = .bool (decide ((1048576 : Int) < m)) ∧ A = []) := by
  refine Ct.intro0 G_ok Try.func6 rfl rfl rfl fun E H hp => ?_
  exact ⟨[], ⟨rfl, rfl⟩, .tl⟩

theorem take_eq1 {α : Type} {z : α} {xs ys : List α} {k : Nat} (h : xs.length = ys.length) (he : xs.take k = ys.take k) (hk : k < xs.length) (e : xs[k]?.getD z = ys[k]?.getD z) : xs.take (k + 1) = ys.take (k + 1) := by
  rw [List.getElem?_eq_getElem hk, List.getElem?_eq_getElem (by omega)] at e
  rw [← List.take_append_getElem hk, ← List.take_append_getElem (by omega : k < ys.length), he]
  have e' : xs[k] = ys[k]'(by omega) := e
  rw [e']
--@ct laws.sameInts val sameInts_ct _ _ _ _ _ _ $1 $2 | ⟨%1, %2⟩
--@ct laws.sameTexts val sameTexts_ct _ _ _ _ _ _ $1 $2 | ⟨%1, %2⟩
--@ct spec.l08Texts val l08Texts_ct _ _ _ _ _ _ $1 $2 | ⟨%1, %2⟩
--@ct slices.Equal[[]string,string] val equalS_ct _ _ _ _ _ _ $1 $2 | ⟨%1, %2⟩
theorem sameInts_ct (b1 b2 : Option Addr) (m1 c1 m2 c2 : Nat) (xs ys : List Int) :
    Ct Try.prog 10 [.slice b1 m1 c1, .slice b2 m2 c2] [] (fun H => (gSl 3 gI).rd H [.slice b1 m1 c1] xs ∧ (gSl 3 gI).rd H [.slice b2 m2 c2] ys) (fun v A => v = .bool (decide (xs = ys)) ∧ A = []) := by
  refine Ct.intro0 G_ok Try.func10 rfl rfl rfl fun E H ⟨hp, hq⟩ => ?_
  obtain ⟨rfl, _, hl⟩ := sl_len hp
  obtain ⟨rfl, _, hl2⟩ := sl_len hq
  refine VCsplit.intro (fun q0 => ?_) (fun q0 => ?_)
  ·
    simp at q0
    exact ⟨[], ⟨by rw [decide_eq_false]; intro h; subst h; simp at *, rfl⟩, .refl _⟩
  ·
    simp at q0
    apply loop_mod (α := (Nat)) G_ok [11, 12, 13, 14, 17, 18, 19, 20, 21, 22, 23, 24, 25, 4, 15, 16, 5] (fun z => [(5, .v (.int .i64 z))]) (fun z => []) (fun z => [H]) (fun z => xs.length - z) (fun z => z ≤ xs.length ∧ xs.length = ys.length ∧ xs.take z = ys.take z) (0)
    · repeat' (first | exact trivial | refine ⟨⟨_, rfl, by first | rfl | exact inc_eq _ (by omega) | (refine sl_eq ?_; simp; done), by first | exact trivial | simp [SV.ok]⟩, ?_⟩)
    · exact trivial
    · exact ⟨by omega, by omega, rfl⟩
    · exact .refl _
    rintro k hI
    obtain ⟨hk, hxy, he⟩ : k ≤ xs.length ∧ xs.length = ys.length ∧ xs.take k = ys.take k := hI
    try dsimp only
    refine VCsplit.intro (fun q1 => ?_) (fun q1 => ?_)
    ·
      simp at q1
      refine draw G_ok mixed none (.q 0 (.q 1 (.q 2 (.q 3 (.q 4 (.q 5 (.q 6 (.q 7 (.q 8 (.nil)))))))))) (by decide +kernel) ?_
      refine idx_rd hp ?_ ?_ fun b2 o2 hb2 => ?_
      · omega
      · omega
      refine load_allN 0 (k) rfl hp ?_ ?_ hb2 rfl (mem_at 0 rfl) fun l3 hl3 => ?_
      · omega
      · omega
      obtain ⟨rfl, hw3⟩ := hl3; simp only [flStr, flInt, okI] at hw3
      refine idx_rd hq ?_ ?_ fun b4 o4 hb4 => ?_
      · omega
      · omega
      refine load_allN 0 (k) rfl hq ?_ ?_ hb4 rfl (mem_at 0 rfl) fun l5 hl5 => ?_
      · omega
      · omega
      obtain ⟨rfl, hw5⟩ := hl5; simp only [flStr, flInt, okI] at hw5
      refine VCsplit.intro (fun q6 => ?_) (fun q6 => ?_)
      ·
        simp at q6
        exact ⟨[], ⟨by rw [decide_eq_false]; intro h; subst h; simp at *, rfl⟩, .refl _⟩
      ·
        simp at q6
        apply loop_stepA (k + 1)
        · exact .refl _
        · repeat' (first | exact trivial | refine ⟨⟨_, rfl, by first | rfl | exact inc_eq _ (by omega) | (refine sl_eq ?_; simp; done), by first | exact trivial | simp [SV.ok]⟩, ?_⟩)
        · exact trivial
        · exact ⟨by omega, by omega, take_eq1 hxy he (by omega) (by assumption)⟩
        · omega
    ·
      simp at q1
      exact ⟨[], ⟨by rw [decide_eq_true]; rw [List.take_of_length_le (by omega), List.take_of_length_le (by omega)] at he; exact he, rfl⟩, .refl _⟩

theorem sameTexts_ct (b1 b2 : Option Addr) (m1 c1 m2 c2 : Nat) (xs ys : List ByteArray) :
    Ct Try.prog 11 [.slice b1 m1 c1, .slice b2 m2 c2] [] (fun H => (gSl 9 gS).rd H [.slice b1 m1 c1] xs ∧ (gSl 9 gS).rd H [.slice b2 m2 c2] ys) (fun v A => v = .bool (decide (xs = ys)) ∧ A = []) := by
  refine Ct.intro0 G_ok Try.func11 rfl rfl rfl fun E H ⟨hp, hq⟩ => ?_
  obtain ⟨rfl, _, hl⟩ := sl_len hp
  obtain ⟨rfl, _, hl2⟩ := sl_len hq
  refine VCsplit.intro (fun q0 => ?_) (fun q0 => ?_)
  ·
    simp at q0
    exact ⟨[], ⟨by rw [decide_eq_false]; intro h; subst h; simp at *, rfl⟩, .refl _⟩
  ·
    simp at q0
    apply loop_mod (α := (Nat)) G_ok [11, 12, 13, 14, 17, 18, 19, 20, 21, 22, 23, 24, 25, 4, 15, 16, 5] (fun z => [(5, .v (.int .i64 z))]) (fun z => []) (fun z => [H]) (fun z => xs.length - z) (fun z => z ≤ xs.length ∧ xs.length = ys.length ∧ xs.take z = ys.take z) (0)
    · repeat' (first | exact trivial | refine ⟨⟨_, rfl, by first | rfl | exact inc_eq _ (by omega) | (refine sl_eq ?_; simp; done), by first | exact trivial | simp [SV.ok]⟩, ?_⟩)
    · exact trivial
    · exact ⟨by omega, by omega, rfl⟩
    · exact .refl _
    rintro k hI
    obtain ⟨hk, hxy, he⟩ : k ≤ xs.length ∧ xs.length = ys.length ∧ xs.take k = ys.take k := hI
    try dsimp only
    refine VCsplit.intro (fun q1 => ?_) (fun q1 => ?_)
    ·
      simp at q1
      refine draw G_ok mixed none (.q 0 (.q 1 (.q 2 (.q 3 (.q 4 (.q 5 (.q 6 (.q 7 (.q 8 (.nil)))))))))) (by decide +kernel) ?_
      refine idx_rd hp ?_ ?_ fun b2 o2 hb2 => ?_
      · omega
      · omega
      refine load_allN ByteArray.empty (k) rfl hp ?_ ?_ hb2 rfl (mem_at 0 rfl) fun l3 hl3 => ?_
      · omega
      · omega
      obtain ⟨rfl, hw3⟩ := hl3; simp only [flStr, flInt, okI] at hw3
      refine idx_rd hq ?_ ?_ fun b4 o4 hb4 => ?_
      · omega
      · omega
      refine load_allN ByteArray.empty (k) rfl hq ?_ ?_ hb4 rfl (mem_at 0 rfl) fun l5 hl5 => ?_
      · omega
      · omega
      obtain ⟨rfl, hw5⟩ := hl5; simp only [flStr, flInt, okI] at hw5
      refine VCsplit.intro (fun q6 => ?_) (fun q6 => ?_)
      ·
        simp at q6
        simp only [str_inj, u8_inj, u8_wrap] at q6
        exact ⟨[], ⟨by rw [decide_eq_false]; intro h; subst h; simp at *, rfl⟩, .refl _⟩
      ·
        simp at q6
        simp only [str_inj, u8_inj, u8_wrap] at q6
        apply loop_stepA (k + 1)
        · exact .refl _
        · repeat' (first | exact trivial | refine ⟨⟨_, rfl, by first | rfl | exact inc_eq _ (by omega) | (refine sl_eq ?_; simp; done), by first | exact trivial | simp [SV.ok]⟩, ?_⟩)
        · exact trivial
        · exact ⟨by omega, by omega, take_eq1 hxy he (by omega) (by assumption)⟩
        · omega
    ·
      simp at q1
      exact ⟨[], ⟨by rw [decide_eq_true]; rw [List.take_of_length_le (by omega), List.take_of_length_le (by omega)] at he; exact he, rfl⟩, .refl _⟩

theorem l08Texts_ct (b1 b2 : Option Addr) (m1 c1 m2 c2 : Nat) (xs ys : List ByteArray) :
    Ct Try.prog 36 [.slice b1 m1 c1, .slice b2 m2 c2] [] (fun H => (gSl 9 gS).rd H [.slice b1 m1 c1] xs ∧ (gSl 9 gS).rd H [.slice b2 m2 c2] ys) (fun v A => v = .bool (decide (xs = ys)) ∧ A = []) := by
  refine Ct.intro0 G_ok Try.func36 rfl rfl rfl fun E H ⟨hp, hq⟩ => ?_
  obtain ⟨rfl, _, hl⟩ := sl_len hp
  obtain ⟨rfl, _, hl2⟩ := sl_len hq
  refine VCsplit.intro (fun q0 => ?_) (fun q0 => ?_)
  ·
    simp at q0
    exact ⟨[], ⟨by rw [decide_eq_false]; intro h; subst h; simp at *, rfl⟩, .refl _⟩
  ·
    simp at q0
    apply loop_mod (α := (Nat)) G_ok [11, 12, 13, 14, 17, 18, 19, 20, 21, 22, 23, 24, 25, 4, 15, 16, 5] (fun z => [(5, .v (.int .i64 z))]) (fun z => []) (fun z => [H]) (fun z => xs.length - z) (fun z => z ≤ xs.length ∧ xs.length = ys.length ∧ xs.take z = ys.take z) (0)
    · repeat' (first | exact trivial | refine ⟨⟨_, rfl, by first | rfl | exact inc_eq _ (by omega) | (refine sl_eq ?_; simp; done), by first | exact trivial | simp [SV.ok]⟩, ?_⟩)
    · exact trivial
    · exact ⟨by omega, by omega, rfl⟩
    · exact .refl _
    rintro k hI
    obtain ⟨hk, hxy, he⟩ : k ≤ xs.length ∧ xs.length = ys.length ∧ xs.take k = ys.take k := hI
    try dsimp only
    refine VCsplit.intro (fun q1 => ?_) (fun q1 => ?_)
    ·
      simp at q1
      refine draw G_ok mixed none (.q 0 (.q 1 (.q 2 (.q 3 (.q 4 (.q 5 (.q 6 (.q 7 (.q 8 (.nil)))))))))) (by decide +kernel) ?_
      refine idx_rd hp ?_ ?_ fun b2 o2 hb2 => ?_
      · omega
      · omega
      refine load_allN ByteArray.empty (k) rfl hp ?_ ?_ hb2 rfl (mem_at 0 rfl) fun l3 hl3 => ?_
      · omega
      · omega
      obtain ⟨rfl, hw3⟩ := hl3; simp only [flStr, flInt, okI] at hw3
      refine idx_rd hq ?_ ?_ fun b4 o4 hb4 => ?_
      · omega
      · omega
      refine load_allN ByteArray.empty (k) rfl hq ?_ ?_ hb4 rfl (mem_at 0 rfl) fun l5 hl5 => ?_
      · omega
      · omega
      obtain ⟨rfl, hw5⟩ := hl5; simp only [flStr, flInt, okI] at hw5
      refine VCsplit.intro (fun q6 => ?_) (fun q6 => ?_)
      ·
        simp at q6
        simp only [str_inj, u8_inj, u8_wrap] at q6
        exact ⟨[], ⟨by rw [decide_eq_false]; intro h; subst h; simp at *, rfl⟩, .refl _⟩
      ·
        simp at q6
        simp only [str_inj, u8_inj, u8_wrap] at q6
        apply loop_stepA (k + 1)
        · exact .refl _
        · repeat' (first | exact trivial | refine ⟨⟨_, rfl, by first | rfl | exact inc_eq _ (by omega) | (refine sl_eq ?_; simp; done), by first | exact trivial | simp [SV.ok]⟩, ?_⟩)
        · exact trivial
        · exact ⟨by omega, by omega, take_eq1 hxy he (by omega) (by assumption)⟩
        · omega
    ·
      simp at q1
      exact ⟨[], ⟨by rw [decide_eq_true]; rw [List.take_of_length_le (by omega), List.take_of_length_le (by omega)] at he; exact he, rfl⟩, .refl _⟩

theorem equalS_ct (b1 b2 : Option Addr) (m1 c1 m2 c2 : Nat) (xs ys : List ByteArray) :
    Ct Try.prog 35 [.slice b1 m1 c1, .slice b2 m2 c2] [] (fun H => (gSl 9 gS).rd H [.slice b1 m1 c1] xs ∧ (gSl 9 gS).rd H [.slice b2 m2 c2] ys) (fun v A => v = .bool (decide (xs = ys)) ∧ A = []) := by
  refine Ct.intro0 G_ok Try.func35 rfl rfl rfl fun E H ⟨hp, hq⟩ => ?_
  obtain ⟨rfl, _, hl⟩ := sl_len hp
  obtain ⟨rfl, _, hl2⟩ := sl_len hq
  refine VCsplit.intro (fun q0 => ?_) (fun q0 => ?_)
  ·
    simp at q0
    exact ⟨[], ⟨by rw [decide_eq_false]; intro h; subst h; simp at *, rfl⟩, .refl _⟩
  ·
    simp at q0
    apply loop_mod (α := (Nat)) G_ok [14, 15, 5, 16, 17, 18, 19, 20, 21, 22, 23, 24, 4, 25, 13] (fun z => [(13, .v (.int .i64 z))]) (fun z => []) (fun z => [H]) (fun z => xs.length - z) (fun z => z ≤ xs.length ∧ xs.length = ys.length ∧ xs.take z = ys.take z) (0)
    · repeat' (first | exact trivial | refine ⟨⟨_, rfl, by first | rfl | exact inc_eq _ (by omega) | (refine sl_eq ?_; simp; done), by first | exact trivial | simp [SV.ok]⟩, ?_⟩)
    · exact trivial
    · exact ⟨by omega, by omega, rfl⟩
    · exact .refl _
    rintro k hI
    obtain ⟨hk, hxy, he⟩ : k ≤ xs.length ∧ xs.length = ys.length ∧ xs.take k = ys.take k := hI
    try dsimp only
    refine VCsplit.intro (fun q1 => ?_) (fun q1 => ?_)
    ·
      simp at q1
      refine draw G_ok mixed none (.q 0 (.q 1 (.q 2 (.q 3 (.q 4 (.q 5 (.q 6 (.q 7 (.q 8 (.nil)))))))))) (by decide +kernel) ?_
      refine idx_rd hp ?_ ?_ fun b2 o2 hb2 => ?_
      · omega
      · omega
      refine load_allN ByteArray.empty (k) rfl hp ?_ ?_ hb2 rfl (mem_at 0 rfl) fun l3 hl3 => ?_
      · omega
      · omega
      obtain ⟨rfl, hw3⟩ := hl3; simp only [flStr, flInt, okI] at hw3
      refine idx_rd hq ?_ ?_ fun b4 o4 hb4 => ?_
      · omega
      · omega
      refine load_allN ByteArray.empty (k) rfl hq ?_ ?_ hb4 rfl (mem_at 0 rfl) fun l5 hl5 => ?_
      · omega
      · omega
      obtain ⟨rfl, hw5⟩ := hl5; simp only [flStr, flInt, okI] at hw5
      refine VCsplit.intro (fun q6 => ?_) (fun q6 => ?_)
      ·
        simp at q6
        simp only [str_inj, u8_inj, u8_wrap] at q6
        exact ⟨[], ⟨by rw [decide_eq_false]; intro h; subst h; simp at *, rfl⟩, .refl _⟩
      ·
        simp at q6
        simp only [str_inj, u8_inj, u8_wrap] at q6
        apply loop_stepA (k + 1)
        · exact .refl _
        · repeat' (first | exact trivial | refine ⟨⟨_, rfl, by first | rfl | exact inc_eq _ (by omega) | (refine sl_eq ?_; simp; done), by first | exact trivial | simp [SV.ok]⟩, ?_⟩)
        · exact trivial
        · exact ⟨by omega, by omega, take_eq1 hxy he (by omega) (by assumption)⟩
        · omega
    ·
      simp at q1
      exact ⟨[], ⟨by rw [decide_eq_true]; rw [List.take_of_length_le (by omega), List.take_of_length_le (by omega)] at he; exact he, rfl⟩, .refl _⟩


end Go.Proofs.Ytmmmjikanmgpfaa

namespace Go.Proofs.Ytmmmjikanmgpfaa
open Go.SX Go.Proofs
set_option linter.unusedSimpArgs false
set_option linter.unusedVariables false
set_option maxHeartbeats 4000000

def rightP (p : Pair) (i : Nat) : Prop :=
  ((p.heard[i]?.getD []).length : Int) = (p.ends[i]?.getD default).took ∧ (p.heard[i]?.getD []).length ≤ (p.ends[1 - i]?.getD default).sent.length ∧ (p.ends[1 - i]?.getD default).acked ≤ ((p.heard[i]?.getD []).length : Int) ∧
    p.heard[i]?.getD [] = (p.ends[1 - i]?.getD default).sent.take (p.heard[i]?.getD []).length
instance (p : Pair) (i : Nat) : Decidable (rightP p i) := by unfold rightP; infer_instance
def rightM (p : Pair) : Bool := decide ((p.ends.length = 2 ∧ p.heard.length = 2) ∧ rightP p 0 ∧ rightP p 1)
theorem right_no {p : Pair} {k : Nat} (hk : k < 2) (h : ¬ rightP p k) : rightM p = false := decide_eq_false fun hh => by
  rcases (by omega : k = 0 ∨ k = 1) with rfl | rfl
  · exact h hh.2.1
  · exact h hh.2.2
theorem right_no2 {p : Pair} (h : ¬ (p.ends.length = 2 ∧ p.heard.length = 2)) : rightM p = false := decide_eq_false fun hh => h hh.1
theorem right_yes {p : Pair} (h : p.ends.length = 2 ∧ p.heard.length = 2) (h2 : ∀ j, j < 2 → rightP p j) : rightM p = true := decide_eq_true ⟨h, h2 0 (by omega), h2 1 (by omega)⟩
theorem all_next {P : Nat → Prop} {k : Nat} (h : ∀ j, j < k → P j) (h2 : P k) : ∀ j, j < k + 1 → P j := fun j hj => by
  rcases Nat.lt_succ_iff_lt_or_eq.1 hj with h3 | rfl
  · exact h j h3
  · exact h2

--@ct impl.isPair val isPair_ct _ $1 | %1
theorem isPair_ct (l : List Value) (p : Pair) : Ct Try.prog 34 [.agg ⟨l⟩] [] (fun H => gPair.rd H l p) (fun v A => v = .bool (decide (p.ends.length = 2 ∧ p.heard.length = 2)) ∧ A = []) := by
  refine Ct.intro0 G_ok Try.func34 rfl rfl rfl fun E H hp => ?_
  obtain ⟨b0p, c0p, b1p, c1p, b2p, c2p, b3p, c3p, rfl, h0p, h1p, h2p, h3p⟩ := gPair_rd.1 hp
  refine VCnew.intro fun x0 => ?_
  refine VCsplit.intro (fun q1 => ?_) (fun q1 => ?_)
  ·
    simp at q1
    exact ⟨[], ⟨congrArg Value.bool (by rw [Bool.eq_iff_iff]; simp; omega), rfl⟩, (.le fun a => by (try simp only [setR, List.cons_append, List.nil_append]); simp [List.count_cons, Blk.ent, idOf]; try omega)⟩
  ·
    simp at q1
    exact ⟨[], ⟨by rw [decide_eq_false (by omega)], rfl⟩, (.le fun a => by (try simp only [setR, List.cons_append, List.nil_append]); simp [List.count_cons, Blk.ent, idOf]; try omega)⟩

--@ct impl.PairRight val implPairRight_ct _ $1 | %1
theorem implPairRight_ct (l : List Value) (p : Pair) : Ct Try.prog 12 [.agg ⟨l⟩] [] (fun H => gPair.rd H l p) (fun v A => v = .bool (rightM p) ∧ A = []) := by
  refine Ct.intro0 G_ok Try.func12 rfl rfl rfl fun E H hp => ?_
  obtain ⟨b0p, c0p, b1p, c1p, b2p, c2p, b3p, c3p, rfl, h0p, h1p, h2p, h3p⟩ := gPair_rd.1 hp
  refine VCnew.intro fun x0 => ?_
  refine call_val (isPair_ct _ (p)) (Rp.mono _ (mem_at 0 rfl) hp) ?_
  rintro _ rfl
  refine VCsplit.intro (fun q2 => ?_) (fun q2 => ?_)
  ·
    simp at q2
    exact ⟨[], ⟨by rw [right_no2 (by omega)], rfl⟩, (.le fun a => by (try simp only [setR, List.cons_append, List.nil_append]); simp [List.count_cons, Blk.ent, idOf]; try omega)⟩
  ·
    simp at q2
    apply loop_mod (α := (Nat)) G_ok [14, 15, 16, 17, 3, 4, 18, 19, 20, 21, 22, 23, 5, 24, 25, 26, 27, 28, 29, 6, 30, 31, 32, 33, 34, 35, 36, 37, 38, 39, 40, 41, 42, 43, 44, 45, 46, 2, 47, 48, 49, 50, 51, 52, 53, 54, 13] (fun z => [(13, .v (.int .i64 z))]) (fun z => [{ id := x0, cs := [Value.slice b0p p.ends.length c0p, Value.slice b1p p.net.length c1p, Value.slice b2p p.heard.length c2p, Value.slice b3p p.codes.length c3p], ty := (31 : Nat) }]) (fun z => [H]) (fun z => p.heard.length - z) (fun z => (z ≤ p.heard.length ∧ p.ends.length = 2 ∧ p.heard.length = 2) ∧ ∀ j, j < z → rightP p j) (0)
    · repeat' (first | exact trivial | refine ⟨⟨_, rfl, by first | rfl | exact inc_eq _ (by omega) | (refine sl_eq ?_; simp; done), by first | exact trivial | simp [SV.ok]⟩, ?_⟩)
    · exact ⟨rfl, trivial⟩
    · simp_all
    · exact .refl _
    rintro k hI
    obtain ⟨⟨hk, h2e, h2h⟩, hr⟩ : (k ≤ p.heard.length ∧ p.ends.length = 2 ∧ p.heard.length = 2) ∧ ∀ j, j < k → rightP p j := hI
    try dsimp only
    refine VCsplit.intro (fun q3 => ?_) (fun q3 => ?_)
    ·
      simp at q3
      have hw9 : (IntKind.i64.wrap (1 - (k : Int))).toNat = 1 - k := (by rw [wrap_of (by omega) (by omega)]; omega)
      have hi9 : (p.ends[(IntKind.i64.wrap (1 - (k : Int))).toNat]?.getD default) = p.ends[1 - k]?.getD default := (by rw [hw9])
      have hi8 : (p.ends[(1 - (k : Int)).toNat]?.getD default) = p.ends[1 - k]?.getD default := (by rw [show (1 - (k : Int)).toNat = 1 - k by omega])
      refine idx_rd h2p ?_ ?_ fun b4 o4 hb4 => ?_
      · omega
      · omega
      refine load_allN [] (k) rfl h2p ?_ ?_ hb4 rfl (mem_at 0 rfl) fun l5 hl5 => ?_
      · omega
      · omega
      obtain ⟨u5, w5, rfl, hl5⟩ := sl_rd hl5
      refine idx_rd h0p ?_ ?_ fun b6 o6 hb6 => ?_
      · (simp (disch := omega) only [wrap_of]; omega)
      · (simp (disch := omega) only [wrap_of]; omega)
      refine load_all default h0p ?_ ?_ hb6 rfl (mem_at 0 rfl) fun l7 hl7 => ?_
      · (simp (disch := omega) only [wrap_of]; omega)
      · (simp (disch := omega) only [wrap_of]; omega)
      obtain ⟨b0x7, c0x7, rfl, h0x7, w1x7, w2x7⟩ := gLink_rd.1 hl7
      refine VCnew.intro fun x8 => ?_
      refine idx_rd h0p ?_ ?_ fun b9 o9 hb9 => ?_
      · omega
      · omega
      refine load_partN default (k) 2 rfl h0p ?_ ?_ hb9 rfl (by decide) (mem_at 0 rfl) fun l10 hl10 => ?_
      · omega
      · omega
      obtain ⟨b0x10, c0x10, rfl, h0x10, w1x10, w2x10⟩ := gLink_rd.1 hl10
      refine VCsplit.intro (fun q11 => ?_) (fun q11 => ?_)
      ·
        simp at q11
        exact ⟨[], ⟨by rw [right_no (k := k) (by omega) (fun ⟨h1, h2, h3, h4⟩ => by rw [← hi8] at h2 h3; omega)], rfl⟩, (.le fun a => by (try simp only [setR, List.cons_append, List.nil_append]); simp [List.count_cons, Blk.ent, idOf]; try omega)⟩
      ·
        simp at q11
        refine VCsplit.intro (fun q12 => ?_) (fun q12 => ?_)
        ·
          simp at q12
          simp (disch := omega) only [wrap_of] at q12
          exact ⟨[], ⟨by rw [right_no (k := k) (by omega) (fun ⟨h1, h2, h3, h4⟩ => by rw [← hi8] at h2 h3; omega)], rfl⟩, (.le fun a => by (try simp only [setR, List.cons_append, List.nil_append]); simp [List.count_cons, Blk.ent, idOf]; try omega)⟩
        ·
          simp at q12
          simp (disch := omega) only [wrap_of] at q12
          refine VCsplit.intro (fun q13 => ?_) (fun q13 => ?_)
          ·
            simp at q13
            simp (disch := omega) only [wrap_of] at q13
            exact ⟨[], ⟨by rw [right_no (k := k) (by omega) (fun ⟨h1, h2, h3, h4⟩ => by rw [← hi8] at h2 h3; omega)], rfl⟩, (.le fun a => by (try simp only [setR, List.cons_append, List.nil_append]); simp [List.count_cons, Blk.ent, idOf]; try omega)⟩
          ·
            simp at q13
            simp (disch := omega) only [wrap_of] at q13
            have hcc := (sl_len h0x7).2.1
            have hq9 : (p.ends[k]?.getD default).took ≤ ((p.ends[(IntKind.i64.wrap (1 - (k : Int))).toNat]?.getD default).sent.length : Int) := (by rw [hi9, ← hi8]; omega)
            refine VC.intro ?_ ?_
            · omega
            refine call_val (equalS_ct _ _ _ _ _ _ _ (((p.ends[(IntKind.i64.wrap (1 - (k : Int))).toNat]?.getD default).sent.take (p.ends[k]?.getD default).took.toNat).drop 0)) ⟨(Rp.mono _ (mem_at 0 rfl) hl5), Rp.mono _ (mem_at 0 rfl) (rd_sub (r := gS.toRp) h0x7 (by omega) (by omega) (by omega))⟩ ?_
            rintro _ rfl
            refine VCsplit.intro (fun q15 => ?_) (fun q15 => ?_)
            ·
              simp at q15
              simp (disch := omega) only [wrap_of] at q15
              exact ⟨[], ⟨by rw [right_no (k := k) (by omega) (fun ⟨h1, h2, h3, h4⟩ => by rw [← hi8, show (p.heard[k]?.getD []).length = (p.ends[k]?.getD default).took.toNat by omega] at h4; exact absurd h4 (by assumption))], rfl⟩, (.le fun a => by (try simp only [setR, List.cons_append, List.nil_append]); simp [List.count_cons, Blk.ent, idOf]; try omega)⟩
            ·
              simp at q15
              simp (disch := omega) only [wrap_of] at q15
              apply loop_stepA (k + 1)
              · exact .refl _
              · repeat' (first | exact trivial | refine ⟨⟨_, rfl, by first | rfl | exact inc_eq _ (by omega) | (refine sl_eq ?_; simp; done), by first | exact trivial | simp [SV.ok]⟩, ?_⟩)
              · exact ⟨rfl, trivial⟩
              · exact ⟨⟨by omega, h2e, h2h⟩, all_next hr (by unfold rightP; refine ⟨by omega, by rw [← hi8]; omega, by rw [← hi8]; omega, by rw [← hi8, show (p.heard[k]?.getD []).length = (p.ends[k]?.getD default).took.toNat by omega]; assumption⟩)⟩
              · omega
    ·
      simp at q3
      exact ⟨[], ⟨by rw [right_yes ⟨h2e, h2h⟩ fun j hj => hr j (by omega)], rfl⟩, (.le fun a => by (try simp only [setR, List.cons_append, List.nil_append]); simp [List.count_cons, Blk.ent, idOf]; try omega)⟩

--@ct spec.PairRight val specPairRight_ct _ $1 | %1
theorem specPairRight_ct (l : List Value) (p : Pair) : Ct Try.prog 13 [.agg ⟨l⟩] [] (fun H => gPair.rd H l p) (fun v A => v = .bool (rightM p) ∧ A = []) := by
  refine Ct.intro0 G_ok Try.func13 rfl rfl rfl fun E H hp => ?_
  obtain ⟨b0p, c0p, b1p, c1p, b2p, c2p, b3p, c3p, rfl, h0p, h1p, h2p, h3p⟩ := gPair_rd.1 hp
  refine VCnew.intro fun x0 => ?_
  refine VCsplit.intro (fun q1 => ?_) (fun q1 => ?_)
  ·
    simp at q1
    exact ⟨[], ⟨by rw [right_no2 (by omega)], rfl⟩, (.le fun a => by (try simp only [setR, List.cons_append, List.nil_append]); simp [List.count_cons, Blk.ent, idOf]; try omega)⟩
  ·
    simp at q1
    refine VCsplit.intro (fun q2 => ?_) (fun q2 => ?_)
    ·
      simp at q2
      exact ⟨[], ⟨by rw [right_no2 (by omega)], rfl⟩, (.le fun a => by (try simp only [setR, List.cons_append, List.nil_append]); simp [List.count_cons, Blk.ent, idOf]; try omega)⟩
    ·
      simp at q2
      apply loop_mod (α := (Nat)) G_ok [16, 17, 20, 21, 22, 23, 24, 4, 25, 26, 27, 28, 29, 30, 31, 5, 32, 33, 34, 35, 36, 37, 38, 39, 40, 41, 42, 43, 44, 45, 46, 47, 48, 49, 50, 51, 52, 53, 54, 55, 56, 57, 58, 59, 60, 61, 62, 63, 64, 65, 66, 67, 68, 2, 18, 19, 3] (fun z => [(3, .v (.int .i64 z))]) (fun z => [{ id := x0, cs := [Value.slice b0p p.ends.length c0p, Value.slice b1p p.net.length c1p, Value.slice b2p p.heard.length c2p, Value.slice b3p p.codes.length c3p], ty := (31 : Nat) }]) (fun z => [H]) (fun z => 2 - z) (fun z => (z ≤ 2 ∧ p.ends.length = 2 ∧ p.heard.length = 2) ∧ ∀ j, j < z → rightP p j) (0)
      · repeat' (first | exact trivial | refine ⟨⟨_, rfl, by first | rfl | exact inc_eq _ (by omega) | (refine sl_eq ?_; simp; done), by first | exact trivial | simp [SV.ok]⟩, ?_⟩)
      · exact ⟨rfl, trivial⟩
      · grind
      · exact .refl _
      rintro k hI
      obtain ⟨⟨hk, h2e, h2h⟩, hr⟩ : (k ≤ 2 ∧ p.ends.length = 2 ∧ p.heard.length = 2) ∧ ∀ j, j < k → rightP p j := hI
      try dsimp only
      refine VCsplit.intro (fun q3 => ?_) (fun q3 => ?_)
      ·
        simp at q3
        have hw9 : (IntKind.i64.wrap (1 - (k : Int))).toNat = 1 - k := (by rw [wrap_of (by omega) (by omega)]; omega)
        have hi9 : (p.ends[(IntKind.i64.wrap (1 - (k : Int))).toNat]?.getD default) = p.ends[1 - k]?.getD default := (by rw [hw9])
        have hi8 : (p.ends[(1 - (k : Int)).toNat]?.getD default) = p.ends[1 - k]?.getD default := (by rw [show (1 - (k : Int)).toNat = 1 - k by omega])
        refine idx_rd h2p ?_ ?_ fun b4 o4 hb4 => ?_
        · omega
        · omega
        refine load_allN [] (k) rfl h2p ?_ ?_ hb4 rfl (mem_at 0 rfl) fun l5 hl5 => ?_
        · omega
        · omega
        obtain ⟨u5, w5, rfl, hl5⟩ := sl_rd hl5
        refine idx_rd h0p ?_ ?_ fun b6 o6 hb6 => ?_
        · (simp (disch := omega) only [wrap_of]; omega)
        · (simp (disch := omega) only [wrap_of]; omega)
        refine load_part default 0 h0p ?_ ?_ hb6 rfl (by decide) (mem_at 0 rfl) fun l7 hl7 => ?_
        · (simp (disch := omega) only [wrap_of]; omega)
        · (simp (disch := omega) only [wrap_of]; omega)
        obtain ⟨b0x7, c0x7, rfl, h0x7, w1x7, w2x7⟩ := gLink_rd.1 hl7
        refine idx_rd h0p ?_ ?_ fun b8 o8 hb8 => ?_
        · omega
        · omega
        refine load_partN default (k) 2 rfl h0p ?_ ?_ hb8 rfl (by decide) (mem_at 0 rfl) fun l9 hl9 => ?_
        · omega
        · omega
        obtain ⟨b0x9, c0x9, rfl, h0x9, w1x9, w2x9⟩ := gLink_rd.1 hl9
        refine VCsplit.intro (fun q10 => ?_) (fun q10 => ?_)
        ·
          simp at q10
          exact ⟨[], ⟨by rw [right_no (k := k) (by omega) (fun ⟨h1, h2, h3, h4⟩ => by rw [← hi8] at h2 h3; omega)], rfl⟩, (.le fun a => by (try simp only [setR, List.cons_append, List.nil_append]); simp [List.count_cons, Blk.ent, idOf]; try omega)⟩
        ·
          simp at q10
          refine VCsplit.intro (fun q11 => ?_) (fun q11 => ?_)
          ·
            simp at q11
            simp (disch := omega) only [wrap_of] at q11
            exact ⟨[], ⟨by rw [right_no (k := k) (by omega) (fun ⟨h1, h2, h3, h4⟩ => by rw [← hi8] at h2 h3; omega)], rfl⟩, (.le fun a => by (try simp only [setR, List.cons_append, List.nil_append]); simp [List.count_cons, Blk.ent, idOf]; try omega)⟩
          ·
            simp at q11
            simp (disch := omega) only [wrap_of] at q11
            have hcc := (sl_len h0x7).2.1
            have hq9 : (p.heard[k]?.getD []).length ≤ (p.ends[(IntKind.i64.wrap (1 - (k : Int))).toNat]?.getD default).sent.length := (by rw [hi9, ← hi8]; omega)
            refine VC.intro ?_ ?_
            · omega
            refine call_val (l08Texts_ct _ _ _ _ _ _ _ (((p.ends[(IntKind.i64.wrap (1 - (k : Int))).toNat]?.getD default).sent.take (((p.heard[k]?.getD []).length : Nat) : Int).toNat).drop 0)) ⟨(Rp.mono _ (mem_at 0 rfl) hl5), Rp.mono _ (mem_at 0 rfl) (rd_sub (r := gS.toRp) h0x7 (by omega) (by omega) (by omega))⟩ ?_
            rintro _ rfl
            refine VCsplit.intro (fun q13 => ?_) (fun q13 => ?_)
            ·
              simp at q13
              simp (disch := omega) only [wrap_of] at q13
              exact ⟨[], ⟨by rw [right_no (k := k) (by omega) (fun ⟨h1, h2, h3, h4⟩ => by rw [← hi8] at h4; exact absurd h4 (by assumption))], rfl⟩, (.le fun a => by (try simp only [setR, List.cons_append, List.nil_append]); simp [List.count_cons, Blk.ent, idOf]; try omega)⟩
            ·
              simp at q13
              simp (disch := omega) only [wrap_of] at q13
              refine idx_rd h0p ?_ ?_ fun b14 o14 hb14 => ?_
              · (simp (disch := omega) only [wrap_of]; omega)
              · (simp (disch := omega) only [wrap_of]; omega)
              refine load_part default 1 h0p ?_ ?_ hb14 rfl (by decide) (mem_at 0 rfl) fun l15 hl15 => ?_
              · (simp (disch := omega) only [wrap_of]; omega)
              · (simp (disch := omega) only [wrap_of]; omega)
              obtain ⟨b0x15, c0x15, rfl, h0x15, w1x15, w2x15⟩ := gLink_rd.1 hl15
              refine VCsplit.intro (fun q16 => ?_) (fun q16 => ?_)
              ·
                simp at q16
                simp (disch := omega) only [wrap_of] at q16
                exact ⟨[], ⟨by rw [right_no (k := k) (by omega) (fun ⟨h1, h2, h3, h4⟩ => by rw [← hi8] at h2 h3; omega)], rfl⟩, (.le fun a => by (try simp only [setR, List.cons_append, List.nil_append]); simp [List.count_cons, Blk.ent, idOf]; try omega)⟩
              ·
                simp at q16
                simp (disch := omega) only [wrap_of] at q16
                apply loop_stepA (k + 1)
                · exact .refl _
                · repeat' (first | exact trivial | refine ⟨⟨_, rfl, by first | rfl | exact inc_eq _ (by omega) | (refine sl_eq ?_; simp; done), by first | exact trivial | simp [SV.ok]⟩, ?_⟩)
                · exact ⟨rfl, trivial⟩
                · exact ⟨⟨by omega, h2e, h2h⟩, all_next hr (by unfold rightP; refine ⟨by omega, by rw [← hi8]; omega, by rw [← hi8]; omega, by rw [← hi8]; assumption⟩)⟩
                · omega
      ·
        simp at q3
        exact ⟨[], ⟨by rw [right_yes ⟨h2e, h2h⟩ fun j hj => hr j (by omega)], rfl⟩, (.le fun a => by (try simp only [setR, List.cons_append, List.nil_append]); simp [List.count_cons, Blk.ent, idOf]; try omega)⟩

end Go.Proofs.Ytmmmjikanmgpfaa

namespace Go.Proofs.Ytmmmjikanmgpfaa
open Go.SX Go.Proofs
set_option linter.unusedSimpArgs false
set_option linter.unusedVariables false
set_option maxHeartbeats 4000000

theorem okK_of {ps : List Push} (h : ∀ x ∈ ps, pushOk x = true) : okK ps ps.length := fun i hi => by
  rw [List.getElem?_eq_getElem hi]; exact h _ (List.getElem_mem hi)
theorem runOk_drawn {ps : List Push} (h : ps.length ≤ 85 ∧ ∀ x ∈ ps, pushOk x = true) : runOk ps = true ∧ runR ps = runK ps ps.length := runOk_yes (by omega) (okK_of h.2)
theorem runOk_more (ps : List Push) : runOk (ps ++ [⟨0, 0, 0, .empty⟩]) = false := (runOk_no fun h => by
  have h1 := h.2 ps.length (by simp)
  rw [List.getElem?_append_right (Nat.le_refl _), Nat.sub_self] at h1
  exact absurd h1 (by decide)).1
theorem inv_right {p : Pair} (hI : Inv readPack p) : rightM p = true := right_yes ⟨hI.two, hI.two'⟩ fun j hj => by
  have h1 : p.heard[j]?.getD [] = _ := hI.heardIs j hj
  have h2 := hI.tookLe j hj
  have h3 := hI.ackLe j hj
  have h4 := linkOk_iff.1 (hI.ok j hj)
  have e1 : endOf p (1 - j) = p.ends[1 - j]?.getD default := rfl
  have e2 : endOf p j = p.ends[j]?.getD default := rfl
  have hl : (p.heard[j]?.getD []).length = (endOf p j).took.toNat := by rw [h1, List.length_take]; omega
  have h0 : 0 ≤ (endOf p j).took := by omega
  unfold rightP
  rw [← e1, ← e2]
  refine ⟨by omega, by omega, by omega, ?_⟩
  rw [hl]; exact h1
theorem fnPairs_ct (v : Value) :
    Ct Try.prog 3 [v] [] (fun H => ∃ xs, rdV false (rpSl flByte.rp) H v xs) (fun v A => v = .bool true ∧ A = []) := by
  refine Ct.intro0 G_ok Try.func3 rfl rfl rfl fun E H hp => ?_
  obtain ⟨xs, hp⟩ := hp
  obtain ⟨b, c, e, hl1, hl2⟩ := id hp
  cases e
  have hp : (rpSl flByte.rp).rd H [.slice b xs.length c] xs := hp
  have rz9 : gPush.rd [] [.int .i64 0, .int .i64 0, .int .i64 0, .string ByteArray.empty] ⟨0, 0, 0, .empty⟩ := gPush_rd.2 ⟨rfl, by unfold okI; decide, by unfold okI; decide, by unfold okI; decide, by decide⟩
  refine call_val (big_ct _ _ _) trivial ?_
  rintro _ rfl
  refine VCsplit.intro (fun q1 => ?_) (fun q1 => ?_)
  ·
    simp at q1
    exact ⟨[], ⟨rfl, rfl⟩, (.le fun a => by (try simp only [setR, List.cons_append, List.nil_append]); simp only [List.flatten_append, List.flatten_cons, List.flatten_nil, List.count_append, List.count_nil, List.append_nil, List.nil_append]; omega)⟩
  ·
    simp at q1
    refine call_new (DrawPushes_ct _ _ _ _) (Rp.mono _ (mem_at 0 rfl) hp) ?_
    rintro v2 A2 o2
    obtain ⟨ps2, tb2, tc2, rfl, ⟨hpl2, hps2⟩, ot2⟩ := o2
    refine call_new (implRunPair_ct _ _ _) (Rp.mono _ (mem_at 0 rfl) (Gt.owrd _ ot2)) ?_
    rintro v3 A3 o3
    obtain ⟨l3, rfl, o3⟩ := o3
    have r3 := Gt.owrd _ o3
    obtain ⟨b0x3, c0x3, b1x3, c1x3, b2x3, c2x3, b3x3, c3x3, rfl, h0x3, h1x3, h2x3, h3x3⟩ := gPair_rd.1 r3
    refine VCnew.intro fun x4 => ?_
    refine call_new (specRunPair_ct _ _ _) (Rp.mono _ (mem_at 1 rfl) (Gt.owrd _ ot2)) ?_
    rintro v5 A5 o5
    obtain ⟨l5, rfl, o5⟩ := o5
    have r5 := Gt.owrd _ o5
    obtain ⟨b0x5, c0x5, b1x5, c1x5, b2x5, c2x5, b3x5, c3x5, rfl, h0x5, h1x5, h2x5, h3x5⟩ := gPair_rd.1 r5
    refine VCnew.intro fun x6 => ?_
    refine VCnew.intro fun x7 => ?_
    refine append_allN (g := gPush) (T := (35 : TypeId)) G_ok (by repeat (first | exact fl_plain | apply plain_iso | apply plain_pair)) [] [[(x7, Obj.cells { toList := zeros (0 : Nat) [Value.int IntKind.i64 (0 : Int), Value.int IntKind.i64 (0 : Int), Value.int IntKind.i64 (0 : Int), Value.string ByteArray.empty] } (35 : TypeId))], A5, A3, A2, H] 3 ?_ (sl_nil _ _ _) rfl (Gt.owrd _ ot2) rfl rfl rfl rfl rfl rfl rfl rfl ?_ fun b8 c8 A8 o8 => ?_
    · exact .refl _
    · simp; omega
    refine VCnew.intro fun x9 => ?_
    refine gappend1 (g := gPush) (T := (35 : TypeId)) G_ok A8 [] [[(x7, Obj.cells { toList := zeros (0 : Nat) [Value.int IntKind.i64 (0 : Int), Value.int IntKind.i64 (0 : Int), Value.int IntKind.i64 (0 : Int), Value.string ByteArray.empty] } (35 : TypeId))], A5, A3, A2, H] ?_ o8 (gPush_own ‹_›) (List.mem_of_getElem? (i := 0) rfl) rfl rfl rfl rfl rfl rfl rfl rfl ?_ fun b10 c10 A10 o10 => ?_
    · exact .tl
    · simp; omega
    refine call_new (implRunPair_ct _ _ _) (Rp.mono _ (mem_at 0 rfl) (Gt.owrd _ o10)) ?_
    rintro v11 A11 o11
    obtain ⟨l11, rfl, o11⟩ := o11
    have r11 := Gt.owrd _ o11
    obtain ⟨b0x11, c0x11, b1x11, c1x11, b2x11, c2x11, b3x11, c3x11, rfl, h0x11, h1x11, h2x11, h3x11⟩ := gPair_rd.1 r11
    refine VCnew.intro fun x12 => ?_
    refine draw G_ok mixed none (.q 0 (.q 1 (.q 2 (.q 3 (.q 4 (.q 5 (.q 6 (.q 7 (.q 8 (.q 9 (.f 10 (.q 11 (.q 12 (.q 13 (.q 14 (.q 15 (.q 16 (.q 17 (.f 18 (.q 19 (.q 20 (.q 21 (.q 22 (.q 23 (.q 24 (.q 25 (.q 26 (.q 27 (.q 28 (.q 29 (.f 30 (.q 31 (.q 32 (.q 33 (.q 34 (.q 35 (.q 36 (.q 37 (.q 38 (.q 39 (.q 40 (.q 41 (.f 42 (.q 43 (.q 44 (.nil)))))))))))))))))))))))))))))))))))))))))))))) (by decide +kernel) ?_
    refine VCsplit.intro (fun q13 => ?_) (fun q13 => ?_)
    ·
      simp at q13
      exact absurd (runOk_drawn ⟨hpl2, hps2⟩).1 (by simp_all)
    ·
      simp at q13
      refine VCsplit.intro (fun q14 => ?_) (fun q14 => ?_)
      ·
        simp at q14
        exact absurd (runOk_more ps2) (by simp_all)
      ·
        simp at q14
        have z2 := runOk_drawn ⟨hpl2, hps2⟩
        have z5 := runK_pi (okK_of hps2) _ (Nat.le_refl _)
        have z3 : (runR ps2).heard.length = 2 := (by rw [z2.2]; exact z5.1.two')
        have z4 : rightM (runR ps2) = true := (by rw [z2.2]; exact inv_right z5.1)
        refine call_val (sameInts_ct _ _ _ _ _ _ ((runR ps2).codes) ((runR ps2).codes)) ⟨(Rp.mono _ (mem_at 4 rfl) h3x3), (Rp.mono _ (mem_at 3 rfl) h3x5)⟩ ?_
        rintro _ rfl
        refine VC.intro ?_ ?_
        · exact fun _ h => h
        refine VCsplit.intro (fun q16 => ?_) (fun q16 => ?_)
        ·
          simp at q16
        ·
          simp at q16
          refine call_val (sameTexts_ct _ _ _ _ _ _ ((runR ps2).net) ((runR ps2).net)) ⟨(Rp.mono _ (mem_at 4 rfl) h1x3), (Rp.mono _ (mem_at 3 rfl) h1x5)⟩ ?_
          rintro _ rfl
          refine VC.intro ?_ ?_
          · exact fun _ h => h
          refine VCsplit.intro (fun q18 => ?_) (fun q18 => ?_)
          ·
            simp at q18
          ·
            simp at q18
            refine idx_rd h2x3 ?_ ?_ fun b19 o19 hb19 => ?_
            · trivial
            · omega
            refine load_allN [] (0) rfl h2x3 ?_ ?_ hb19 rfl (mem_at 4 rfl) fun l20 hl20 => ?_
            · trivial
            · omega
            obtain ⟨u20, w20, rfl, hl20⟩ := sl_rd hl20
            refine idx_rd h2x5 ?_ ?_ fun b21 o21 hb21 => ?_
            · trivial
            · omega
            refine load_allN [] (0) rfl h2x5 ?_ ?_ hb21 rfl (mem_at 3 rfl) fun l22 hl22 => ?_
            · trivial
            · omega
            obtain ⟨u22, w22, rfl, hl22⟩ := sl_rd hl22
            refine call_val (sameTexts_ct _ _ _ _ _ _ ((runR ps2).heard[(0 : Nat)]?.getD []) ((runR ps2).heard[(0 : Nat)]?.getD [])) ⟨(Rp.mono _ (mem_at 4 rfl) hl20), (Rp.mono _ (mem_at 3 rfl) hl22)⟩ ?_
            rintro _ rfl
            refine VC.intro ?_ ?_
            · exact fun _ h => h
            refine VCsplit.intro (fun q24 => ?_) (fun q24 => ?_)
            ·
              simp at q24
            ·
              simp at q24
              refine idx_rd h2x3 ?_ ?_ fun b25 o25 hb25 => ?_
              · trivial
              · omega
              refine load_allN [] (1) rfl h2x3 ?_ ?_ hb25 rfl (mem_at 4 rfl) fun l26 hl26 => ?_
              · trivial
              · omega
              obtain ⟨u26, w26, rfl, hl26⟩ := sl_rd hl26
              refine idx_rd h2x5 ?_ ?_ fun b27 o27 hb27 => ?_
              · trivial
              · omega
              refine load_allN [] (1) rfl h2x5 ?_ ?_ hb27 rfl (mem_at 3 rfl) fun l28 hl28 => ?_
              · trivial
              · omega
              obtain ⟨u28, w28, rfl, hl28⟩ := sl_rd hl28
              refine call_val (sameTexts_ct _ _ _ _ _ _ ((runR ps2).heard[(1 : Nat)]?.getD []) ((runR ps2).heard[(1 : Nat)]?.getD [])) ⟨(Rp.mono _ (mem_at 4 rfl) hl26), (Rp.mono _ (mem_at 3 rfl) hl28)⟩ ?_
              rintro _ rfl
              refine VC.intro ?_ ?_
              · exact fun _ h => h
              refine VCsplit.intro (fun q30 => ?_) (fun q30 => ?_)
              ·
                simp at q30
              ·
                simp at q30
                refine call_val (implPairRight_ct _ (runR ps2)) (Rp.mono _ (mem_at 4 rfl) r3) ?_
                rintro _ rfl
                refine VCsplit.intro (fun q32 => ?_) (fun q32 => ?_)
                ·
                  refine call_val (specPairRight_ct _ (runR ps2)) (Rp.mono _ (mem_at 4 rfl) r3) ?_
                  rintro _ rfl
                  refine VCsplit.intro (fun q34 => ?_) (fun q34 => ?_)
                  ·
                    refine call_val (implPushOk_ct _ ⟨2, 0, 0, .empty⟩) (gPush_rd.2 ⟨rfl, by unfold okI; decide, by unfold okI; decide, by unfold okI; decide, by decide⟩) ?_
                    rintro _ rfl
                    exact ⟨[], ⟨rfl, rfl⟩, (.le fun a => by (try simp only [setR, List.cons_append, List.nil_append]); simp only [List.flatten_append, List.flatten_cons, List.flatten_nil, List.count_append, List.count_nil, List.append_nil, List.nil_append]; omega)⟩
                  ·
                    exact absurd (runOk_drawn ⟨hpl2, hps2⟩).1 (by simp_all)
                ·
                  exact absurd (runOk_drawn ⟨hpl2, hps2⟩).1 (by simp_all)

end Go.Proofs.Ytmmmjikanmgpfaa

namespace Go.Proofs.Ytmmmjikanmgpfaa
open Go.SX Go.Proofs
set_option maxHeartbeats 1000000

def tkM (p : Pair) (s : Nat) : Pair := { p with net := tickN p.ends p.net s }
def crM (p : Pair) : Pair := { p with net := p.net.eraseIdx 0, ends := earE p.ends p.heard (readPack (p.net[0]?.getD .empty)), heard := earH p.ends p.heard (readPack (p.net[0]?.getD .empty)) }
def drM : Nat → Pair → Pair
  | 0, p => p
  | n + 1, p => crM (drM n p)
def rdM (p : Pair) : Pair := drM (tkM (tkM p 0) 1).net.length (tkM (tkM p 0) 1)
def clM : Nat → Pair → Pair
  | 0, p => p
  | n + 1, p => rdM (clM n p)
structure W (B : Nat) (p : Pair) : Prop where
  two : p.ends.length ≤ 2
  two' : p.heard.length = 2
  net : p.net.length ≤ 200
  netS : ∀ t ∈ p.net, t.size ≤ 200
  sent : ∀ l ∈ p.ends, szL gS l.sent ≤ 20000 ∧ ∀ s ∈ l.sent, s.size ≤ 40
  hl : ∀ i : Nat, (p.heard[i]?.getD []).length ≤ B
theorem W.le {B C : Nat} {p : Pair} (h : W B p) (hc : B ≤ C) : W C p := ⟨h.two, h.two', h.net, h.netS, h.sent, fun i => Nat.le_trans (h.hl i) hc⟩
theorem W.sz {B : Nat} {p : Pair} (h : W B p) : ∀ i, i < p.ends.length → gLink.sz (p.ends[i]?.getD default) ≤ 1048576 := fun i hi => by
  have h2 : gLink.sz (p.ends[i]?.getD default) = szL gS (p.ends[i]?.getD default).sent + (0 + 0) := gLink_sz _
  have hm : p.ends[i]?.getD default ∈ p.ends := by rw [List.getElem?_eq_getElem hi]; exact List.getElem_mem hi
  have := (h.sent _ hm).1
  omega
theorem ear_all {P : List ByteArray → Prop} {ends : List Link} {heard : List (List ByteArray)} (h : ∀ l ∈ ends, P l.sent) (o : Option Packet) : ∀ l ∈ earE ends heard o, P l.sent := by
  cases o with
  | none => exact h
  | some x =>
    unfold earE
    dsimp only
    split
    · rename_i hin
      intro l hl
      rcases List.mem_or_eq_of_mem_set hl with hl | rfl
      · exact h l hl
      · rw [take_sent, List.getElem?_eq_getElem hin.1]
        exact h _ (List.getElem_mem hin.1)
    · exact h
theorem earE_len (ends : List Link) (heard : List (List ByteArray)) (o : Option Packet) : (earE ends heard o).length = ends.length := by
  cases o with
  | none => rfl
  | some x => unfold earE; dsimp only; split <;> simp
theorem earH_len (ends : List Link) (heard : List (List ByteArray)) (o : Option Packet) : (earH ends heard o).length = heard.length := by
  cases o with
  | none => rfl
  | some x =>
    unfold earH; dsimp only
    split
    · split <;> simp
    · rfl
theorem earH_hl {ends : List Link} {heard : List (List ByteArray)} {B : Nat} (h : ∀ i : Nat, (heard[i]?.getD []).length ≤ B) (o : Option Packet) : ∀ i : Nat, ((earH ends heard o)[i]?.getD []).length ≤ B + 1 := by
  have h0 : ∀ i : Nat, (heard[i]?.getD []).length ≤ B + 1 := fun i => Nat.le_succ_of_le (h i)
  cases o with
  | none => exact h0
  | some x =>
    unfold earH; dsimp only
    split
    · split
      · exact h0
      · intro i
        rw [List.getElem?_set]
        split
        · split
          · rw [Option.getD_some, List.length_append]; have : (heard[x.to.toNat]?.getD default).length ≤ B := h x.to.toNat; simp only [List.length_singleton]; omega
          · show ([] : List ByteArray).length ≤ _; simp
        · exact h0 i
    · exact h0
theorem w_tick {B : Nat} {p : Pair} (h : W B p) (s : Nat) : W B (tkM p s) := by
  refine ⟨h.two, h.two', ?_, netS_tick h.netS (fun l hl => (h.sent l hl).2) s, h.sent, h.hl⟩
  show (tickN p.ends p.net s).length ≤ 200
  unfold tickN
  split
  · exact (netK_len _ h.net _).2
  · exact h.net
theorem w_cr {B : Nat} {p : Pair} (h : W B p) : W (B + 1) (crM p) := by
  refine ⟨?_, ?_, ?_, fun t ht => h.netS t (List.mem_of_mem_eraseIdx ht), ear_all (P := fun s => szL gS s ≤ 20000 ∧ ∀ t ∈ s, t.size ≤ 40) h.sent _, earH_hl h.hl _⟩
  · show (earE _ _ _).length ≤ 2; rw [earE_len]; exact h.two
  · show (earH _ _ _).length = 2; rw [earH_len]; exact h.two'
  · exact Nat.le_trans (List.length_eraseIdx_le ..) h.net
theorem w_dr {B : Nat} {p : Pair} (h : W B p) : ∀ n, W (B + n) (drM n p)
  | 0 => h
  | n + 1 => w_cr (w_dr h n)
theorem w_rd {B : Nat} {p : Pair} (h : W B p) : W (B + 200) (rdM p) := by
  have h2 := w_tick (w_tick h 0) 1
  exact (w_dr h2 _).le (by have := h2.net; omega)
theorem w_cl {B : Nat} {p : Pair} (h : W B p) : ∀ n, W (B + 200 * n) (clM n p)
  | 0 => h
  | n + 1 => (w_rd (w_cl h n)).le (by omega)
theorem dr_net (p : Pair) : ∀ n, (drM n p).net.length = p.net.length - n
  | 0 => rfl
  | n + 1 => by
    show ((drM n p).net.eraseIdx 0).length = _
    have := dr_net p n
    rw [List.length_eraseIdx]
    split <;> omega
theorem dr_codes (p : Pair) : ∀ n, (drM n p).codes = p.codes
  | 0 => rfl
  | n + 1 => dr_codes p n
theorem rd_codes (p : Pair) : (rdM p).codes = p.codes := dr_codes _ _
theorem cl_codes (p : Pair) : ∀ n, (clM n p).codes = p.codes
  | 0 => rfl
  | n + 1 => (rd_codes _).trans (cl_codes p n)
theorem rd_net (p : Pair) : (rdM p).net.length = 0 := by unfold rdM; rw [dr_net]; omega

/-! the same as the rounds of the plain law -/
theorem dr_shift (p : Pair) : ∀ n, drM (n + 1) p = drM n (crM p)
  | 0 => rfl
  | n + 1 => by show crM (drM (n + 1) p) = _; rw [dr_shift p n]; rfl
theorem cl_shift (p : Pair) : ∀ n, clM (n + 1) p = clM n (rdM p)
  | 0 => rfl
  | n + 1 => by show rdM (clM (n + 1) p) = _; rw [cl_shift p n]; rfl
theorem cr_hear {p : Pair} {t : ByteArray} {L : List ByteArray} (hI : Inv readPack { p with net := t :: L }) : crM { p with net := t :: L } = { hear readPack p t with net := L } := by
  unfold crM
  show ({ p with net := L, ends := earE p.ends p.heard (readPack t), heard := earH p.ends p.heard (readPack t) } : Pair) = _
  cases e : readPack t with
  | none => rw [hear_none e]; rfl
  | some x =>
    have h1 := (hI.netOk t (by simp) x e).1
    have h2 := packOk_iff.1 (readPack_ok e)
    have h3 : p.ends.length = 2 := hI.two
    have h4 : p.heard.length = 2 := hI.two'
    have hin : inEnds p.ends p.heard x := ⟨by omega, by omega⟩
    rw [hear_some e h1]
    unfold earE earH deliver
    dsimp only
    rw [if_pos hin, if_pos hin]; rfl
theorem dr_drain : ∀ (L : List ByteArray) {p : Pair}, Inv readPack { p with net := L } → drM L.length { p with net := L } = { drain readPack L p with net := [] }
  | [], _, _ => rfl
  | t :: L, p, hI => by
    show drM (L.length + 1) _ = _
    rw [dr_shift, cr_hear hI, dr_drain L (hear_step (fun t x h => readPack_ok h) hI).1]; rfl
theorem tk_tick {p : Pair} (h : p.ends.length = 2) {s : Nat} (hs : s < 2) : tkM p s = tickP packText p s := by
  unfold tkM tickP tickN netK
  rw [if_pos (by omega), List.take_length]; rfl
theorem rd_round {p : Pair} (hI : Inv readPack p) : rdM p = roundP packText readPack p := by
  have hpt : ∀ x, packOk x = true → readPack (packText x) = some x := fun x hx => readPack_text hx
  have e1 : tkM p 0 = tickP packText p 0 := tk_tick hI.two (by omega)
  have h1 := tick_inv hpt hI (s := 0) (by omega)
  have e2 : tkM (tickP packText p 0) 1 = tickP packText (tickP packText p 0) 1 := tk_tick h1.two (by omega)
  have h2 := tick_inv hpt h1 (s := 1) (by omega)
  unfold rdM
  rw [e1, e2]
  exact dr_drain (tickP packText (tickP packText p 0) 1).net (p := p) h2
theorem cl_rounds : ∀ (n : Nat) {p : Pair}, Inv readPack p → clM n p = rounds packText readPack n p
  | 0, _, _ => rfl
  | n + 1, p, hI => by
    rw [cl_shift, rd_round hI]
    exact cl_rounds n (round_inv (fun x hx => readPack_text hx) (fun t x h => readPack_ok h) hI).1

/-! pairs that are done -/
def doneP (p : Pair) (i : Nat) : Prop := p.heard[i]?.getD [] = (p.ends[1 - i]?.getD default).sent ∧ (p.ends[1 - i]?.getD default).acked = ((p.ends[1 - i]?.getD default).sent.length : Int)
instance (p : Pair) (i : Nat) : Decidable (doneP p i) := by unfold doneP; infer_instance
def doneM (p : Pair) : Bool := decide ((p.ends.length = 2 ∧ p.heard.length = 2) ∧ doneP p 0 ∧ doneP p 1)
theorem done_no {p : Pair} {k : Nat} (hk : k < 2) (h : ¬ doneP p k) : doneM p = false := decide_eq_false fun hh => by
  rcases (by omega : k = 0 ∨ k = 1) with rfl | rfl
  · exact h hh.2.1
  · exact h hh.2.2
theorem done_no2 {p : Pair} (h : ¬ (p.ends.length = 2 ∧ p.heard.length = 2)) : doneM p = false := decide_eq_false fun hh => h hh.1
theorem done_yes {p : Pair} (h : p.ends.length = 2 ∧ p.heard.length = 2) (h2 : ∀ j, j < 2 → doneP p j) : doneM p = true := decide_eq_true ⟨h, h2 0 (by omega), h2 1 (by omega)⟩
theorem calm_end {p : Pair} (hI : Inv readPack p) (hl : ∀ j, (endOf p j).sent.length ≤ 85) : Inv readPack (clM 60 p) ∧ doneM (clM 60 p) = true ∧ (clM 60 p).heard[0]?.getD [] = (p.ends[1]?.getD default).sent := by
  have hpt : ∀ x, packOk x = true → readPack (packText x) = some x := fun x hx => readPack_text hx
  have hrp : ∀ t x, readPack t = some x → packOk x = true := fun t x h => readPack_ok h
  have h1 := (rounds_inv hpt hrp 60 hI).1
  have hc : ∀ s, s < 2 → _ := fun s hs => calm_all hpt hrp hI (s := s) hs (by have := hl s; omega)
  rw [cl_rounds 60 hI]
  refine ⟨h1, done_yes ⟨h1.two, h1.two'⟩ fun j hj => ?_, (hc 1 (by omega)).2.2⟩
  have h2 := hc (1 - j) (by omega)
  have e : 1 - (1 - j) = j := by omega
  rw [e] at h2
  unfold doneP
  exact ⟨h2.2.2.trans h2.2.1.symm, h2.1.trans (congrArg (fun z : List ByteArray => (z.length : Int)) h2.2.1.symm)⟩

end Go.Proofs.Ytmmmjikanmgpfaa

namespace Go.Proofs.Ytmmmjikanmgpfaa
open Go.SX Go.Proofs
set_option linter.unusedSimpArgs false
set_option linter.unusedVariables false
set_option maxHeartbeats 4000000

--@ct impl.PairDone val implPairDone_ct _ $1 | %1
theorem implPairDone_ct (l : List Value) (p : Pair) : Ct Try.prog 19 [.agg ⟨l⟩] [] (fun H => gPair.rd H l p) (fun v A => v = .bool (doneM p) ∧ A = []) := by
  refine Ct.intro0 G_ok Try.func19 rfl rfl rfl fun E H hp => ?_
  obtain ⟨b0p, c0p, b1p, c1p, b2p, c2p, b3p, c3p, rfl, h0p, h1p, h2p, h3p⟩ := gPair_rd.1 hp
  refine VCnew.intro fun x0 => ?_
  refine call_val (isPair_ct _ (p)) (Rp.mono _ (mem_at 0 rfl) hp) ?_
  rintro _ rfl
  refine VCsplit.intro (fun q2 => ?_) (fun q2 => ?_)
  ·
    simp at q2
    exact ⟨[], ⟨by rw [done_no2 (by omega)], rfl⟩, (.le fun a => by (try simp only [setR, List.cons_append, List.nil_append]); simp [List.count_cons, Blk.ent, idOf]; try omega)⟩
  ·
    simp at q2
    apply loop_mod (α := (Nat)) G_ok [13, 14, 15, 16, 3, 4, 17, 18, 19, 20, 21, 22, 5, 23, 24, 25, 26, 27, 28, 29, 30, 31, 32, 33, 34, 35, 2, 36, 12] (fun z => [(12, .v (.int .i64 z))]) (fun z => [{ id := x0, cs := [Value.slice b0p p.ends.length c0p, Value.slice b1p p.net.length c1p, Value.slice b2p p.heard.length c2p, Value.slice b3p p.codes.length c3p], ty := (31 : Nat) }]) (fun z => [H]) (fun z => p.heard.length - z) (fun z => (z ≤ p.heard.length ∧ p.ends.length = 2 ∧ p.heard.length = 2) ∧ ∀ j, j < z → doneP p j) (0)
    · repeat' (first | exact trivial | refine ⟨⟨_, rfl, by first | rfl | exact inc_eq _ (by omega) | (refine sl_eq ?_; simp; done), by first | exact trivial | simp [SV.ok]⟩, ?_⟩)
    · exact ⟨rfl, trivial⟩
    · simp_all
    · exact .refl _
    rintro k hI
    obtain ⟨⟨hk, h2e, h2h⟩, hr⟩ : (k ≤ p.heard.length ∧ p.ends.length = 2 ∧ p.heard.length = 2) ∧ ∀ j, j < k → doneP p j := hI
    try dsimp only
    refine VCsplit.intro (fun q3 => ?_) (fun q3 => ?_)
    ·
      simp at q3
      have hw9 : (IntKind.i64.wrap (1 - (k : Int))).toNat = 1 - k := (by rw [wrap_of (by omega) (by omega)]; omega)
      have hi9 : (p.ends[(IntKind.i64.wrap (1 - (k : Int))).toNat]?.getD default) = p.ends[1 - k]?.getD default := (by rw [hw9])
      have hi8 : (p.ends[(1 - (k : Int)).toNat]?.getD default) = p.ends[1 - k]?.getD default := (by rw [show (1 - (k : Int)).toNat = 1 - k by omega])
      refine idx_rd h2p ?_ ?_ fun b4 o4 hb4 => ?_
      · omega
      · omega
      refine load_allN [] (k) rfl h2p ?_ ?_ hb4 rfl (mem_at 0 rfl) fun l5 hl5 => ?_
      · omega
      · omega
      obtain ⟨u5, w5, rfl, hl5⟩ := sl_rd hl5
      refine idx_rd h0p ?_ ?_ fun b6 o6 hb6 => ?_
      · (simp (disch := omega) only [wrap_of]; omega)
      · (simp (disch := omega) only [wrap_of]; omega)
      refine load_all default h0p ?_ ?_ hb6 rfl (mem_at 0 rfl) fun l7 hl7 => ?_
      · (simp (disch := omega) only [wrap_of]; omega)
      · (simp (disch := omega) only [wrap_of]; omega)
      obtain ⟨b0x7, c0x7, rfl, h0x7, w1x7, w2x7⟩ := gLink_rd.1 hl7
      refine VCnew.intro fun x8 => ?_
      refine call_val (equalS_ct _ _ _ _ _ _ (p.heard[k]?.getD []) ((p.ends[(IntKind.i64.wrap ((1 : Int) - (↑k : Int))).toNat]?.getD default).sent)) ⟨(Rp.mono _ (mem_at 0 rfl) hl5), (Rp.mono _ (mem_at 0 rfl) h0x7)⟩ ?_
      rintro _ rfl
      refine VCsplit.intro (fun q10 => ?_) (fun q10 => ?_)
      ·
        simp at q10
        simp (disch := omega) only [wrap_of] at q10
        exact ⟨[], ⟨by rw [done_no (k := k) (by omega) (fun ⟨h1, h2⟩ => by rw [← hi8] at h1; exact absurd h1 (by assumption))], rfl⟩, (.le fun a => by (try simp only [setR, List.cons_append, List.nil_append]); simp [List.count_cons, Blk.ent, idOf]; try omega)⟩
      ·
        simp at q10
        simp (disch := omega) only [wrap_of] at q10
        refine VCsplit.intro (fun q11 => ?_) (fun q11 => ?_)
        ·
          simp at q11
          simp (disch := omega) only [wrap_of] at q11
          exact ⟨[], ⟨by rw [done_no (k := k) (by omega) (fun ⟨h1, h2⟩ => by rw [← hi8] at h2; exact absurd h2 (by assumption))], rfl⟩, (.le fun a => by (try simp only [setR, List.cons_append, List.nil_append]); simp [List.count_cons, Blk.ent, idOf]; try omega)⟩
        ·
          simp at q11
          simp (disch := omega) only [wrap_of] at q11
          apply loop_stepA (k + 1)
          · exact .refl _
          · repeat' (first | exact trivial | refine ⟨⟨_, rfl, by first | rfl | exact inc_eq _ (by omega) | (refine sl_eq ?_; simp; done), by first | exact trivial | simp [SV.ok]⟩, ?_⟩)
          · exact ⟨rfl, trivial⟩
          · exact ⟨⟨by omega, h2e, h2h⟩, all_next hr (by unfold doneP; rw [← hi8]; exact ⟨by assumption, by assumption⟩)⟩
          · omega
    ·
      simp at q3
      exact ⟨[], ⟨by rw [done_yes ⟨h2e, h2h⟩ fun j hj => hr j (by omega)], rfl⟩, (.le fun a => by (try simp only [setR, List.cons_append, List.nil_append]); simp [List.count_cons, Blk.ent, idOf]; try omega)⟩

--@ct spec.PairDone val specPairDone_ct _ $1 | %1
theorem specPairDone_ct (l : List Value) (p : Pair) : Ct Try.prog 20 [.agg ⟨l⟩] [] (fun H => gPair.rd H l p) (fun v A => v = .bool (doneM p) ∧ A = []) := by
  refine Ct.intro0 G_ok Try.func20 rfl rfl rfl fun E H hp => ?_
  obtain ⟨b0p, c0p, b1p, c1p, b2p, c2p, b3p, c3p, rfl, h0p, h1p, h2p, h3p⟩ := gPair_rd.1 hp
  refine VCnew.intro fun x0 => ?_
  refine VCsplit.intro (fun q1 => ?_) (fun q1 => ?_)
  ·
    simp at q1
    exact ⟨[], ⟨by rw [done_no2 (by omega)], rfl⟩, (.le fun a => by (try simp only [setR, List.cons_append, List.nil_append]); simp [List.count_cons, Blk.ent, idOf]; try omega)⟩
  ·
    simp at q1
    refine VCsplit.intro (fun q2 => ?_) (fun q2 => ?_)
    ·
      simp at q2
      exact ⟨[], ⟨by rw [done_no2 (by omega)], rfl⟩, (.le fun a => by (try simp only [setR, List.cons_append, List.nil_append]); simp [List.count_cons, Blk.ent, idOf]; try omega)⟩
    ·
      simp at q2
      apply loop_mod (α := (Nat)) G_ok [15, 16, 19, 20, 21, 22, 23, 24, 4, 25, 26, 27, 28, 29, 30, 31, 32, 33, 34, 35, 36, 37, 38, 39, 40, 41, 2, 17, 18, 3] (fun z => [(3, .v (.int .i64 z))]) (fun z => [{ id := x0, cs := [Value.slice b0p p.ends.length c0p, Value.slice b1p p.net.length c1p, Value.slice b2p p.heard.length c2p, Value.slice b3p p.codes.length c3p], ty := (31 : Nat) }]) (fun z => [H]) (fun z => 2 - z) (fun z => (z ≤ 2 ∧ p.ends.length = 2 ∧ p.heard.length = 2) ∧ ∀ j, j < z → doneP p j) (0)
      · repeat' (first | exact trivial | refine ⟨⟨_, rfl, by first | rfl | exact inc_eq _ (by omega) | (refine sl_eq ?_; simp; done), by first | exact trivial | simp [SV.ok]⟩, ?_⟩)
      · exact ⟨rfl, trivial⟩
      · grind
      · exact .refl _
      rintro k hI
      obtain ⟨⟨hk, h2e, h2h⟩, hr⟩ : (k ≤ 2 ∧ p.ends.length = 2 ∧ p.heard.length = 2) ∧ ∀ j, j < k → doneP p j := hI
      try dsimp only
      refine VCsplit.intro (fun q3 => ?_) (fun q3 => ?_)
      ·
        simp at q3
        have hw9 : (IntKind.i64.wrap (1 - (k : Int))).toNat = 1 - k := (by rw [wrap_of (by omega) (by omega)]; omega)
        have hi9 : (p.ends[(IntKind.i64.wrap (1 - (k : Int))).toNat]?.getD default) = p.ends[1 - k]?.getD default := (by rw [hw9])
        have hi8 : (p.ends[(1 - (k : Int)).toNat]?.getD default) = p.ends[1 - k]?.getD default := (by rw [show (1 - (k : Int)).toNat = 1 - k by omega])
        refine idx_rd h0p ?_ ?_ fun b4 o4 hb4 => ?_
        · (simp (disch := omega) only [wrap_of]; omega)
        · (simp (disch := omega) only [wrap_of]; omega)
        refine load_all default h0p ?_ ?_ hb4 rfl (mem_at 0 rfl) fun l5 hl5 => ?_
        · (simp (disch := omega) only [wrap_of]; omega)
        · (simp (disch := omega) only [wrap_of]; omega)
        obtain ⟨b0x5, c0x5, rfl, h0x5, w1x5, w2x5⟩ := gLink_rd.1 hl5
        refine VCnew.intro fun x6 => ?_
        refine draw G_ok mixed none (.q 0 (.q 1 (.q 2 (.q 3 (.q 4 (.q 5 (.q 6 (.f 7 (.q 8 (.q 9 (.q 10 (.q 11 (.q 12 (.q 13 (.q 14 (.q 15 (.q 16 (.nil)))))))))))))))))) (by decide +kernel) ?_
        refine idx_rd h2p ?_ ?_ fun b7 o7 hb7 => ?_
        · omega
        · omega
        refine load_allN [] (k) rfl h2p ?_ ?_ hb7 rfl (mem_at 0 rfl) fun l8 hl8 => ?_
        · omega
        · omega
        obtain ⟨u8, w8, rfl, hl8⟩ := sl_rd hl8
        refine call_val (l08Texts_ct _ _ _ _ _ _ (p.heard[k]?.getD []) ((p.ends[(IntKind.i64.wrap ((1 : Int) - (↑k : Int))).toNat]?.getD default).sent)) ⟨(Rp.mono _ (mem_at 0 rfl) hl8), (Rp.mono _ (mem_at 0 rfl) h0x5)⟩ ?_
        rintro _ rfl
        refine VC.intro ?_ ?_
        · exact fun _ h => h
        refine VCsplit.intro (fun q10 => ?_) (fun q10 => ?_)
        ·
          simp at q10
          simp (disch := omega) only [wrap_of] at q10
          exact ⟨[], ⟨by rw [done_no (k := k) (by omega) (fun ⟨h1, h2⟩ => by rw [← hi8] at h1; exact absurd h1 (by assumption))], rfl⟩, (.le fun a => by (try simp only [setR, List.cons_append, List.nil_append]); simp [List.count_cons, Blk.ent, idOf]; try omega)⟩
        ·
          simp at q10
          simp (disch := omega) only [wrap_of] at q10
          refine VCsplit.intro (fun q11 => ?_) (fun q11 => ?_)
          ·
            simp at q11
            simp (disch := omega) only [wrap_of] at q11
            exact ⟨[], ⟨by rw [done_no (k := k) (by omega) (fun ⟨h1, h2⟩ => by rw [← hi8] at h2; exact absurd h2 (by assumption))], rfl⟩, (.le fun a => by (try simp only [setR, List.cons_append, List.nil_append]); simp [List.count_cons, Blk.ent, idOf]; try omega)⟩
          ·
            simp at q11
            simp (disch := omega) only [wrap_of] at q11
            apply loop_stepA (k + 1)
            · exact .refl _
            · repeat' (first | exact trivial | refine ⟨⟨_, rfl, by first | rfl | exact inc_eq _ (by omega) | (refine sl_eq ?_; simp; done), by first | exact trivial | simp [SV.ok]⟩, ?_⟩)
            · exact ⟨rfl, trivial⟩
            · exact ⟨⟨by omega, h2e, h2h⟩, all_next hr (by unfold doneP; rw [← hi8]; exact ⟨by assumption, by assumption⟩)⟩
            · omega
      ·
        simp at q3
        exact ⟨[], ⟨by rw [done_yes ⟨h2e, h2h⟩ fun j hj => hr j (by omega)], rfl⟩, (.le fun a => by (try simp only [setR, List.cons_append, List.nil_append]); simp [List.count_cons, Blk.ent, idOf]; try omega)⟩

end Go.Proofs.Ytmmmjikanmgpfaa

namespace Go.Proofs.Ytmmmjikanmgpfaa
open Go.SX Go.Proofs
set_option linter.unusedSimpArgs false
set_option linter.unusedVariables false
set_option maxHeartbeats 4000000
attribute [local irreducible] IntKind.wrap

--@ct impl.copyPair new copyPair_ct _ $1 ?_ | %1 | obtain ⟨l#, rfl, o#⟩ := o#
theorem copyPair_ct (l : List Value) (x : Pair) (hx : gPair.sz x ≤ 1048576) :
    Ct Try.prog 37 [.agg ⟨l⟩] [] (fun H => gPair.rd H l x) (fun v A => ∃ l, v = .agg ⟨l⟩ ∧ gPair.ow l x A) := by
  refine Ct.intro0 G_ok Try.func37 rfl rfl rfl fun E H hp => ?_
  obtain ⟨b0p, c0p, b1p, c1p, b2p, c2p, b3p, c3p, rfl, h0p, h1p, h2p, h3p⟩ := gPair_rd.1 hp
  have ez := gPair_sz x
  have n0 := len_szL gLink x.ends
  have n1 := len_szL gS x.net
  have n2 := len_szL (gSl 9 gS) x.heard
  have n3 := len_szL gI x.codes
  have hq := szL_eq gLink x.ends
  have hq2 := szL_eq (gSl 9 gS) x.heard
  refine VCnew.intro fun x0 => ?_
  refine VCnew.intro fun x1 => ?_
  refine draw_joinK (α := (Nat) × (Option Addr) × (Nat) × (Hp) × (Option Addr) × (Nat) × (Hp)) [8, 9, 10, 11, 12, 13, 14, 3] (fun z => [(3, .p 2 0)]) (fun z => [⟨x0, [.slice b0p x.ends.length c0p, .slice b1p x.net.length c1p, .slice b2p x.heard.length c2p, .slice b3p x.codes.length c3p], 31⟩, ⟨x1, [.slice none 0 0, .slice none 0 0, .slice none 0 0, .slice none 0 0], 31⟩, ⟨z.1, [.slice none 0 0, .slice z.2.1 x.net.length z.2.2.1, .slice none 0 0, .slice z.2.2.2.2.1 x.codes.length z.2.2.2.2.2.1], 31⟩]) (fun z => [z.2.2.2.1 ++ z.2.2.2.2.2.2, H]) (fun z => (gSl 9 gS).ow [.slice z.2.1 x.net.length z.2.2.1] x.net z.2.2.2.1 ∧ (gSl 3 gI).ow [.slice z.2.2.2.2.1 x.codes.length z.2.2.2.2.2.1] x.codes z.2.2.2.2.2.2) ?_ ?_
  ·
    refine draw G_ok mixed (some 8) (.q 0 (.q 1 (.q 3 (.q 4 (.hd (.alt 2 (.hd (.alt 5 (.q 6 (.f 7 (.tl 8 (.nil)))) (.alt 7 (.f 5 (.q 6 (.tl 8 (.nil)))) (.nil)))) (.alt 7 (.f 2 (.f 5 (.q 6 (.tl 8 (.nil))))) (.nil)))))))) (by decide +kernel) ?_
    refine VC.intro ?_ ?_
    ·
      refine call_new (cloneS_ct _ _ _ (x.net) ?_) (Rp.mono _ (mem_at 0 rfl) h1p) ?_
      · omega
      rintro v2 A2 o2
      obtain ⟨b2, c2, rfl, o2⟩ := o2
      refine VC.intro ?_ ?_
      · exact keep_new
      refine VC.intro ?_ ?_
      ·
        refine call_new (cloneI_ct _ _ _ (x.codes) ?_) (Rp.mono _ (mem_at 1 rfl) h3p) ?_
        · omega
        rintro v3 A3 o3
        obtain ⟨b3, c3, rfl, o3⟩ := o3
        refine VC.intro ?_ ?_
        · exact keep_sub (by simp) (by simp)
        refine VCnew.intro fun x4 => ?_
        refine VC.intro ?_ ?_
        · exact keep_sub (by simp) (by simp)
        apply join_stepI (_, _, _, _, _, _, _)
        · repeat' (first | exact trivial | refine ⟨⟨_, rfl, by first | rfl | exact inc_eq _ (by omega) | (refine sl_eq ?_; simp; done) | (refine sl_eq ?_; simp only [List.length_append, List.length_take, List.length_cons, List.length_nil]; omega), by first | exact trivial | simp [SV.ok]⟩, ?_⟩)
        · exact ⟨rfl, rfl, rfl, trivial⟩
        · try dsimp only
          exact ⟨by assumption, by assumption⟩
        · exact .le fun a => by (try simp only [setR, List.cons_append, List.nil_append]); simp only [List.flatten_append, List.flatten_cons, List.flatten_nil, List.count_append, List.count_nil, List.append_nil, List.nil_append]; omega
      ·
        refine VC.intro ?_ ?_
        ·
          refine VCnew.intro fun x5 => ?_
          refine VC.intro ?_ ?_
          · exact keep_sub (by simp) (by simp)
          refine call_new (cloneI_ct _ _ _ (x.codes) ?_) (Rp.mono _ (mem_at 1 rfl) h3p) ?_
          · omega
          rintro v6 A6 o6
          obtain ⟨b6, c6, rfl, o6⟩ := o6
          refine VC.intro ?_ ?_
          · exact keep_sub (by simp) (by simp)
          apply join_stepI (_, _, _, _, _, _, _)
          · repeat' (first | exact trivial | refine ⟨⟨_, rfl, by first | rfl | exact inc_eq _ (by omega) | (refine sl_eq ?_; simp; done) | (refine sl_eq ?_; simp only [List.length_append, List.length_take, List.length_cons, List.length_nil]; omega), by first | exact trivial | simp [SV.ok]⟩, ?_⟩)
          · exact ⟨rfl, rfl, rfl, trivial⟩
          · try dsimp only
            exact ⟨by assumption, by assumption⟩
          · exact .le fun a => by (try simp only [setR, List.cons_append, List.nil_append]); simp only [List.flatten_append, List.flatten_cons, List.flatten_nil, List.count_append, List.count_nil, List.append_nil, List.nil_append]; omega
        ·
          exact trivial
    ·
      refine VC.intro ?_ ?_
      ·
        refine VCnew.intro fun x7 => ?_
        refine VC.intro ?_ ?_
        · exact keep_sub (by simp) (by simp)
        refine call_new (cloneS_ct _ _ _ (x.net) ?_) (Rp.mono _ (mem_at 0 rfl) h1p) ?_
        · omega
        rintro v8 A8 o8
        obtain ⟨b8, c8, rfl, o8⟩ := o8
        refine VC.intro ?_ ?_
        · exact keep_sub (by simp) (by simp)
        refine call_new (cloneI_ct _ _ _ (x.codes) ?_) (Rp.mono _ (mem_at 1 rfl) h3p) ?_
        · omega
        rintro v9 A9 o9
        obtain ⟨b9, c9, rfl, o9⟩ := o9
        refine VC.intro ?_ ?_
        · exact keep_sub (by simp) (by simp)
        apply join_stepI (_, _, _, _, _, _, _)
        · repeat' (first | exact trivial | refine ⟨⟨_, rfl, by first | rfl | exact inc_eq _ (by omega) | (refine sl_eq ?_; simp; done) | (refine sl_eq ?_; simp only [List.length_append, List.length_take, List.length_cons, List.length_nil]; omega), by first | exact trivial | simp [SV.ok]⟩, ?_⟩)
        · exact ⟨rfl, rfl, rfl, trivial⟩
        · try dsimp only
          exact ⟨by assumption, by assumption⟩
        · exact .le fun a => by (try simp only [setR, List.cons_append, List.nil_append]); simp only [List.flatten_append, List.flatten_cons, List.flatten_nil, List.count_append, List.count_nil, List.append_nil, List.nil_append]; omega
      ·
        exact trivial
  rintro ⟨y, bn, cn, AN, bc, cc, AC⟩ hI
  obtain ⟨oN, oC⟩ : (gSl 9 gS).ow [.slice bn x.net.length cn] x.net AN ∧ (gSl 3 gI).ow [.slice bc x.codes.length cc] x.codes AC := hI
  try dsimp only
  apply loop_mod (α := (Nat) × (Hp) × (Option Addr) × (Nat)) G_ok [19, 20, 21, 5, 22, 23, 24, 25, 26, 27, 28, 29, 18] (fun z => [(18, .v (.int .i64 z.1))]) (fun z => [⟨x0, [Value.slice b0p x.ends.length c0p, Value.slice b1p x.net.length c1p, Value.slice b2p x.heard.length c2p, Value.slice b3p x.codes.length c3p], (31 : TypeId)⟩, ⟨x1, [Value.slice none (0 : Nat) (0 : Nat), Value.slice none (0 : Nat) (0 : Nat), Value.slice none (0 : Nat) (0 : Nat), Value.slice none (0 : Nat) (0 : Nat)], (31 : TypeId)⟩, ⟨y, [.slice z.2.2.1 (x.ends.take z.1).length z.2.2.2, Value.slice bn x.net.length cn, Value.slice none (0 : Nat) (0 : Nat), Value.slice bc x.codes.length cc], (31 : TypeId)⟩]) (fun z => [z.2.1, AN ++ AC, H]) (fun z => x.ends.length - z.1) (fun z => z.1 ≤ x.ends.length ∧ (gSl 45 gLink).ow [.slice z.2.2.1 (x.ends.take z.1).length z.2.2.2] (x.ends.take z.1) z.2.1) ((0, [], none, 0))
  · repeat' (first | exact trivial | refine ⟨⟨_, rfl, by first | rfl | exact inc_eq _ (by omega) | (refine sl_eq ?_; simp; done) | (refine sl_eq ?_; simp only [List.length_append, List.length_take, List.length_cons, List.length_nil]; omega), by first | exact trivial | simp [SV.ok]⟩, ?_⟩)
  · exact ⟨rfl, rfl, rfl, trivial⟩
  · try dsimp only
    exact ⟨by omega, sl_nil _ _ _⟩
  · exact .refl _
  rintro ⟨k, A, lb, lc⟩ hI
  obtain ⟨hk, oA⟩ : k ≤ x.ends.length ∧ (gSl 45 gLink).ow [.slice lb (x.ends.take k).length lc] (x.ends.take k) A := hI
  try dsimp only
  refine VCsplit.intro (fun q10 => ?_) (fun q10 => ?_)
  ·
    simp at q10
    have hs := szE_step gLink x.ends k default (by omega)
    have hs2 := szE_le gLink x.ends (k + 1)
    have hs3 := gLink_sz (x.ends[k]?.getD default)
    refine idx_rd h0p ?_ ?_ fun b11 o11 hb11 => ?_
    · omega
    · omega
    refine load_allN default (k) rfl h0p ?_ ?_ hb11 rfl (mem_at 2 rfl) fun l12 hl12 => ?_
    · omega
    · omega
    obtain ⟨b0x12, c0x12, rfl, h0x12, w1x12, w2x12⟩ := gLink_rd.1 hl12
    refine VCnew.intro fun x13 => ?_
    refine draw G_ok mixed (some 5) (.q 0 (.q 1 (.q 2 (.f 3 (.f 4 (.tl 5 (.f 6 (.f 7 (.nil))))))))) (by decide +kernel) ?_
    refine call_new (copyLink_ct _ (x.ends[k]?.getD default) ?_) (Rp.mono _ (mem_at 2 rfl) hl12) ?_
    · omega
    rintro v14 A14 o14
    obtain ⟨l14, rfl, o14⟩ := o14
    have r14 := Gt.owrd _ o14
    obtain ⟨b0x14, c0x14, rfl, h0x14, w1x14, w2x14⟩ := gLink_rd.1 r14
    refine VC.intro ?_ ?_
    · exact keep_new
    refine VCnew.intro fun x15 => ?_
    refine VC.intro ?_ ?_
    · exact keep_sub (by simp) (by simp)
    refine gappend1 (g := gLink) (T := (45 : TypeId)) G_ok A _ [AN ++ AC, H] ?_ oA (‹gLink.ow _ _ _›) (List.mem_of_getElem? (i := 0) rfl) rfl rfl rfl rfl rfl rfl rfl rfl ?_ fun b16 c16 A16 o16 => ?_
    · exact .le fun a => by (try simp only [setR, List.cons_append, List.nil_append]); simp only [List.flatten_append, List.flatten_cons, List.flatten_nil, List.count_append, List.count_nil, List.append_nil, List.nil_append]; omega
    · simp; omega
    apply loop_stepA (k + 1, _, _, _)
    · exact .refl _
    · repeat' (first | exact trivial | refine ⟨⟨_, rfl, by first | rfl | exact inc_eq _ (by omega) | (refine sl_eq ?_; simp; done) | (refine sl_eq ?_; simp only [List.length_append, List.length_take, List.length_cons, List.length_nil]; omega), by first | exact trivial | simp [SV.ok]⟩, ?_⟩)
    · ((rw [tk1 x.ends k default (by omega)]); repeat' (first | exact trivial | refine ⟨by first | rfl | simp [Blk.ent], ?_⟩))
    · try dsimp only
      exact ⟨by omega, by (rw [tk1 x.ends k default (by omega)]; assumption)⟩
    · try dsimp only
      omega
  ·
    simp at q10
    have hke : k = x.ends.length := by omega
    rw [hke, List.take_length] at oA ⊢
    apply loop_mod (α := (Nat) × (Hp) × (Option Addr) × (Nat)) G_ok [34, 35, 36, 7, 37, 38, 39, 40, 41, 42, 43, 44, 33] (fun z => [(33, .v (.int .i64 z.1))]) (fun z => [⟨x0, [Value.slice b0p x.ends.length c0p, Value.slice b1p x.net.length c1p, Value.slice b2p x.heard.length c2p, Value.slice b3p x.codes.length c3p], (31 : TypeId)⟩, ⟨x1, [Value.slice none (0 : Nat) (0 : Nat), Value.slice none (0 : Nat) (0 : Nat), Value.slice none (0 : Nat) (0 : Nat), Value.slice none (0 : Nat) (0 : Nat)], (31 : TypeId)⟩, ⟨y, [Value.slice lb x.ends.length lc, Value.slice bn x.net.length cn, .slice z.2.2.1 (x.heard.take z.1).length z.2.2.2, Value.slice bc x.codes.length cc], (31 : TypeId)⟩]) (fun z => [z.2.1, A, AN ++ AC, H]) (fun z => x.heard.length - z.1) (fun z => z.1 ≤ x.heard.length ∧ (gSl 27 (gSl 9 gS)).ow [.slice z.2.2.1 (x.heard.take z.1).length z.2.2.2] (x.heard.take z.1) z.2.1) ((0, [], none, 0))
    · repeat' (first | exact trivial | refine ⟨⟨_, rfl, by first | rfl | exact inc_eq _ (by omega) | (refine sl_eq ?_; simp; done) | (refine sl_eq ?_; simp only [List.length_append, List.length_take, List.length_cons, List.length_nil]; omega), by first | exact trivial | simp [SV.ok]⟩, ?_⟩)
    · exact ⟨rfl, rfl, rfl, trivial⟩
    · try dsimp only
      exact ⟨by omega, sl_nil _ _ _⟩
    · exact .refl _
    rintro ⟨j, B, hb, hc⟩ hI
    obtain ⟨hj, oB⟩ : j ≤ x.heard.length ∧ (gSl 27 (gSl 9 gS)).ow [.slice hb (x.heard.take j).length hc] (x.heard.take j) B := hI
    try dsimp only
    refine VCsplit.intro (fun q17 => ?_) (fun q17 => ?_)
    ·
      simp at q17
      have hs := szE_step (gSl 9 gS) x.heard j default (by omega)
      have hs2 := szE_le (gSl 9 gS) x.heard (j + 1)
      have hs3 := len_szL gS (x.heard[j]?.getD default)
      have hs4 : (gSl 9 gS).sz (x.heard[j]?.getD default) = szL gS (x.heard[j]?.getD default) := rfl
      refine idx_rd h2p ?_ ?_ fun b18 o18 hb18 => ?_
      · omega
      · omega
      refine load_allN [] (j) rfl h2p ?_ ?_ hb18 rfl (mem_at 3 rfl) fun l19 hl19 => ?_
      · omega
      · omega
      obtain ⟨u19, w19, rfl, hl19⟩ := sl_rd hl19
      refine draw G_ok mixed (some 5) (.q 0 (.q 1 (.q 2 (.f 3 (.f 4 (.tl 5 (.f 6 (.f 7 (.nil))))))))) (by decide +kernel) ?_
      refine call_new (cloneS_ct _ _ _ (x.heard[j]?.getD []) ?_) (Rp.mono _ (mem_at 3 rfl) hl19) ?_
      · simp_all; omega
      rintro v20 A20 o20
      obtain ⟨b20, c20, rfl, o20⟩ := o20
      refine VC.intro ?_ ?_
      · exact keep_new
      refine VCnew.intro fun x21 => ?_
      refine VC.intro ?_ ?_
      · exact keep_sub (by simp) (by simp)
      refine gappend1 (g := (gSl 9 gS)) (T := (27 : TypeId)) G_ok B _ [A, AN ++ AC, H] ?_ oB (‹(gSl _ gS).ow [.slice _ ([] ++ _).length _] _ _›) (List.mem_of_getElem? (i := 0) rfl) rfl rfl rfl rfl rfl rfl rfl rfl ?_ fun b22 c22 A22 o22 => ?_
      · exact .le fun a => by (try simp only [setR, List.cons_append, List.nil_append]); simp only [List.flatten_append, List.flatten_cons, List.flatten_nil, List.count_append, List.count_nil, List.append_nil, List.nil_append]; omega
      · simp; omega
      apply loop_stepA (j + 1, _, _, _)
      · exact .refl _
      · repeat' (first | exact trivial | refine ⟨⟨_, rfl, by first | rfl | exact inc_eq _ (by omega) | (refine sl_eq ?_; simp; done) | (refine sl_eq ?_; simp only [List.length_append, List.length_take, List.length_cons, List.length_nil]; omega), by first | exact trivial | simp [SV.ok]⟩, ?_⟩)
      · ((rw [tk1 x.heard j default (by omega)]); repeat' (first | exact trivial | refine ⟨by first | rfl | simp [Blk.ent], ?_⟩))
      · try dsimp only
        exact ⟨by omega, by (rw [tk1 x.heard j default (by omega)]; assumption)⟩
      · try dsimp only
        omega
    ·
      simp at q17
      have hje : j = x.heard.length := by omega
      rw [hje, List.take_length] at oB ⊢
      exact ⟨_, ⟨_, rfl, gPair_ow.2 ⟨_, _, _, _, _, _, _, _, _, _, _, _, rfl, .refl _, by assumption, by assumption, by assumption, by assumption⟩⟩, (.le fun a => by (try simp only [setR, List.cons_append, List.nil_append]); simp only [List.flatten_append, List.flatten_cons, List.flatten_nil, List.count_append, List.count_nil, List.append_nil, List.nil_append]; omega)⟩

end Go.Proofs.Ytmmmjikanmgpfaa

namespace Go.Proofs.Ytmmmjikanmgpfaa
open Go.SX Go.Proofs
set_option linter.unusedSimpArgs false
set_option linter.unusedVariables false
set_option maxHeartbeats 4000000
attribute [local irreducible] IntKind.wrap

def qM (p : Pair) : Pair := tkM (tkM p 0) 1
theorem cl_next (k : Nat) (x : Pair) : clM (k + 1) x = drM (qM (clM k x)).net.length (qM (clM k x)) := rfl
theorem w_q {B : Nat} {p : Pair} (h : W B p) : W B (qM p) := w_tick (w_tick h 0) 1
theorem W.ns {B : Nat} {p : Pair} (h : W B p) : ∀ t ∈ p.net, t.size ≤ 20004 := fun t ht => Nat.le_trans (h.netS t ht) (by decide)
theorem W.hh {B : Nat} {p : Pair} (h : W B p) (hb : B ≤ 1000000) : ∀ i, i < p.heard.length → (p.heard[i]?.getD default).length ≤ 1000000 := fun i _ => Nat.le_trans (h.hl i) hb
def rndN (n : Int) : Nat := (min n 80).toNat
theorem rndN_le (n : Int) : rndN n ≤ 80 := by unfold rndN; omega

--@ct impl.CalmPair new implCalmPair_ct _ $1 _ ?_ ?_ | %1 | obtain ⟨l#, rfl, o#⟩ := o# ;; have r# := Gt.owrd _ o# ;; @open{Pair r# x#}
theorem implCalmPair_ct (l : List Value) (x : Pair) (n : Int) (hx : gPair.sz x ≤ 1048576) (hW : W 1000 x) :
    Ct Try.prog 15 [.agg ⟨l⟩, .int .i64 n] [] (fun H => gPair.rd H l x) (fun v A => ∃ l, v = .agg ⟨l⟩ ∧ gPair.ow l (clM (rndN n) x) A) := by
  refine Ct.intro0 G_ok Try.func15 rfl rfl rfl fun E H hp => ?_
  obtain ⟨b0p, c0p, b1p, c1p, b2p, c2p, b3p, c3p, rfl, h0p, h1p, h2p, h3p⟩ := gPair_rd.1 hp
  have hr : rndN n = (min n 80).toNat := rfl
  have hr2 := rndN_le n
  refine VCnew.intro fun x0 => ?_
  refine VCnew.intro fun x1 => ?_
  refine call_newP (copyPair_ct _ x ?_) (Rp.mono _ (mem_at 0 rfl) hp) ?_
  · trivial
  rintro v2 A2 o2
  obtain ⟨l2, rfl, o2⟩ := o2
  obtain ⟨be0, ce0, AE0, bn0, cn0, AN0, bh0, ch0, AH0, bc0, cc0, AC0, rfl, hpm, oE0, oN0, oH0, oC0⟩ := gPair_ow.1 o2
  refine ⟨[AE0, AN0, AH0, AC0], by simpa using hpm, ?_⟩
  refine VCnew.intro fun x3 => ?_
  apply loop_mod (α := (Nat) × (Option Addr) × (Nat) × (Option Addr) × (Nat) × (Option Addr) × (Nat) × (Hp) × (Hp) × (Hp)) G_ok [12, 13, 14, 15, 16, 17, 18, 19, 20, 11] (fun z => [(11, .v (.int .i64 z.1))]) (fun z => [⟨x0, [Value.slice b0p x.ends.length c0p, Value.slice b1p x.net.length c1p, Value.slice b2p x.heard.length c2p, Value.slice b3p x.codes.length c3p], (31 : Nat)⟩, ⟨x1, [Value.slice none (0 : Nat) (0 : Nat), Value.slice none (0 : Nat) (0 : Nat), Value.slice none (0 : Nat) (0 : Nat), Value.slice none (0 : Nat) (0 : Nat)], (31 : Nat)⟩, ⟨x3, [.slice z.2.1 (clM z.1 x).ends.length z.2.2.1, .slice z.2.2.2.1 (clM z.1 x).net.length z.2.2.2.2.1, .slice z.2.2.2.2.2.1 (clM z.1 x).heard.length z.2.2.2.2.2.2.1, Value.slice bc0 x.codes.length cc0], (31 : Nat)⟩]) (fun z => [z.2.2.2.2.2.2.2.1, z.2.2.2.2.2.2.2.2.1, z.2.2.2.2.2.2.2.2.2, AC0, H]) (fun z => rndN n - z.1) (fun z => z.1 ≤ rndN n ∧ (gSl 45 gLink).ow [.slice z.2.1 (clM z.1 x).ends.length z.2.2.1] (clM z.1 x).ends z.2.2.2.2.2.2.2.1 ∧ (gSl 9 gS).ow [.slice z.2.2.2.1 (clM z.1 x).net.length z.2.2.2.2.1] (clM z.1 x).net z.2.2.2.2.2.2.2.2.1 ∧ (gSl 27 (gSl 9 gS)).ow [.slice z.2.2.2.2.2.1 (clM z.1 x).heard.length z.2.2.2.2.2.2.1] (clM z.1 x).heard z.2.2.2.2.2.2.2.2.2) ((0, _, _, _, _, _, _, _, _, _))
  · repeat' (first | exact trivial | refine ⟨⟨_, rfl, by first | rfl | exact inc_eq _ (by omega) | (refine sl_eq ?_; simp; done), by first | exact trivial | simp [SV.ok]⟩, ?_⟩)
  · exact ⟨rfl, rfl, rfl, trivial⟩
  · try dsimp only
    exact ⟨Nat.zero_le _, oE0, oN0, oH0⟩
  · exact .refl _
  rintro ⟨k, be, ce, bn, cn, bh, ch, AE, AN, AH⟩ hI
  obtain ⟨hk, oE, oN, oH⟩ : k ≤ rndN n ∧ (gSl 45 gLink).ow [.slice be (clM k x).ends.length ce] (clM k x).ends AE ∧ (gSl 9 gS).ow [.slice bn (clM k x).net.length cn] (clM k x).net AN ∧ (gSl 27 (gSl 9 gS)).ow [.slice bh (clM k x).heard.length ch] (clM k x).heard AH := hI
  try dsimp only
  refine VCsplit.intro (fun q4 => ?_) (fun q4 => ?_)
  ·
    simp at q4
    have w0 := w_cl hW k
    have w1 := w_tick w0 0
    have w2 := w_q w0
    refine callR_blk 2 (AN) [AE, AH, AC0, H] rfl ?_ (implTick_ct _ _ _ _ _ _ _ _ _ _ _ _ oN (Int.toNat_of_nonneg ?_).symm ?_ ?_ ?_) (Rp.mono _ (mem_at 0 rfl) (Gt.owrd _ oE)) ?_
    · exact .le fun a => by (try simp only [setR, List.cons_append, List.nil_append]); simp only [List.flatten_append, List.flatten_cons, List.flatten_nil, List.count_append, List.count_nil, List.append_nil, List.nil_append]; omega
    · trivial
    · trivial
    · exact w0.sz
    · exact w0.net
    rintro _ A5 ⟨bn5, cn5, An5, rfl, rfl, on5⟩
    refine ⟨_, _, [An5], rfl, perm1, ?_⟩
    refine callR_blk 2 (An5) [AE, AH, AC0, H] rfl ?_ (implTick_ct _ _ _ _ _ _ _ _ _ _ _ _ on5 (Int.toNat_of_nonneg ?_).symm ?_ ?_ ?_) (Rp.mono _ (mem_at 0 rfl) (Gt.owrd _ oE)) ?_
    · exact .refl _
    · trivial
    · trivial
    · exact w0.sz
    · exact w1.net
    rintro _ A6 ⟨bn6, cn6, An6, rfl, rfl, on6⟩
    refine ⟨_, _, [An6], rfl, perm1, ?_⟩
    apply loop_mod (α := (Nat) × (Option Addr) × (Nat) × (Option Addr) × (Nat) × (Option Addr) × (Nat) × (Hp) × (Hp) × (Hp)) G_ok [15, 16, 17, 18, 19] (fun z => []) (fun z => [⟨x0, [Value.slice b0p x.ends.length c0p, Value.slice b1p x.net.length c1p, Value.slice b2p x.heard.length c2p, Value.slice b3p x.codes.length c3p], (31 : Nat)⟩, ⟨x1, [Value.slice none (0 : Nat) (0 : Nat), Value.slice none (0 : Nat) (0 : Nat), Value.slice none (0 : Nat) (0 : Nat), Value.slice none (0 : Nat) (0 : Nat)], (31 : Nat)⟩, ⟨x3, [.slice z.2.1 (drM z.1 (qM (clM k x))).ends.length z.2.2.1, .slice z.2.2.2.1 (drM z.1 (qM (clM k x))).net.length z.2.2.2.2.1, .slice z.2.2.2.2.2.1 (drM z.1 (qM (clM k x))).heard.length z.2.2.2.2.2.2.1, Value.slice bc0 x.codes.length cc0], (31 : Nat)⟩]) (fun z => [z.2.2.2.2.2.2.2.1, z.2.2.2.2.2.2.2.2.1, z.2.2.2.2.2.2.2.2.2, AC0, H]) (fun z => (qM (clM k x)).net.length - z.1) (fun z => z.1 ≤ (qM (clM k x)).net.length ∧ (gSl 45 gLink).ow [.slice z.2.1 (drM z.1 (qM (clM k x))).ends.length z.2.2.1] (drM z.1 (qM (clM k x))).ends z.2.2.2.2.2.2.2.1 ∧ (gSl 9 gS).ow [.slice z.2.2.2.1 (drM z.1 (qM (clM k x))).net.length z.2.2.2.2.1] (drM z.1 (qM (clM k x))).net z.2.2.2.2.2.2.2.2.1 ∧ (gSl 27 (gSl 9 gS)).ow [.slice z.2.2.2.2.2.1 (drM z.1 (qM (clM k x))).heard.length z.2.2.2.2.2.2.1] (drM z.1 (qM (clM k x))).heard z.2.2.2.2.2.2.2.2.2) ((0, _, _, _, _, _, _, _, _, _))
    · repeat' (first | exact trivial | refine ⟨⟨_, rfl, by first | rfl | exact inc_eq _ (by omega) | (refine sl_eq ?_; simp; done), by first | exact trivial | simp [SV.ok]⟩, ?_⟩)
    · exact ⟨rfl, rfl, rfl, trivial⟩
    · try dsimp only
      exact ⟨Nat.zero_le _, by assumption, by assumption, by assumption⟩
    · exact .le fun a => by (try simp only [setR, List.cons_append, List.nil_append]); simp only [List.flatten_append, List.flatten_cons, List.flatten_nil, List.count_append, List.count_nil, List.append_nil, List.nil_append]; omega
    rintro ⟨j, be, ce, bn, cn, bh, ch, AE, AN, AH⟩ hI
    obtain ⟨hj, oE2, oN2, oH2⟩ : j ≤ (qM (clM k x)).net.length ∧ (gSl 45 gLink).ow [.slice be (drM j (qM (clM k x))).ends.length ce] (drM j (qM (clM k x))).ends AE ∧ (gSl 9 gS).ow [.slice bn (drM j (qM (clM k x))).net.length cn] (drM j (qM (clM k x))).net AN ∧ (gSl 27 (gSl 9 gS)).ow [.slice bh (drM j (qM (clM k x))).heard.length ch] (drM j (qM (clM k x))).heard AH := hI
    try dsimp only
    refine VCsplit.intro (fun q7 => ?_) (fun q7 => ?_)
    ·
      simp at q7
      have w3 := w_dr w2 j
      have hdn := dr_net (qM (clM k x)) j
      have hqn := w2.net
      refine callR_blk 2 (AE ++ AN ++ AH) [AC0, H] rfl ?_ (implCarry_ct _ _ _ _ _ _ _ _ _ _ _ _ _ _ _ _ oE2 oN2 oH2 (Int.toNat_of_nonneg ?_).symm ?_ ?_ ?_ ?_ ?_) trivial ?_
      · exact .le fun a => by (try simp only [setR, List.cons_append, List.nil_append]); simp only [List.flatten_append, List.flatten_cons, List.flatten_nil, List.count_append, List.count_nil, List.append_nil, List.nil_append]; omega
      · trivial
      · trivial
      · omega
      · exact w3.ns
      · exact w3.sz
      · exact w3.hh (by omega)
      rintro _ A8 ⟨cn8, AE8, AN8, AH8, rfl, rfl, oE8, oN8, oH8⟩
      refine ⟨_, _, [AE8, AN8, AH8], rfl, perm3', ?_⟩
      apply loop_stepA (j + 1, _, _, _, _, _, _, _, _, _)
      · exact .refl _
      · repeat' (first | exact trivial | refine ⟨⟨_, rfl, by first | rfl | exact inc_eq _ (by omega) | (refine sl_eq ?_; simp; done), by first | exact trivial | simp [SV.ok]⟩, ?_⟩)
      · exact ⟨rfl, rfl, rfl, trivial⟩
      · try dsimp only
        exact ⟨by omega, by assumption, by assumption, by assumption⟩
      · try dsimp only
        omega
    ·
      simp at q7
      have hdn := dr_net (qM (clM k x)) j
      have hz7 : (drM j (qM (clM k x))).net.length = 0 := (by first | omega | (rw [q7]; rfl))
      have hjq : j = (qM (clM k x)).net.length := (by omega)
      subst hjq
      apply loop_stepA (k + 1, _, _, _, _, _, _, _, _, _)
      · exact .refl _
      · repeat' (first | exact trivial | refine ⟨⟨_, rfl, by first | rfl | exact inc_eq _ (by omega) | (refine sl_eq ?_; simp; done), by first | exact trivial | simp [SV.ok]⟩, ?_⟩)
      · exact ⟨rfl, rfl, rfl, trivial⟩
      · try dsimp only
        exact ⟨by omega, by assumption, by assumption, by assumption⟩
      · try dsimp only
        omega
  ·
    simp at q4
    (have hkk : k = rndN n := (by omega); subst hkk; exact ⟨_, ⟨_, rfl, gPair_ow.2 ⟨be, ce, AE, bn, cn, AN, bh, ch, AH, bc0, cc0, AC0, by rw [cl_codes], .refl _, oE, oN, oH, by rw [cl_codes]; exact oC0⟩⟩, (.le fun a => by (try simp only [setR, List.cons_append, List.nil_append]); simp [List.count_cons, Blk.ent, idOf]; try omega)⟩)

end Go.Proofs.Ytmmmjikanmgpfaa

namespace Go.Proofs.Ytmmmjikanmgpfaa
open Go.SX Go.Proofs
set_option linter.unusedSimpArgs false
set_option linter.unusedVariables false
set_option maxHeartbeats 4000000
attribute [local irreducible] IntKind.wrap

def tkN : Nat → Pair → Pair
  | 0, p => p
  | m + 1, p => tkM (tkN m p) m
theorem tkN_ends (p : Pair) : ∀ m, (tkN m p).ends = p.ends
  | 0 => rfl
  | m + 1 => tkN_ends p m
theorem tkM_out {p : Pair} {s : Nat} (h : ¬ s < p.ends.length) : tkM p s = p := by
  unfold tkM
  rw [tickN_out h]
theorem tkN_end {p : Pair} {m : Nat} (h : m = 2 ∨ (m < 2 ∧ p.ends.length ≤ m)) : tkN m p = qM p := by
  have e : qM p = tkN 2 p := rfl
  rw [e]
  have hs : ∀ m, p.ends.length ≤ m → tkN (m + 1) p = tkN m p := fun m h => tkM_out (by rw [tkN_ends]; omega)
  rcases h with rfl | ⟨h1, h2⟩
  · rfl
  · rcases (by omega : m = 0 ∨ m = 1) with rfl | rfl
    · rw [hs 1 (by omega), hs 0 h2]
    · rw [hs 1 h2]
theorem tkN_next {p : Pair} {m : Nat} (h : m < (tkN m p).ends.length) (hm : m < 2) : (tkN (m + 1) p).net = netK (linkPacks ((tkN m p).ends[m]?.getD default) 1 (m : Int) (IntKind.i64.wrap (1 - (m : Int)))) (tkN m p).net (linkPacks ((tkN m p).ends[m]?.getD default) 1 (m : Int) (IntKind.i64.wrap (1 - (m : Int)))).length := by
  rw [wrap_of (by omega) (by omega)]; exact tickN_in h
theorem w_tkN {B : Nat} {p : Pair} (h : W B p) : ∀ m, W B (tkN m p)
  | 0 => h
  | m + 1 => w_tick (w_tkN h m) m

theorem cut0 {α : Type} (xs : List α) : [] ++ List.drop 1 (List.take xs.length xs) = xs.eraseIdx 0 := by
  rw [List.take_length]
  cases xs <;> rfl
theorem W.t0 {B : Nat} {p : Pair} (h : W B p) (h0 : 0 < p.net.length) : (p.net[0]?.getD ByteArray.empty).size ≤ 20004 := by
  rw [List.getElem?_eq_getElem h0]; exact h.ns _ (List.getElem_mem h0)
--@ct spec.CalmPair new specCalmPair_ct _ $1 _ ?_ ?_ | %1 | obtain ⟨l#, rfl, o#⟩ := o# ;; have r# := Gt.owrd _ o# ;; @open{Pair r# x#}
theorem specCalmPair_ct (l : List Value) (x : Pair) (n : Int) (hx : gPair.sz x ≤ 1048576) (hW : W 1000 x) :
    Ct Try.prog 17 [.agg ⟨l⟩, .int .i64 n] [] (fun H => gPair.rd H l x) (fun v A => ∃ l, v = .agg ⟨l⟩ ∧ gPair.ow l (clM (rndN n) x) A) := by
  refine Ct.intro0 G_ok Try.func17 rfl rfl rfl fun E H hp => ?_
  obtain ⟨b0p, c0p, b1p, c1p, b2p, c2p, b3p, c3p, rfl, h0p, h1p, h2p, h3p⟩ := gPair_rd.1 hp
  have hr : rndN n = (min n 80).toNat := rfl
  have hr2 := rndN_le n
  refine VCnew.intro fun x0 => ?_
  refine VCnew.intro fun x1 => ?_
  refine call_newP (s_l19Copy_ct _ x ?_) (Rp.mono _ (mem_at 0 rfl) hp) ?_
  · trivial
  rintro v2 A2 o2
  obtain ⟨l2, rfl, o2⟩ := o2
  obtain ⟨be0, ce0, AE0, bn0, cn0, AN0, bh0, ch0, AH0, bc0, cc0, AC0, rfl, hpm, oE0, oN0, oH0, oC0⟩ := gPair_ow.1 o2
  refine ⟨[AE0, AN0, AH0, AC0], by simpa using hpm, ?_⟩
  refine VCnew.intro fun x3 => ?_
  apply loop_mod (α := (Nat) × (Option Addr) × (Nat) × (Option Addr) × (Nat) × (Option Addr) × (Nat) × (Hp) × (Hp) × (Hp)) G_ok [11, 12, 13, 14, 15, 16, 17, 7, 20, 21, 22, 23, 24, 25, 26, 27, 28, 31, 32, 33, 34, 35, 36, 37, 38, 39, 40, 29, 30, 41, 42, 43, 44, 45, 46, 47, 48, 8, 49, 50, 51, 52, 53, 54, 55, 56, 18, 19, 6] (fun z => [(6, .v (.int .i64 z.1))]) (fun z => [⟨x0, [Value.slice b0p x.ends.length c0p, Value.slice b1p x.net.length c1p, Value.slice b2p x.heard.length c2p, Value.slice b3p x.codes.length c3p], (31 : Nat)⟩, ⟨x1, [Value.slice none (0 : Nat) (0 : Nat), Value.slice none (0 : Nat) (0 : Nat), Value.slice none (0 : Nat) (0 : Nat), Value.slice none (0 : Nat) (0 : Nat)], (31 : Nat)⟩, ⟨x3, [.slice z.2.1 (clM z.1 x).ends.length z.2.2.1, .slice z.2.2.2.1 (clM z.1 x).net.length z.2.2.2.2.1, .slice z.2.2.2.2.2.1 (clM z.1 x).heard.length z.2.2.2.2.2.2.1, Value.slice bc0 x.codes.length cc0], (31 : Nat)⟩]) (fun z => [z.2.2.2.2.2.2.2.1, z.2.2.2.2.2.2.2.2.2, z.2.2.2.2.2.2.2.2.1, AC0, H]) (fun z => rndN n - z.1) (fun z => z.1 ≤ rndN n ∧ (gSl 45 gLink).ow [.slice z.2.1 (clM z.1 x).ends.length z.2.2.1] (clM z.1 x).ends z.2.2.2.2.2.2.2.1 ∧ (gSl 9 gS).ow [.slice z.2.2.2.1 (clM z.1 x).net.length z.2.2.2.2.1] (clM z.1 x).net z.2.2.2.2.2.2.2.2.1 ∧ (gSl 27 (gSl 9 gS)).ow [.slice z.2.2.2.2.2.1 (clM z.1 x).heard.length z.2.2.2.2.2.2.1] (clM z.1 x).heard z.2.2.2.2.2.2.2.2.2) ((0, _, _, _, _, _, _, _, _, _))
  · repeat' (first | exact trivial | refine ⟨⟨_, rfl, by first | rfl | exact inc_eq _ (by omega) | (refine sl_eq ?_; simp; done), by first | exact trivial | simp [SV.ok]⟩, ?_⟩)
  · exact ⟨rfl, rfl, rfl, trivial⟩
  · try dsimp only
    exact ⟨by omega, by assumption, by assumption, by assumption⟩
  · exact .le fun a => by (try simp only [setR, List.cons_append, List.nil_append]); simp only [List.flatten_append, List.flatten_cons, List.flatten_nil, List.count_append, List.count_nil, List.append_nil, List.nil_append]; omega
  rintro ⟨k, be, ce, bn, cn, bh, ch, AE, AN, AH⟩ hI
  obtain ⟨hk, oE, oN, oH⟩ : k ≤ rndN n ∧ (gSl 45 gLink).ow [.slice be (clM k x).ends.length ce] (clM k x).ends AE ∧ (gSl 9 gS).ow [.slice bn (clM k x).net.length cn] (clM k x).net AN ∧ (gSl 27 (gSl 9 gS)).ow [.slice bh (clM k x).heard.length ch] (clM k x).heard AH := hI
  try dsimp only
  refine VCsplit.intro (fun q4 => ?_) (fun q4 => ?_)
  ·
    simp at q4
    refine VCsplit.intro (fun q5 => ?_) (fun q5 => ?_)
    ·
      simp at q5
      have w0 := w_cl hW k
      have w2 := w_q w0
      have hqn := w2.net
      apply loop_mod (α := (Nat) × (Option Addr) × (Nat) × (Option Addr) × (Nat) × (Option Addr) × (Nat) × (Hp) × (Hp) × (Hp)) G_ok [20, 21, 22, 23, 24, 25, 26, 27, 28, 31, 32, 33, 34, 35, 36, 37, 38, 39, 40, 29, 30, 7] (fun z => [(7, .v (.int .i64 z.1))]) (fun z => [⟨x0, [Value.slice b0p x.ends.length c0p, Value.slice b1p x.net.length c1p, Value.slice b2p x.heard.length c2p, Value.slice b3p x.codes.length c3p], (31 : Nat)⟩, ⟨x1, [Value.slice none (0 : Nat) (0 : Nat), Value.slice none (0 : Nat) (0 : Nat), Value.slice none (0 : Nat) (0 : Nat), Value.slice none (0 : Nat) (0 : Nat)], (31 : Nat)⟩, ⟨x3, [.slice z.2.1 (tkN z.1 (clM k x)).ends.length z.2.2.1, .slice z.2.2.2.1 (tkN z.1 (clM k x)).net.length z.2.2.2.2.1, .slice z.2.2.2.2.2.1 (tkN z.1 (clM k x)).heard.length z.2.2.2.2.2.2.1, Value.slice bc0 x.codes.length cc0], (31 : Nat)⟩]) (fun z => [z.2.2.2.2.2.2.2.2.1, z.2.2.2.2.2.2.2.1, z.2.2.2.2.2.2.2.2.2, AC0, H]) (fun z => 2 - z.1) (fun z => z.1 ≤ 2 ∧ (gSl 45 gLink).ow [.slice z.2.1 (tkN z.1 (clM k x)).ends.length z.2.2.1] (tkN z.1 (clM k x)).ends z.2.2.2.2.2.2.2.1 ∧ (gSl 9 gS).ow [.slice z.2.2.2.1 (tkN z.1 (clM k x)).net.length z.2.2.2.2.1] (tkN z.1 (clM k x)).net z.2.2.2.2.2.2.2.2.1 ∧ (gSl 27 (gSl 9 gS)).ow [.slice z.2.2.2.2.2.1 (tkN z.1 (clM k x)).heard.length z.2.2.2.2.2.2.1] (tkN z.1 (clM k x)).heard z.2.2.2.2.2.2.2.2.2) ((0, _, _, _, _, _, _, _, _, _))
      · repeat' (first | exact trivial | refine ⟨⟨_, rfl, by first | rfl | exact inc_eq _ (by omega) | (refine sl_eq ?_; simp; done), by first | exact trivial | simp [SV.ok]⟩, ?_⟩)
      · exact ⟨rfl, rfl, rfl, trivial⟩
      · try dsimp only
        exact ⟨by omega, by assumption, by assumption, by assumption⟩
      · exact .le fun a => by (try simp only [setR, List.cons_append, List.nil_append]); simp only [List.flatten_append, List.flatten_cons, List.flatten_nil, List.count_append, List.count_nil, List.append_nil, List.nil_append]; omega
      rintro ⟨m, be, ce, bn, cn, bh, ch, AE, AN, AH⟩ hI
      obtain ⟨hm, oE1, oN1, oH1⟩ : m ≤ 2 ∧ (gSl 45 gLink).ow [.slice be (tkN m (clM k x)).ends.length ce] (tkN m (clM k x)).ends AE ∧ (gSl 9 gS).ow [.slice bn (tkN m (clM k x)).net.length cn] (tkN m (clM k x)).net AN ∧ (gSl 27 (gSl 9 gS)).ow [.slice bh (tkN m (clM k x)).heard.length ch] (tkN m (clM k x)).heard AH := hI
      try dsimp only
      refine VCsplit.intro (fun q6 => ?_) (fun q6 => ?_)
      ·
        simp at q6
        have w1 := w_tkN w0 m
        have he2 := congrArg List.length (tkN_ends (clM k x) m)
        refine VCsplit.intro (fun q7 => ?_) (fun q7 => ?_)
        ·
          simp at q7
          refine idx_rd (Gt.owrd _ oE1) ?_ ?_ fun b8 o8 hb8 => ?_
          · omega
          · omega
          refine load_allN default (m) rfl (Gt.owrd _ oE1) ?_ ?_ hb8 rfl (mem_at 1 rfl) fun l9 hl9 => ?_
          · omega
          · omega
          obtain ⟨b0x9, c0x9, rfl, h0x9, w1x9, w2x9⟩ := gLink_rd.1 hl9
          refine call_new (specLinkPackets_ct _ ((tkN m (clM k x)).ends[m]?.getD default) _ _ _ ?_ ?_ ?_ ?_) (Rp.mono _ (mem_at 1 rfl) hl9) ?_
          · exact w1.sz m (by omega)
          · trivial
          · unfold okI; omega
          · exact okI_wrap _
          rintro v10 A10 o10
          obtain ⟨b10, c10, rfl, o10⟩ := o10
          refine callR_blk 2 (AN) [A10, AE, AH, AC0, H] rfl ?_ (l19Net_ct _ _ _ _ _ _ _ _ _ _ _ oN1 ?_) (Rp.mono _ (mem_at 0 rfl) (Gt.owrd _ o10)) ?_
          · exact .le fun a => by (try simp only [setR, List.cons_append, List.nil_append]); simp only [List.flatten_append, List.flatten_cons, List.flatten_nil, List.count_append, List.count_nil, List.append_nil, List.nil_append]; omega
          · exact w1.net
          rintro _ A11 ⟨bn11, cn11, An11, rfl, rfl, on11⟩
          refine ⟨_, _, [An11], rfl, perm1, ?_⟩
          apply loop_stepA (m + 1, _, _, _, _, _, _, AE, _, AH)
          · exact .sub (by repeat (first | exact .slnil | apply List.Sublist.cons_cons | apply List.Sublist.cons))
          · repeat' (first | exact trivial | refine ⟨⟨_, rfl, by first | rfl | exact inc_eq _ (by omega) | (refine sl_eq ?_; simp; done), by first | exact trivial | simp [SV.ok]⟩, ?_⟩)
          · ((rw [tkN_next (by omega) (by omega)]); repeat' (first | exact trivial | refine ⟨by first | rfl | simp [Blk.ent], ?_⟩))
          · try dsimp only
            (rw [tkN_next (by omega) (by omega)]; exact ⟨by omega, by assumption, by assumption, by assumption⟩)
          · try dsimp only
            omega
        ·
          simp at q7
          have hq9 := tkN_end (p := clM k x) (m := m) (.inl (by omega))
          rw [hq9] at oE1 oN1 oH1 ⊢
          apply loop_mod (α := (Nat) × (Option Addr) × (Nat) × (Option Addr) × (Nat) × (Option Addr) × (Nat) × (Hp) × (Hp) × (Hp)) G_ok [41, 42, 43, 44, 45, 46, 47, 48, 8, 49, 50, 51, 52, 53, 54, 55, 56] (fun z => []) (fun z => [⟨x0, [Value.slice b0p x.ends.length c0p, Value.slice b1p x.net.length c1p, Value.slice b2p x.heard.length c2p, Value.slice b3p x.codes.length c3p], (31 : Nat)⟩, ⟨x1, [Value.slice none (0 : Nat) (0 : Nat), Value.slice none (0 : Nat) (0 : Nat), Value.slice none (0 : Nat) (0 : Nat), Value.slice none (0 : Nat) (0 : Nat)], (31 : Nat)⟩, ⟨x3, [.slice z.2.1 (drM z.1 (qM (clM k x))).ends.length z.2.2.1, .slice z.2.2.2.1 (drM z.1 (qM (clM k x))).net.length z.2.2.2.2.1, .slice z.2.2.2.2.2.1 (drM z.1 (qM (clM k x))).heard.length z.2.2.2.2.2.2.1, Value.slice bc0 x.codes.length cc0], (31 : Nat)⟩]) (fun z => [z.2.2.2.2.2.2.2.1, z.2.2.2.2.2.2.2.2.2, z.2.2.2.2.2.2.2.2.1, AC0, H]) (fun z => (qM (clM k x)).net.length - z.1) (fun z => z.1 ≤ (qM (clM k x)).net.length ∧ (gSl 45 gLink).ow [.slice z.2.1 (drM z.1 (qM (clM k x))).ends.length z.2.2.1] (drM z.1 (qM (clM k x))).ends z.2.2.2.2.2.2.2.1 ∧ (gSl 9 gS).ow [.slice z.2.2.2.1 (drM z.1 (qM (clM k x))).net.length z.2.2.2.2.1] (drM z.1 (qM (clM k x))).net z.2.2.2.2.2.2.2.2.1 ∧ (gSl 27 (gSl 9 gS)).ow [.slice z.2.2.2.2.2.1 (drM z.1 (qM (clM k x))).heard.length z.2.2.2.2.2.2.1] (drM z.1 (qM (clM k x))).heard z.2.2.2.2.2.2.2.2.2) ((0, _, _, _, _, _, _, _, _, _))
          · repeat' (first | exact trivial | refine ⟨⟨_, rfl, by first | rfl | exact inc_eq _ (by omega) | (refine sl_eq ?_; simp; done), by first | exact trivial | simp [SV.ok]⟩, ?_⟩)
          · exact ⟨rfl, rfl, rfl, trivial⟩
          · try dsimp only
            exact ⟨by omega, by assumption, by assumption, by assumption⟩
          · exact .le fun a => by (try simp only [setR, List.cons_append, List.nil_append]); simp only [List.flatten_append, List.flatten_cons, List.flatten_nil, List.count_append, List.count_nil, List.append_nil, List.nil_append]; omega
          rintro ⟨j, be, ce, bn, cn, bh, ch, AE, AN, AH⟩ hI
          obtain ⟨hj, oE2, oN2, oH2⟩ : j ≤ (qM (clM k x)).net.length ∧ (gSl 45 gLink).ow [.slice be (drM j (qM (clM k x))).ends.length ce] (drM j (qM (clM k x))).ends AE ∧ (gSl 9 gS).ow [.slice bn (drM j (qM (clM k x))).net.length cn] (drM j (qM (clM k x))).net AN ∧ (gSl 27 (gSl 9 gS)).ow [.slice bh (drM j (qM (clM k x))).heard.length ch] (drM j (qM (clM k x))).heard AH := hI
          try dsimp only
          refine VCsplit.intro (fun q12 => ?_) (fun q12 => ?_)
          ·
            simp at q12
            have w3 := w_dr w2 j
            have hdn := dr_net (qM (clM k x)) j
            have hcn := (sl_len (Gt.owrd _ oN2)).2.1
            have hnn : 0 < (drM j (qM (clM k x))).net.length := (by first | omega | exact List.length_pos_iff.2 ‹_›)
            have hn9 := w3.net
            refine idx_rd (Gt.owrd _ oN2) ?_ ?_ fun b13 o13 hb13 => ?_
            · trivial
            · omega
            refine load_allN ByteArray.empty (0) rfl (Gt.owrd _ oN2) ?_ ?_ hb13 rfl (mem_at 2 rfl) fun l14 hl14 => ?_
            · trivial
            · omega
            obtain ⟨rfl, hw14⟩ := hl14; simp only [flStr, flInt, okI] at hw14
            refine VCnew.intro fun x15 => ?_
            refine VC.intro ?_ ?_
            · omega
            refine append_allN (g := gS) (T := 9) G_ok fl_plain [] _ 3 (rle_nil _) (sl_nil _ _ _) rfl (rd_sub (r := gS.toRp) (l := 1) (h := (drM j (qM (clM k x))).net.length) (Gt.owrd _ oN2) (by omega) (by omega) (by omega)) rfl rfl rfl rfl rfl rfl rfl rfl (by simp; omega) fun bV cV AV oV => ?_
            have eL := cut0 (drM j (qM (clM k x))).net
            rw [eL] at oV ⊢
            refine callR_blk 2 (AE ++ AH) [AV, [(x15, Obj.cells { toList := zeros (0 : Nat) [Value.string ByteArray.empty] } (9 : TypeId))], AN, AC0, H] rfl ?_ (l19Carry_ct _ _ _ _ _ _ _ _ _ _ _ _ oE2 oH2 ?_ ?_ ?_ ?_) trivial ?_
            · exact .le fun a => by (try simp only [setR, List.cons_append, List.nil_append]); simp only [List.flatten_append, List.flatten_cons, List.flatten_nil, List.count_append, List.count_nil, List.append_nil, List.nil_append]; omega
            · exact w3.t0 (by omega)
            · exact w3.two
            · exact w3.sz
            · exact w3.hh (by omega)
            rintro _ A16 ⟨AE16, AH16, rfl, rfl, oE16, oH16⟩
            refine ⟨_, _, [AE16, AH16], rfl, perm2', ?_⟩
            apply loop_stepA (j + 1, _, _, _, _, _, _, _, _, _)
            · exact .sub (by repeat (first | exact .slnil | apply List.Sublist.cons_cons | apply List.Sublist.cons))
            · repeat' (first | exact trivial | refine ⟨⟨_, rfl, by first | rfl | exact inc_eq _ (by omega) | (refine sl_eq ?_; simp; done), by first | exact trivial | simp [SV.ok]⟩, ?_⟩)
            · exact ⟨rfl, rfl, rfl, trivial⟩
            · try dsimp only
              exact ⟨by omega, by assumption, by assumption, by assumption⟩
            · try dsimp only
              omega
          ·
            simp at q12
            have hdn := dr_net (qM (clM k x)) j
            have hz7 : (drM j (qM (clM k x))).net.length = 0 := (by first | omega | (rw [show (drM j (qM (clM k x))).net = [] from ‹_›]; rfl))
            have hjq : j = (qM (clM k x)).net.length := (by omega)
            subst hjq
            apply loop_stepA (k + 1, _, _, _, _, _, _, _, _, _)
            · exact .refl _
            · repeat' (first | exact trivial | refine ⟨⟨_, rfl, by first | rfl | exact inc_eq _ (by omega) | (refine sl_eq ?_; simp; done), by first | exact trivial | simp [SV.ok]⟩, ?_⟩)
            · exact ⟨rfl, rfl, rfl, trivial⟩
            · try dsimp only
              exact ⟨by omega, by assumption, by assumption, by assumption⟩
            · try dsimp only
              omega
      ·
        simp at q6
        have he2 := congrArg List.length (tkN_ends (clM k x) m)
        have hq9 := tkN_end (p := clM k x) (m := m) (by omega)
        rw [hq9] at oE1 oN1 oH1 ⊢
        apply loop_mod (α := (Nat) × (Option Addr) × (Nat) × (Option Addr) × (Nat) × (Option Addr) × (Nat) × (Hp) × (Hp) × (Hp)) G_ok [41, 42, 43, 44, 45, 46, 47, 48, 8, 49, 50, 51, 52, 53, 54, 55, 56] (fun z => []) (fun z => [⟨x0, [Value.slice b0p x.ends.length c0p, Value.slice b1p x.net.length c1p, Value.slice b2p x.heard.length c2p, Value.slice b3p x.codes.length c3p], (31 : Nat)⟩, ⟨x1, [Value.slice none (0 : Nat) (0 : Nat), Value.slice none (0 : Nat) (0 : Nat), Value.slice none (0 : Nat) (0 : Nat), Value.slice none (0 : Nat) (0 : Nat)], (31 : Nat)⟩, ⟨x3, [.slice z.2.1 (drM z.1 (qM (clM k x))).ends.length z.2.2.1, .slice z.2.2.2.1 (drM z.1 (qM (clM k x))).net.length z.2.2.2.2.1, .slice z.2.2.2.2.2.1 (drM z.1 (qM (clM k x))).heard.length z.2.2.2.2.2.2.1, Value.slice bc0 x.codes.length cc0], (31 : Nat)⟩]) (fun z => [z.2.2.2.2.2.2.2.1, z.2.2.2.2.2.2.2.2.2, z.2.2.2.2.2.2.2.2.1, AC0, H]) (fun z => (qM (clM k x)).net.length - z.1) (fun z => z.1 ≤ (qM (clM k x)).net.length ∧ (gSl 45 gLink).ow [.slice z.2.1 (drM z.1 (qM (clM k x))).ends.length z.2.2.1] (drM z.1 (qM (clM k x))).ends z.2.2.2.2.2.2.2.1 ∧ (gSl 9 gS).ow [.slice z.2.2.2.1 (drM z.1 (qM (clM k x))).net.length z.2.2.2.2.1] (drM z.1 (qM (clM k x))).net z.2.2.2.2.2.2.2.2.1 ∧ (gSl 27 (gSl 9 gS)).ow [.slice z.2.2.2.2.2.1 (drM z.1 (qM (clM k x))).heard.length z.2.2.2.2.2.2.1] (drM z.1 (qM (clM k x))).heard z.2.2.2.2.2.2.2.2.2) ((0, _, _, _, _, _, _, _, _, _))
        · repeat' (first | exact trivial | refine ⟨⟨_, rfl, by first | rfl | exact inc_eq _ (by omega) | (refine sl_eq ?_; simp; done), by first | exact trivial | simp [SV.ok]⟩, ?_⟩)
        · exact ⟨rfl, rfl, rfl, trivial⟩
        · try dsimp only
          exact ⟨by omega, by assumption, by assumption, by assumption⟩
        · exact .le fun a => by (try simp only [setR, List.cons_append, List.nil_append]); simp only [List.flatten_append, List.flatten_cons, List.flatten_nil, List.count_append, List.count_nil, List.append_nil, List.nil_append]; omega
        rintro ⟨j, be, ce, bn, cn, bh, ch, AE, AN, AH⟩ hI
        obtain ⟨hj, oE2, oN2, oH2⟩ : j ≤ (qM (clM k x)).net.length ∧ (gSl 45 gLink).ow [.slice be (drM j (qM (clM k x))).ends.length ce] (drM j (qM (clM k x))).ends AE ∧ (gSl 9 gS).ow [.slice bn (drM j (qM (clM k x))).net.length cn] (drM j (qM (clM k x))).net AN ∧ (gSl 27 (gSl 9 gS)).ow [.slice bh (drM j (qM (clM k x))).heard.length ch] (drM j (qM (clM k x))).heard AH := hI
        try dsimp only
        refine VCsplit.intro (fun q17 => ?_) (fun q17 => ?_)
        ·
          simp at q17
          have w3 := w_dr w2 j
          have hdn := dr_net (qM (clM k x)) j
          have hcn := (sl_len (Gt.owrd _ oN2)).2.1
          have hnn : 0 < (drM j (qM (clM k x))).net.length := (by first | omega | exact List.length_pos_iff.2 ‹_›)
          have hn9 := w3.net
          refine idx_rd (Gt.owrd _ oN2) ?_ ?_ fun b18 o18 hb18 => ?_
          · trivial
          · omega
          refine load_allN ByteArray.empty (0) rfl (Gt.owrd _ oN2) ?_ ?_ hb18 rfl (mem_at 2 rfl) fun l19 hl19 => ?_
          · trivial
          · omega
          obtain ⟨rfl, hw19⟩ := hl19; simp only [flStr, flInt, okI] at hw19
          refine VCnew.intro fun x20 => ?_
          refine VC.intro ?_ ?_
          · omega
          refine append_allN (g := gS) (T := 9) G_ok fl_plain [] _ 3 (rle_nil _) (sl_nil _ _ _) rfl (rd_sub (r := gS.toRp) (l := 1) (h := (drM j (qM (clM k x))).net.length) (Gt.owrd _ oN2) (by omega) (by omega) (by omega)) rfl rfl rfl rfl rfl rfl rfl rfl (by simp; omega) fun bV cV AV oV => ?_
          have eL := cut0 (drM j (qM (clM k x))).net
          rw [eL] at oV ⊢
          refine callR_blk 2 (AE ++ AH) [AV, [(x20, Obj.cells { toList := zeros (0 : Nat) [Value.string ByteArray.empty] } (9 : TypeId))], AN, AC0, H] rfl ?_ (l19Carry_ct _ _ _ _ _ _ _ _ _ _ _ _ oE2 oH2 ?_ ?_ ?_ ?_) trivial ?_
          · exact .le fun a => by (try simp only [setR, List.cons_append, List.nil_append]); simp only [List.flatten_append, List.flatten_cons, List.flatten_nil, List.count_append, List.count_nil, List.append_nil, List.nil_append]; omega
          · exact w3.t0 (by omega)
          · exact w3.two
          · exact w3.sz
          · exact w3.hh (by omega)
          rintro _ A21 ⟨AE21, AH21, rfl, rfl, oE21, oH21⟩
          refine ⟨_, _, [AE21, AH21], rfl, perm2', ?_⟩
          apply loop_stepA (j + 1, _, _, _, _, _, _, _, _, _)
          · exact .sub (by repeat (first | exact .slnil | apply List.Sublist.cons_cons | apply List.Sublist.cons))
          · repeat' (first | exact trivial | refine ⟨⟨_, rfl, by first | rfl | exact inc_eq _ (by omega) | (refine sl_eq ?_; simp; done), by first | exact trivial | simp [SV.ok]⟩, ?_⟩)
          · exact ⟨rfl, rfl, rfl, trivial⟩
          · try dsimp only
            exact ⟨by omega, by assumption, by assumption, by assumption⟩
          · try dsimp only
            omega
        ·
          simp at q17
          have hdn := dr_net (qM (clM k x)) j
          have hz7 : (drM j (qM (clM k x))).net.length = 0 := (by first | omega | (rw [show (drM j (qM (clM k x))).net = [] from ‹_›]; rfl))
          have hjq : j = (qM (clM k x)).net.length := (by omega)
          subst hjq
          apply loop_stepA (k + 1, _, _, _, _, _, _, _, _, _)
          · exact .refl _
          · repeat' (first | exact trivial | refine ⟨⟨_, rfl, by first | rfl | exact inc_eq _ (by omega) | (refine sl_eq ?_; simp; done), by first | exact trivial | simp [SV.ok]⟩, ?_⟩)
          · exact ⟨rfl, rfl, rfl, trivial⟩
          · try dsimp only
            exact ⟨by omega, by assumption, by assumption, by assumption⟩
          · try dsimp only
            omega
    ·
      simp at q5
      (have hkk : k = rndN n := (by omega); subst hkk; exact ⟨_, ⟨_, rfl, gPair_ow.2 ⟨be, ce, AE, bn, cn, AN, bh, ch, AH, bc0, cc0, AC0, by rw [cl_codes], .refl _, oE, oN, oH, by rw [cl_codes]; exact oC0⟩⟩, (.le fun a => by (try simp only [setR, List.cons_append, List.nil_append]); simp [List.count_cons, Blk.ent, idOf]; try omega)⟩)
  ·
    simp at q4
    (have hkk : k = rndN n := (by omega); subst hkk; exact ⟨_, ⟨_, rfl, gPair_ow.2 ⟨be, ce, AE, bn, cn, AN, bh, ch, AH, bc0, cc0, AC0, by rw [cl_codes], .refl _, oE, oN, oH, by rw [cl_codes]; exact oC0⟩⟩, (.le fun a => by (try simp only [setR, List.cons_append, List.nil_append]); simp [List.count_cons, Blk.ent, idOf]; try omega)⟩)

end Go.Proofs.Ytmmmjikanmgpfaa

namespace Go.Proofs.Ytmmmjikanmgpfaa
open Go.SX Go.Proofs
set_option linter.unusedSimpArgs false
set_option linter.unusedVariables false
set_option maxHeartbeats 4000000

theorem w_run {xs : List Push} (h : okK xs xs.length) : W 300 (runK xs xs.length) := by
  have hI := runK_pi h _ (Nat.le_refl _)
  refine ⟨by rw [hI.1.two]; decide, hI.1.two', hI.1.netLen, runK_netS h _ (Nat.le_refl _), fun l hl => ⟨?_, hI.2.2 l hl⟩, fun i => ?_⟩
  · obtain ⟨i, hi, rfl⟩ := List.mem_iff_getElem.1 hl
    have h2 := hI.1.two
    have h1 := linkOk_iff.1 (hI.1.ok i (by omega))
    have e0 : (endOf (runK xs xs.length) i) = (runK xs xs.length).ends[i] := by unfold endOf; rw [List.getElem?_eq_getElem hi]; rfl
    rw [e0] at h1
    have h4 := szL_gS _ (hI.2.2 _ hl)
    have h5 := h1.1
    omega
  · rcases Nat.lt_or_ge i (runK xs xs.length).heard.length with hi | hi
    · have hi2 : i < 2 := by have := hI.1.two'; omega
      have h1 : (runK xs xs.length).heard[i]?.getD [] = _ := hI.1.heardIs i hi2
      have h6 := linkOk_iff.1 (hI.1.ok (1 - i) (by omega))
      rw [h1, List.length_take]
      have := h6.1
      omega
    · rw [List.getElem?_eq_none hi]; show ([] : List ByteArray).length ≤ 300; simp
/-- a pair that is drawn and may be bent -/
structure AnyP (x : Pair) : Prop where
  w : W 1000 x
  codes : x.codes.length ≤ 90
  hs : ∀ l ∈ x.heard, szL gS l ≤ 9000
theorem AnyP.sz {x : Pair} (h : AnyP x) : gPair.sz x ≤ 400000 := by
  rw [gPair_sz]
  have e1 : szL gLink x.ends ≤ (20000 + 1) * x.ends.length := szL_le gLink 20000 _ fun l hl => by
    have h3 : gLink.sz l = szL gS l.sent + (0 + 0) := gLink_sz _
    have := (h.w.sent l hl).1
    omega
  have e2 : szL gS x.net ≤ (200 + 1) * x.net.length := szL_le gS 200 _ h.w.netS
  have e3 : szL (gSl 9 gS) x.heard ≤ (9000 + 1) * x.heard.length := szL_le _ 9000 _ h.hs
  have e4 : szL gI x.codes ≤ (0 + 1) * x.codes.length := szL_le gI 0 _ fun _ _ => Nat.le_refl _
  have := h.w.two
  have := h.w.two'
  have := h.w.net
  have := h.codes
  omega
theorem any_run {ps : List Push} (h : ps.length ≤ 85 ∧ ∀ x ∈ ps, pushOk x = true) : AnyP (runR ps) ∧ (runR ps).ends.length = 2 ∧ W 300 (runR ps) ∧ ∀ l ∈ (runR ps).heard, szL gS l ≤ 8900 := by
  have hk := okK_of h.2
  have hI := runK_pi hk _ (Nat.le_refl _)
  rw [(runOk_drawn h).2]
  have h8 : ∀ l ∈ (runK ps ps.length).heard, szL gS l ≤ 8900 := fun l hl => by
    obtain ⟨i, hi, rfl⟩ := List.mem_iff_getElem.1 hl
    have hi2 : i < 2 := by have := hI.1.two'; omega
    have h1 : ((runK ps ps.length).heard[i]?.getD default) = _ := hI.1.heardIs i hi2
    rw [List.getElem?_eq_getElem hi, Option.getD_some] at h1
    have h6 := linkOk_iff.1 (hI.1.ok (1 - i) (by omega))
    have h7 : ∀ s ∈ (runK ps ps.length).heard[i], s.size ≤ 40 := by
      intro s hs
      rw [h1] at hs
      refine hI.2.2 (endOf (runK ps ps.length) (1 - i)) ?_ s (List.mem_of_mem_take hs)
      have := hI.1.two
      unfold endOf
      rw [List.getElem?_eq_getElem (by omega)]; exact List.getElem_mem _
    have h4 := szL_gS _ h7
    have h5 : (runK ps ps.length).heard[i].length ≤ 200 := by
      rw [h1, List.length_take]
      have := h6.1
      omega
    omega
  exact ⟨⟨(w_run hk).le (by decide), by rw [runK_codes _ (Nat.le_refl _)]; omega, fun l hl => Nat.le_trans (h8 l hl) (by decide)⟩, hI.1.two, w_run hk, h8⟩
theorem any_heard {p : Pair} (h : AnyP p) (hw : W 300 p) (i : Nat) {t : ByteArray} (ht : t.size ≤ 40) (h8 : ∀ l ∈ p.heard, szL gS l ≤ 8900) : AnyP { p with heard := p.heard.set i (p.heard[i]?.getD [] ++ [t]) } := by
  refine ⟨⟨h.w.two, by show (List.set _ _ _).length = 2; rw [List.length_set]; exact h.w.two', h.w.net, h.w.netS, h.w.sent, fun j => ?_⟩, h.codes, fun l hl => ?_⟩
  · show ((p.heard.set i _)[j]?.getD []).length ≤ 1000
    have := hw.hl i
    have := hw.hl j
    rw [List.getElem?_set]
    split
    · split
      · rw [Option.getD_some, List.length_append, List.length_singleton]; omega
      · show ([] : List ByteArray).length ≤ _; simp
    · omega
  · rcases List.mem_or_eq_of_mem_set hl with hl | rfl
    · exact h.hs l hl
    · have e : szL gS (p.heard[i]?.getD [] ++ [t]) = szL gS (p.heard[i]?.getD []) + szL gS [t] := szL_append _ _ _
      have e2 : szL gS [t] = 1 + t.size + 0 := rfl
      rw [e, e2]
      rcases Nat.lt_or_ge i p.heard.length with hi | hi
      · have := h8 (p.heard[i]?.getD []) (by rw [List.getElem?_eq_getElem hi]; exact List.getElem_mem hi)
        omega
      · rw [List.getElem?_eq_none hi]
        show szL gS [] + _ ≤ _
        have : szL gS [] = 0 := rfl
        omega
theorem any_acked {p : Pair} (h : AnyP p) (i : Nat) (hi : i < p.ends.length) (a : Int) : AnyP { p with ends := p.ends.set i { p.ends[i]?.getD default with acked := a } } := by
  refine ⟨⟨by show (List.set _ _ _).length ≤ 2; rw [List.length_set]; exact h.w.two, h.w.two', h.w.net, h.w.netS, fun l hl => ?_, h.w.hl⟩, h.codes, h.hs⟩
  rcases List.mem_or_eq_of_mem_set hl with hl | rfl
  · exact h.w.sent l hl
  · exact h.w.sent (p.ends[i]?.getD default) (by rw [List.getElem?_eq_getElem hi]; exact List.getElem_mem hi)
theorem any_drop {p : Pair} (h : AnyP p) (n k : Nat) : AnyP { p with ends := (p.ends.take n).drop k } :=
  ⟨⟨by show (List.drop _ (List.take _ _)).length ≤ 2; have := h.w.two; rw [List.length_drop, List.length_take]; omega, h.w.two', h.w.net, h.w.netS, fun l hl => h.w.sent l (List.mem_of_mem_take (List.mem_of_mem_drop hl)), h.w.hl⟩, h.codes, h.hs⟩
open Classical in
theorem rle_hole3 {X A1 A2 A A3 C T H Af Ar : Hp} (h : A.Perm (Af ++ Ar)) : RLe (X :: ([A1, A2, A, A3] ++ ([C, T] ++ [H]))) (Af :: [] :: [A1, A2, Ar, A3, C, T, H]) := .le fun a => by
  have := h.count_eq a
  simp only [List.count_append] at this
  simp only [List.flatten_append, List.flatten_cons, List.flatten_nil, List.count_append, List.count_nil, List.append_nil, List.nil_append]
  omega
theorem pr4 {x : Pair} {b1 b2 b3 b4 : Option Addr} {m1 m2 m3 m4 c1 c2 c3 c4 : Nat} {A1 A2 A3 A4 : Hp} (h1 : (gSl 45 gLink).rd A1 [.slice b1 m1 c1] x.ends) (h2 : (gSl 9 gS).rd A2 [.slice b2 m2 c2] x.net) (h3 : (gSl 27 (gSl 9 gS)).rd A3 [.slice b3 m3 c3] x.heard) (h4 : (gSl 3 gI).rd A4 [.slice b4 m4 c4] x.codes) :
    gPair.rd (A1 ++ (A2 ++ (A3 ++ A4))) [.slice b1 m1 c1, .slice b2 m2 c2, .slice b3 m3 c3, .slice b4 m4 c4] x := by
  obtain ⟨rfl, _⟩ := sl_len h1
  obtain ⟨rfl, _⟩ := sl_len h2
  obtain ⟨rfl, _⟩ := sl_len h3
  obtain ⟨rfl, _⟩ := sl_len h4
  exact gPair_rd.2 ⟨_, _, _, _, _, _, _, _, rfl, (gSl _ _).mono (fun p hp => by simp [hp]) h1, (gSl _ _).mono (fun p hp => by simp [hp]) h2, (gSl _ _).mono (fun p hp => by simp [hp]) h3, (gSl _ _).mono (fun p hp => by simp [hp]) h4⟩
--@ct spec.l19Any newp l19Any_ct _ _ _ _ | %1 | obtain ⟨x#, l#, rfl, hx#, r#⟩ := o# ;; refine ⟨[A#], by simp, ?_⟩ ;; @open{Pair r# x#}
theorem l19Any_ct (b : Option Addr) (m c : Nat) (xs : List UInt8) :
    Ct Try.prog 40 [.slice b m c] [] (fun H => (rpSl flByte.rp).rd H [.slice b m c] xs)
      (fun v A => ∃ (x : Pair) (l : List Value), v = .agg ⟨l⟩ ∧ AnyP x ∧ gPair.rd A l x) := by
  refine Ct.intro0 G_ok Try.func40 rfl rfl rfl fun E H hp => ?_
  obtain ⟨rfl, hl⟩ := rd_len hp
  refine VCnew.intro fun x0 => ?_
  refine call_new (l01New_ct _ _ _ _) (Rp.mono _ (mem_at 0 rfl) hp) ?_
  rintro _ A1 ⟨bb1, h1, rfl, rfl⟩
  refine callR_at 0 rfl (l01Below_ct _ _ _ _ _ _ _ _ (by omega) (by omega) (by omega)) (Rp.mono _ (mem_at 1 rfl) hp) ?_
  rintro _ A2 ⟨dx2, ci2, ch2, rfl, hd2, he2, hi2, hj2, rfl⟩
  refine callR_at 0 rfl (l01Below_ct _ _ _ _ _ _ _ _ (by omega) (by omega) (by omega)) (Rp.mono _ (mem_at 1 rfl) hp) ?_
  rintro _ A3 ⟨dx3, ci3, ch3, rfl, hd3, he3, hi3, hj3, rfl⟩
  refine callR_part (curHp bb1 b xs.length c ci3 ch3) [H] (l19Pushes_ct _ _ _ _ _ _ _ (by omega) (by omega) (by omega)) ?_ (Rp.mono _ (mem_at 0 rfl) hp) ?_
  · exact .le fun a => by (try simp only [setR, List.cons_append, List.nil_append]); simp only [List.flatten_append, List.flatten_cons, List.flatten_nil, List.count_append, List.count_nil, List.append_nil, List.nil_append]; omega
  rintro _ A4 ⟨ps4, tb4, tc4, ci4, ch4, T4, rfl, ⟨hpl4, hps4⟩, hi4, hj4, hP4, ot4⟩
  refine ⟨[curHp _ _ _ _ ci4 ch4, T4], by simpa using hP4, ?_⟩
  refine call_newP (specRunPair_ct _ _ _) (Rp.mono _ (mem_at 1 rfl) (Gt.owrd _ ot4)) ?_
  rintro v5 A5 o5
  obtain ⟨l5, rfl, o5⟩ := o5
  obtain ⟨be0, ce0, AE0, bn0, cn0, AN0, bh0, ch0, AH0, bc0, cc0, AC0, rfl, hpm, oE0, oN0, oH0, oC0⟩ := gPair_ow.1 o5
  refine ⟨[AE0, AN0, AH0, AC0], by simpa using hpm, ?_⟩
  refine VCnew.intro fun x6 => ?_
  refine VCsplit.intro (fun q7 => ?_) (fun q7 => ?_)
  ·
    simp at q7
    have hk2 : 0 ≤ dx3.tmod 2 ∧ dx3.tmod 2 < 2 := ⟨Int.tmod_nonneg _ hd3, Int.tmod_lt_of_pos _ (by omega)⟩
    have hany := any_run ⟨hpl4, hps4⟩
    have hhl := hany.1.w.two'
    obtain ⟨lH, AfH, ArH, hpH, howH, hhH⟩ := hole_of [] (dx3.tmod 2).toNat oH0 (by omega)
    obtain ⟨bq, cq, rfl, -⟩ := sl_rd (Gt.owrd _ howH)
    refine draw G_ok mixed none (.q 0 (.qb 1 (.q 2 (.q 3 (.q 4 (.qb 5 (.q 6 (.q 7 (.qb 8 (.hd (.alt 9 (.f 10 (.f 11 (.f 12 (.f 13 .nil)))) (.alt 10 (.f 9 (.f 11 (.f 12 (.f 13 .nil)))) .nil)))))))))))) (by decide +kernel) ?_
    refine VC.intro ?_ ?_
    · trivial
    refine VC.intro ?_ ?_
    · exact fun _ h => h
    refine VC.intro ?_ ?_
    · trivial
    refine VC.intro ?_ ?_
    · exact fun _ h => h
    refine idx_rd (Gt.owrd _ oH0) ?_ ?_ fun b8 o8 hb8 => ?_
    · omega
    · omega
    refine VC.intro ?_ ?_
    ·
      refine hole_load hhH (Int.toNat_of_nonneg hk2.1).symm (by assumption) rfl rfl (by first | exact fun p hp => mem_at 2 rfl p (hpH.mem_iff.2 (List.mem_append_right _ hp)) | exact fun p hp => mem_at 3 rfl p (hpH.mem_iff.2 (List.mem_append_right _ hp))) ?_
      refine VC.intro ?_ ?_
      · exact fun p hp => List.mem_append_left _ hp
      refine VCnew.intro fun x9 => ?_
      refine VC.intro ?_ ?_
      · exact fun p hp => List.mem_append_left _ hp
      refine gappend1 (g := gS) (T := 9) G_ok AfH [] [AE0, AN0, ArH, AC0, curHp bb1 b xs.length c ci4 ch4, T4, H] (rle_hole3 hpH) howH (gS_ow ?_) (List.mem_of_getElem? (i := 0) rfl) rfl rfl rfl rfl rfl rfl rfl rfl ?_ fun bZ cZ AZ oZ => ?_
      · trivial
      · (have := hany.2.2.1.hl (dx3.tmod 2).toNat; omega)
      refine VC.intro ?_ ?_
      · exact fun p hp => List.mem_append_left _ hp
      refine idx_rd (Gt.owrd _ oH0) ?_ ?_ fun b10 o10 hb10 => ?_
      · omega
      · omega
      refine hole_store AZ [AE0, AN0, AC0, curHp bb1 b xs.length c ci4 ch4, T4, H] hhH (.le fun a => by (try simp only [setR, List.cons_append, List.nil_append]); simp only [List.flatten_append, List.flatten_cons, List.flatten_nil, List.count_append, List.count_nil, List.append_nil, List.nil_append]; omega) (Int.toNat_of_nonneg hk2.1).symm (by assumption) rfl _ oZ fun AW oW => ?_
      refine VC.intro ?_ ?_
      · exact fun p hp => List.mem_append_left _ hp
      exact ⟨_, ⟨{ runR ps4 with heard := (runR ps4).heard.set (dx3.tmod 2).toNat ((runR ps4).heard[(dx3.tmod 2).toNat]?.getD [] ++ [⟨#[111, 116, 104, 101, 114]⟩]) }, _, rfl, any_heard hany.1 hany.2.2.1 _ (by decide) hany.2.2.2, pr4 (Gt.owrd _ oE0) (Gt.owrd _ oN0) (Gt.owrd _ oW) (Gt.owrd _ oC0)⟩, rle_pick [1, 2, 0, 3] 6 rfl rfl (by decide)⟩
    ·
      refine VC.intro ?_ ?_
      ·
        refine VCnew.intro fun x11 => ?_
        refine VC.intro ?_ ?_
        · exact fun p hp => List.mem_append_left _ hp
        refine hole_load hhH (Int.toNat_of_nonneg hk2.1).symm (by assumption) rfl rfl (by first | exact fun p hp => mem_at 2 rfl p (hpH.mem_iff.2 (List.mem_append_right _ hp)) | exact fun p hp => mem_at 3 rfl p (hpH.mem_iff.2 (List.mem_append_right _ hp))) ?_
        refine gappend1 (g := gS) (T := 9) G_ok AfH [] [AE0, AN0, ArH, AC0, curHp bb1 b xs.length c ci4 ch4, T4, H] (rle_hole3 hpH) howH (gS_ow ?_) (List.mem_of_getElem? (i := 0) rfl) rfl rfl rfl rfl rfl rfl rfl rfl ?_ fun bZ cZ AZ oZ => ?_
        · trivial
        · (have := hany.2.2.1.hl (dx3.tmod 2).toNat; omega)
        refine VC.intro ?_ ?_
        · exact fun p hp => List.mem_append_left _ hp
        refine idx_rd (Gt.owrd _ oH0) ?_ ?_ fun b12 o12 hb12 => ?_
        · omega
        · omega
        refine hole_store AZ [AE0, AN0, AC0, curHp bb1 b xs.length c ci4 ch4, T4, H] hhH (.le fun a => by (try simp only [setR, List.cons_append, List.nil_append]); simp only [List.flatten_append, List.flatten_cons, List.flatten_nil, List.count_append, List.count_nil, List.append_nil, List.nil_append]; omega) (Int.toNat_of_nonneg hk2.1).symm (by assumption) rfl _ oZ fun AW oW => ?_
        refine VC.intro ?_ ?_
        · exact fun p hp => List.mem_append_left _ hp
        exact ⟨_, ⟨{ runR ps4 with heard := (runR ps4).heard.set (dx3.tmod 2).toNat ((runR ps4).heard[(dx3.tmod 2).toNat]?.getD [] ++ [⟨#[111, 116, 104, 101, 114]⟩]) }, _, rfl, any_heard hany.1 hany.2.2.1 _ (by decide) hany.2.2.2, pr4 (Gt.owrd _ oE0) (Gt.owrd _ oN0) (Gt.owrd _ oW) (Gt.owrd _ oC0)⟩, rle_pick [1, 2, 0, 3] 6 rfl rfl (by decide)⟩
      ·
        exact trivial
  ·
    simp at q7
    have hk2 : 0 ≤ dx3.tmod 2 ∧ dx3.tmod 2 < 2 := ⟨Int.tmod_nonneg _ hd3, Int.tmod_lt_of_pos _ (by omega)⟩
    have hany := any_run ⟨hpl4, hps4⟩
    have hhe := hany.2.1
    have hse := (hany.1.w.sent ((runR ps4).ends[(dx3.tmod 2).toNat]?.getD default) (by rw [List.getElem?_eq_getElem (by omega)]; exact List.getElem_mem _)).1
    have hsl := len_szL gS ((runR ps4).ends[(dx3.tmod 2).toNat]?.getD default).sent
    refine VCsplit.intro (fun q13 => ?_) (fun q13 => ?_)
    ·
      simp at q13
      refine draw G_ok mixed (some 14) (.q 0 (.q 1 (.q 2 (.q 3 (.q 4 (.q 5 (.q 6 (.q 7 (.q 8 (.q 9 (.q 10 (.q 11 (.q 12 (.q 13 (.tl 14 (.nil)))))))))))))))) (by decide +kernel) ?_
      refine VC.intro ?_ ?_
      · trivial
      refine VC.intro ?_ ?_
      · trivial
      refine idx_rd (Gt.owrd _ oE0) ?_ ?_ fun b14 o14 hb14 => ?_
      · omega
      · omega
      refine load_part default 0 (Gt.owrd _ oE0) ?_ ?_ hb14 rfl (by decide) (mem_at 0 rfl) fun l15 hl15 => ?_
      · omega
      · omega
      obtain ⟨b0x15, c0x15, rfl, h0x15, w1x15, w2x15⟩ := gLink_rd.1 hl15
      refine idx_rd (Gt.owrd _ oE0) ?_ ?_ fun b16 o16 hb16 => ?_
      · omega
      · omega
      refine gstoreN gLink_acked default (Int.toNat (dx3.tmod (2 : Int))) 0 rfl (Int.toNat_of_nonneg ?_).symm oE0 ?_ ?_ hb16 rfl gI_pl _ (gI_ow ?_) fun A17 o17 => ?_
      · omega
      · omega
      · omega
      · unfold okI; omega
      exact ⟨_, ⟨{ runR ps4 with ends := (runR ps4).ends.set (dx3.tmod 2).toNat { (runR ps4).ends[(dx3.tmod 2).toNat]?.getD default with acked := _ } }, _, rfl, any_acked hany.1 _ (by omega) _, pr4 (Gt.owrd _ (by assumption)) (Gt.owrd _ oN0) (Gt.owrd _ oH0) (Gt.owrd _ oC0)⟩, rle_pick [0, 1, 2, 3] 6 rfl rfl (by decide)⟩
    ·
      simp at q13
      refine VCsplit.intro (fun q18 => ?_) (fun q18 => ?_)
      ·
        simp at q18
        refine VC.intro ?_ ?_
        · omega
        exact ⟨_, ⟨{ runR ps4 with ends := ((runR ps4).ends.take (runR ps4).ends.length).drop 1 }, _, rfl, any_drop hany.1 _ _, pr4 (rd_sub (r := gLink.toRp) (l := 1) (h := (runR ps4).ends.length) (Gt.owrd _ oE0) (by omega) (by omega) (by have := (sl_len (Gt.owrd _ oE0)).2.1; omega)) (Gt.owrd _ oN0) (Gt.owrd _ oH0) (Gt.owrd _ oC0)⟩, rle_pick [0, 1, 2, 3] 6 rfl rfl (by decide)⟩
      ·
        simp at q18
        exact ⟨_, ⟨runR ps4, _, rfl, hany.1, pr4 (Gt.owrd _ oE0) (Gt.owrd _ oN0) (Gt.owrd _ oH0) (Gt.owrd _ oC0)⟩, rle_pick [0, 1, 2, 3] 6 rfl rfl (by decide)⟩

--@ct spec.DrawCalmPair newp DrawCalmPair_ct _ _ _ _ | %1 | obtain ⟨x#, n#, l#, rfl, hx#, r#⟩ := o# ;; refine ⟨[A#], by simp, ?_⟩ ;; @open{Pair r# x#}
theorem DrawCalmPair_ct (b : Option Addr) (m c : Nat) (xs : List UInt8) :
    Ct Try.prog 16 [.slice b m c] [] (fun H => (rpSl flByte.rp).rd H [.slice b m c] xs)
      (fun v A => ∃ (x : Pair) (n : Int) (l : List Value), v = .tuple #[.agg ⟨l⟩, .int .i64 n] ∧ AnyP x ∧ gPair.rd A l x) := by
  refine Ct.intro0 G_ok Try.func16 rfl rfl rfl fun E H hp => ?_
  obtain ⟨rfl, hl⟩ := rd_len hp
  refine VCnew.intro fun x0 => ?_
  refine VCsplit.intro (fun q1 => ?_) (fun q1 => ?_)
  ·
    simp at q1
    refine VCnew.intro fun x2 => ?_
    have ol2 : Ow flInt (3 : TypeId) (.slice (some ⟨x2, 0, none⟩) 5 5) [(0 : Int), (1 : Int), (3 : Int), (20 : Int), (-1 : Int)] [(x2, Obj.cells { toList := Value.int IntKind.i64 (0 : Int) :: Value.int IntKind.i64 (1 : Int) :: Value.int IntKind.i64 (3 : Int) :: Value.int IntKind.i64 (20 : Int) :: Value.int IntKind.i64 (-1 : Int) :: [].append (zeros (nat_lit 0) [Value.int IntKind.i64 (0 : Int)]) } (3 : TypeId))] := Ow.lit (f := flInt) (T := (3 : TypeId)) (b := x2) (xs := [(0 : Int), (1 : Int), (3 : Int), (20 : Int), (-1 : Int)]) (by simp [flInt, okI]) (by simp)
    refine idx_rd hp ?_ ?_ fun b3 o3 hb3 => ?_
    · trivial
    · omega
    refine load_allN 0 (0) rfl hp ?_ ?_ hb3 rfl (mem_at 1 rfl) fun l4 hl4 => ?_
    · trivial
    · omega
    obtain ⟨rfl, hw4⟩ := hl4
    refine VC.intro ?_ ?_
    · trivial
    refine idx_rd (Ow.rd ol2) ?_ ?_ fun b5 o5 hb5 => ?_
    · exact Int.tmod_nonneg _ (by rw [wrap_of (by omega) (by have := (xs[0]?.getD 0).toNat_lt; omega)]; omega)
    · grind
    refine load_all 0 (Ow.rd ol2) ?_ ?_ hb5 rfl (mem_at 0 rfl) fun l6 hl6 => ?_
    · exact Int.tmod_nonneg _ (by rw [wrap_of (by omega) (by have := (xs[0]?.getD 0).toNat_lt; omega)]; omega)
    · grind
    dsimp only at hl6
    obtain ⟨rfl, hw6⟩ := hl6; simp only [flStr, flInt, okI] at hw6
    refine call_newP (l19Any_ct _ _ _ _) (Rp.mono _ (mem_at 1 rfl) hp) ?_
    rintro v7 A7 o7
    obtain ⟨x7, l7, rfl, hx7, r7⟩ := o7
    refine ⟨[A7], by simp, ?_⟩
    obtain ⟨b0x7, c0x7, b1x7, c1x7, b2x7, c2x7, b3x7, c3x7, rfl, h0x7, h1x7, h2x7, h3x7⟩ := gPair_rd.1 r7
    try dsimp only
    exact ⟨_, ⟨_, _, _, rfl, by assumption, by assumption⟩, rle_pick [0] 2 rfl rfl (by decide)⟩
  ·
    simp at q1
    refine call_newP (l19Any_ct _ _ _ _) (Rp.mono _ (mem_at 0 rfl) hp) ?_
    rintro v8 A8 o8
    obtain ⟨x8, l8, rfl, hx8, r8⟩ := o8
    refine ⟨[A8], by simp, ?_⟩
    obtain ⟨b0x8, c0x8, b1x8, c1x8, b2x8, c2x8, b3x8, c3x8, rfl, h0x8, h1x8, h2x8, h3x8⟩ := gPair_rd.1 r8
    exact ⟨_, ⟨_, _, _, rfl, by assumption, by assumption⟩, rle_pick [0] 1 rfl rfl (by decide)⟩

--@ct spec.DrawPairDone newp DrawPairDone_ct _ _ _ _ | %1 | obtain ⟨x#, l#, rfl, r#⟩ := o# ;; refine ⟨[A#], by simp, ?_⟩ ;; @open{Pair r# x#}
theorem DrawPairDone_ct (b : Option Addr) (m c : Nat) (xs : List UInt8) :
    Ct Try.prog 18 [.slice b m c] [] (fun H => (rpSl flByte.rp).rd H [.slice b m c] xs)
      (fun v A => ∃ (x : Pair) (l : List Value), v = .agg ⟨l⟩ ∧ gPair.rd A l x) := by
  refine Ct.intro0 G_ok Try.func18 rfl rfl rfl fun E H hp => ?_
  obtain ⟨rfl, hl⟩ := rd_len hp
  refine VCnew.intro fun x0 => ?_
  refine call_newP (l19Any_ct _ _ _ _) (Rp.mono _ (mem_at 0 rfl) hp) ?_
  rintro v1 A1 o1
  obtain ⟨x1, l1, rfl, hx1, r1⟩ := o1
  refine ⟨[A1], by simp, ?_⟩
  obtain ⟨b0x1, c0x1, b1x1, c1x1, b2x1, c2x1, b3x1, c3x1, rfl, h0x1, h1x1, h2x1, h3x1⟩ := gPair_rd.1 r1
  refine VCnew.intro fun x2 => ?_
  refine VC.intro ?_ ?_
  · trivial
  refine VCsplit.intro (fun q3 => ?_) (fun q3 => ?_)
  ·
    simp at q3
    refine call_new (specCalmPair_ct _ (x1) _ ?_ ?_) (Rp.mono _ (mem_at 0 rfl) r1) ?_
    · exact Nat.le_trans (AnyP.sz (by assumption)) (by decide)
    · exact AnyP.w (by assumption)
    rintro v4 A4 o4
    obtain ⟨l4, rfl, o4⟩ := o4
    have r4 := Gt.owrd _ o4
    obtain ⟨b0x4, c0x4, b1x4, c1x4, b2x4, c2x4, b3x4, c3x4, rfl, h0x4, h1x4, h2x4, h3x4⟩ := gPair_rd.1 r4
    exact ⟨_, ⟨_, _, rfl, by assumption⟩, rle_pick [0] 2 rfl rfl (by decide)⟩
  ·
    simp at q3
    exact ⟨_, ⟨_, _, rfl, by assumption⟩, rle_pick [0] 1 rfl rfl (by decide)⟩

end Go.Proofs.Ytmmmjikanmgpfaa

namespace Go.Proofs.Ytmmmjikanmgpfaa
open Go.SX Go.Proofs
set_option linter.unusedSimpArgs false
set_option linter.unusedVariables false
set_option maxHeartbeats 8000000

theorem run_calm {ps : List Push} (h : ps.length ≤ 85 ∧ ∀ x ∈ ps, pushOk x = true) : doneM (clM (rndN 60) (runR ps)) = true ∧ rightM (clM (rndN 60) (runR ps)) = true ∧ (clM (rndN 60) (runR ps)).heard[0]?.getD [] = ((runR ps).ends[1]?.getD default).sent ∧ (clM (rndN 60) (runR ps)).heard.length = 2 ∧ (runR ps).ends.length = 2 := by
  have hpt : ∀ x, packOk x = true → readPack (packText x) = some x := fun x hx => readPack_text hx
  have hr := run_inv (flip := flipT) hpt (fun t x h => readPack_ok h) (fun t i h => readPack_flip h) ps h.2
  have e : runP packText readPack flipT ps = runK ps ps.length := (runK_all ps).symm
  rw [e] at hr
  rw [(runOk_drawn h).2]
  have e60 : rndN 60 = 60 := rfl
  rw [e60]
  obtain ⟨h1, h2, h3⟩ := calm_end hr.1 (fun j => Nat.le_trans (hr.2 j) h.1)
  exact ⟨h2, inv_right h1, h3, h1.two', hr.1.two⟩
attribute [local irreducible] clM rndN runR runOk
theorem fnPairsCalm_ct (v : Value) :
    Ct Try.prog 4 [v] [] (fun H => ∃ xs, rdV false (rpSl flByte.rp) H v xs) (fun v A => v = .bool true ∧ A = []) := by
  refine Ct.intro0 G_ok Try.func4 rfl rfl rfl fun E H hp => ?_
  obtain ⟨xs, hp⟩ := hp
  obtain ⟨b, c, e, hl1, hl2⟩ := id hp
  cases e
  have hp : (rpSl flByte.rp).rd H [.slice b xs.length c] xs := hp
  refine call_val (big_ct _ _ _) trivial ?_
  rintro _ rfl
  refine VCsplit.intro (fun q1 => ?_) (fun q1 => ?_)
  ·
    simp at q1
    exact ⟨[], ⟨rfl, rfl⟩, (.le fun a => by (try simp only [setR, List.cons_append, List.nil_append]); simp only [List.flatten_append, List.flatten_cons, List.flatten_nil, List.count_append, List.count_nil, List.append_nil, List.nil_append]; omega)⟩
  ·
    simp at q1
    refine call_new (DrawPushes_ct _ _ _ _) (Rp.mono _ (mem_at 0 rfl) hp) ?_
    rintro v2 A2 o2
    obtain ⟨ps2, tb2, tc2, rfl, ⟨hpl2, hps2⟩, ot2⟩ := o2
    refine call_new (implRunPair_ct _ _ _) (Rp.mono _ (mem_at 0 rfl) (Gt.owrd _ ot2)) ?_
    rintro v3 A3 o3
    obtain ⟨l3, rfl, o3⟩ := o3
    have r3 := Gt.owrd _ o3
    obtain ⟨b0x3, c0x3, b1x3, c1x3, b2x3, c2x3, b3x3, c3x3, rfl, h0x3, h1x3, h2x3, h3x3⟩ := gPair_rd.1 r3
    refine VCnew.intro fun x4 => ?_
    refine call_new (implCalmPair_ct _ (runR ps2) _ ?_ ?_) (Rp.mono _ (mem_at 0 rfl) r3) ?_
    · exact Nat.le_trans (any_run ⟨hpl2, hps2⟩).1.sz (by decide)
    · exact (any_run ⟨hpl2, hps2⟩).1.w
    rintro v5 A5 o5
    obtain ⟨l5, rfl, o5⟩ := o5
    have r5 := Gt.owrd _ o5
    obtain ⟨b0x5, c0x5, b1x5, c1x5, b2x5, c2x5, b3x5, c3x5, rfl, h0x5, h1x5, h2x5, h3x5⟩ := gPair_rd.1 r5
    refine VCnew.intro fun x6 => ?_
    refine call_newP (DrawCalmPair_ct _ _ _ _) (Rp.mono _ (mem_at 3 rfl) hp) ?_
    rintro v7 A7 o7
    obtain ⟨x7, n7, l7, rfl, hx7, r7⟩ := o7
    refine ⟨[A7], by simp, ?_⟩
    obtain ⟨b0x7, c0x7, b1x7, c1x7, b2x7, c2x7, b3x7, c3x7, rfl, h0x7, h1x7, h2x7, h3x7⟩ := gPair_rd.1 r7
    refine VCnew.intro fun x8 => ?_
    refine call_new (implCalmPair_ct _ (x7) _ ?_ ?_) (Rp.mono _ (mem_at 0 rfl) r7) ?_
    · exact Nat.le_trans (AnyP.sz (by assumption)) (by decide)
    · exact AnyP.w (by assumption)
    rintro v9 A9 o9
    obtain ⟨l9, rfl, o9⟩ := o9
    have r9 := Gt.owrd _ o9
    obtain ⟨b0x9, c0x9, b1x9, c1x9, b2x9, c2x9, b3x9, c3x9, rfl, h0x9, h1x9, h2x9, h3x9⟩ := gPair_rd.1 r9
    refine VCnew.intro fun x10 => ?_
    refine call_new (specCalmPair_ct _ (x7) _ ?_ ?_) (Rp.mono _ (mem_at 1 rfl) r7) ?_
    · exact Nat.le_trans (AnyP.sz (by assumption)) (by decide)
    · exact AnyP.w (by assumption)
    rintro v11 A11 o11
    obtain ⟨l11, rfl, o11⟩ := o11
    have r11 := Gt.owrd _ o11
    obtain ⟨b0x11, c0x11, b1x11, c1x11, b2x11, c2x11, b3x11, c3x11, rfl, h0x11, h1x11, h2x11, h3x11⟩ := gPair_rd.1 r11
    refine VCnew.intro fun x12 => ?_
    refine VCsplit.intro (fun q13 => ?_) (fun q13 => ?_)
    ·
      simp at q13
    ·
      simp at q13
      refine call_val (sameTexts_ct _ _ _ _ _ _ ((clM (rndN n7) x7).net) ((clM (rndN n7) x7).net)) ⟨(Rp.mono _ (mem_at 1 rfl) h1x9), (Rp.mono _ (mem_at 0 rfl) h1x11)⟩ ?_
      rintro _ rfl
      refine VCsplit.intro (fun q15 => ?_) (fun q15 => ?_)
      ·
        simp at q15
      ·
        simp at q15
        obtain ⟨hz1, hz2, hz3, hz4, hz5⟩ := run_calm ⟨hpl2, hps2⟩
        have hz6 := (runOk_drawn ⟨hpl2, hps2⟩).1
        refine call_newP (DrawPairDone_ct _ _ _ _) (Rp.mono _ (mem_at 6 rfl) hp) ?_
        rintro v16 A16 o16
        obtain ⟨x16, l16, rfl, r16⟩ := o16
        refine ⟨[A16], by simp, ?_⟩
        obtain ⟨b0x16, c0x16, b1x16, c1x16, b2x16, c2x16, b3x16, c3x16, rfl, h0x16, h1x16, h2x16, h3x16⟩ := gPair_rd.1 r16
        refine VCnew.intro fun x17 => ?_
        refine draw G_ok mixed none (.q 0 (.q 1 (.q 2 (.f 3 (.q 4 (.q 5 (.q 6 (.f 7 (.q 8 (.q 9 (.q 10 (.q 12 (.f 11 (.f 13 (.q 14 (.q 15 (.q 16 (.q 17 (.q 19 (.f 18 (.f 20 (.q 21 (.q 22 (.q 23 (.q 24 (.q 25 (.q 26 (.q 27 (.q 28 (.q 29 (.q 30 (.q 31 (.q 32 (.f 33 (.q 34 (.q 35 (.nil))))))))))))))))))))))))))))))))))))) (by decide +kernel) ?_
        refine VCsplit.intro (fun q18 => ?_) (fun q18 => ?_)
        ·
          refine call_val (implPairDone_ct _ (clM (rndN (60 : Int)) (runR ps2))) (Rp.mono _ (mem_at 4 rfl) r5) ?_
          rintro _ rfl
          refine VC.intro ?_ ?_
          · exact fun _ h => h
          refine VCsplit.intro (fun q20 => ?_) (fun q20 => ?_)
          ·
            refine call_val (implPairRight_ct _ (clM (rndN (60 : Int)) (runR ps2))) (Rp.mono _ (mem_at 4 rfl) r5) ?_
            rintro _ rfl
            refine VC.intro ?_ ?_
            · exact fun _ h => h
            refine VCsplit.intro (fun q22 => ?_) (fun q22 => ?_)
            ·
              refine call_val (implPairDone_ct _ (x16)) (Rp.mono _ (mem_at 0 rfl) r16) ?_
              rintro _ rfl
              refine VC.intro ?_ ?_
              · exact fun _ h => h
              refine call_val (specPairDone_ct _ (x16)) (Rp.mono _ (mem_at 0 rfl) r16) ?_
              rintro _ rfl
              refine VC.intro ?_ ?_
              · exact fun _ h => h
              refine VCsplit.intro (fun q25 => ?_) (fun q25 => ?_)
              ·
                simp at q25
                refine call_val (implPairRight_ct _ (x16)) (Rp.mono _ (mem_at 0 rfl) r16) ?_
                rintro _ rfl
                refine VC.intro ?_ ?_
                · exact fun _ h => h
                refine call_val (specPairRight_ct _ (x16)) (Rp.mono _ (mem_at 0 rfl) r16) ?_
                rintro _ rfl
                refine VC.intro ?_ ?_
                · exact fun _ h => h
                refine VCsplit.intro (fun q28 => ?_) (fun q28 => ?_)
                ·
                  simp at q28
                  refine idx_rd h2x5 ?_ ?_ fun b29 o29 hb29 => ?_
                  · trivial
                  · omega
                  refine load_allN [] (0) rfl h2x5 ?_ ?_ hb29 rfl (mem_at 4 rfl) fun l30 hl30 => ?_
                  · trivial
                  · omega
                  obtain ⟨u30, w30, rfl, hl30⟩ := sl_rd hl30
                  refine idx_rd h0x3 ?_ ?_ fun b31 o31 hb31 => ?_
                  · trivial
                  · omega
                  refine load_partN default (1) 0 rfl h0x3 ?_ ?_ hb31 rfl (by decide) (mem_at 5 rfl) fun l32 hl32 => ?_
                  · trivial
                  · omega
                  obtain ⟨b0x32, c0x32, rfl, h0x32, w1x32, w2x32⟩ := gLink_rd.1 hl32
                  refine call_val (sameTexts_ct _ _ _ _ _ _ ((clM (rndN (60 : Int)) (runR ps2)).heard[(0 : Nat)]?.getD []) (((runR ps2).ends[(1 : Nat)]?.getD default).sent)) ⟨(Rp.mono _ (mem_at 4 rfl) hl30), (Rp.mono _ (mem_at 5 rfl) h0x32)⟩ ?_
                  rintro _ rfl
                  refine VC.intro ?_ ?_
                  · exact fun _ h => h
                  exact ⟨[], ⟨by rw [decide_eq_true hz3], rfl⟩, (.le fun a => by (try simp only [setR, List.cons_append, List.nil_append]); simp only [List.flatten_append, List.flatten_cons, List.flatten_nil, List.count_append, List.count_nil, List.append_nil, List.nil_append]; omega)⟩
                ·
                  simp at q28
              ·
                simp at q25
            ·
              (first | exact absurd (hz2.symm.trans (by assumption)) (by decide) | exact absurd hz2 (by assumption))
          ·
            (first | exact absurd (hz1.symm.trans (by assumption)) (by decide) | exact absurd hz1 (by assumption))
        ·
          (first | exact absurd (hz6.symm.trans (by assumption)) (by decide) | exact absurd hz6 (by assumption))

end Go.Proofs.Ytmmmjikanmgpfaa

namespace Go.Proofs.Ytmmmjikanmgpfaa
open Go.SX Go.Proofs
namespace fnPairsCalm
open Go.ChangeShapes Go.WideShapes Go.ChangeAt Go.RowKit

theorem own : ownKnob Try.prog.godebug = none := by kernel_rfl
theorem laidOut : laidOutB Try.prog = true := by kernel_rfl

set_option maxRecDepth 100000 in
theorem lifted (os : Os) (started : os.Started) (H : Type) (enc : TypeId × Value → H) :
    ReturnsInHanded {} Try.checked os 4 .any (Rows.fnPairsCalmSpec.pre6 enc Try.prog Try.f4 Rows.fnPairsCalmRow.domain false) (Rows.fnPairsCalmSpec.post enc Try.prog Try.f4 false true false false) := by
  refine returnsInHanded_of_change (C := Try.checked) own started (by kernel_rfl) Try.func4
    (ChangeSpec.witness6 (enc := enc) (C := Try.checked) false ⟨#[], #[.slice none 0 0], []⟩ 8 (by kernel_rfl) (by kernel_rfl) (by kernel_rfl) (by kernel_rfl)) ?_
  intro W base args ds gs before hval hW _ _
  have hW' := hW
  obtain ⟨p, q, hA0, hV, rfl, hfz, hnd⟩ := hW
  have hA : DataW.TrodAll enc Try.prog W 0 (fun _ => true) true Try.f4.params.toList args.toList ds p := hA0
  have hval' : ∀ (j : Nat) t v, Try.f4.params[j]? = some t → args[j]? = some v → Value.okWide Try.prog W .any base t v := hval
  rw [Try.params4] at hA hval'
  obtain ⟨v0, vs0, d0, ds0, p0, q0, hargs, rfl, rfl, h0, r0⟩ := trodAll_cons hA
  obtain ⟨rfl, rfl, rfl⟩ := trodAll_nil r0
  obtain rfl : args = #[v0] := by cases args; simp_all
  have hgs : gs = [] := by cases gs with
    | nil => rfl
    | cons _ _ => exact hV.elim
  subst hgs
  have hx0 := rdV_of (r := rpSl flByte.rp) G_ok (T := 22) rfl (fun _ _ h => by cases h) (fun h => by cases h) (fun _ h => by cases h)
    (opens_sl ty22_ok.1 (by kernel_rfl) (by decide) (opens_fy ty5_ok.1)) (cov_allOf W) (hval' 0 _ v0 rfl rfl) h0
  exact law_of_ct laidOut (by kernel_rfl) rfl ty4_ok.1 rfl rfl hW' hx0 (fnPairsCalm_ct v0)

theorem proved : Rows.FnPairsCalmSaid :=
  OpenClaim.holds_of_wide 4 Try.f4 rfl rfl rfl rfl rfl rfl rfl ⟨rfl, rfl, rfl, rfl, rfl⟩ rfl rfl rfl rfl rfl (by kernel_rfl) Try.func4 (by kernel_rfl)
    (of_decide_eq_true (by kernel_rfl)) (by unfold Func.isWrapper; first | (rw [if_pos (by decide +kernel)]; kernel_rfl) | (rw [if_neg (by decide +kernel)]; exact ⟨rfl, rfl⟩))
    (fun os started H enc _ => lifted os started H enc)
end fnPairsCalm
end Go.Proofs.Ytmmmjikanmgpfaa
