/-
  Packets written and read, on both sides. Conditions: none.
-/
import Derived.Test.YtmmmjikanmgpfaaKc
namespace Go.Proofs.Ytmmmjikanmgpfaa
open Go.SX Go.Proofs
set_option linter.unusedSimpArgs false
set_option linter.unusedVariables false
set_option maxHeartbeats 4000000
attribute [local irreducible] IntKind.wrap

def packBody (p : Packet) : ByteArray := varText p.epoch ++ tx [UInt8.ofNat p.from'.toNat, UInt8.ofNat p.to.toNat] ++ varText p.seq ++ varText p.ack ++ p.body
def packText (p : Packet) : ByteArray := sealT (packBody p)
def ptR (p : Packet) : ByteArray := if packOk p then packText p else .empty
theorem ptR_yes {p : Packet} (h : packOk p = true) : ptR p = packText p := by unfold ptR; rw [h]; rfl
theorem ptR_no {p : Packet} (h : packOk p = false) : ptR p = .empty := by unfold ptR; rw [h]; rfl
theorem tx2_size (a b : UInt8) : (tx [a, b]).size = 2 := rfl
theorem packBody_size {p : Packet} (h : packOk p = true) : (packBody p).size ≤ 20000 := by
  have h1 := packOk_body h
  have l1 := varText_size p.epoch
  have l2 := varText_size p.seq
  have l3 := varText_size p.ack
  unfold packBody
  rw [ByteArray.size_append, ByteArray.size_append, ByteArray.size_append, ByteArray.size_append, tx2_size]
  omega
theorem packText_size {p : Packet} (h : packOk p = true) : (packText p).size ≤ 20004 := by
  have := packBody_size h
  unfold packText sealT
  rw [ByteArray.size_append, four_size]; omega
theorem ptR_size (p : Packet) : (ptR p).size ≤ 20004 := by
  unfold ptR
  split
  · exact packText_size ‹_›
  · show 0 ≤ 20004; omega
theorem ids_eq {f t : Int} (hf : 0 ≤ f ∧ f ≤ 8) (ht : 0 ≤ t ∧ t ≤ 8) : (⟨(([IntKind.u8.wrap f, IntKind.u8.wrap t] : List Int).map fun v => UInt8.ofNat v.toNat).toArray⟩ : ByteArray) = tx [UInt8.ofNat f.toNat, UInt8.ofNat t.toNat] := by
  have e1 : IntKind.u8.wrap f = f := by rw [u8_wrap]; omega
  have e2 : IntKind.u8.wrap t = t := by rw [u8_wrap]; omega
  rw [e1, e2]; rfl
theorem seal_pack {p : Packet} (h : packOk p = true) : sealOk (packBody p) = true ∧ sealR (packBody p) = packText p := seal_yes (packBody_size h)

--@ct impl.PacketText val implPacketText_ct _ $1 | %1
--@ct spec.PacketText val specPacketText_ct _ $1 | %1
theorem implPacketText_ct (l : List Value) (p : Packet) : Ct Try.prog 72 [.agg ⟨l⟩] [] (fun H => gPacket.rd H l p) (fun v A => v = .tuple #[.string (ptR p), .bool (packOk p)] ∧ A = []) := by
  refine Ct.intro0 G_ok Try.func72 rfl rfl rfl fun E H hp => ?_
  obtain ⟨rfl, w0p, w1p, w2p, w3p, w4p, w5p⟩ := gPacket_rd.1 hp
  have l1 := varText_size p.epoch
  have l2 := varText_size p.seq
  have l3 := varText_size p.ack
  have hq : packOk p = true → 1 ≤ p.epoch ∧ p.epoch ≤ 100000 ∧ 0 ≤ p.from' ∧ p.from' ≤ 8 ∧ 0 ≤ p.to ∧ p.to ≤ 8 ∧ 0 ≤ p.seq ∧ p.seq ≤ 200 ∧ 0 ≤ p.ack ∧ p.ack ≤ 200 ∧ p.body.size ≤ 6000 := fun h => by
    have h9 := packOk_iff.1 h
    have h8 := packOk_body h
    omega
  refine VCnew.intro fun x0 => ?_
  refine call_val (implPacketOk_ct _ (p)) (Rp.mono _ (mem_at 0 rfl) hp) ?_
  rintro _ rfl
  refine VCsplit.intro (fun q2 => ?_) (fun q2 => ?_)
  ·
    simp at q2
    (rw [ptR_no ‹packOk p = false›, ‹packOk p = false›]; exact ⟨[], ⟨rfl, rfl⟩, (.le fun a => by (try simp only [setR, List.cons_append, List.nil_append]); simp [List.count_cons, Blk.ent, idOf]; try omega)⟩)
  ·
    simp at q2
    have hk2 := hq q2
    refine VCnew.intro fun x3 => ?_
    refine conv_bs G_ok (([IntKind.u8.wrap p.from', IntKind.u8.wrap p.to] : List Int).map fun v => UInt8.ofNat v.toNat) rfl (lit_bs [IntKind.u8.wrap p.from', IntKind.u8.wrap p.to] (mem_at 0 rfl _ (List.mem_singleton.2 rfl)) rfl ?_ (by simp)) rfl rfl rfl ?_
    · (simp only [inU8, u8_wrap, and_true]; omega)
    refine draw G_ok mixed none (.q 0 (.q 1 (.q 3 (.q 5 (.q 6 (.q 9 (.q 10 (.q 13 (.q 14 (.f 2 (.q 4 (.f 7 (.q 8 (.f 11 (.q 12 (.q 15 (.f 16 (.q 17 (.q 18 (.q 19 (.q 20 (.nil)))))))))))))))))))))) (by decide +kernel) ?_
    refine call_val (varText_ct _ ?_ ?_) trivial ?_
    · omega
    · omega
    rintro _ rfl
    refine VC.intro ?_ ?_
    · exact fun _ h => h
    refine VC.intro ?_ ?_
    · (simp only [ids_eq (by omega : 0 ≤ p.from' ∧ p.from' ≤ 8) (by omega : 0 ≤ p.to ∧ p.to ≤ 8), ByteArray.size_append, tx2_size]; have : IntKind.i64.max = 9223372036854775807 := rfl; omega)
    refine call_val (varText_ct _ ?_ ?_) trivial ?_
    · omega
    · omega
    rintro _ rfl
    refine VC.intro ?_ ?_
    · exact fun _ h => h
    refine VC.intro ?_ ?_
    · (simp only [ids_eq (by omega : 0 ≤ p.from' ∧ p.from' ≤ 8) (by omega : 0 ≤ p.to ∧ p.to ≤ 8), ByteArray.size_append, tx2_size]; have : IntKind.i64.max = 9223372036854775807 := rfl; omega)
    refine call_val (varText_ct _ ?_ ?_) trivial ?_
    · omega
    · omega
    rintro _ rfl
    refine VC.intro ?_ ?_
    · exact fun _ h => h
    refine VC.intro ?_ ?_
    · (simp only [ids_eq (by omega : 0 ≤ p.from' ∧ p.from' ≤ 8) (by omega : 0 ≤ p.to ∧ p.to ≤ 8), ByteArray.size_append, tx2_size]; have : IntKind.i64.max = 9223372036854775807 := rfl; omega)
    refine VC.intro ?_ ?_
    · (simp only [ids_eq (by omega : 0 ≤ p.from' ∧ p.from' ≤ 8) (by omega : 0 ≤ p.to ∧ p.to ≤ 8), ByteArray.size_append, tx2_size]; have : IntKind.i64.max = 9223372036854775807 := rfl; omega)
    refine call_val (implSealed_ct _ ?_) trivial ?_
    · (simp only [ids_eq (by omega : 0 ≤ p.from' ∧ p.from' ≤ 8) (by omega : 0 ≤ p.to ∧ p.to ≤ 8), ByteArray.size_append, tx2_size]; have : IntKind.i64.max = 9223372036854775807 := rfl; omega)
    rintro _ rfl
    refine VC.intro ?_ ?_
    · exact fun _ h => h
    try dsimp only
    (have hy := ‹packOk p = true›; obtain ⟨e1, e2⟩ := seal_pack hy; rw [ptR_yes hy, hy, ← e2, ← e1]; unfold packBody; rw [← ids_eq (by omega : 0 ≤ p.from' ∧ p.from' ≤ 8) (by omega : 0 ≤ p.to ∧ p.to ≤ 8)]; exact ⟨[], ⟨rfl, rfl⟩, (.le fun a => by (try simp only [setR, List.cons_append, List.nil_append]); simp [List.count_cons, Blk.ent, idOf]; try omega)⟩)

theorem specPacketText_ct (l : List Value) (p : Packet) : Ct Try.prog 76 [.agg ⟨l⟩] [] (fun H => gPacket.rd H l p) (fun v A => v = .tuple #[.string (ptR p), .bool (packOk p)] ∧ A = []) := by
  refine Ct.intro0 G_ok Try.func76 rfl rfl rfl fun E H hp => ?_
  obtain ⟨rfl, w0p, w1p, w2p, w3p, w4p, w5p⟩ := gPacket_rd.1 hp
  have l1 := varText_size p.epoch
  have l2 := varText_size p.seq
  have l3 := varText_size p.ack
  have hq : packOk p = true → 1 ≤ p.epoch ∧ p.epoch ≤ 100000 ∧ 0 ≤ p.from' ∧ p.from' ≤ 8 ∧ 0 ≤ p.to ∧ p.to ≤ 8 ∧ 0 ≤ p.seq ∧ p.seq ≤ 200 ∧ 0 ≤ p.ack ∧ p.ack ≤ 200 ∧ p.body.size ≤ 6000 := fun h => by
    have h9 := packOk_iff.1 h
    have h8 := packOk_body h
    omega
  refine VCnew.intro fun x0 => ?_
  refine call_val (specPacketOk_ct _ (p)) (Rp.mono _ (mem_at 0 rfl) hp) ?_
  rintro _ rfl
  refine VCsplit.intro (fun q2 => ?_) (fun q2 => ?_)
  ·
    simp at q2
    (rw [ptR_no ‹packOk p = false›, ‹packOk p = false›]; exact ⟨[], ⟨rfl, rfl⟩, (.le fun a => by (try simp only [setR, List.cons_append, List.nil_append]); simp [List.count_cons, Blk.ent, idOf]; try omega)⟩)
  ·
    simp at q2
    have hk2 := hq q2
    refine draw G_ok mixed none (.q 0 (.q 1 (.q 3 (.q 4 (.q 5 (.q 6 (.q 7 (.q 8 (.q 12 (.q 13 (.q 16 (.q 17 (.q 20 (.q 21 (.hd (.alt 2 (.hd (.alt 9 (.hd (.alt 10 (.q 11 (.f 14 (.q 15 (.f 18 (.q 19 (.q 22 (.f 23 (.q 24 (.q 25 (.q 26 (.q 27 (.nil)))))))))))) (.alt 14 (.hd (.alt 10 (.q 11 (.q 15 (.f 18 (.q 19 (.q 22 (.f 23 (.q 24 (.q 25 (.q 26 (.q 27 (.nil))))))))))) (.alt 18 (.f 10 (.q 11 (.q 15 (.q 19 (.q 22 (.f 23 (.q 24 (.q 25 (.q 26 (.q 27 (.nil))))))))))) (.nil)))) (.nil)))) (.alt 14 (.hd (.alt 9 (.hd (.alt 10 (.q 11 (.q 15 (.f 18 (.q 19 (.q 22 (.f 23 (.q 24 (.q 25 (.q 26 (.q 27 (.nil))))))))))) (.alt 18 (.f 10 (.q 11 (.q 15 (.q 19 (.q 22 (.f 23 (.q 24 (.q 25 (.q 26 (.q 27 (.nil))))))))))) (.nil)))) (.alt 18 (.f 9 (.f 10 (.q 11 (.q 15 (.q 19 (.q 22 (.f 23 (.q 24 (.q 25 (.q 26 (.q 27 (.nil)))))))))))) (.nil)))) (.nil)))) (.alt 9 (.hd (.alt 2 (.hd (.alt 10 (.q 11 (.f 14 (.q 15 (.f 18 (.q 19 (.q 22 (.f 23 (.q 24 (.q 25 (.q 26 (.q 27 (.nil)))))))))))) (.alt 14 (.hd (.alt 10 (.q 11 (.q 15 (.f 18 (.q 19 (.q 22 (.f 23 (.q 24 (.q 25 (.q 26 (.q 27 (.nil))))))))))) (.alt 18 (.f 10 (.q 11 (.q 15 (.q 19 (.q 22 (.f 23 (.q 24 (.q 25 (.q 26 (.q 27 (.nil))))))))))) (.nil)))) (.nil)))) (.alt 10 (.f 2 (.q 11 (.f 14 (.q 15 (.f 18 (.q 19 (.q 22 (.f 23 (.q 24 (.q 25 (.q 26 (.q 27 (.nil))))))))))))) (.nil)))) (.nil)))))))))))))))))) (by decide +kernel) ?_
    refine VC.intro ?_ ?_
    ·
      refine call_val (l01Var_ct _ ?_ ?_) trivial ?_
      · omega
      · omega
      rintro _ rfl
      refine VC.intro ?_ ?_
      · exact fun _ h => h
      refine VC.intro ?_ ?_
      ·
        refine VCnew.intro fun x4 => ?_
        refine VC.intro ?_ ?_
        · exact keep_new
        refine VC.intro ?_ ?_
        ·
          refine conv_bs G_ok (([IntKind.u8.wrap p.from', IntKind.u8.wrap p.to] : List Int).map fun v => UInt8.ofNat v.toNat) rfl (lit_bs [IntKind.u8.wrap p.from', IntKind.u8.wrap p.to] (mem_at 0 rfl _ (List.mem_singleton.2 rfl)) rfl ?_ (by simp)) rfl rfl rfl ?_
          · (simp only [inU8, u8_wrap, and_true]; omega)
          refine VC.intro ?_ ?_
          · exact keep_new
          refine VC.intro ?_ ?_
          · (simp only [ids_eq (by omega : 0 ≤ p.from' ∧ p.from' ≤ 8) (by omega : 0 ≤ p.to ∧ p.to ≤ 8), ByteArray.size_append, tx2_size]; have : IntKind.i64.max = 9223372036854775807 := rfl; omega)
          refine call_val (l01Var_ct _ ?_ ?_) trivial ?_
          · omega
          · omega
          rintro _ rfl
          refine VC.intro ?_ ?_
          · exact keep_new
          refine VC.intro ?_ ?_
          · (simp only [ids_eq (by omega : 0 ≤ p.from' ∧ p.from' ≤ 8) (by omega : 0 ≤ p.to ∧ p.to ≤ 8), ByteArray.size_append, tx2_size]; have : IntKind.i64.max = 9223372036854775807 := rfl; omega)
          refine call_val (l01Var_ct _ ?_ ?_) trivial ?_
          · omega
          · omega
          rintro _ rfl
          refine VC.intro ?_ ?_
          · exact keep_new
          refine VC.intro ?_ ?_
          · (simp only [ids_eq (by omega : 0 ≤ p.from' ∧ p.from' ≤ 8) (by omega : 0 ≤ p.to ∧ p.to ≤ 8), ByteArray.size_append, tx2_size]; have : IntKind.i64.max = 9223372036854775807 := rfl; omega)
          refine VC.intro ?_ ?_
          · (simp only [ids_eq (by omega : 0 ≤ p.from' ∧ p.from' ≤ 8) (by omega : 0 ≤ p.to ∧ p.to ≤ 8), ByteArray.size_append, tx2_size]; have : IntKind.i64.max = 9223372036854775807 := rfl; omega)
          refine call_val (specSealed_ct _ ?_) trivial ?_
          · (simp only [ids_eq (by omega : 0 ≤ p.from' ∧ p.from' ≤ 8) (by omega : 0 ≤ p.to ∧ p.to ≤ 8), ByteArray.size_append, tx2_size]; have : IntKind.i64.max = 9223372036854775807 := rfl; omega)
          rintro _ rfl
          refine VC.intro ?_ ?_
          · exact keep_new
          try dsimp only
          (have hy := ‹packOk p = true›; obtain ⟨e1, e2⟩ := seal_pack hy; rw [ptR_yes hy, hy, ← e2, ← e1]; unfold packBody; rw [← ids_eq (by omega : 0 ≤ p.from' ∧ p.from' ≤ 8) (by omega : 0 ≤ p.to ∧ p.to ≤ 8)]; exact ⟨[], ⟨rfl, rfl⟩, (.le fun a => by (try simp only [setR, List.cons_append, List.nil_append]); simp [List.count_cons, Blk.ent, idOf]; try omega)⟩)
        ·
          refine VC.intro ?_ ?_
          ·
            refine call_val (l01Var_ct _ ?_ ?_) trivial ?_
            · omega
            · omega
            rintro _ rfl
            refine VC.intro ?_ ?_
            · exact keep_new
            refine VC.intro ?_ ?_
            ·
              refine conv_bs G_ok (([IntKind.u8.wrap p.from', IntKind.u8.wrap p.to] : List Int).map fun v => UInt8.ofNat v.toNat) rfl (lit_bs [IntKind.u8.wrap p.from', IntKind.u8.wrap p.to] (mem_at 0 rfl _ (List.mem_singleton.2 rfl)) rfl ?_ (by simp)) rfl rfl rfl ?_
              · (simp only [inU8, u8_wrap, and_true]; omega)
              refine VC.intro ?_ ?_
              · exact keep_new
              refine VC.intro ?_ ?_
              · (simp only [ids_eq (by omega : 0 ≤ p.from' ∧ p.from' ≤ 8) (by omega : 0 ≤ p.to ∧ p.to ≤ 8), ByteArray.size_append, tx2_size]; have : IntKind.i64.max = 9223372036854775807 := rfl; omega)
              refine VC.intro ?_ ?_
              · (simp only [ids_eq (by omega : 0 ≤ p.from' ∧ p.from' ≤ 8) (by omega : 0 ≤ p.to ∧ p.to ≤ 8), ByteArray.size_append, tx2_size]; have : IntKind.i64.max = 9223372036854775807 := rfl; omega)
              refine call_val (l01Var_ct _ ?_ ?_) trivial ?_
              · omega
              · omega
              rintro _ rfl
              refine VC.intro ?_ ?_
              · exact keep_new
              refine VC.intro ?_ ?_
              · (simp only [ids_eq (by omega : 0 ≤ p.from' ∧ p.from' ≤ 8) (by omega : 0 ≤ p.to ∧ p.to ≤ 8), ByteArray.size_append, tx2_size]; have : IntKind.i64.max = 9223372036854775807 := rfl; omega)
              refine VC.intro ?_ ?_
              · (simp only [ids_eq (by omega : 0 ≤ p.from' ∧ p.from' ≤ 8) (by omega : 0 ≤ p.to ∧ p.to ≤ 8), ByteArray.size_append, tx2_size]; have : IntKind.i64.max = 9223372036854775807 := rfl; omega)
              refine call_val (specSealed_ct _ ?_) trivial ?_
              · (simp only [ids_eq (by omega : 0 ≤ p.from' ∧ p.from' ≤ 8) (by omega : 0 ≤ p.to ∧ p.to ≤ 8), ByteArray.size_append, tx2_size]; have : IntKind.i64.max = 9223372036854775807 := rfl; omega)
              rintro _ rfl
              refine VC.intro ?_ ?_
              · exact keep_new
              try dsimp only
              (have hy := ‹packOk p = true›; obtain ⟨e1, e2⟩ := seal_pack hy; rw [ptR_yes hy, hy, ← e2, ← e1]; unfold packBody; rw [← ids_eq (by omega : 0 ≤ p.from' ∧ p.from' ≤ 8) (by omega : 0 ≤ p.to ∧ p.to ≤ 8)]; exact ⟨[], ⟨rfl, rfl⟩, (.le fun a => by (try simp only [setR, List.cons_append, List.nil_append]); simp [List.count_cons, Blk.ent, idOf]; try omega)⟩)
            ·
              refine VC.intro ?_ ?_
              ·
                refine call_val (l01Var_ct _ ?_ ?_) trivial ?_
                · omega
                · omega
                rintro _ rfl
                refine VC.intro ?_ ?_
                · exact keep_new
                refine conv_bs G_ok (([IntKind.u8.wrap p.from', IntKind.u8.wrap p.to] : List Int).map fun v => UInt8.ofNat v.toNat) rfl (lit_bs [IntKind.u8.wrap p.from', IntKind.u8.wrap p.to] (mem_at 0 rfl _ (List.mem_singleton.2 rfl)) rfl ?_ (by simp)) rfl rfl rfl ?_
                · (simp only [inU8, u8_wrap, and_true]; omega)
                refine VC.intro ?_ ?_
                · exact keep_new
                refine VC.intro ?_ ?_
                · (simp only [ids_eq (by omega : 0 ≤ p.from' ∧ p.from' ≤ 8) (by omega : 0 ≤ p.to ∧ p.to ≤ 8), ByteArray.size_append, tx2_size]; have : IntKind.i64.max = 9223372036854775807 := rfl; omega)
                refine VC.intro ?_ ?_
                · (simp only [ids_eq (by omega : 0 ≤ p.from' ∧ p.from' ≤ 8) (by omega : 0 ≤ p.to ∧ p.to ≤ 8), ByteArray.size_append, tx2_size]; have : IntKind.i64.max = 9223372036854775807 := rfl; omega)
                refine VC.intro ?_ ?_
                · (simp only [ids_eq (by omega : 0 ≤ p.from' ∧ p.from' ≤ 8) (by omega : 0 ≤ p.to ∧ p.to ≤ 8), ByteArray.size_append, tx2_size]; have : IntKind.i64.max = 9223372036854775807 := rfl; omega)
                refine VC.intro ?_ ?_
                · (simp only [ids_eq (by omega : 0 ≤ p.from' ∧ p.from' ≤ 8) (by omega : 0 ≤ p.to ∧ p.to ≤ 8), ByteArray.size_append, tx2_size]; have : IntKind.i64.max = 9223372036854775807 := rfl; omega)
                refine call_val (specSealed_ct _ ?_) trivial ?_
                · (simp only [ids_eq (by omega : 0 ≤ p.from' ∧ p.from' ≤ 8) (by omega : 0 ≤ p.to ∧ p.to ≤ 8), ByteArray.size_append, tx2_size]; have : IntKind.i64.max = 9223372036854775807 := rfl; omega)
                rintro _ rfl
                refine VC.intro ?_ ?_
                · exact keep_new
                try dsimp only
                (have hy := ‹packOk p = true›; obtain ⟨e1, e2⟩ := seal_pack hy; rw [ptR_yes hy, hy, ← e2, ← e1]; unfold packBody; rw [← ids_eq (by omega : 0 ≤ p.from' ∧ p.from' ≤ 8) (by omega : 0 ≤ p.to ∧ p.to ≤ 8)]; exact ⟨[], ⟨rfl, rfl⟩, (.le fun a => by (try simp only [setR, List.cons_append, List.nil_append]); simp [List.count_cons, Blk.ent, idOf]; try omega)⟩)
              ·
                exact trivial
          ·
            exact trivial
      ·
        refine VC.intro ?_ ?_
        ·
          refine call_val (l01Var_ct _ ?_ ?_) trivial ?_
          · omega
          · omega
          rintro _ rfl
          refine VC.intro ?_ ?_
          · exact fun _ h => h
          refine VC.intro ?_ ?_
          ·
            refine VCnew.intro fun x14 => ?_
            refine VC.intro ?_ ?_
            · exact keep_new
            refine VC.intro ?_ ?_
            ·
              refine conv_bs G_ok (([IntKind.u8.wrap p.from', IntKind.u8.wrap p.to] : List Int).map fun v => UInt8.ofNat v.toNat) rfl (lit_bs [IntKind.u8.wrap p.from', IntKind.u8.wrap p.to] (mem_at 0 rfl _ (List.mem_singleton.2 rfl)) rfl ?_ (by simp)) rfl rfl rfl ?_
              · (simp only [inU8, u8_wrap, and_true]; omega)
              refine VC.intro ?_ ?_
              · exact keep_new
              refine VC.intro ?_ ?_
              · (simp only [ids_eq (by omega : 0 ≤ p.from' ∧ p.from' ≤ 8) (by omega : 0 ≤ p.to ∧ p.to ≤ 8), ByteArray.size_append, tx2_size]; have : IntKind.i64.max = 9223372036854775807 := rfl; omega)
              refine VC.intro ?_ ?_
              · (simp only [ids_eq (by omega : 0 ≤ p.from' ∧ p.from' ≤ 8) (by omega : 0 ≤ p.to ∧ p.to ≤ 8), ByteArray.size_append, tx2_size]; have : IntKind.i64.max = 9223372036854775807 := rfl; omega)
              refine call_val (l01Var_ct _ ?_ ?_) trivial ?_
              · omega
              · omega
              rintro _ rfl
              refine VC.intro ?_ ?_
              · exact keep_new
              refine VC.intro ?_ ?_
              · (simp only [ids_eq (by omega : 0 ≤ p.from' ∧ p.from' ≤ 8) (by omega : 0 ≤ p.to ∧ p.to ≤ 8), ByteArray.size_append, tx2_size]; have : IntKind.i64.max = 9223372036854775807 := rfl; omega)
              refine VC.intro ?_ ?_
              · (simp only [ids_eq (by omega : 0 ≤ p.from' ∧ p.from' ≤ 8) (by omega : 0 ≤ p.to ∧ p.to ≤ 8), ByteArray.size_append, tx2_size]; have : IntKind.i64.max = 9223372036854775807 := rfl; omega)
              refine call_val (specSealed_ct _ ?_) trivial ?_
              · (simp only [ids_eq (by omega : 0 ≤ p.from' ∧ p.from' ≤ 8) (by omega : 0 ≤ p.to ∧ p.to ≤ 8), ByteArray.size_append, tx2_size]; have : IntKind.i64.max = 9223372036854775807 := rfl; omega)
              rintro _ rfl
              refine VC.intro ?_ ?_
              · exact keep_new
              try dsimp only
              (have hy := ‹packOk p = true›; obtain ⟨e1, e2⟩ := seal_pack hy; rw [ptR_yes hy, hy, ← e2, ← e1]; unfold packBody; rw [← ids_eq (by omega : 0 ≤ p.from' ∧ p.from' ≤ 8) (by omega : 0 ≤ p.to ∧ p.to ≤ 8)]; exact ⟨[], ⟨rfl, rfl⟩, (.le fun a => by (try simp only [setR, List.cons_append, List.nil_append]); simp [List.count_cons, Blk.ent, idOf]; try omega)⟩)
            ·
              refine VC.intro ?_ ?_
              ·
                refine call_val (l01Var_ct _ ?_ ?_) trivial ?_
                · omega
                · omega
                rintro _ rfl
                refine VC.intro ?_ ?_
                · exact keep_new
                refine conv_bs G_ok (([IntKind.u8.wrap p.from', IntKind.u8.wrap p.to] : List Int).map fun v => UInt8.ofNat v.toNat) rfl (lit_bs [IntKind.u8.wrap p.from', IntKind.u8.wrap p.to] (mem_at 0 rfl _ (List.mem_singleton.2 rfl)) rfl ?_ (by simp)) rfl rfl rfl ?_
                · (simp only [inU8, u8_wrap, and_true]; omega)
                refine VC.intro ?_ ?_
                · exact keep_new
                refine VC.intro ?_ ?_
                · (simp only [ids_eq (by omega : 0 ≤ p.from' ∧ p.from' ≤ 8) (by omega : 0 ≤ p.to ∧ p.to ≤ 8), ByteArray.size_append, tx2_size]; have : IntKind.i64.max = 9223372036854775807 := rfl; omega)
                refine VC.intro ?_ ?_
                · (simp only [ids_eq (by omega : 0 ≤ p.from' ∧ p.from' ≤ 8) (by omega : 0 ≤ p.to ∧ p.to ≤ 8), ByteArray.size_append, tx2_size]; have : IntKind.i64.max = 9223372036854775807 := rfl; omega)
                refine VC.intro ?_ ?_
                · (simp only [ids_eq (by omega : 0 ≤ p.from' ∧ p.from' ≤ 8) (by omega : 0 ≤ p.to ∧ p.to ≤ 8), ByteArray.size_append, tx2_size]; have : IntKind.i64.max = 9223372036854775807 := rfl; omega)
                refine VC.intro ?_ ?_
                · (simp only [ids_eq (by omega : 0 ≤ p.from' ∧ p.from' ≤ 8) (by omega : 0 ≤ p.to ∧ p.to ≤ 8), ByteArray.size_append, tx2_size]; have : IntKind.i64.max = 9223372036854775807 := rfl; omega)
                refine call_val (specSealed_ct _ ?_) trivial ?_
                · (simp only [ids_eq (by omega : 0 ≤ p.from' ∧ p.from' ≤ 8) (by omega : 0 ≤ p.to ∧ p.to ≤ 8), ByteArray.size_append, tx2_size]; have : IntKind.i64.max = 9223372036854775807 := rfl; omega)
                rintro _ rfl
                refine VC.intro ?_ ?_
                · exact keep_new
                try dsimp only
                (have hy := ‹packOk p = true›; obtain ⟨e1, e2⟩ := seal_pack hy; rw [ptR_yes hy, hy, ← e2, ← e1]; unfold packBody; rw [← ids_eq (by omega : 0 ≤ p.from' ∧ p.from' ≤ 8) (by omega : 0 ≤ p.to ∧ p.to ≤ 8)]; exact ⟨[], ⟨rfl, rfl⟩, (.le fun a => by (try simp only [setR, List.cons_append, List.nil_append]); simp [List.count_cons, Blk.ent, idOf]; try omega)⟩)
              ·
                exact trivial
          ·
            refine VC.intro ?_ ?_
            ·
              refine call_val (l01Var_ct _ ?_ ?_) trivial ?_
              · omega
              · omega
              rintro _ rfl
              refine VC.intro ?_ ?_
              · exact fun _ h => h
              refine VCnew.intro fun x20 => ?_
              refine VC.intro ?_ ?_
              · exact keep_new
              refine conv_bs G_ok (([IntKind.u8.wrap p.from', IntKind.u8.wrap p.to] : List Int).map fun v => UInt8.ofNat v.toNat) rfl (lit_bs [IntKind.u8.wrap p.from', IntKind.u8.wrap p.to] (mem_at 0 rfl _ (List.mem_singleton.2 rfl)) rfl ?_ (by simp)) rfl rfl rfl ?_
              · (simp only [inU8, u8_wrap, and_true]; omega)
              refine VC.intro ?_ ?_
              · exact keep_new
              refine VC.intro ?_ ?_
              · (simp only [ids_eq (by omega : 0 ≤ p.from' ∧ p.from' ≤ 8) (by omega : 0 ≤ p.to ∧ p.to ≤ 8), ByteArray.size_append, tx2_size]; have : IntKind.i64.max = 9223372036854775807 := rfl; omega)
              refine VC.intro ?_ ?_
              · (simp only [ids_eq (by omega : 0 ≤ p.from' ∧ p.from' ≤ 8) (by omega : 0 ≤ p.to ∧ p.to ≤ 8), ByteArray.size_append, tx2_size]; have : IntKind.i64.max = 9223372036854775807 := rfl; omega)
              refine VC.intro ?_ ?_
              · (simp only [ids_eq (by omega : 0 ≤ p.from' ∧ p.from' ≤ 8) (by omega : 0 ≤ p.to ∧ p.to ≤ 8), ByteArray.size_append, tx2_size]; have : IntKind.i64.max = 9223372036854775807 := rfl; omega)
              refine VC.intro ?_ ?_
              · (simp only [ids_eq (by omega : 0 ≤ p.from' ∧ p.from' ≤ 8) (by omega : 0 ≤ p.to ∧ p.to ≤ 8), ByteArray.size_append, tx2_size]; have : IntKind.i64.max = 9223372036854775807 := rfl; omega)
              refine call_val (specSealed_ct _ ?_) trivial ?_
              · (simp only [ids_eq (by omega : 0 ≤ p.from' ∧ p.from' ≤ 8) (by omega : 0 ≤ p.to ∧ p.to ≤ 8), ByteArray.size_append, tx2_size]; have : IntKind.i64.max = 9223372036854775807 := rfl; omega)
              rintro _ rfl
              refine VC.intro ?_ ?_
              · exact keep_new
              try dsimp only
              (have hy := ‹packOk p = true›; obtain ⟨e1, e2⟩ := seal_pack hy; rw [ptR_yes hy, hy, ← e2, ← e1]; unfold packBody; rw [← ids_eq (by omega : 0 ≤ p.from' ∧ p.from' ≤ 8) (by omega : 0 ≤ p.to ∧ p.to ≤ 8)]; exact ⟨[], ⟨rfl, rfl⟩, (.le fun a => by (try simp only [setR, List.cons_append, List.nil_append]); simp [List.count_cons, Blk.ent, idOf]; try omega)⟩)
            ·
              exact trivial
        ·
          exact trivial
    ·
      refine VC.intro ?_ ?_
      ·
        refine VCnew.intro fun x22 => ?_
        refine VC.intro ?_ ?_
        · exact keep_new
        refine VC.intro ?_ ?_
        ·
          refine call_val (l01Var_ct _ ?_ ?_) trivial ?_
          · omega
          · omega
          rintro _ rfl
          refine VC.intro ?_ ?_
          · exact keep_new
          refine VC.intro ?_ ?_
          ·
            refine conv_bs G_ok (([IntKind.u8.wrap p.from', IntKind.u8.wrap p.to] : List Int).map fun v => UInt8.ofNat v.toNat) rfl (lit_bs [IntKind.u8.wrap p.from', IntKind.u8.wrap p.to] (mem_at 0 rfl _ (List.mem_singleton.2 rfl)) rfl ?_ (by simp)) rfl rfl rfl ?_
            · (simp only [inU8, u8_wrap, and_true]; omega)
            refine VC.intro ?_ ?_
            · exact keep_new
            refine VC.intro ?_ ?_
            · (simp only [ids_eq (by omega : 0 ≤ p.from' ∧ p.from' ≤ 8) (by omega : 0 ≤ p.to ∧ p.to ≤ 8), ByteArray.size_append, tx2_size]; have : IntKind.i64.max = 9223372036854775807 := rfl; omega)
            refine call_val (l01Var_ct _ ?_ ?_) trivial ?_
            · omega
            · omega
            rintro _ rfl
            refine VC.intro ?_ ?_
            · exact keep_new
            refine VC.intro ?_ ?_
            · (simp only [ids_eq (by omega : 0 ≤ p.from' ∧ p.from' ≤ 8) (by omega : 0 ≤ p.to ∧ p.to ≤ 8), ByteArray.size_append, tx2_size]; have : IntKind.i64.max = 9223372036854775807 := rfl; omega)
            refine call_val (l01Var_ct _ ?_ ?_) trivial ?_
            · omega
            · omega
            rintro _ rfl
            refine VC.intro ?_ ?_
            · exact keep_new
            refine VC.intro ?_ ?_
            · (simp only [ids_eq (by omega : 0 ≤ p.from' ∧ p.from' ≤ 8) (by omega : 0 ≤ p.to ∧ p.to ≤ 8), ByteArray.size_append, tx2_size]; have : IntKind.i64.max = 9223372036854775807 := rfl; omega)
            refine VC.intro ?_ ?_
            · (simp only [ids_eq (by omega : 0 ≤ p.from' ∧ p.from' ≤ 8) (by omega : 0 ≤ p.to ∧ p.to ≤ 8), ByteArray.size_append, tx2_size]; have : IntKind.i64.max = 9223372036854775807 := rfl; omega)
            refine call_val (specSealed_ct _ ?_) trivial ?_
            · (simp only [ids_eq (by omega : 0 ≤ p.from' ∧ p.from' ≤ 8) (by omega : 0 ≤ p.to ∧ p.to ≤ 8), ByteArray.size_append, tx2_size]; have : IntKind.i64.max = 9223372036854775807 := rfl; omega)
            rintro _ rfl
            refine VC.intro ?_ ?_
            · exact keep_new
            try dsimp only
            (have hy := ‹packOk p = true›; obtain ⟨e1, e2⟩ := seal_pack hy; rw [ptR_yes hy, hy, ← e2, ← e1]; unfold packBody; rw [← ids_eq (by omega : 0 ≤ p.from' ∧ p.from' ≤ 8) (by omega : 0 ≤ p.to ∧ p.to ≤ 8)]; exact ⟨[], ⟨rfl, rfl⟩, (.le fun a => by (try simp only [setR, List.cons_append, List.nil_append]); simp [List.count_cons, Blk.ent, idOf]; try omega)⟩)
          ·
            refine VC.intro ?_ ?_
            ·
              refine call_val (l01Var_ct _ ?_ ?_) trivial ?_
              · omega
              · omega
              rintro _ rfl
              refine VC.intro ?_ ?_
              · exact keep_new
              refine VC.intro ?_ ?_
              ·
                refine conv_bs G_ok (([IntKind.u8.wrap p.from', IntKind.u8.wrap p.to] : List Int).map fun v => UInt8.ofNat v.toNat) rfl (lit_bs [IntKind.u8.wrap p.from', IntKind.u8.wrap p.to] (mem_at 0 rfl _ (List.mem_singleton.2 rfl)) rfl ?_ (by simp)) rfl rfl rfl ?_
                · (simp only [inU8, u8_wrap, and_true]; omega)
                refine VC.intro ?_ ?_
                · exact keep_new
                refine VC.intro ?_ ?_
                · (simp only [ids_eq (by omega : 0 ≤ p.from' ∧ p.from' ≤ 8) (by omega : 0 ≤ p.to ∧ p.to ≤ 8), ByteArray.size_append, tx2_size]; have : IntKind.i64.max = 9223372036854775807 := rfl; omega)
                refine VC.intro ?_ ?_
                · (simp only [ids_eq (by omega : 0 ≤ p.from' ∧ p.from' ≤ 8) (by omega : 0 ≤ p.to ∧ p.to ≤ 8), ByteArray.size_append, tx2_size]; have : IntKind.i64.max = 9223372036854775807 := rfl; omega)
                refine call_val (l01Var_ct _ ?_ ?_) trivial ?_
                · omega
                · omega
                rintro _ rfl
                refine VC.intro ?_ ?_
                · exact keep_new
                refine VC.intro ?_ ?_
                · (simp only [ids_eq (by omega : 0 ≤ p.from' ∧ p.from' ≤ 8) (by omega : 0 ≤ p.to ∧ p.to ≤ 8), ByteArray.size_append, tx2_size]; have : IntKind.i64.max = 9223372036854775807 := rfl; omega)
                refine VC.intro ?_ ?_
                · (simp only [ids_eq (by omega : 0 ≤ p.from' ∧ p.from' ≤ 8) (by omega : 0 ≤ p.to ∧ p.to ≤ 8), ByteArray.size_append, tx2_size]; have : IntKind.i64.max = 9223372036854775807 := rfl; omega)
                refine call_val (specSealed_ct _ ?_) trivial ?_
                · (simp only [ids_eq (by omega : 0 ≤ p.from' ∧ p.from' ≤ 8) (by omega : 0 ≤ p.to ∧ p.to ≤ 8), ByteArray.size_append, tx2_size]; have : IntKind.i64.max = 9223372036854775807 := rfl; omega)
                rintro _ rfl
                refine VC.intro ?_ ?_
                · exact keep_new
                try dsimp only
                (have hy := ‹packOk p = true›; obtain ⟨e1, e2⟩ := seal_pack hy; rw [ptR_yes hy, hy, ← e2, ← e1]; unfold packBody; rw [← ids_eq (by omega : 0 ≤ p.from' ∧ p.from' ≤ 8) (by omega : 0 ≤ p.to ∧ p.to ≤ 8)]; exact ⟨[], ⟨rfl, rfl⟩, (.le fun a => by (try simp only [setR, List.cons_append, List.nil_append]); simp [List.count_cons, Blk.ent, idOf]; try omega)⟩)
              ·
                refine VC.intro ?_ ?_
                ·
                  refine call_val (l01Var_ct _ ?_ ?_) trivial ?_
                  · omega
                  · omega
                  rintro _ rfl
                  refine VC.intro ?_ ?_
                  · exact keep_new
                  refine conv_bs G_ok (([IntKind.u8.wrap p.from', IntKind.u8.wrap p.to] : List Int).map fun v => UInt8.ofNat v.toNat) rfl (lit_bs [IntKind.u8.wrap p.from', IntKind.u8.wrap p.to] (mem_at 0 rfl _ (List.mem_singleton.2 rfl)) rfl ?_ (by simp)) rfl rfl rfl ?_
                  · (simp only [inU8, u8_wrap, and_true]; omega)
                  refine VC.intro ?_ ?_
                  · exact keep_new
                  refine VC.intro ?_ ?_
                  · (simp only [ids_eq (by omega : 0 ≤ p.from' ∧ p.from' ≤ 8) (by omega : 0 ≤ p.to ∧ p.to ≤ 8), ByteArray.size_append, tx2_size]; have : IntKind.i64.max = 9223372036854775807 := rfl; omega)
                  refine VC.intro ?_ ?_
                  · (simp only [ids_eq (by omega : 0 ≤ p.from' ∧ p.from' ≤ 8) (by omega : 0 ≤ p.to ∧ p.to ≤ 8), ByteArray.size_append, tx2_size]; have : IntKind.i64.max = 9223372036854775807 := rfl; omega)
                  refine VC.intro ?_ ?_
                  · (simp only [ids_eq (by omega : 0 ≤ p.from' ∧ p.from' ≤ 8) (by omega : 0 ≤ p.to ∧ p.to ≤ 8), ByteArray.size_append, tx2_size]; have : IntKind.i64.max = 9223372036854775807 := rfl; omega)
                  refine VC.intro ?_ ?_
                  · (simp only [ids_eq (by omega : 0 ≤ p.from' ∧ p.from' ≤ 8) (by omega : 0 ≤ p.to ∧ p.to ≤ 8), ByteArray.size_append, tx2_size]; have : IntKind.i64.max = 9223372036854775807 := rfl; omega)
                  refine call_val (specSealed_ct _ ?_) trivial ?_
                  · (simp only [ids_eq (by omega : 0 ≤ p.from' ∧ p.from' ≤ 8) (by omega : 0 ≤ p.to ∧ p.to ≤ 8), ByteArray.size_append, tx2_size]; have : IntKind.i64.max = 9223372036854775807 := rfl; omega)
                  rintro _ rfl
                  refine VC.intro ?_ ?_
                  · exact keep_new
                  try dsimp only
                  (have hy := ‹packOk p = true›; obtain ⟨e1, e2⟩ := seal_pack hy; rw [ptR_yes hy, hy, ← e2, ← e1]; unfold packBody; rw [← ids_eq (by omega : 0 ≤ p.from' ∧ p.from' ≤ 8) (by omega : 0 ≤ p.to ∧ p.to ≤ 8)]; exact ⟨[], ⟨rfl, rfl⟩, (.le fun a => by (try simp only [setR, List.cons_append, List.nil_append]); simp [List.count_cons, Blk.ent, idOf]; try omega)⟩)
                ·
                  exact trivial
            ·
              exact trivial
        ·
          refine VC.intro ?_ ?_
          ·
            refine conv_bs G_ok (([IntKind.u8.wrap p.from', IntKind.u8.wrap p.to] : List Int).map fun v => UInt8.ofNat v.toNat) rfl (lit_bs [IntKind.u8.wrap p.from', IntKind.u8.wrap p.to] (mem_at 0 rfl _ (List.mem_singleton.2 rfl)) rfl ?_ (by simp)) rfl rfl rfl ?_
            · (simp only [inU8, u8_wrap, and_true]; omega)
            refine VC.intro ?_ ?_
            · exact keep_new
            refine call_val (l01Var_ct _ ?_ ?_) trivial ?_
            · omega
            · omega
            rintro _ rfl
            refine VC.intro ?_ ?_
            · exact keep_new
            refine VC.intro ?_ ?_
            · (simp only [ids_eq (by omega : 0 ≤ p.from' ∧ p.from' ≤ 8) (by omega : 0 ≤ p.to ∧ p.to ≤ 8), ByteArray.size_append, tx2_size]; have : IntKind.i64.max = 9223372036854775807 := rfl; omega)
            refine call_val (l01Var_ct _ ?_ ?_) trivial ?_
            · omega
            · omega
            rintro _ rfl
            refine VC.intro ?_ ?_
            · exact keep_new
            refine VC.intro ?_ ?_
            · (simp only [ids_eq (by omega : 0 ≤ p.from' ∧ p.from' ≤ 8) (by omega : 0 ≤ p.to ∧ p.to ≤ 8), ByteArray.size_append, tx2_size]; have : IntKind.i64.max = 9223372036854775807 := rfl; omega)
            refine call_val (l01Var_ct _ ?_ ?_) trivial ?_
            · omega
            · omega
            rintro _ rfl
            refine VC.intro ?_ ?_
            · exact keep_new
            refine VC.intro ?_ ?_
            · (simp only [ids_eq (by omega : 0 ≤ p.from' ∧ p.from' ≤ 8) (by omega : 0 ≤ p.to ∧ p.to ≤ 8), ByteArray.size_append, tx2_size]; have : IntKind.i64.max = 9223372036854775807 := rfl; omega)
            refine VC.intro ?_ ?_
            · (simp only [ids_eq (by omega : 0 ≤ p.from' ∧ p.from' ≤ 8) (by omega : 0 ≤ p.to ∧ p.to ≤ 8), ByteArray.size_append, tx2_size]; have : IntKind.i64.max = 9223372036854775807 := rfl; omega)
            refine call_val (specSealed_ct _ ?_) trivial ?_
            · (simp only [ids_eq (by omega : 0 ≤ p.from' ∧ p.from' ≤ 8) (by omega : 0 ≤ p.to ∧ p.to ≤ 8), ByteArray.size_append, tx2_size]; have : IntKind.i64.max = 9223372036854775807 := rfl; omega)
            rintro _ rfl
            refine VC.intro ?_ ?_
            · exact keep_new
            try dsimp only
            (have hy := ‹packOk p = true›; obtain ⟨e1, e2⟩ := seal_pack hy; rw [ptR_yes hy, hy, ← e2, ← e1]; unfold packBody; rw [← ids_eq (by omega : 0 ≤ p.from' ∧ p.from' ≤ 8) (by omega : 0 ≤ p.to ∧ p.to ≤ 8)]; exact ⟨[], ⟨rfl, rfl⟩, (.le fun a => by (try simp only [setR, List.cons_append, List.nil_append]); simp [List.count_cons, Blk.ent, idOf]; try omega)⟩)
          ·
            exact trivial
      ·
        exact trivial


/-! packets read -/
def pk1 (x : ByteArray) : Nat × (Nat × Bool) := scNum x (0, false)
def pk2 (x : ByteArray) : UInt8 × (Nat × Bool) := scByte x (pk1 x).2
def pk3 (x : ByteArray) : UInt8 × (Nat × Bool) := scByte x (pk2 x).2
def pk4 (x : ByteArray) : Nat × (Nat × Bool) := scNum x (pk3 x).2
def pk5 (x : ByteArray) : Nat × (Nat × Bool) := scNum x (pk4 x).2
def pkB (x : ByteArray) : ByteArray := if (pk5 x).2.2 = true then .empty else x.extract (pk5 x).2.1 x.size
def pkF (x : ByteArray) : Packet := ⟨((pk1 x).1 : Nat), ((pk2 x).1.toNat : Nat), ((pk3 x).1.toNat : Nat), ((pk4 x).1 : Nat), ((pk5 x).1 : Nat), pkB x⟩
def readPack (t : ByteArray) : Option Packet := match openX t with
  | none => none
  | some x => if (pk5 x).2.2 = false ∧ packOk (pkF x) = true then some (pkF x) else none
theorem pk_le (x : ByteArray) : (pk1 x).2.1 ≤ x.size ∧ (pk2 x).2.1 ≤ x.size ∧ (pk3 x).2.1 ≤ x.size ∧ (pk4 x).2.1 ≤ x.size ∧ (pk5 x).2.1 ≤ x.size := by
  have h1 : (pk1 x).2.1 ≤ x.size := (scNum_le (Nat.zero_le _)).1
  have h2 : (pk2 x).2.1 ≤ x.size := scByte_le h1
  have h3 : (pk3 x).2.1 ≤ x.size := scByte_le h2
  have h4 : (pk4 x).2.1 ≤ x.size := (scNum_le h3).1
  exact ⟨h1, h2, h3, h4, (scNum_le h4).1⟩
theorem pk_num (x : ByteArray) : (pk1 x).1 ≤ 1000000000 ∧ (pk4 x).1 ≤ 1000000000 ∧ (pk5 x).1 ≤ 1000000000 := by
  have h := pk_le x
  exact ⟨(scNum_le (Nat.zero_le _)).2, (scNum_le h.2.2.1).2, (scNum_le h.2.2.2.1).2⟩
theorem readPack_ok {t : ByteArray} {p : Packet} (h : readPack t = some p) : packOk p = true := by
  unfold readPack at h
  split at h
  · cases h
  · split at h
    · rename_i h1; cases h; exact h1.2
    · cases h
/-- what is read is written so -/
theorem pk_body {x : ByteArray} (h : (pk5 x).2.2 = false) : packBody (pkF x) = x := by
  have hl := pk_le x
  obtain ⟨h4, e5⟩ := scNum_txt (s := (pk4 x).2) hl.2.2.2.1 h
  obtain ⟨h3, e4⟩ := scNum_txt (s := (pk3 x).2) hl.2.2.1 h4
  obtain ⟨h2, e3⟩ := scByte_txt (s := (pk2 x).2) h3
  obtain ⟨h1, e2⟩ := scByte_txt (s := (pk1 x).2) h2
  obtain ⟨_, e1⟩ := scNum_txt (t := x) (s := (0, false)) (Nat.zero_le _) h1
  have e0 : x.extract 0 (0 : Nat) = .empty := by rw [← by_inj, by_extract]; rfl
  have eb : pkB x = x.extract (pk5 x).2.1 x.size := by unfold pkB; rw [h]; rfl
  have ex : x = x.extract 0 (pk5 x).2.1 ++ x.extract (pk5 x).2.1 x.size := by
    rw [← ext_join x (by omega) hl.2.2.2.2, ← by_inj, by_extract, List.drop_zero, Nat.sub_zero, ← by_size, List.take_length]
  have q (b : UInt8) : UInt8.ofNat ((b.toNat : Nat) : Int).toNat = b := by simp
  have t2 (a b : UInt8) : tx [a, b] = tx [a] ++ tx [b] := by rw [← by_inj, by_app, by_tx, by_tx, by_tx]; rfl
  unfold packBody pkF
  dsimp only
  rw [q, q, eb, t2]
  conv => rhs; rw [ex]
  have e5' : x.extract 0 (pk5 x).2.1 = x.extract 0 (pk4 x).2.1 ++ varText (pk5 x).1 := e5
  have e4' : x.extract 0 (pk4 x).2.1 = x.extract 0 (pk3 x).2.1 ++ varText (pk4 x).1 := e4
  have e3' : x.extract 0 (pk3 x).2.1 = x.extract 0 (pk2 x).2.1 ++ tx [(pk3 x).1] := e3
  have e2' : x.extract 0 (pk2 x).2.1 = x.extract 0 (pk1 x).2.1 ++ tx [(pk2 x).1] := e2
  have e1' : x.extract 0 (pk1 x).2.1 = x.extract 0 (0 : Nat) ++ varText (pk1 x).1 := e1
  rw [e5', e4', e3', e2', e1', e0]
  simp only [ByteArray.append_assoc, ByteArray.empty_append]
theorem readPack_some {t x : ByteArray} (ho : openX t = some x) (h1 : (pk5 x).2.2 = false) (h2 : packOk (pkF x) = true) : readPack t = some (pkF x) ∧ packText (pkF x) = t := by
  refine ⟨?_, ?_⟩
  · unfold readPack; rw [ho]; exact if_pos ⟨h1, h2⟩
  · unfold packText; rw [pk_body h1]; exact (seal_open ho).1.symm
theorem readPack_none {t : ByteArray} (h : ∀ x, openX t = some x → ¬ ((pk5 x).2.2 = false ∧ packOk (pkF x) = true)) : readPack t = none := by
  unfold readPack
  cases e : openX t with
  | none => rfl
  | some x => exact if_neg (h x e)
def rkR (t : ByteArray) : Packet := (readPack t).getD ⟨0, 0, 0, 0, 0, .empty⟩
def pkCells (p : Packet) : List Value := [.int .i64 p.epoch, .int .i64 p.from', .int .i64 p.to, .int .i64 p.seq, .int .i64 p.ack, .string p.body]
theorem rk_none {t : ByteArray} (h : readPack t = none) : rkR t = ⟨0, 0, 0, 0, 0, .empty⟩ ∧ (readPack t).isSome = false := by unfold rkR; rw [h]; exact ⟨rfl, rfl⟩
theorem rk_some {t : ByteArray} {p : Packet} (h : readPack t = some p) : rkR t = p ∧ (readPack t).isSome = true := by unfold rkR; rw [h]; exact ⟨rfl, rfl⟩
theorem pk_rd {H : Hp} {p : Packet} (h : packOk p = true) : gPacket.rd H (pkCells p) p := by
  have h1 := packOk_iff.1 h
  have h2 := packOk_body h
  exact gPacket_rd.2 ⟨rfl, by unfold okI; omega, by unfold okI; omega, by unfold okI; omega, by unfold okI; omega, by unfold okI; omega, by omega⟩
theorem rk_rd {H : Hp} (t : ByteArray) : gPacket.rd H (pkCells (rkR t)) (rkR t) := by
  cases h : readPack t with
  | none => rw [(rk_none h).1]; exact gPacket_rd.2 ⟨rfl, by unfold okI; dsimp only; omega, by unfold okI; dsimp only; omega, by unfold okI; dsimp only; omega, by unfold okI; dsimp only; omega, by unfold okI; dsimp only; omega, by show (0 : Nat) ≤ _; omega⟩
  | some p => rw [(rk_some h).1]; exact pk_rd (readPack_ok h)

--@ct (*impl.scanner).rest blk0 scRest_ct _ _ _ _ _ rfl ?_ ?_ |  | rintro _ A# ⟨rfl, rfl⟩ ;; refine ⟨_, _, [], rfl, perm0, ?_⟩
theorem scRest_ct (q : Nat) (t : ByteArray) (ai : Int) (a : Nat) (bd : Bool) (hai : ai = (a : Int)) (ht : t.size ≤ 1152921504606846976) (ha : a ≤ t.size) :
    CtR Try.prog 94 [.pointer (some ⟨q, 0, none⟩)] [(q, Obj.cells ⟨[.string t, .int .i64 ai, .bool bd]⟩ 105)] (fun _ => True) (fun v A => v = .string (if bd = true then .empty else t.extract a t.size) ∧ A = [(q, Obj.cells ⟨[.string t, .int .i64 ((if bd = true then a else t.size : Nat) : Int), .bool bd]⟩ 105)]) := by
  subst hai
  refine CtR.introB G_ok [.p 0 0] [⟨q, [.string t, .int .i64 (a : Int), .bool bd], 105⟩] [] Try.func94 rfl rfl rfl rfl (by simp [SV.ok]) (by simp [Blk.ent]) fun E H hp => ?_
  refine VCsplit.intro (fun q0 => ?_) (fun q0 => ?_)
  ·
    (have hb0 : bd = true := ‹_›; subst hb0; exact ⟨_, ⟨rfl, rfl⟩, (.le fun a => by (try simp only [setR, List.cons_append, List.nil_append]); simp [List.count_cons, Blk.ent, idOf]; try omega)⟩)
  ·
    refine draw G_ok mixed none (.q 0 (.q 1 (.q 2 (.q 3 (.q 4 (.q 5 (.q 6 (.q 7 (.q 8 (.q 9 (.nil))))))))))) (by decide +kernel) ?_
    refine VC.intro ?_ ?_
    · omega
    (have hb0 : bd = false := ‹_›; subst hb0; exact ⟨_, ⟨rfl, rfl⟩, (.le fun a => by (try simp only [setR, List.cons_append, List.nil_append]); simp [List.count_cons, Blk.ent, idOf]; try omega)⟩)

theorem pkB_size (x : ByteArray) : (pkB x).size ≤ x.size := by
  unfold pkB
  split
  · exact Nat.zero_le _
  · rw [ByteArray.size_extract]; omega
theorem pkF_rd {H : Hp} (x : ByteArray) (hx : x.size ≤ 9223372036854775807) : gPacket.rd H (pkCells (pkF x)) (pkF x) := by
  have h1 := pk_num x
  have h2 := pkB_size x
  have h3 := (pk2 x).1.toNat_lt
  have h4 := (pk3 x).1.toNat_lt
  unfold pkF
  exact gPacket_rd.2 ⟨rfl, by unfold okI; dsimp only; omega, by unfold okI; dsimp only; omega, by unfold okI; dsimp only; omega, by unfold okI; dsimp only; omega, by unfold okI; dsimp only; omega, by dsimp only; omega⟩
theorem wrap_byte (b : UInt8) : IntKind.i64.wrap ((b.toNat : Nat) : Int) = (b.toNat : Nat) := by
  have := b.toNat_lt
  exact wrap_of (by omega) (by omega)
theorem openR_size (t : ByteArray) : (openR t).size ≤ t.size := by
  unfold openR
  split
  · unfold openT; rw [ByteArray.size_extract]; omega
  · exact Nat.zero_le _
theorem rk_bad1 {t : ByteArray} (h : openOk t = false) : rkR t = ⟨0, 0, 0, 0, 0, .empty⟩ ∧ (readPack t).isSome = false := rk_none (readPack_none (t := t) (fun x hx => by rw [openX_no h] at hx; cases hx))
theorem rk_bad2 {t : ByteArray} (h : (pk5 (openR t)).2.2 = true) : rkR t = ⟨0, 0, 0, 0, 0, .empty⟩ ∧ (readPack t).isSome = false := rk_none (readPack_none (t := t) (fun x hx h2 => by
  cases e : openOk t with
  | false => rw [openX_no e] at hx; cases hx
  | true => rw [openX_yes e] at hx; cases hx; rw [h] at h2; cases h2.1))
theorem rk_bad3 {t : ByteArray} (h : packOk (pkF (openR t)) = false) : rkR t = ⟨0, 0, 0, 0, 0, .empty⟩ ∧ (readPack t).isSome = false := rk_none (readPack_none (t := t) (fun x hx h2 => by
  cases e : openOk t with
  | false => rw [openX_no e] at hx; cases hx
  | true => rw [openX_yes e] at hx; cases hx; rw [h] at h2; cases h2.2))
theorem rk_good {t : ByteArray} (h0 : openOk t = true) (h1 : (pk5 (openR t)).2.2 = false) (h2 : packOk (pkF (openR t)) = true) : rkR t = pkF (openR t) ∧ (readPack t).isSome = true := rk_some (readPack_some (openX_yes h0) h1 h2).1
theorem rk_canon {t : ByteArray} (h0 : openOk t = true) (h1 : (pk5 (openR t)).2.2 = false) (h2 : packOk (pkF (openR t)) = true) : ptR (pkF (openR t)) = t := by
  rw [ptR_yes h2]; exact (readPack_some (openX_yes h0) h1 h2).2

--@ct impl.ReadPacket val implReadPacket_ct _ ?_
theorem implReadPacket_ct (t : ByteArray) (ht : t.size ≤ 1152921504606846976) : Ct Try.prog 73 [.string t] [] (fun _ => True) (fun v A => v = .tuple #[.agg ⟨pkCells (rkR t)⟩, .bool (readPack t).isSome] ∧ A = []) := by
  refine Ct.intro0 G_ok Try.func73 rfl rfl rfl fun E H hp => ?_
  have hsz := openR_size t
  have hle := pk_le (openR t)
  refine VCnew.intro fun x0 => ?_
  refine call_val (implUnsealed_ct _ ?_) trivial ?_
  · trivial
  rintro _ rfl
  refine VCsplit.intro (fun q2 => ?_) (fun q2 => ?_)
  ·
    simp at q2
    (obtain ⟨e1, e2⟩ := rk_bad1 ‹openOk t = false›; rw [e1, e2]; exact ⟨[], ⟨rfl, rfl⟩, (.le fun a => by (try simp only [setR, List.cons_append, List.nil_append]); simp [List.count_cons, Blk.ent, idOf]; try omega)⟩)
  ·
    simp at q2
    refine VCnew.intro fun x3 => ?_
    refine callR_blk 1 ([]) [H] rfl ?_ (scNumber_ct _ _ _ _ _ rfl ?_ ?_) trivial ?_
    · exact .refl _
    · omega
    · (simp only [inU8, u8_wrap]; omega)
    rintro _ A4 ⟨rfl, rfl⟩
    refine ⟨_, _, [], rfl, perm0, ?_⟩
    refine VCnew.intro fun x5 => ?_
    refine callR_blk 1 ([]) [H] rfl ?_ (scOctet_ct _ _ _ _ _ rfl ?_ ?_) trivial ?_
    · exact .refl _
    · omega
    · exact hle.1
    rintro _ A6 ⟨rfl, rfl⟩
    refine ⟨_, _, [], rfl, perm0, ?_⟩
    refine callR_blk 1 ([]) [H] rfl ?_ (scOctet_ct _ _ _ _ _ rfl ?_ ?_) trivial ?_
    · exact .refl _
    · omega
    · exact hle.2.1
    rintro _ A7 ⟨rfl, rfl⟩
    refine ⟨_, _, [], rfl, perm0, ?_⟩
    refine callR_blk 1 ([]) [H] rfl ?_ (scNumber_ct _ _ _ _ _ rfl ?_ ?_) trivial ?_
    · exact .refl _
    · omega
    · exact hle.2.2.1
    rintro _ A8 ⟨rfl, rfl⟩
    refine ⟨_, _, [], rfl, perm0, ?_⟩
    refine callR_blk 1 ([]) [H] rfl ?_ (scNumber_ct _ _ _ _ _ rfl ?_ ?_) trivial ?_
    · exact .refl _
    · omega
    · exact hle.2.2.2.1
    rintro _ A9 ⟨rfl, rfl⟩
    refine ⟨_, _, [], rfl, perm0, ?_⟩
    refine callR_blk 1 ([]) [H] rfl ?_ (scRest_ct _ _ _ _ _ rfl ?_ ?_) trivial ?_
    · exact .refl _
    · omega
    · exact hle.2.2.2.2
    rintro _ A10 ⟨rfl, rfl⟩
    refine ⟨_, _, [], rfl, perm0, ?_⟩
    refine VCsplit.intro (fun q11 => ?_) (fun q11 => ?_)
    ·
      simp at q11
      have hb11 : (pk5 (openR t)).2.2 = true := q11
      try dsimp only
      (obtain ⟨e1, e2⟩ := rk_bad2 ‹(pk5 (openR t)).2.2 = true›; rw [e1, e2]; exact ⟨[], ⟨rfl, rfl⟩, (.le fun a => by (try simp only [setR, List.cons_append, List.nil_append]); simp [List.count_cons, Blk.ent, idOf]; try omega)⟩)
    ·
      simp at q11
      have hg11 : (pk5 (openR t)).2.2 = false := q11
      simp only [wrap_byte]
      refine call_val (implPacketOk_ct _ (pkF (openR t))) (pkF_rd _ (by omega)) ?_
      rintro _ rfl
      refine VCsplit.intro (fun q13 => ?_) (fun q13 => ?_)
      ·
        simp at q13
        (obtain ⟨e1, e2⟩ := rk_bad3 ‹packOk (pkF (openR t)) = false›; rw [e1, e2]; exact ⟨[], ⟨rfl, rfl⟩, (.le fun a => by (try simp only [setR, List.cons_append, List.nil_append]); simp [List.count_cons, Blk.ent, idOf]; try omega)⟩)
      ·
        simp at q13
        (obtain ⟨e1, e2⟩ := rk_good ‹openOk t = true› ‹(pk5 (openR t)).2.2 = false› ‹packOk (pkF (openR t)) = true›; rw [e1, e2]; exact ⟨[], ⟨rfl, rfl⟩, (.le fun a => by (try simp only [setR, List.cons_append, List.nil_append]); simp [List.count_cons, Blk.ent, idOf]; try omega)⟩)

end Go.Proofs.Ytmmmjikanmgpfaa
