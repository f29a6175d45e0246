/-
  Packets as texts, on both sides. Conditions: none.
-/
import Derived.Test.YtmmmjikanmgpfaaKb
import Derived.Test.YtmmmjikanmgpfaaIx
namespace Go.Proofs.Ytmmmjikanmgpfaa
open Go.SX Go.Proofs
set_option linter.unusedSimpArgs false
set_option linter.unusedVariables false
set_option maxHeartbeats 4000000
attribute [local irreducible] IntKind.wrap

/-! texts with their sum behind -/
def openX (t : ByteArray) : Option ByteArray := if openOk t = true then some (openT t) else none
theorem ext_app1 (a b : ByteArray) : (a ++ b).extract 0 a.size = a := by
  rw [← by_inj, by_extract, by_app, List.drop_zero, Nat.sub_zero, List.take_append_of_le_length (by rw [by_size]; omega), List.take_of_length_le (by rw [by_size]; omega)]
theorem ext_app2 (a b : ByteArray) : (a ++ b).extract a.size (a.size + b.size) = b := by
  rw [← by_inj, by_extract, by_app, ← by_size a, List.drop_left, show (by' a).length + b.size - (by' a).length = (by' b).length by have := by_size b; omega, List.take_length]
theorem open_seal {t : ByteArray} (h : t.size ≤ 20000) : openX (sealT t) = some t := by
  have e : (sealT t).size = t.size + 4 := by unfold sealT; rw [ByteArray.size_append]; rfl
  have e1 : (sealT t).extract 0 t.size = t := ext_app1 _ _
  have e2 : (sealT t).extract t.size (t.size + 4) = four (sumOf t) := ext_app2 t (four (sumOf t))
  have e3 : openT (sealT t) = t := by unfold openT; rw [e, show t.size + 4 - 4 = t.size by omega, e1]
  unfold openX
  rw [if_pos (open_iff.2 ⟨by omega, by omega, by rw [e3, e, show t.size + 4 - 4 = t.size by omega, e2]⟩), e3]
theorem seal_open {t s : ByteArray} (h : openX t = some s) : t = sealT s ∧ s.size + 4 = t.size ∧ t.size ≤ 20004 := by
  unfold openX at h
  split at h
  · rename_i h1
    have h1 := open_iff.1 h1
    cases h
    refine ⟨?_, by unfold openT; rw [ByteArray.size_extract]; omega, by omega⟩
    unfold sealT
    rw [h1.2.2]
    unfold openT
    rw [← ext_join t (a := 0) (b := t.size - 4) (c := t.size) (by omega) (by omega)]
    rw [← by_inj, by_extract, List.drop_zero, Nat.sub_zero, ← by_size, List.take_length]
  · cases h
theorem openX_no {t : ByteArray} (h : openOk t = false) : openX t = none := by unfold openX; rw [h]; rfl
theorem openX_yes {t : ByteArray} (h : openOk t = true) : openX t = some (openR t) := by unfold openX openR; rw [h]; rfl

/-! packets -/
def packOk (p : Packet) : Bool :=
  decide (1 ≤ p.epoch) && (decide (p.epoch ≤ 100000) && (decide (0 ≤ p.from') && (decide (p.from' ≤ 8) && (decide (0 ≤ p.to) && (decide (p.to ≤ 8) && (decide (p.from' ≠ p.to) && (decide (0 ≤ p.seq) && (decide (p.seq ≤ 200) && (decide (0 ≤ p.ack) && (decide (p.ack ≤ 200) && (if p.seq = 0 then decide (p.body.size = 0) else bodyOk p.body)))))))))))
theorem packOk_iff {p : Packet} : packOk p = true ↔ 1 ≤ p.epoch ∧ p.epoch ≤ 100000 ∧ 0 ≤ p.from' ∧ p.from' ≤ 8 ∧ 0 ≤ p.to ∧ p.to ≤ 8 ∧ p.from' ≠ p.to ∧ 0 ≤ p.seq ∧ p.seq ≤ 200 ∧ 0 ≤ p.ack ∧ p.ack ≤ 200 ∧ (if p.seq = 0 then p.body.size = 0 else bodyOk p.body = true) := by
  unfold packOk; simp only [Bool.and_eq_true, decide_eq_true_iff]
  constructor
  · rintro ⟨h1, h2, h3, h4, h5, h6, h7, h8, h9, h10, h11, h12⟩
    refine ⟨h1, h2, h3, h4, h5, h6, h7, h8, h9, h10, h11, ?_⟩
    split at h12
    · rw [if_pos ‹_›]; simpa using h12
    · rw [if_neg ‹_›]; exact h12
  · rintro ⟨h1, h2, h3, h4, h5, h6, h7, h8, h9, h10, h11, h12⟩
    refine ⟨h1, h2, h3, h4, h5, h6, h7, h8, h9, h10, h11, ?_⟩
    split at h12
    · rw [if_pos ‹_›]; simpa using h12
    · rw [if_neg ‹_›]; exact h12
theorem packOk_no {p : Packet} (h : packOk p = true → False) : packOk p = false := by
  cases e : packOk p with
  | false => rfl
  | true => exact (h e).elim
theorem packOk_body {p : Packet} (h : packOk p = true) : p.body.size ≤ 6000 := by
  have := (packOk_iff.1 h).2.2.2.2.2.2.2.2.2.2.2
  split at this
  · omega
  · exact (bodyOk_iff.1 this).2
theorem packOk_zero {p : Packet} (h1 : 1 ≤ p.epoch ∧ p.epoch ≤ 100000) (h2 : 0 ≤ p.from' ∧ p.from' ≤ 8) (h3 : 0 ≤ p.to ∧ p.to ≤ 8) (h4 : p.from' ≠ p.to) (h5 : p.seq = 0) (h6 : 0 ≤ p.ack ∧ p.ack ≤ 200) : packOk p = decide (p.body.size = 0) := by
  unfold packOk
  rw [decide_eq_true h1.1, decide_eq_true h1.2, decide_eq_true h2.1, decide_eq_true h2.2, decide_eq_true h3.1, decide_eq_true h3.2, decide_eq_true h4, decide_eq_true (by omega : 0 ≤ p.seq), decide_eq_true (by omega : p.seq ≤ 200), decide_eq_true h6.1, decide_eq_true h6.2, if_pos h5]; rfl
theorem packOk_some {p : Packet} (h1 : 1 ≤ p.epoch ∧ p.epoch ≤ 100000) (h2 : 0 ≤ p.from' ∧ p.from' ≤ 8) (h3 : 0 ≤ p.to ∧ p.to ≤ 8) (h4 : p.from' ≠ p.to) (h5 : ¬ p.seq = 0) (h7 : 0 ≤ p.seq ∧ p.seq ≤ 200) (h6 : 0 ≤ p.ack ∧ p.ack ≤ 200) : packOk p = bodyOk p.body := by
  unfold packOk
  rw [decide_eq_true h1.1, decide_eq_true h1.2, decide_eq_true h2.1, decide_eq_true h2.2, decide_eq_true h3.1, decide_eq_true h3.2, decide_eq_true h4, decide_eq_true h7.1, decide_eq_true h7.2, decide_eq_true h6.1, decide_eq_true h6.2, if_neg h5]; rfl
theorem size0 {s : ByteArray} : (s.toList == (ByteArray.mk #[]).toList) = decide (s.size = 0) := by
  rw [Bool.eq_iff_iff, decide_eq_true_iff, beq_iff_eq]
  constructor
  · intro h; rw [str_inj.1 h]; rfl
  · intro h
    have h2 := by_size s
    rw [h] at h2
    refine str_inj.2 (by_inj.1 ?_)
    rw [List.length_eq_zero_iff.1 h2]; rfl

--@ct impl.isNode val isNode_ct _
theorem isNode_ct (n : Int) : Ct Try.prog 101 [.int .i64 n] [] (fun _ => True) (fun v A => v = .bool (inR 0 8 n) ∧ A = []) := by
  refine Ct.intro0 G_ok Try.func101 rfl rfl rfl fun E H hp => ?_
  refine VCsplit.intro (fun q0 => ?_) (fun q0 => ?_)
  ·
    simp at q0
    exact ⟨[], ⟨by unfold inR; first | rw [decide_eq_true (by omega : (0 : Int) ≤ n), Bool.true_and] | rw [decide_eq_false (by omega : ¬ (0 : Int) ≤ n), Bool.false_and], rfl⟩, (.le fun a => by (try simp only [setR, List.cons_append, List.nil_append]); simp only [List.flatten_append, List.flatten_cons, List.flatten_nil, List.count_append, List.count_nil, List.append_nil, List.nil_append]; omega)⟩
  ·
    simp at q0
    exact ⟨[], ⟨by unfold inR; first | rw [decide_eq_true (by omega : (0 : Int) ≤ n), Bool.true_and] | rw [decide_eq_false (by omega : ¬ (0 : Int) ≤ n), Bool.false_and], rfl⟩, (.le fun a => by (try simp only [setR, List.cons_append, List.nil_append]); simp only [List.flatten_append, List.flatten_cons, List.flatten_nil, List.count_append, List.count_nil, List.append_nil, List.nil_append]; omega)⟩

--@ct impl.PacketOk val implPacketOk_ct _ $1 | %1
--@ct spec.PacketOk val specPacketOk_ct _ $1 | %1
theorem implPacketOk_ct (l : List Value) (p : Packet) : Ct Try.prog 88 [.agg ⟨l⟩] [] (fun H => gPacket.rd H l p) (fun v A => v = .bool (packOk p) ∧ A = []) := by
  refine Ct.intro0 G_ok Try.func88 rfl rfl rfl fun E H hp => ?_
  obtain ⟨rfl, w0p, w1p, w2p, w3p, w4p, w5p⟩ := gPacket_rd.1 hp
  refine VCnew.intro fun x0 => ?_
  refine VCsplit.intro (fun q1 => ?_) (fun q1 => ?_)
  ·
    simp at q1
    exact ⟨[], ⟨by rw [packOk_no fun h => by (have h9 := packOk_iff.1 h; omega)], rfl⟩, (.le fun a => by (try simp only [setR, List.cons_append, List.nil_append]); simp [List.count_cons, Blk.ent, idOf]; try omega)⟩
  ·
    simp at q1
    refine VCsplit.intro (fun q2 => ?_) (fun q2 => ?_)
    ·
      simp at q2
      exact ⟨[], ⟨by rw [packOk_no fun h => by (have h9 := packOk_iff.1 h; omega)], rfl⟩, (.le fun a => by (try simp only [setR, List.cons_append, List.nil_append]); simp [List.count_cons, Blk.ent, idOf]; try omega)⟩
    ·
      simp at q2
      refine call_val (isNode_ct _) trivial ?_
      rintro _ rfl
      refine VCsplit.intro (fun q4 => ?_) (fun q4 => ?_)
      ·
        simp at q4
        have iq4 := mt inR_iff.2 (Bool.eq_false_iff.1 q4)
        exact ⟨[], ⟨by rw [packOk_no fun h => by (have h9 := packOk_iff.1 h; omega)], rfl⟩, (.le fun a => by (try simp only [setR, List.cons_append, List.nil_append]); simp [List.count_cons, Blk.ent, idOf]; try omega)⟩
      ·
        simp at q4
        have iq4 := inR_iff.1 q4
        refine call_val (isNode_ct _) trivial ?_
        rintro _ rfl
        refine VCsplit.intro (fun q6 => ?_) (fun q6 => ?_)
        ·
          simp at q6
          have iq6 := mt inR_iff.2 (Bool.eq_false_iff.1 q6)
          exact ⟨[], ⟨by rw [packOk_no fun h => by (have h9 := packOk_iff.1 h; omega)], rfl⟩, (.le fun a => by (try simp only [setR, List.cons_append, List.nil_append]); simp [List.count_cons, Blk.ent, idOf]; try omega)⟩
        ·
          simp at q6
          have iq6 := inR_iff.1 q6
          refine VCsplit.intro (fun q7 => ?_) (fun q7 => ?_)
          ·
            simp at q7
            exact ⟨[], ⟨by rw [packOk_no fun h => by (have h9 := packOk_iff.1 h; omega)], rfl⟩, (.le fun a => by (try simp only [setR, List.cons_append, List.nil_append]); simp [List.count_cons, Blk.ent, idOf]; try omega)⟩
          ·
            simp at q7
            refine VCsplit.intro (fun q8 => ?_) (fun q8 => ?_)
            ·
              simp at q8
              exact ⟨[], ⟨by rw [packOk_no fun h => by (have h9 := packOk_iff.1 h; omega)], rfl⟩, (.le fun a => by (try simp only [setR, List.cons_append, List.nil_append]); simp [List.count_cons, Blk.ent, idOf]; try omega)⟩
            ·
              simp at q8
              refine VCsplit.intro (fun q9 => ?_) (fun q9 => ?_)
              ·
                simp at q9
                exact ⟨[], ⟨by rw [packOk_no fun h => by (have h9 := packOk_iff.1 h; omega)], rfl⟩, (.le fun a => by (try simp only [setR, List.cons_append, List.nil_append]); simp [List.count_cons, Blk.ent, idOf]; try omega)⟩
              ·
                simp at q9
                refine VCsplit.intro (fun q10 => ?_) (fun q10 => ?_)
                ·
                  simp at q10
                  exact ⟨[], ⟨by rw [packOk_no fun h => by (have h9 := packOk_iff.1 h; omega)], rfl⟩, (.le fun a => by (try simp only [setR, List.cons_append, List.nil_append]); simp [List.count_cons, Blk.ent, idOf]; try omega)⟩
                ·
                  simp at q10
                  refine VCsplit.intro (fun q11 => ?_) (fun q11 => ?_)
                  ·
                    simp at q11
                    exact ⟨[], ⟨by rw [packOk_no fun h => by (have h9 := packOk_iff.1 h; omega)], rfl⟩, (.le fun a => by (try simp only [setR, List.cons_append, List.nil_append]); simp [List.count_cons, Blk.ent, idOf]; try omega)⟩
                  ·
                    simp at q11
                    refine VCsplit.intro (fun q12 => ?_) (fun q12 => ?_)
                    ·
                      simp at q12
                      exact ⟨[], ⟨by rw [packOk_zero (by omega) (by omega) (by omega) (by omega) (by omega) (by omega)]; first | rfl | exact congrArg Value.bool size0, rfl⟩, (.le fun a => by (try simp only [setR, List.cons_append, List.nil_append]); simp [List.count_cons, Blk.ent, idOf]; try omega)⟩
                    ·
                      simp at q12
                      refine call_val (isBody_ct _ ?_) trivial ?_
                      · trivial
                      rintro _ rfl
                      exact ⟨[], ⟨by rw [packOk_some (by omega) (by omega) (by omega) (by omega) (by omega) (by omega) (by omega)], rfl⟩, (.le fun a => by (try simp only [setR, List.cons_append, List.nil_append]); simp [List.count_cons, Blk.ent, idOf]; try omega)⟩

theorem specPacketOk_ct (l : List Value) (p : Packet) : Ct Try.prog 79 [.agg ⟨l⟩] [] (fun H => gPacket.rd H l p) (fun v A => v = .bool (packOk p) ∧ A = []) := by
  refine Ct.intro0 G_ok Try.func79 rfl rfl rfl fun E H hp => ?_
  obtain ⟨rfl, w0p, w1p, w2p, w3p, w4p, w5p⟩ := gPacket_rd.1 hp
  refine VCnew.intro fun x0 => ?_
  refine call_val (l01In_ct _ _ _) trivial ?_
  rintro _ rfl
  refine VCsplit.intro (fun q2 => ?_) (fun q2 => ?_)
  ·
    simp at q2
    have iq2 := mt inR_iff.2 (Bool.eq_false_iff.1 q2)
    exact ⟨[], ⟨by rw [packOk_no fun h => by (have h9 := packOk_iff.1 h; omega)], rfl⟩, (.le fun a => by (try simp only [setR, List.cons_append, List.nil_append]); simp [List.count_cons, Blk.ent, idOf]; try omega)⟩
  ·
    simp at q2
    have iq2 := inR_iff.1 q2
    refine call_val (l01In_ct _ _ _) trivial ?_
    rintro _ rfl
    refine VCsplit.intro (fun q4 => ?_) (fun q4 => ?_)
    ·
      simp at q4
      have iq4 := mt inR_iff.2 (Bool.eq_false_iff.1 q4)
      exact ⟨[], ⟨by rw [packOk_no fun h => by (have h9 := packOk_iff.1 h; omega)], rfl⟩, (.le fun a => by (try simp only [setR, List.cons_append, List.nil_append]); simp [List.count_cons, Blk.ent, idOf]; try omega)⟩
    ·
      simp at q4
      have iq4 := inR_iff.1 q4
      refine call_val (l01In_ct _ _ _) trivial ?_
      rintro _ rfl
      refine VCsplit.intro (fun q6 => ?_) (fun q6 => ?_)
      ·
        simp at q6
        have iq6 := mt inR_iff.2 (Bool.eq_false_iff.1 q6)
        exact ⟨[], ⟨by rw [packOk_no fun h => by (have h9 := packOk_iff.1 h; omega)], rfl⟩, (.le fun a => by (try simp only [setR, List.cons_append, List.nil_append]); simp [List.count_cons, Blk.ent, idOf]; try omega)⟩
      ·
        simp at q6
        have iq6 := inR_iff.1 q6
        refine VCsplit.intro (fun q7 => ?_) (fun q7 => ?_)
        ·
          simp at q7
          exact ⟨[], ⟨by rw [packOk_no fun h => by (have h9 := packOk_iff.1 h; omega)], rfl⟩, (.le fun a => by (try simp only [setR, List.cons_append, List.nil_append]); simp [List.count_cons, Blk.ent, idOf]; try omega)⟩
        ·
          simp at q7
          refine call_val (l01In_ct _ _ _) trivial ?_
          rintro _ rfl
          refine VCsplit.intro (fun q9 => ?_) (fun q9 => ?_)
          ·
            simp at q9
            have iq9 := mt inR_iff.2 (Bool.eq_false_iff.1 q9)
            exact ⟨[], ⟨by rw [packOk_no fun h => by (have h9 := packOk_iff.1 h; omega)], rfl⟩, (.le fun a => by (try simp only [setR, List.cons_append, List.nil_append]); simp [List.count_cons, Blk.ent, idOf]; try omega)⟩
          ·
            simp at q9
            have iq9 := inR_iff.1 q9
            refine call_val (l01In_ct _ _ _) trivial ?_
            rintro _ rfl
            refine VCsplit.intro (fun q11 => ?_) (fun q11 => ?_)
            ·
              simp at q11
              have iq11 := mt inR_iff.2 (Bool.eq_false_iff.1 q11)
              exact ⟨[], ⟨by rw [packOk_no fun h => by (have h9 := packOk_iff.1 h; omega)], rfl⟩, (.le fun a => by (try simp only [setR, List.cons_append, List.nil_append]); simp [List.count_cons, Blk.ent, idOf]; try omega)⟩
            ·
              simp at q11
              have iq11 := inR_iff.1 q11
              refine VCsplit.intro (fun q12 => ?_) (fun q12 => ?_)
              ·
                simp at q12
                exact ⟨[], ⟨by rw [packOk_zero (by omega) (by omega) (by omega) (by omega) (by omega) (by omega)]; first | rfl | exact congrArg Value.bool size0, rfl⟩, (.le fun a => by (try simp only [setR, List.cons_append, List.nil_append]); simp [List.count_cons, Blk.ent, idOf]; try omega)⟩
              ·
                simp at q12
                refine call_val (l01In_ct _ _ _) trivial ?_
                rintro _ rfl
                exact ⟨[], ⟨by rw [packOk_some (by omega) (by omega) (by omega) (by omega) (by omega) (by omega) (by omega)]; refine congrArg Value.bool ?_; rw [Bool.eq_iff_iff, bodyOk_iff, inR_iff]; omega, rfl⟩, (.le fun a => by (try simp only [setR, List.cons_append, List.nil_append]); simp [List.count_cons, Blk.ent, idOf]; try omega)⟩

end Go.Proofs.Ytmmmjikanmgpfaa
