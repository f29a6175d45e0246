/-
  Whether a cluster's epochs are right, on both sides. Conditions: none.
-/
import Derived.Test.YtohafcffenoegaaGreatIb
namespace Go.Proofs.YtohafcffenoegaaGreat
open Go.SX Go.Proofs
set_option linter.unusedSimpArgs false
set_option linter.unusedVariables false
set_option maxHeartbeats 4000000
attribute [local irreducible] IntKind.wrap

def epoOk (c : Cluster) (k : Nat) : Bool := decide ((c.nodes[k]?.getD default).epoch = ((epochOf (c.nodes[k]?.getD default).disk : Nat) : Int)) && decide ((c.nodes[k]?.getD default).epoch ≤ (c.nodes[0]?.getD default).epoch)
def epoAll (c : Cluster) : Nat → Bool
  | 0 => true
  | k + 1 => epoAll c k && epoOk c k
theorem epoAll_no (c : Cluster) (k : Nat) (h : epoOk c k = false) : ∀ n, k < n → epoAll c n = false
  | 0, h1 => by omega
  | n + 1, h1 => by
    unfold epoAll
    rcases Nat.lt_or_ge k n with h2 | h2
    · rw [epoAll_no c k h n h2]; rfl
    · rw [show n = k by omega, h]; simp
theorem epoAll_step {c : Cluster} {k : Nat} (h : epoAll c k = true) (h1 : (c.nodes[k]?.getD default).epoch = ((epochOf (c.nodes[k]?.getD default).disk : Nat) : Int)) (h2 : (c.nodes[k]?.getD default).epoch ≤ (c.nodes[0]?.getD default).epoch) : epoAll c (k + 1) = true := by
  unfold epoAll epoOk; rw [h, decide_eq_true h1, decide_eq_true h2]; rfl
theorem epoOk_no1 {c : Cluster} {k : Nat} (h1 : ¬ (c.nodes[k]?.getD default).epoch = ((epochOf (c.nodes[k]?.getD default).disk : Nat) : Int)) : epoOk c k = false := by unfold epoOk; rw [decide_eq_false h1]; rfl
theorem epoOk_no2 {c : Cluster} {k : Nat} (h1 : ¬ (c.nodes[k]?.getD default).epoch ≤ (c.nodes[0]?.getD default).epoch) : epoOk c k = false := by unfold epoOk; rw [decide_eq_false h1]; simp

--@ct impl.EpochsRight val implEpochsRight_ct _ $1 | %1
theorem implEpochsRight_ct (l : List Value) (c : Cluster) : Ct Tryz.prog 9 [.agg ⟨l⟩] [] (fun H => gCluster.rd H l c) (fun v A => v = .bool (epoAll c c.nodes.length) ∧ A = []) := by
  refine Ct.intro0 G_ok Tryz.func9 rfl rfl rfl fun E H hp => ?_
  obtain ⟨l0p, b1p, c1p, b2p, c2p, b3p, c3p, b4p, c4p, rfl, h0p, h1p, h2p, h3p, h4p⟩ := gCluster_rd.1 hp
  obtain ⟨b1_0p, c1_0p, b2_0p, c2_0p, b3_0p, c3_0p, rfl, h1_0p, h2_0p, h3_0p⟩ := gQuery_rd.1 h0p
  have hl := (rd_len h1p).2
  refine VCnew.intro fun x0 => ?_
  apply loop_mod (α := (Nat)) G_ok [9, 10, 11, 4, 12, 13, 14, 15, 16, 17, 18, 19, 20, 21, 22, 23, 24, 25, 26, 27, 2, 28, 8] (fun z => [(8, .v (.int .i64 z))]) (fun z => [{ id := x0, cs := [Value.bool c.query.each, Value.slice b1_0p c.query.out.length c1_0p, Value.slice b2_0p c.query.atoms.length c2_0p, Value.slice b3_0p c.query.filters.length c3_0p] ++ [Value.slice b1p c.nodes.length c1p, Value.slice b2p c.net.length c2p, Value.slice b3p c.codes.length c3p, Value.slice b4p c.replies.length c4p], ty := (41 : Nat) }]) (fun z => [H]) (fun z => c.nodes.length - z) (fun z => z ≤ c.nodes.length ∧ epoAll c z = true) (0)
  · repeat' (first | exact trivial | refine ⟨⟨_, rfl, by first | rfl | exact inc_eq _ (by omega) | (refine sl_eq ?_; simp; done), by first | exact trivial | simp [SV.ok]⟩, ?_⟩)
  · exact ⟨rfl, trivial⟩
  · exact ⟨by omega, rfl⟩
  · exact .refl _
  rintro k hI
  obtain ⟨hk, ha⟩ : k ≤ c.nodes.length ∧ epoAll c k = true := hI
  try dsimp only
  refine VCsplit.intro (fun q1 => ?_) (fun q1 => ?_)
  ·
    simp at q1
    refine idx_rd h1p ?_ ?_ fun b2 o2 hb2 => ?_
    · omega
    · omega
    refine load_allN default (k) rfl h1p ?_ ?_ hb2 rfl (mem_at 0 rfl) fun l3 hl3 => ?_
    · omega
    · omega
    obtain ⟨l2x3, b5x3, c5x3, l6x3, l7x3, rfl, w0x3, h2x3, w3x3, h5x3, h6x3, h7x3⟩ := gNode_rd.1 hl3 ; obtain ⟨b0_2x3, c0_2x3, rfl, h0_2x3⟩ := gDisk_rd.1 h2x3 ; obtain ⟨l1_6x3, b2_6x3, c2_6x3, b4_6x3, c4_6x3, l11_6x3, b13_6x3, c13_6x3, rfl, h1_6x3, h2_6x3, w3_6x3, h4_6x3, w5_6x3, w8_6x3, h11_6x3, h13_6x3⟩ := gWork_rd.1 h6x3 ; obtain ⟨b1_1_6x3, c1_1_6x3, b2_1_6x3, c2_1_6x3, b3_1_6x3, c3_1_6x3, rfl, h1_1_6x3, h2_1_6x3, h3_1_6x3⟩ := gQuery_rd.1 h1_6x3 ; obtain ⟨l0_11_6x3, b1_11_6x3, c1_11_6x3, b4_11_6x3, c4_11_6x3, rfl, h0_11_6x3, h1_11_6x3, w2_11_6x3, w3_11_6x3, h4_11_6x3⟩ := gCell_rd.1 h11_6x3 ; obtain ⟨b1_0_11_6x3, c1_0_11_6x3, b2_0_11_6x3, c2_0_11_6x3, b3_0_11_6x3, c3_0_11_6x3, rfl, h1_0_11_6x3, h2_0_11_6x3, h3_0_11_6x3⟩ := gQuery_rd.1 h0_11_6x3 ; obtain ⟨l1_7x3, b2_7x3, c2_7x3, b4_7x3, c4_7x3, l6_7x3, rfl, h1_7x3, h2_7x3, w3_7x3, h4_7x3, h6_7x3⟩ := gAsk_rd.1 h7x3 ; obtain ⟨b1_1_7x3, c1_1_7x3, b2_1_7x3, c2_1_7x3, b3_1_7x3, c3_1_7x3, rfl, h1_1_7x3, h2_1_7x3, h3_1_7x3⟩ := gQuery_rd.1 h1_7x3 ; obtain ⟨b0_6_7x3, c0_6_7x3, rfl, h0_6_7x3⟩ := gBag_rd.1 h6_7x3
    refine VCnew.intro fun x4 => ?_
    refine draw G_ok mixed none (.q 0 (.q 1 (.q 2 (.q 3 (.f 4 (.q 5 (.q 6 (.q 7 (.q 8 (.q 9 (.q 10 (.q 11 (.q 12 (.q 13 (.q 14 (.q 15 (.nil))))))))))))))))) (by decide +kernel) ?_
    refine call_val (implReadEpoch_ct _ ((c.nodes[k]?.getD default).disk)) (Rp.mono _ (mem_at 0 rfl) h2x3) ?_
    rintro _ rfl
    refine VC.intro ?_ ?_
    · exact fun _ h => h
    refine VCsplit.intro (fun q6 => ?_) (fun q6 => ?_)
    ·
      simp at q6
      exact ⟨[], ⟨by rw [epoAll_no c k (by first | exact epoOk_no1 (by omega) | exact epoOk_no2 (by omega)) _ (by omega)], rfl⟩, (.le fun a => by (try simp only [setR, List.cons_append, List.nil_append]); simp only [List.flatten_append, List.flatten_cons, List.flatten_nil, List.count_append, List.count_nil, List.append_nil, List.nil_append]; omega)⟩
    ·
      simp at q6
      refine idx_rd h1p ?_ ?_ fun b7 o7 hb7 => ?_
      · trivial
      · omega
      refine load_partN default (0) 3 rfl h1p ?_ ?_ hb7 rfl (by decide) (mem_at 0 rfl) fun l8 hl8 => ?_
      · trivial
      · omega
      obtain ⟨l2x8, b5x8, c5x8, l6x8, l7x8, rfl, w0x8, h2x8, w3x8, h5x8, h6x8, h7x8⟩ := gNode_rd.1 hl8 ; obtain ⟨b0_2x8, c0_2x8, rfl, h0_2x8⟩ := gDisk_rd.1 h2x8 ; obtain ⟨l1_6x8, b2_6x8, c2_6x8, b4_6x8, c4_6x8, l11_6x8, b13_6x8, c13_6x8, rfl, h1_6x8, h2_6x8, w3_6x8, h4_6x8, w5_6x8, w8_6x8, h11_6x8, h13_6x8⟩ := gWork_rd.1 h6x8 ; obtain ⟨b1_1_6x8, c1_1_6x8, b2_1_6x8, c2_1_6x8, b3_1_6x8, c3_1_6x8, rfl, h1_1_6x8, h2_1_6x8, h3_1_6x8⟩ := gQuery_rd.1 h1_6x8 ; obtain ⟨l0_11_6x8, b1_11_6x8, c1_11_6x8, b4_11_6x8, c4_11_6x8, rfl, h0_11_6x8, h1_11_6x8, w2_11_6x8, w3_11_6x8, h4_11_6x8⟩ := gCell_rd.1 h11_6x8 ; obtain ⟨b1_0_11_6x8, c1_0_11_6x8, b2_0_11_6x8, c2_0_11_6x8, b3_0_11_6x8, c3_0_11_6x8, rfl, h1_0_11_6x8, h2_0_11_6x8, h3_0_11_6x8⟩ := gQuery_rd.1 h0_11_6x8 ; obtain ⟨l1_7x8, b2_7x8, c2_7x8, b4_7x8, c4_7x8, l6_7x8, rfl, h1_7x8, h2_7x8, w3_7x8, h4_7x8, h6_7x8⟩ := gAsk_rd.1 h7x8 ; obtain ⟨b1_1_7x8, c1_1_7x8, b2_1_7x8, c2_1_7x8, b3_1_7x8, c3_1_7x8, rfl, h1_1_7x8, h2_1_7x8, h3_1_7x8⟩ := gQuery_rd.1 h1_7x8 ; obtain ⟨b0_6_7x8, c0_6_7x8, rfl, h0_6_7x8⟩ := gBag_rd.1 h6_7x8
      refine VCsplit.intro (fun q9 => ?_) (fun q9 => ?_)
      ·
        simp at q9
        exact ⟨[], ⟨by rw [epoAll_no c k (by first | exact epoOk_no1 (by omega) | exact epoOk_no2 (by omega)) _ (by omega)], rfl⟩, (.le fun a => by (try simp only [setR, List.cons_append, List.nil_append]); simp only [List.flatten_append, List.flatten_cons, List.flatten_nil, List.count_append, List.count_nil, List.append_nil, List.nil_append]; omega)⟩
      ·
        simp at q9
        apply loop_stepA (k + 1)
        · exact .refl _
        · repeat' (first | exact trivial | refine ⟨⟨_, rfl, by first | rfl | exact inc_eq _ (by omega) | (refine sl_eq ?_; simp; done), by first | exact trivial | simp [SV.ok]⟩, ?_⟩)
        · exact ⟨rfl, trivial⟩
        · exact ⟨by omega, epoAll_step ha (by omega) (by omega)⟩
        · omega
  ·
    simp at q1
    obtain rfl : k = c.nodes.length := by omega
    exact ⟨[], ⟨by rw [ha], rfl⟩, (.le fun a => by (try simp only [setR, List.cons_append, List.nil_append]); simp only [List.flatten_append, List.flatten_cons, List.flatten_nil, List.count_append, List.count_nil, List.append_nil, List.nil_append]; omega)⟩

--@ct spec.EpochsRight val specEpochsRight_ct _ $1 | %1
theorem specEpochsRight_ct (l : List Value) (c : Cluster) : Ct Tryz.prog 7 [.agg ⟨l⟩] [] (fun H => gCluster.rd H l c) (fun v A => v = .bool (epoAll c c.nodes.length) ∧ A = []) := by
  refine Ct.intro0 G_ok Tryz.func7 rfl rfl rfl fun E H hp => ?_
  obtain ⟨l0p, b1p, c1p, b2p, c2p, b3p, c3p, b4p, c4p, rfl, h0p, h1p, h2p, h3p, h4p⟩ := gCluster_rd.1 hp
  obtain ⟨b1_0p, c1_0p, b2_0p, c2_0p, b3_0p, c3_0p, rfl, h1_0p, h2_0p, h3_0p⟩ := gQuery_rd.1 h0p
  have hl := (rd_len h1p).2
  refine VCnew.intro fun x0 => ?_
  apply loop_mod (α := (Nat)) G_ok [5, 6, 7, 8, 9, 12, 13, 14, 15, 16, 4, 17, 18, 19, 20, 21, 22, 23, 24, 25, 26, 27, 28, 29, 30, 31, 32, 2, 10, 11, 3] (fun z => [(3, .v (.int .i64 z))]) (fun z => [{ id := x0, cs := [Value.bool c.query.each, Value.slice b1_0p c.query.out.length c1_0p, Value.slice b2_0p c.query.atoms.length c2_0p, Value.slice b3_0p c.query.filters.length c3_0p] ++ [Value.slice b1p c.nodes.length c1p, Value.slice b2p c.net.length c2p, Value.slice b3p c.codes.length c3p, Value.slice b4p c.replies.length c4p], ty := (41 : Nat) }]) (fun z => [H]) (fun z => c.nodes.length - z) (fun z => z ≤ c.nodes.length ∧ epoAll c z = true) (0)
  · repeat' (first | exact trivial | refine ⟨⟨_, rfl, by first | rfl | exact inc_eq _ (by omega) | (refine sl_eq ?_; simp; done), by first | exact trivial | simp [SV.ok]⟩, ?_⟩)
  · exact ⟨rfl, trivial⟩
  · exact ⟨by omega, rfl⟩
  · exact .refl _
  rintro k hI
  obtain ⟨hk, ha⟩ : k ≤ c.nodes.length ∧ epoAll c k = true := hI
  try dsimp only
  refine VCsplit.intro (fun q1 => ?_) (fun q1 => ?_)
  ·
    simp at q1
    refine idx_rd h1p ?_ ?_ fun b2 o2 hb2 => ?_
    · omega
    · omega
    refine load_allN default (k) rfl h1p ?_ ?_ hb2 rfl (mem_at 0 rfl) fun l3 hl3 => ?_
    · omega
    · omega
    obtain ⟨l2x3, b5x3, c5x3, l6x3, l7x3, rfl, w0x3, h2x3, w3x3, h5x3, h6x3, h7x3⟩ := gNode_rd.1 hl3 ; obtain ⟨b0_2x3, c0_2x3, rfl, h0_2x3⟩ := gDisk_rd.1 h2x3 ; obtain ⟨l1_6x3, b2_6x3, c2_6x3, b4_6x3, c4_6x3, l11_6x3, b13_6x3, c13_6x3, rfl, h1_6x3, h2_6x3, w3_6x3, h4_6x3, w5_6x3, w8_6x3, h11_6x3, h13_6x3⟩ := gWork_rd.1 h6x3 ; obtain ⟨b1_1_6x3, c1_1_6x3, b2_1_6x3, c2_1_6x3, b3_1_6x3, c3_1_6x3, rfl, h1_1_6x3, h2_1_6x3, h3_1_6x3⟩ := gQuery_rd.1 h1_6x3 ; obtain ⟨l0_11_6x3, b1_11_6x3, c1_11_6x3, b4_11_6x3, c4_11_6x3, rfl, h0_11_6x3, h1_11_6x3, w2_11_6x3, w3_11_6x3, h4_11_6x3⟩ := gCell_rd.1 h11_6x3 ; obtain ⟨b1_0_11_6x3, c1_0_11_6x3, b2_0_11_6x3, c2_0_11_6x3, b3_0_11_6x3, c3_0_11_6x3, rfl, h1_0_11_6x3, h2_0_11_6x3, h3_0_11_6x3⟩ := gQuery_rd.1 h0_11_6x3 ; obtain ⟨l1_7x3, b2_7x3, c2_7x3, b4_7x3, c4_7x3, l6_7x3, rfl, h1_7x3, h2_7x3, w3_7x3, h4_7x3, h6_7x3⟩ := gAsk_rd.1 h7x3 ; obtain ⟨b1_1_7x3, c1_1_7x3, b2_1_7x3, c2_1_7x3, b3_1_7x3, c3_1_7x3, rfl, h1_1_7x3, h2_1_7x3, h3_1_7x3⟩ := gQuery_rd.1 h1_7x3 ; obtain ⟨b0_6_7x3, c0_6_7x3, rfl, h0_6_7x3⟩ := gBag_rd.1 h6_7x3
    refine VCnew.intro fun x4 => ?_
    refine draw G_ok mixed none (.q 0 (.q 1 (.q 2 (.q 3 (.f 4 (.q 5 (.q 6 (.q 7 (.q 8 (.q 9 (.q 10 (.q 11 (.q 12 (.q 13 (.q 14 (.q 15 (.nil))))))))))))))))) (by decide +kernel) ?_
    refine call_val (specReadEpoch_ct _ ((c.nodes[k]?.getD default).disk)) (Rp.mono _ (mem_at 0 rfl) h2x3) ?_
    rintro _ rfl
    refine VC.intro ?_ ?_
    · exact fun _ h => h
    refine VCsplit.intro (fun q6 => ?_) (fun q6 => ?_)
    ·
      simp at q6
      exact ⟨[], ⟨by rw [epoAll_no c k (by first | exact epoOk_no1 (by omega) | exact epoOk_no2 (by omega)) _ (by omega)], rfl⟩, (.le fun a => by (try simp only [setR, List.cons_append, List.nil_append]); simp only [List.flatten_append, List.flatten_cons, List.flatten_nil, List.count_append, List.count_nil, List.append_nil, List.nil_append]; omega)⟩
    ·
      simp at q6
      refine idx_rd h1p ?_ ?_ fun b7 o7 hb7 => ?_
      · trivial
      · omega
      refine load_partN default (0) 3 rfl h1p ?_ ?_ hb7 rfl (by decide) (mem_at 0 rfl) fun l8 hl8 => ?_
      · trivial
      · omega
      obtain ⟨l2x8, b5x8, c5x8, l6x8, l7x8, rfl, w0x8, h2x8, w3x8, h5x8, h6x8, h7x8⟩ := gNode_rd.1 hl8 ; obtain ⟨b0_2x8, c0_2x8, rfl, h0_2x8⟩ := gDisk_rd.1 h2x8 ; obtain ⟨l1_6x8, b2_6x8, c2_6x8, b4_6x8, c4_6x8, l11_6x8, b13_6x8, c13_6x8, rfl, h1_6x8, h2_6x8, w3_6x8, h4_6x8, w5_6x8, w8_6x8, h11_6x8, h13_6x8⟩ := gWork_rd.1 h6x8 ; obtain ⟨b1_1_6x8, c1_1_6x8, b2_1_6x8, c2_1_6x8, b3_1_6x8, c3_1_6x8, rfl, h1_1_6x8, h2_1_6x8, h3_1_6x8⟩ := gQuery_rd.1 h1_6x8 ; obtain ⟨l0_11_6x8, b1_11_6x8, c1_11_6x8, b4_11_6x8, c4_11_6x8, rfl, h0_11_6x8, h1_11_6x8, w2_11_6x8, w3_11_6x8, h4_11_6x8⟩ := gCell_rd.1 h11_6x8 ; obtain ⟨b1_0_11_6x8, c1_0_11_6x8, b2_0_11_6x8, c2_0_11_6x8, b3_0_11_6x8, c3_0_11_6x8, rfl, h1_0_11_6x8, h2_0_11_6x8, h3_0_11_6x8⟩ := gQuery_rd.1 h0_11_6x8 ; obtain ⟨l1_7x8, b2_7x8, c2_7x8, b4_7x8, c4_7x8, l6_7x8, rfl, h1_7x8, h2_7x8, w3_7x8, h4_7x8, h6_7x8⟩ := gAsk_rd.1 h7x8 ; obtain ⟨b1_1_7x8, c1_1_7x8, b2_1_7x8, c2_1_7x8, b3_1_7x8, c3_1_7x8, rfl, h1_1_7x8, h2_1_7x8, h3_1_7x8⟩ := gQuery_rd.1 h1_7x8 ; obtain ⟨b0_6_7x8, c0_6_7x8, rfl, h0_6_7x8⟩ := gBag_rd.1 h6_7x8
      refine VCsplit.intro (fun q9 => ?_) (fun q9 => ?_)
      ·
        simp at q9
        exact ⟨[], ⟨by rw [epoAll_no c k (by first | exact epoOk_no1 (by omega) | exact epoOk_no2 (by omega)) _ (by omega)], rfl⟩, (.le fun a => by (try simp only [setR, List.cons_append, List.nil_append]); simp only [List.flatten_append, List.flatten_cons, List.flatten_nil, List.count_append, List.count_nil, List.append_nil, List.nil_append]; omega)⟩
      ·
        simp at q9
        apply loop_stepA (k + 1)
        · exact .refl _
        · repeat' (first | exact trivial | refine ⟨⟨_, rfl, by first | rfl | exact inc_eq _ (by omega) | (refine sl_eq ?_; simp; done), by first | exact trivial | simp [SV.ok]⟩, ?_⟩)
        · exact ⟨rfl, trivial⟩
        · exact ⟨by omega, epoAll_step ha (by omega) (by omega)⟩
        · omega
  ·
    simp at q1
    obtain rfl : k = c.nodes.length := by omega
    exact ⟨[], ⟨by rw [ha], rfl⟩, (.le fun a => by (try simp only [setR, List.cons_append, List.nil_append]); simp only [List.flatten_append, List.flatten_cons, List.flatten_nil, List.count_append, List.count_nil, List.append_nil, List.nil_append]; omega)⟩

end Go.Proofs.YtohafcffenoegaaGreat
