/-
  Whether the links of a cluster are right, on both sides; the law. Conditions: none.
-/
import Derived.Test.YtbgfddlnlcgbiaaGc
namespace Go.Proofs.Ytbgfddlnlcgbiaa
open Go.SX Go.Proofs
set_option linter.unusedSimpArgs false
set_option linter.unusedVariables false
set_option maxHeartbeats 8000000
attribute [local irreducible] IntKind.wrap

def nodeAt (c : Cluster) (i : Nat) : Node := c.nodes[i]?.getD default
def linkAt (x : Node) (i : Nat) : Link := x.links[i]?.getD default
/-- two nodes are together -/
def together (a b : Node) : Bool := a.up && (a.joined && (b.up && (b.joined && a.epoch == b.epoch)))
/-- the links of two nodes agree, from the first to the second -/
def agree (a b : Node) (i k : Nat) : Bool :=
  decide (k < a.links.length) && (decide (i < b.links.length) && (decide ((linkAt b i).took ≤ ((linkAt a k).sent.length : Int)) && decide ((linkAt a k).acked ≤ (linkAt b i).took)))
def pairOk (c : Cluster) (i k : Nat) : Bool := decide (i = k) || (!together (nodeAt c i) (nodeAt c k) || agree (nodeAt c i) (nodeAt c k) i k)
def rowOk (c : Cluster) (i : Nat) : Nat → Bool
  | 0 => true
  | k + 1 => rowOk c i k && pairOk c i k
def rowsOk (c : Cluster) : Nat → Bool
  | 0 => true
  | i + 1 => rowsOk c i && rowOk c i c.nodes.length
def linksRight (c : Cluster) : Bool := rowsOk c c.nodes.length
theorem rowOk_no (c : Cluster) (i k : Nat) (h : pairOk c i k = false) : ∀ n, k < n → rowOk c i n = false
  | 0, h1 => by omega
  | n + 1, h1 => by
    unfold rowOk
    rcases Nat.lt_or_ge k n with h2 | h2
    · rw [rowOk_no c i k h n h2]; rfl
    · rw [show n = k by omega, h]; simp
theorem rowsOk_no (c : Cluster) (i : Nat) (h : rowOk c i c.nodes.length = false) : ∀ n, i < n → rowsOk c n = false
  | 0, h1 => by omega
  | n + 1, h1 => by
    unfold rowsOk
    rcases Nat.lt_or_ge i n with h2 | h2
    · rw [rowsOk_no c i h n h2]; rfl
    · rw [show n = i by omega, h]; simp
theorem linksRight_no (c : Cluster) (i k : Nat) (hi : i < c.nodes.length) (hk : k < c.nodes.length) (h : pairOk c i k = false) : linksRight c = false :=
  rowsOk_no c i (rowOk_no c i k h _ hk) _ hi

theorem pairOk_no {c : Cluster} {i k : Nat} (h : ¬ i = k) (a1 : (nodeAt c i).up = true) (a2 : (nodeAt c i).joined = true) (b1 : (nodeAt c k).up = true) (b2 : (nodeAt c k).joined = true) (e : (nodeAt c i).epoch = (nodeAt c k).epoch) (g : agree (nodeAt c i) (nodeAt c k) i k = false) : pairOk c i k = false := by
  unfold pairOk together
  rw [decide_eq_false h, a1, a2, b1, b2, e, g]; simp
theorem agree_no1 {c : Cluster} {i k : Nat} (h : (c.nodes[i]?.getD default).links.length ≤ k) : agree (nodeAt c i) (nodeAt c k) i k = false := by
  unfold agree; rw [decide_eq_false (by unfold nodeAt; omega : ¬ k < (nodeAt c i).links.length)]; rfl
theorem agree_no2 {c : Cluster} {i k : Nat} (h : (c.nodes[k]?.getD default).links.length ≤ i) : agree (nodeAt c i) (nodeAt c k) i k = false := by
  unfold agree; rw [decide_eq_false (by unfold nodeAt; omega : ¬ i < (nodeAt c k).links.length)]; simp
theorem agree_no3 {c : Cluster} {i k : Nat} (h : (((c.nodes[i]?.getD default).links[k]?.getD default).sent.length : Int) < ((c.nodes[k]?.getD default).links[i]?.getD default).took) : agree (nodeAt c i) (nodeAt c k) i k = false := by
  unfold agree; rw [decide_eq_false (by unfold linkAt nodeAt; omega : ¬ (linkAt (nodeAt c k) i).took ≤ ((linkAt (nodeAt c i) k).sent.length : Int))]; simp
theorem agree_no4 {c : Cluster} {i k : Nat} (h : ((c.nodes[k]?.getD default).links[i]?.getD default).took < ((c.nodes[i]?.getD default).links[k]?.getD default).acked) : agree (nodeAt c i) (nodeAt c k) i k = false := by
  unfold agree; rw [decide_eq_false (by unfold linkAt nodeAt; omega : ¬ (linkAt (nodeAt c i) k).acked ≤ (linkAt (nodeAt c k) i).took)]; simp
theorem agree_yes {c : Cluster} {i k : Nat} (h1 : k < (c.nodes[i]?.getD default).links.length) (h2 : i < (c.nodes[k]?.getD default).links.length) (h3 : ((c.nodes[k]?.getD default).links[i]?.getD default).took ≤ (((c.nodes[i]?.getD default).links[k]?.getD default).sent.length : Int)) (h4 : ((c.nodes[i]?.getD default).links[k]?.getD default).acked ≤ ((c.nodes[k]?.getD default).links[i]?.getD default).took) : agree (nodeAt c i) (nodeAt c k) i k = true := by
  unfold agree linkAt nodeAt; simp; omega
--@ct impl.hasLink val hasLink_ct _ $1 _ | %1
theorem hasLink_ct (l : List Value) (x : Node) (i : Int) : Ct Try.prog 120 [.agg ⟨l⟩, .int .i64 i] [] (fun H => gNode.rd H l x) (fun v A => v = .bool (decide (0 ≤ i) && decide (i < (x.links.length : Int))) ∧ A = []) := by
  refine Ct.intro0 G_ok Try.func120 rfl rfl rfl fun E H hp => ?_
  obtain ⟨l2p, b5p, c5p, l6p, l7p, rfl, w0p, h2p, w3p, h5p, h6p, h7p⟩ := gNode_rd.1 hp
  obtain ⟨b0_2p, c0_2p, rfl, h0_2p⟩ := gDisk_rd.1 h2p
  obtain ⟨l1_6p, b2_6p, c2_6p, b4_6p, c4_6p, l11_6p, b13_6p, c13_6p, rfl, h1_6p, h2_6p, w3_6p, h4_6p, w5_6p, w8_6p, h11_6p, h13_6p⟩ := gWork_rd.1 h6p
  obtain ⟨b1_1_6p, c1_1_6p, b2_1_6p, c2_1_6p, b3_1_6p, c3_1_6p, rfl, h1_1_6p, h2_1_6p, h3_1_6p⟩ := gQuery_rd.1 h1_6p
  obtain ⟨l0_11_6p, b1_11_6p, c1_11_6p, b4_11_6p, c4_11_6p, rfl, h0_11_6p, h1_11_6p, w2_11_6p, w3_11_6p, h4_11_6p⟩ := gCell_rd.1 h11_6p
  obtain ⟨b1_0_11_6p, c1_0_11_6p, b2_0_11_6p, c2_0_11_6p, b3_0_11_6p, c3_0_11_6p, rfl, h1_0_11_6p, h2_0_11_6p, h3_0_11_6p⟩ := gQuery_rd.1 h0_11_6p
  obtain ⟨l1_7p, b2_7p, c2_7p, b4_7p, c4_7p, l6_7p, rfl, h1_7p, h2_7p, w3_7p, h4_7p, h6_7p⟩ := gAsk_rd.1 h7p
  obtain ⟨b1_1_7p, c1_1_7p, b2_1_7p, c2_1_7p, b3_1_7p, c3_1_7p, rfl, h1_1_7p, h2_1_7p, h3_1_7p⟩ := gQuery_rd.1 h1_7p
  obtain ⟨b0_6_7p, c0_6_7p, rfl, h0_6_7p⟩ := gBag_rd.1 h6_7p
  refine VCnew.intro fun x0 => ?_
  refine VCsplit.intro (fun q1 => ?_) (fun q1 => ?_)
  ·
    simp at q1
    exact ⟨[], ⟨by rw [decide_eq_true (by omega : (0 : Int) ≤ i), Bool.true_and], rfl⟩, (.le fun a => by (try simp only [setR, List.cons_append, List.nil_append]); simp only [List.flatten_append, List.flatten_cons, List.flatten_nil, List.count_append, List.count_nil, List.append_nil, List.nil_append]; omega)⟩
  ·
    simp at q1
    exact ⟨[], ⟨by rw [decide_eq_false (by omega : ¬ (0 : Int) ≤ i), Bool.false_and], rfl⟩, (.le fun a => by (try simp only [setR, List.cons_append, List.nil_append]); simp only [List.flatten_append, List.flatten_cons, List.flatten_nil, List.count_append, List.count_nil, List.append_nil, List.nil_append]; omega)⟩

--@ct impl.linksAgree val linksAgree_ct _ $1 _ _ _ _ rfl rfl ?_ ?_ | %1
theorem linksAgree_ct (l : List Value) (c : Cluster) (vi vk : Int) (i k : Nat) (e1 : vi = i) (e2 : vk = k) (hi : i < c.nodes.length) (hk : k < c.nodes.length) :
    Ct Try.prog 83 [.agg ⟨l⟩, .int .i64 vi, .int .i64 vk] [] (fun H => gCluster.rd H l c) (fun v A => v = .bool (agree (nodeAt c i) (nodeAt c k) i k) ∧ A = []) := by
  subst e1 e2
  refine Ct.intro0 G_ok Try.func83 rfl rfl rfl fun E H hp => ?_
  obtain ⟨l0p, b1p, c1p, b2p, c2p, b3p, c3p, b4p, c4p, rfl, h0p, h1p, h2p, h3p, h4p⟩ := gCluster_rd.1 hp
  obtain ⟨b1_0p, c1_0p, b2_0p, c2_0p, b3_0p, c3_0p, rfl, h1_0p, h2_0p, h3_0p⟩ := gQuery_rd.1 h0p
  refine VCnew.intro fun x0 => ?_
  refine idx_rd h1p ?_ ?_ fun b1 o1 hb1 => ?_
  · omega
  · omega
  refine load_allN default (i) rfl h1p ?_ ?_ hb1 rfl (mem_at 0 rfl) fun l2 hl2 => ?_
  · omega
  · omega
  obtain ⟨l2x2, b5x2, c5x2, l6x2, l7x2, rfl, w0x2, h2x2, w3x2, h5x2, h6x2, h7x2⟩ := gNode_rd.1 hl2 ; obtain ⟨b0_2x2, c0_2x2, rfl, h0_2x2⟩ := gDisk_rd.1 h2x2 ; obtain ⟨l1_6x2, b2_6x2, c2_6x2, b4_6x2, c4_6x2, l11_6x2, b13_6x2, c13_6x2, rfl, h1_6x2, h2_6x2, w3_6x2, h4_6x2, w5_6x2, w8_6x2, h11_6x2, h13_6x2⟩ := gWork_rd.1 h6x2 ; obtain ⟨b1_1_6x2, c1_1_6x2, b2_1_6x2, c2_1_6x2, b3_1_6x2, c3_1_6x2, rfl, h1_1_6x2, h2_1_6x2, h3_1_6x2⟩ := gQuery_rd.1 h1_6x2 ; obtain ⟨l0_11_6x2, b1_11_6x2, c1_11_6x2, b4_11_6x2, c4_11_6x2, rfl, h0_11_6x2, h1_11_6x2, w2_11_6x2, w3_11_6x2, h4_11_6x2⟩ := gCell_rd.1 h11_6x2 ; obtain ⟨b1_0_11_6x2, c1_0_11_6x2, b2_0_11_6x2, c2_0_11_6x2, b3_0_11_6x2, c3_0_11_6x2, rfl, h1_0_11_6x2, h2_0_11_6x2, h3_0_11_6x2⟩ := gQuery_rd.1 h0_11_6x2 ; obtain ⟨l1_7x2, b2_7x2, c2_7x2, b4_7x2, c4_7x2, l6_7x2, rfl, h1_7x2, h2_7x2, w3_7x2, h4_7x2, h6_7x2⟩ := gAsk_rd.1 h7x2 ; obtain ⟨b1_1_7x2, c1_1_7x2, b2_1_7x2, c2_1_7x2, b3_1_7x2, c3_1_7x2, rfl, h1_1_7x2, h2_1_7x2, h3_1_7x2⟩ := gQuery_rd.1 h1_7x2 ; obtain ⟨b0_6_7x2, c0_6_7x2, rfl, h0_6_7x2⟩ := gBag_rd.1 h6_7x2
  refine call_val (hasLink_ct _ (c.nodes[i]?.getD default) _) (Rp.mono _ (mem_at 0 rfl) hl2) ?_
  rintro _ rfl
  refine VCsplit.intro (fun q4 => ?_) (fun q4 => ?_)
  ·
    simp at q4
    exact ⟨[], ⟨by unfold agree; rw [decide_eq_false (by unfold nodeAt; omega : ¬ k < (nodeAt c i).links.length)]; rfl, rfl⟩, (.le fun a => by (try simp only [setR, List.cons_append, List.nil_append]); simp only [List.flatten_append, List.flatten_cons, List.flatten_nil, List.count_append, List.count_nil, List.append_nil, List.nil_append]; omega)⟩
  ·
    simp at q4
    refine idx_rd h1p ?_ ?_ fun b5 o5 hb5 => ?_
    · omega
    · omega
    refine load_allN default (k) rfl h1p ?_ ?_ hb5 rfl (mem_at 0 rfl) fun l6 hl6 => ?_
    · omega
    · omega
    obtain ⟨l2x6, b5x6, c5x6, l6x6, l7x6, rfl, w0x6, h2x6, w3x6, h5x6, h6x6, h7x6⟩ := gNode_rd.1 hl6 ; obtain ⟨b0_2x6, c0_2x6, rfl, h0_2x6⟩ := gDisk_rd.1 h2x6 ; obtain ⟨l1_6x6, b2_6x6, c2_6x6, b4_6x6, c4_6x6, l11_6x6, b13_6x6, c13_6x6, rfl, h1_6x6, h2_6x6, w3_6x6, h4_6x6, w5_6x6, w8_6x6, h11_6x6, h13_6x6⟩ := gWork_rd.1 h6x6 ; obtain ⟨b1_1_6x6, c1_1_6x6, b2_1_6x6, c2_1_6x6, b3_1_6x6, c3_1_6x6, rfl, h1_1_6x6, h2_1_6x6, h3_1_6x6⟩ := gQuery_rd.1 h1_6x6 ; obtain ⟨l0_11_6x6, b1_11_6x6, c1_11_6x6, b4_11_6x6, c4_11_6x6, rfl, h0_11_6x6, h1_11_6x6, w2_11_6x6, w3_11_6x6, h4_11_6x6⟩ := gCell_rd.1 h11_6x6 ; obtain ⟨b1_0_11_6x6, c1_0_11_6x6, b2_0_11_6x6, c2_0_11_6x6, b3_0_11_6x6, c3_0_11_6x6, rfl, h1_0_11_6x6, h2_0_11_6x6, h3_0_11_6x6⟩ := gQuery_rd.1 h0_11_6x6 ; obtain ⟨l1_7x6, b2_7x6, c2_7x6, b4_7x6, c4_7x6, l6_7x6, rfl, h1_7x6, h2_7x6, w3_7x6, h4_7x6, h6_7x6⟩ := gAsk_rd.1 h7x6 ; obtain ⟨b1_1_7x6, c1_1_7x6, b2_1_7x6, c2_1_7x6, b3_1_7x6, c3_1_7x6, rfl, h1_1_7x6, h2_1_7x6, h3_1_7x6⟩ := gQuery_rd.1 h1_7x6 ; obtain ⟨b0_6_7x6, c0_6_7x6, rfl, h0_6_7x6⟩ := gBag_rd.1 h6_7x6
    refine call_val (hasLink_ct _ (c.nodes[k]?.getD default) _) (Rp.mono _ (mem_at 0 rfl) hl6) ?_
    rintro _ rfl
    refine VCsplit.intro (fun q8 => ?_) (fun q8 => ?_)
    ·
      simp at q8
      exact ⟨[], ⟨by unfold agree; rw [decide_eq_false (by unfold nodeAt; omega : ¬ i < (nodeAt c k).links.length)]; simp, rfl⟩, (.le fun a => by (try simp only [setR, List.cons_append, List.nil_append]); simp only [List.flatten_append, List.flatten_cons, List.flatten_nil, List.count_append, List.count_nil, List.append_nil, List.nil_append]; omega)⟩
    ·
      simp at q8
      refine draw G_ok mixed (some 21) (.q 0 (.q 1 (.q 2 (.q 3 (.q 4 (.q 5 (.q 6 (.q 7 (.q 8 (.q 9 (.q 10 (.q 11 (.q 12 (.q 13 (.q 14 (.q 15 (.q 16 (.q 17 (.hd (.alt 18 (.f 19 (.f 20 (.tl 21 (.nil)))) (.alt 19 (.f 18 (.f 20 (.tl 21 (.nil)))) (.nil)))))))))))))))))))))) (by decide +kernel) ?_
      refine idx_rd h1p ?_ ?_ fun b9 o9 hb9 => ?_
      · omega
      · omega
      refine load_partN default (i) 5 rfl h1p ?_ ?_ hb9 rfl (by decide) (mem_at 0 rfl) fun l10 hl10 => ?_
      · omega
      · omega
      obtain ⟨l2x10, b5x10, c5x10, l6x10, l7x10, rfl, w0x10, h2x10, w3x10, h5x10, h6x10, h7x10⟩ := gNode_rd.1 hl10 ; obtain ⟨b0_2x10, c0_2x10, rfl, h0_2x10⟩ := gDisk_rd.1 h2x10 ; obtain ⟨l1_6x10, b2_6x10, c2_6x10, b4_6x10, c4_6x10, l11_6x10, b13_6x10, c13_6x10, rfl, h1_6x10, h2_6x10, w3_6x10, h4_6x10, w5_6x10, w8_6x10, h11_6x10, h13_6x10⟩ := gWork_rd.1 h6x10 ; obtain ⟨b1_1_6x10, c1_1_6x10, b2_1_6x10, c2_1_6x10, b3_1_6x10, c3_1_6x10, rfl, h1_1_6x10, h2_1_6x10, h3_1_6x10⟩ := gQuery_rd.1 h1_6x10 ; obtain ⟨l0_11_6x10, b1_11_6x10, c1_11_6x10, b4_11_6x10, c4_11_6x10, rfl, h0_11_6x10, h1_11_6x10, w2_11_6x10, w3_11_6x10, h4_11_6x10⟩ := gCell_rd.1 h11_6x10 ; obtain ⟨b1_0_11_6x10, c1_0_11_6x10, b2_0_11_6x10, c2_0_11_6x10, b3_0_11_6x10, c3_0_11_6x10, rfl, h1_0_11_6x10, h2_0_11_6x10, h3_0_11_6x10⟩ := gQuery_rd.1 h0_11_6x10 ; obtain ⟨l1_7x10, b2_7x10, c2_7x10, b4_7x10, c4_7x10, l6_7x10, rfl, h1_7x10, h2_7x10, w3_7x10, h4_7x10, h6_7x10⟩ := gAsk_rd.1 h7x10 ; obtain ⟨b1_1_7x10, c1_1_7x10, b2_1_7x10, c2_1_7x10, b3_1_7x10, c3_1_7x10, rfl, h1_1_7x10, h2_1_7x10, h3_1_7x10⟩ := gQuery_rd.1 h1_7x10 ; obtain ⟨b0_6_7x10, c0_6_7x10, rfl, h0_6_7x10⟩ := gBag_rd.1 h6_7x10
      refine idx_rd h5x10 ?_ ?_ fun b11 o11 hb11 => ?_
      · omega
      · omega
      refine load_allN default (k) rfl h5x10 ?_ ?_ hb11 rfl (mem_at 0 rfl) fun l12 hl12 => ?_
      · omega
      · omega
      obtain ⟨b0x12, c0x12, rfl, h0x12, w1x12, w2x12⟩ := gLink_rd.1 hl12
      refine idx_rd h1p ?_ ?_ fun b13 o13 hb13 => ?_
      · omega
      · omega
      refine load_partN default (k) 5 rfl h1p ?_ ?_ hb13 rfl (by decide) (mem_at 0 rfl) fun l14 hl14 => ?_
      · omega
      · omega
      obtain ⟨l2x14, b5x14, c5x14, l6x14, l7x14, rfl, w0x14, h2x14, w3x14, h5x14, h6x14, h7x14⟩ := gNode_rd.1 hl14 ; obtain ⟨b0_2x14, c0_2x14, rfl, h0_2x14⟩ := gDisk_rd.1 h2x14 ; obtain ⟨l1_6x14, b2_6x14, c2_6x14, b4_6x14, c4_6x14, l11_6x14, b13_6x14, c13_6x14, rfl, h1_6x14, h2_6x14, w3_6x14, h4_6x14, w5_6x14, w8_6x14, h11_6x14, h13_6x14⟩ := gWork_rd.1 h6x14 ; obtain ⟨b1_1_6x14, c1_1_6x14, b2_1_6x14, c2_1_6x14, b3_1_6x14, c3_1_6x14, rfl, h1_1_6x14, h2_1_6x14, h3_1_6x14⟩ := gQuery_rd.1 h1_6x14 ; obtain ⟨l0_11_6x14, b1_11_6x14, c1_11_6x14, b4_11_6x14, c4_11_6x14, rfl, h0_11_6x14, h1_11_6x14, w2_11_6x14, w3_11_6x14, h4_11_6x14⟩ := gCell_rd.1 h11_6x14 ; obtain ⟨b1_0_11_6x14, c1_0_11_6x14, b2_0_11_6x14, c2_0_11_6x14, b3_0_11_6x14, c3_0_11_6x14, rfl, h1_0_11_6x14, h2_0_11_6x14, h3_0_11_6x14⟩ := gQuery_rd.1 h0_11_6x14 ; obtain ⟨l1_7x14, b2_7x14, c2_7x14, b4_7x14, c4_7x14, l6_7x14, rfl, h1_7x14, h2_7x14, w3_7x14, h4_7x14, h6_7x14⟩ := gAsk_rd.1 h7x14 ; obtain ⟨b1_1_7x14, c1_1_7x14, b2_1_7x14, c2_1_7x14, b3_1_7x14, c3_1_7x14, rfl, h1_1_7x14, h2_1_7x14, h3_1_7x14⟩ := gQuery_rd.1 h1_7x14 ; obtain ⟨b0_6_7x14, c0_6_7x14, rfl, h0_6_7x14⟩ := gBag_rd.1 h6_7x14
      refine idx_rd h5x14 ?_ ?_ fun b15 o15 hb15 => ?_
      · omega
      · omega
      refine load_allN default (i) rfl h5x14 ?_ ?_ hb15 rfl (mem_at 0 rfl) fun l16 hl16 => ?_
      · omega
      · omega
      obtain ⟨b0x16, c0x16, rfl, h0x16, w1x16, w2x16⟩ := gLink_rd.1 hl16
      refine VC.intro ?_ ?_
      ·
        refine VCnew.intro fun x17 => ?_
        refine VC.intro ?_ ?_
        · exact keep_sub (by simp) (by simp)
        refine VCnew.intro fun x18 => ?_
        refine VC.intro ?_ ?_
        · exact keep_sub (by simp) (by simp)
        refine VC.intro ?_ ?_
        · exact keep_sub (by simp) (by simp)
        refine VCsplit.intro (fun q19 => ?_) (fun q19 => ?_)
        ·
          simp at q19
          exact ⟨[], ⟨by unfold agree; rw [decide_eq_true (by unfold nodeAt; omega : k < (nodeAt c i).links.length), decide_eq_true (by unfold nodeAt; omega : i < (nodeAt c k).links.length), decide_eq_true (by unfold linkAt nodeAt; omega : (linkAt (nodeAt c k) i).took ≤ ((linkAt (nodeAt c i) k).sent.length : Int))]; rfl, rfl⟩, (.le fun a => by (try simp only [setR, List.cons_append, List.nil_append]); simp only [List.flatten_append, List.flatten_cons, List.flatten_nil, List.count_append, List.count_nil, List.append_nil, List.nil_append]; omega)⟩
        ·
          simp at q19
          exact ⟨[], ⟨by unfold agree; rw [decide_eq_false (by unfold linkAt nodeAt; omega : ¬ (linkAt (nodeAt c k) i).took ≤ ((linkAt (nodeAt c i) k).sent.length : Int))]; simp, rfl⟩, (.le fun a => by (try simp only [setR, List.cons_append, List.nil_append]); simp only [List.flatten_append, List.flatten_cons, List.flatten_nil, List.count_append, List.count_nil, List.append_nil, List.nil_append]; omega)⟩
      ·
        refine VC.intro ?_ ?_
        ·
          refine VCnew.intro fun x20 => ?_
          refine VC.intro ?_ ?_
          · exact keep_sub (by simp) (by simp)
          refine VCnew.intro fun x21 => ?_
          refine VC.intro ?_ ?_
          · exact keep_sub (by simp) (by simp)
          refine VC.intro ?_ ?_
          · exact keep_sub (by simp) (by simp)
          refine VCsplit.intro (fun q22 => ?_) (fun q22 => ?_)
          ·
            simp at q22
            exact ⟨[], ⟨by unfold agree; rw [decide_eq_true (by unfold nodeAt; omega : k < (nodeAt c i).links.length), decide_eq_true (by unfold nodeAt; omega : i < (nodeAt c k).links.length), decide_eq_true (by unfold linkAt nodeAt; omega : (linkAt (nodeAt c k) i).took ≤ ((linkAt (nodeAt c i) k).sent.length : Int))]; rfl, rfl⟩, (.le fun a => by (try simp only [setR, List.cons_append, List.nil_append]); simp only [List.flatten_append, List.flatten_cons, List.flatten_nil, List.count_append, List.count_nil, List.append_nil, List.nil_append]; omega)⟩
          ·
            simp at q22
            exact ⟨[], ⟨by unfold agree; rw [decide_eq_false (by unfold linkAt nodeAt; omega : ¬ (linkAt (nodeAt c k) i).took ≤ ((linkAt (nodeAt c i) k).sent.length : Int))]; simp, rfl⟩, (.le fun a => by (try simp only [setR, List.cons_append, List.nil_append]); simp only [List.flatten_append, List.flatten_cons, List.flatten_nil, List.count_append, List.count_nil, List.append_nil, List.nil_append]; omega)⟩
        ·
          exact trivial

--@ct impl.LinksRight val implLinksRight_ct _ $1 | %1
theorem implLinksRight_ct (l : List Value) (c : Cluster) : Ct Try.prog 35 [.agg ⟨l⟩] [] (fun H => gCluster.rd H l c) (fun v A => v = .bool (linksRight c) ∧ A = []) := by
  refine Ct.intro0 G_ok Try.func35 rfl rfl rfl fun E H hp => ?_
  obtain ⟨l0p, b1p, c1p, b2p, c2p, b3p, c3p, b4p, c4p, rfl, h0p, h1p, h2p, h3p, h4p⟩ := gCluster_rd.1 hp
  obtain ⟨b1_0p, c1_0p, b2_0p, c2_0p, b3_0p, c3_0p, rfl, h1_0p, h2_0p, h3_0p⟩ := gQuery_rd.1 h0p
  have hl := (rd_len h1p).2
  refine VCnew.intro fun x0 => ?_
  apply loop_mod (α := (Nat)) G_ok [12, 13, 14, 15, 4, 3, 16, 17, 18, 19, 20, 21, 22, 23, 6, 5, 24, 25, 26, 27, 28, 29, 30, 31, 32, 33, 34, 35, 36, 37, 38, 39, 40, 41, 42, 43, 44, 7, 45, 46, 47, 48, 49, 50, 51, 52, 53, 54, 55, 56, 57, 2, 58, 59, 11] (fun z => [(11, .v (.int .i64 z))]) (fun z => [{ id := x0, cs := [Value.bool c.query.each, Value.slice b1_0p c.query.out.length c1_0p, Value.slice b2_0p c.query.atoms.length c2_0p, Value.slice b3_0p c.query.filters.length c3_0p] ++ [Value.slice b1p c.nodes.length c1p, Value.slice b2p c.net.length c2p, Value.slice b3p c.codes.length c3p, Value.slice b4p c.replies.length c4p], ty := (77 : Nat) }]) (fun z => [H]) (fun z => c.nodes.length - z) (fun z => z ≤ c.nodes.length ∧ rowsOk c z = true) (0)
  · repeat' (first | exact trivial | refine ⟨⟨_, rfl, by first | rfl | exact inc_eq _ (by omega) | (refine sl_eq ?_; simp; done), by first | exact trivial | simp [SV.ok]⟩, ?_⟩)
  · exact ⟨rfl, trivial⟩
  · exact ⟨by omega, rfl⟩
  · exact .refl _
  rintro i hI
  obtain ⟨hi, hI⟩ : i ≤ c.nodes.length ∧ rowsOk c i = true := hI
  try dsimp only
  refine VCsplit.intro (fun q1 => ?_) (fun q1 => ?_)
  ·
    simp at q1
    refine idx_rd h1p ?_ ?_ fun b2 o2 hb2 => ?_
    · omega
    · omega
    refine load_allN default (i) rfl h1p ?_ ?_ hb2 rfl (mem_at 0 rfl) fun l3 hl3 => ?_
    · omega
    · omega
    obtain ⟨l2x3, b5x3, c5x3, l6x3, l7x3, rfl, w0x3, h2x3, w3x3, h5x3, h6x3, h7x3⟩ := gNode_rd.1 hl3 ; obtain ⟨b0_2x3, c0_2x3, rfl, h0_2x3⟩ := gDisk_rd.1 h2x3 ; obtain ⟨l1_6x3, b2_6x3, c2_6x3, b4_6x3, c4_6x3, l11_6x3, b13_6x3, c13_6x3, rfl, h1_6x3, h2_6x3, w3_6x3, h4_6x3, w5_6x3, w8_6x3, h11_6x3, h13_6x3⟩ := gWork_rd.1 h6x3 ; obtain ⟨b1_1_6x3, c1_1_6x3, b2_1_6x3, c2_1_6x3, b3_1_6x3, c3_1_6x3, rfl, h1_1_6x3, h2_1_6x3, h3_1_6x3⟩ := gQuery_rd.1 h1_6x3 ; obtain ⟨l0_11_6x3, b1_11_6x3, c1_11_6x3, b4_11_6x3, c4_11_6x3, rfl, h0_11_6x3, h1_11_6x3, w2_11_6x3, w3_11_6x3, h4_11_6x3⟩ := gCell_rd.1 h11_6x3 ; obtain ⟨b1_0_11_6x3, c1_0_11_6x3, b2_0_11_6x3, c2_0_11_6x3, b3_0_11_6x3, c3_0_11_6x3, rfl, h1_0_11_6x3, h2_0_11_6x3, h3_0_11_6x3⟩ := gQuery_rd.1 h0_11_6x3 ; obtain ⟨l1_7x3, b2_7x3, c2_7x3, b4_7x3, c4_7x3, l6_7x3, rfl, h1_7x3, h2_7x3, w3_7x3, h4_7x3, h6_7x3⟩ := gAsk_rd.1 h7x3 ; obtain ⟨b1_1_7x3, c1_1_7x3, b2_1_7x3, c2_1_7x3, b3_1_7x3, c3_1_7x3, rfl, h1_1_7x3, h2_1_7x3, h3_1_7x3⟩ := gQuery_rd.1 h1_7x3 ; obtain ⟨b0_6_7x3, c0_6_7x3, rfl, h0_6_7x3⟩ := gBag_rd.1 h6_7x3
    refine VCnew.intro fun x4 => ?_
    apply loop_mod (α := (Nat)) G_ok [20, 21, 22, 23, 6, 5, 24, 25, 26, 27, 28, 29, 30, 31, 32, 33, 34, 35, 36, 37, 38, 39, 40, 41, 42, 43, 44, 7, 45, 46, 47, 48, 49, 50, 51, 52, 53, 54, 55, 56, 57, 2, 58, 19] (fun z => [(19, .v (.int .i64 z))]) (fun z => [{ id := x0, cs := [Value.bool c.query.each, Value.slice b1_0p c.query.out.length c1_0p, Value.slice b2_0p c.query.atoms.length c2_0p, Value.slice b3_0p c.query.filters.length c3_0p] ++ [Value.slice b1p c.nodes.length c1p, Value.slice b2p c.net.length c2p, Value.slice b3p c.codes.length c3p, Value.slice b4p c.replies.length c4p], ty := (77 : Nat) }, { id := x4, cs := [Value.int IntKind.i64 (c.nodes[i]?.getD default).id, Value.bool (c.nodes[i]?.getD default).up, Value.slice b0_2x3 (c.nodes[i]?.getD default).disk.files.length c0_2x3, Value.int IntKind.i64 (c.nodes[i]?.getD default).epoch, Value.bool (c.nodes[i]?.getD default).joined, Value.slice b5x3 (c.nodes[i]?.getD default).links.length c5x3, Value.bool (c.nodes[i]?.getD default).work.begun, Value.bool (c.nodes[i]?.getD default).work.query.each, Value.slice b1_1_6x3 (c.nodes[i]?.getD default).work.query.out.length c1_1_6x3, Value.slice b2_1_6x3 (c.nodes[i]?.getD default).work.query.atoms.length c2_1_6x3, Value.slice b3_1_6x3 (c.nodes[i]?.getD default).work.query.filters.length c3_1_6x3, Value.slice b2_6x3 (c.nodes[i]?.getD default).work.shares.length c2_6x3, Value.int IntKind.i64 (c.nodes[i]?.getD default).work.count, Value.slice b4_6x3 (c.nodes[i]?.getD default).work.seen.length c4_6x3, Value.int IntKind.i64 (c.nodes[i]?.getD default).work.num, Value.bool (c.nodes[i]?.getD default).work.black, Value.bool (c.nodes[i]?.getD default).work.holds, Value.int IntKind.i64 (c.nodes[i]?.getD default).work.tokNum, Value.bool (c.nodes[i]?.getD default).work.tokBlack, Value.bool (c.nodes[i]?.getD default).work.walked, Value.bool (c.nodes[i]?.getD default).work.cell.query.each, Value.slice b1_0_11_6x3 (c.nodes[i]?.getD default).work.cell.query.out.length c1_0_11_6x3, Value.slice b2_0_11_6x3 (c.nodes[i]?.getD default).work.cell.query.atoms.length c2_0_11_6x3, Value.slice b3_0_11_6x3 (c.nodes[i]?.getD default).work.cell.query.filters.length c3_0_11_6x3, Value.slice b1_11_6x3 (c.nodes[i]?.getD default).work.cell.shares.length c1_11_6x3, Value.int IntKind.i64 (c.nodes[i]?.getD default).work.cell.at', Value.int IntKind.i64 (c.nodes[i]?.getD default).work.cell.n, Value.slice b4_11_6x3 (c.nodes[i]?.getD default).work.cell.gots.length c4_11_6x3, Value.bool (c.nodes[i]?.getD default).work.told, Value.slice b13_6x3 (c.nodes[i]?.getD default).work.waits.length c13_6x3, Value.bool (c.nodes[i]?.getD default).ask.on, Value.bool (c.nodes[i]?.getD default).ask.query.each, Value.slice b1_1_7x3 (c.nodes[i]?.getD default).ask.query.out.length c1_1_7x3, Value.slice b2_1_7x3 (c.nodes[i]?.getD default).ask.query.atoms.length c2_1_7x3, Value.slice b3_1_7x3 (c.nodes[i]?.getD default).ask.query.filters.length c3_1_7x3, Value.slice b2_7x3 (c.nodes[i]?.getD default).ask.shares.length c2_7x3, Value.int IntKind.i64 (c.nodes[i]?.getD default).ask.count, Value.slice b4_7x3 (c.nodes[i]?.getD default).ask.results.length c4_7x3, Value.bool (c.nodes[i]?.getD default).ask.over, Value.slice b0_6_7x3 (c.nodes[i]?.getD default).ask.answer.items.length c0_6_7x3], ty := (127 : Nat) }]) (fun z => [H]) (fun z => c.nodes.length - z) (fun z => z ≤ c.nodes.length ∧ rowOk c i z = true) (0)
    · repeat' (first | exact trivial | refine ⟨⟨_, rfl, by first | rfl | exact inc_eq _ (by omega) | (refine sl_eq ?_; simp; done), by first | exact trivial | simp [SV.ok]⟩, ?_⟩)
    · exact ⟨rfl, rfl, trivial⟩
    · exact ⟨by omega, rfl⟩
    · exact .refl _
    rintro k hI
    obtain ⟨hk, hK⟩ : k ≤ c.nodes.length ∧ rowOk c i k = true := hI
    try dsimp only
    refine VCsplit.intro (fun q5 => ?_) (fun q5 => ?_)
    ·
      simp at q5
      refine idx_rd h1p ?_ ?_ fun b6 o6 hb6 => ?_
      · omega
      · omega
      refine load_allN default (k) rfl h1p ?_ ?_ hb6 rfl (mem_at 0 rfl) fun l7 hl7 => ?_
      · omega
      · omega
      obtain ⟨l2x7, b5x7, c5x7, l6x7, l7x7, rfl, w0x7, h2x7, w3x7, h5x7, h6x7, h7x7⟩ := gNode_rd.1 hl7 ; obtain ⟨b0_2x7, c0_2x7, rfl, h0_2x7⟩ := gDisk_rd.1 h2x7 ; obtain ⟨l1_6x7, b2_6x7, c2_6x7, b4_6x7, c4_6x7, l11_6x7, b13_6x7, c13_6x7, rfl, h1_6x7, h2_6x7, w3_6x7, h4_6x7, w5_6x7, w8_6x7, h11_6x7, h13_6x7⟩ := gWork_rd.1 h6x7 ; obtain ⟨b1_1_6x7, c1_1_6x7, b2_1_6x7, c2_1_6x7, b3_1_6x7, c3_1_6x7, rfl, h1_1_6x7, h2_1_6x7, h3_1_6x7⟩ := gQuery_rd.1 h1_6x7 ; obtain ⟨l0_11_6x7, b1_11_6x7, c1_11_6x7, b4_11_6x7, c4_11_6x7, rfl, h0_11_6x7, h1_11_6x7, w2_11_6x7, w3_11_6x7, h4_11_6x7⟩ := gCell_rd.1 h11_6x7 ; obtain ⟨b1_0_11_6x7, c1_0_11_6x7, b2_0_11_6x7, c2_0_11_6x7, b3_0_11_6x7, c3_0_11_6x7, rfl, h1_0_11_6x7, h2_0_11_6x7, h3_0_11_6x7⟩ := gQuery_rd.1 h0_11_6x7 ; obtain ⟨l1_7x7, b2_7x7, c2_7x7, b4_7x7, c4_7x7, l6_7x7, rfl, h1_7x7, h2_7x7, w3_7x7, h4_7x7, h6_7x7⟩ := gAsk_rd.1 h7x7 ; obtain ⟨b1_1_7x7, c1_1_7x7, b2_1_7x7, c2_1_7x7, b3_1_7x7, c3_1_7x7, rfl, h1_1_7x7, h2_1_7x7, h3_1_7x7⟩ := gQuery_rd.1 h1_7x7 ; obtain ⟨b0_6_7x7, c0_6_7x7, rfl, h0_6_7x7⟩ := gBag_rd.1 h6_7x7
      refine VCnew.intro fun x8 => ?_
      refine VCsplit.intro (fun q9 => ?_) (fun q9 => ?_)
      ·
        refine VCsplit.intro (fun q10 => ?_) (fun q10 => ?_)
        ·
          refine VCsplit.intro (fun q11 => ?_) (fun q11 => ?_)
          ·
            refine VCsplit.intro (fun q12 => ?_) (fun q12 => ?_)
            ·
              refine VCsplit.intro (fun q13 => ?_) (fun q13 => ?_)
              ·
                simp at q13
                refine VCsplit.intro (fun q14 => ?_) (fun q14 => ?_)
                ·
                  simp at q14
                  refine call_val (linksAgree_ct _ (c) _ _ _ _ rfl rfl ?_ ?_) (Rp.mono _ (mem_at 0 rfl) hp) ?_
                  · trivial
                  · trivial
                  rintro _ rfl
                  refine VCsplit.intro (fun q16 => ?_) (fun q16 => ?_)
                  ·
                    simp at q16
                    exact ⟨[], ⟨by rw [linksRight_no c i k (by omega) (by omega) (pairOk_no (by omega) ‹_› ‹_› ‹_› ‹_› ‹_› (by first | assumption | exact agree_no1 (by omega) | exact agree_no2 (by omega) | exact agree_no3 (by omega) | exact agree_no4 (by omega)))], rfl⟩, (.le fun a => by (try simp only [setR, List.cons_append, List.nil_append]); simp only [List.flatten_append, List.flatten_cons, List.flatten_nil, List.count_append, List.count_nil, List.append_nil, List.nil_append]; omega)⟩
                  ·
                    simp at q16
                    apply loop_stepA (k + 1)
                    · exact .refl _
                    · repeat' (first | exact trivial | refine ⟨⟨_, rfl, by first | rfl | exact inc_eq _ (by omega) | (refine sl_eq ?_; simp; done), by first | exact trivial | simp [SV.ok]⟩, ?_⟩)
                    · exact ⟨rfl, rfl, trivial⟩
                    · exact ⟨by omega, by unfold rowOk pairOk; rw [hK, ‹agree _ _ i k = true›]; simp⟩
                    · omega
                ·
                  simp at q14
                  apply loop_stepA (k + 1)
                  · exact .refl _
                  · repeat' (first | exact trivial | refine ⟨⟨_, rfl, by first | rfl | exact inc_eq _ (by omega) | (refine sl_eq ?_; simp; done), by first | exact trivial | simp [SV.ok]⟩, ?_⟩)
                  · exact ⟨rfl, rfl, trivial⟩
                  · exact ⟨by omega, by unfold rowOk pairOk together nodeAt; simp_all⟩
                  · omega
              ·
                simp at q13
                apply loop_stepA (k + 1)
                · exact .refl _
                · repeat' (first | exact trivial | refine ⟨⟨_, rfl, by first | rfl | exact inc_eq _ (by omega) | (refine sl_eq ?_; simp; done), by first | exact trivial | simp [SV.ok]⟩, ?_⟩)
                · exact ⟨rfl, rfl, trivial⟩
                · exact ⟨by omega, by unfold rowOk pairOk; rw [hK, decide_eq_true (by omega : i = k)]; rfl⟩
                · omega
            ·
              refine VCsplit.intro (fun q17 => ?_) (fun q17 => ?_)
              ·
                simp at q17
                apply loop_stepA (k + 1)
                · exact .refl _
                · repeat' (first | exact trivial | refine ⟨⟨_, rfl, by first | rfl | exact inc_eq _ (by omega) | (refine sl_eq ?_; simp; done), by first | exact trivial | simp [SV.ok]⟩, ?_⟩)
                · exact ⟨rfl, rfl, trivial⟩
                · exact ⟨by omega, by unfold rowOk pairOk together nodeAt; simp_all⟩
                · omega
              ·
                simp at q17
                apply loop_stepA (k + 1)
                · exact .refl _
                · repeat' (first | exact trivial | refine ⟨⟨_, rfl, by first | rfl | exact inc_eq _ (by omega) | (refine sl_eq ?_; simp; done), by first | exact trivial | simp [SV.ok]⟩, ?_⟩)
                · exact ⟨rfl, rfl, trivial⟩
                · exact ⟨by omega, by unfold rowOk pairOk together nodeAt; simp_all⟩
                · omega
          ·
            refine VCsplit.intro (fun q18 => ?_) (fun q18 => ?_)
            ·
              simp at q18
              apply loop_stepA (k + 1)
              · exact .refl _
              · repeat' (first | exact trivial | refine ⟨⟨_, rfl, by first | rfl | exact inc_eq _ (by omega) | (refine sl_eq ?_; simp; done), by first | exact trivial | simp [SV.ok]⟩, ?_⟩)
              · exact ⟨rfl, rfl, trivial⟩
              · exact ⟨by omega, by unfold rowOk pairOk together nodeAt; simp_all⟩
              · omega
            ·
              simp at q18
              apply loop_stepA (k + 1)
              · exact .refl _
              · repeat' (first | exact trivial | refine ⟨⟨_, rfl, by first | rfl | exact inc_eq _ (by omega) | (refine sl_eq ?_; simp; done), by first | exact trivial | simp [SV.ok]⟩, ?_⟩)
              · exact ⟨rfl, rfl, trivial⟩
              · exact ⟨by omega, by unfold rowOk pairOk together nodeAt; simp_all⟩
              · omega
        ·
          refine VCsplit.intro (fun q19 => ?_) (fun q19 => ?_)
          ·
            simp at q19
            apply loop_stepA (k + 1)
            · exact .refl _
            · repeat' (first | exact trivial | refine ⟨⟨_, rfl, by first | rfl | exact inc_eq _ (by omega) | (refine sl_eq ?_; simp; done), by first | exact trivial | simp [SV.ok]⟩, ?_⟩)
            · exact ⟨rfl, rfl, trivial⟩
            · exact ⟨by omega, by unfold rowOk pairOk together nodeAt; simp_all⟩
            · omega
          ·
            simp at q19
            apply loop_stepA (k + 1)
            · exact .refl _
            · repeat' (first | exact trivial | refine ⟨⟨_, rfl, by first | rfl | exact inc_eq _ (by omega) | (refine sl_eq ?_; simp; done), by first | exact trivial | simp [SV.ok]⟩, ?_⟩)
            · exact ⟨rfl, rfl, trivial⟩
            · exact ⟨by omega, by unfold rowOk pairOk together nodeAt; simp_all⟩
            · omega
      ·
        refine VCsplit.intro (fun q20 => ?_) (fun q20 => ?_)
        ·
          simp at q20
          apply loop_stepA (k + 1)
          · exact .refl _
          · repeat' (first | exact trivial | refine ⟨⟨_, rfl, by first | rfl | exact inc_eq _ (by omega) | (refine sl_eq ?_; simp; done), by first | exact trivial | simp [SV.ok]⟩, ?_⟩)
          · exact ⟨rfl, rfl, trivial⟩
          · exact ⟨by omega, by unfold rowOk pairOk together nodeAt; simp_all⟩
          · omega
        ·
          simp at q20
          apply loop_stepA (k + 1)
          · exact .refl _
          · repeat' (first | exact trivial | refine ⟨⟨_, rfl, by first | rfl | exact inc_eq _ (by omega) | (refine sl_eq ?_; simp; done), by first | exact trivial | simp [SV.ok]⟩, ?_⟩)
          · exact ⟨rfl, rfl, trivial⟩
          · exact ⟨by omega, by unfold rowOk pairOk together nodeAt; simp_all⟩
          · omega
    ·
      simp at q5
      obtain rfl : k = c.nodes.length := by omega
      apply loop_stepA (i + 1)
      · exact .refl _
      · repeat' (first | exact trivial | refine ⟨⟨_, rfl, by first | rfl | exact inc_eq _ (by omega) | (refine sl_eq ?_; simp; done), by first | exact trivial | simp [SV.ok]⟩, ?_⟩)
      · exact ⟨rfl, trivial⟩
      · exact ⟨by omega, by unfold rowsOk; rw [hI, hK]; rfl⟩
      · omega
  ·
    simp at q1
    obtain rfl : i = c.nodes.length := by omega
    exact ⟨[], ⟨by unfold linksRight; rw [hI], rfl⟩, (.le fun a => by (try simp only [setR, List.cons_append, List.nil_append]); simp only [List.flatten_append, List.flatten_cons, List.flatten_nil, List.count_append, List.count_nil, List.append_nil, List.nil_append]; omega)⟩

--@ct spec.LinksRight val specLinksRight_ct _ $1 | %1
theorem specLinksRight_ct (l : List Value) (c : Cluster) : Ct Try.prog 33 [.agg ⟨l⟩] [] (fun H => gCluster.rd H l c) (fun v A => v = .bool (linksRight c) ∧ A = []) := by
  refine Ct.intro0 G_ok Try.func33 rfl rfl rfl fun E H hp => ?_
  obtain ⟨l0p, b1p, c1p, b2p, c2p, b3p, c3p, b4p, c4p, rfl, h0p, h1p, h2p, h3p, h4p⟩ := gCluster_rd.1 hp
  obtain ⟨b1_0p, c1_0p, b2_0p, c2_0p, b3_0p, c3_0p, rfl, h1_0p, h2_0p, h3_0p⟩ := gQuery_rd.1 h0p
  have hl := (rd_len h1p).2
  refine VCnew.intro fun x0 => ?_
  apply loop_mod (α := (Nat)) G_ok [8, 9, 10, 11, 12, 4, 15, 16, 17, 18, 19, 22, 23, 24, 25, 26, 5, 27, 28, 29, 30, 31, 6, 32, 33, 34, 35, 36, 37, 38, 39, 40, 41, 42, 43, 44, 45, 46, 47, 48, 49, 50, 51, 52, 53, 54, 55, 56, 57, 58, 59, 60, 61, 62, 63, 64, 65, 66, 67, 68, 69, 70, 71, 72, 73, 2, 74, 75, 76, 77, 78, 79, 7, 80, 81, 82, 83, 84, 85, 86, 87, 88, 89, 90, 91, 92, 93, 94, 95, 96, 97, 98, 20, 21, 13, 14, 3] (fun z => [(3, .v (.int .i64 z))]) (fun z => [{ id := x0, cs := [Value.bool c.query.each, Value.slice b1_0p c.query.out.length c1_0p, Value.slice b2_0p c.query.atoms.length c2_0p, Value.slice b3_0p c.query.filters.length c3_0p] ++ [Value.slice b1p c.nodes.length c1p, Value.slice b2p c.net.length c2p, Value.slice b3p c.codes.length c3p, Value.slice b4p c.replies.length c4p], ty := (77 : Nat) }]) (fun z => [H]) (fun z => c.nodes.length - z) (fun z => z ≤ c.nodes.length ∧ rowsOk c z = true) (0)
  · repeat' (first | exact trivial | refine ⟨⟨_, rfl, by first | rfl | exact inc_eq _ (by omega) | (refine sl_eq ?_; simp; done), by first | exact trivial | simp [SV.ok]⟩, ?_⟩)
  · exact ⟨rfl, trivial⟩
  · exact ⟨by omega, rfl⟩
  · exact .refl _
  rintro i hI
  obtain ⟨hi, hI⟩ : i ≤ c.nodes.length ∧ rowsOk c i = true := hI
  try dsimp only
  refine VCsplit.intro (fun q1 => ?_) (fun q1 => ?_)
  ·
    simp at q1
    apply loop_mod (α := (Nat)) G_ok [15, 16, 17, 18, 19, 22, 23, 24, 25, 26, 5, 27, 28, 29, 30, 31, 6, 32, 33, 34, 35, 36, 37, 38, 39, 40, 41, 42, 43, 44, 45, 46, 47, 48, 49, 50, 51, 52, 53, 54, 55, 56, 57, 58, 59, 60, 61, 62, 63, 64, 65, 66, 67, 68, 69, 70, 71, 72, 73, 2, 74, 75, 76, 77, 78, 79, 7, 80, 81, 82, 83, 84, 85, 86, 87, 88, 89, 90, 91, 92, 93, 94, 95, 96, 97, 98, 20, 21, 4] (fun z => [(4, .v (.int .i64 z))]) (fun z => [{ id := x0, cs := [Value.bool c.query.each, Value.slice b1_0p c.query.out.length c1_0p, Value.slice b2_0p c.query.atoms.length c2_0p, Value.slice b3_0p c.query.filters.length c3_0p] ++ [Value.slice b1p c.nodes.length c1p, Value.slice b2p c.net.length c2p, Value.slice b3p c.codes.length c3p, Value.slice b4p c.replies.length c4p], ty := (77 : Nat) }]) (fun z => [H]) (fun z => c.nodes.length - z) (fun z => z ≤ c.nodes.length ∧ rowOk c i z = true) (0)
    · repeat' (first | exact trivial | refine ⟨⟨_, rfl, by first | rfl | exact inc_eq _ (by omega) | (refine sl_eq ?_; simp; done), by first | exact trivial | simp [SV.ok]⟩, ?_⟩)
    · exact ⟨rfl, trivial⟩
    · exact ⟨by omega, rfl⟩
    · exact .refl _
    rintro k hI
    obtain ⟨hk, hK⟩ : k ≤ c.nodes.length ∧ rowOk c i k = true := hI
    try dsimp only
    refine VCsplit.intro (fun q2 => ?_) (fun q2 => ?_)
    ·
      simp at q2
      refine idx_rd h1p ?_ ?_ fun b3 o3 hb3 => ?_
      · omega
      · omega
      refine load_allN default (i) rfl h1p ?_ ?_ hb3 rfl (mem_at 0 rfl) fun l4 hl4 => ?_
      · omega
      · omega
      obtain ⟨l2x4, b5x4, c5x4, l6x4, l7x4, rfl, w0x4, h2x4, w3x4, h5x4, h6x4, h7x4⟩ := gNode_rd.1 hl4 ; obtain ⟨b0_2x4, c0_2x4, rfl, h0_2x4⟩ := gDisk_rd.1 h2x4 ; obtain ⟨l1_6x4, b2_6x4, c2_6x4, b4_6x4, c4_6x4, l11_6x4, b13_6x4, c13_6x4, rfl, h1_6x4, h2_6x4, w3_6x4, h4_6x4, w5_6x4, w8_6x4, h11_6x4, h13_6x4⟩ := gWork_rd.1 h6x4 ; obtain ⟨b1_1_6x4, c1_1_6x4, b2_1_6x4, c2_1_6x4, b3_1_6x4, c3_1_6x4, rfl, h1_1_6x4, h2_1_6x4, h3_1_6x4⟩ := gQuery_rd.1 h1_6x4 ; obtain ⟨l0_11_6x4, b1_11_6x4, c1_11_6x4, b4_11_6x4, c4_11_6x4, rfl, h0_11_6x4, h1_11_6x4, w2_11_6x4, w3_11_6x4, h4_11_6x4⟩ := gCell_rd.1 h11_6x4 ; obtain ⟨b1_0_11_6x4, c1_0_11_6x4, b2_0_11_6x4, c2_0_11_6x4, b3_0_11_6x4, c3_0_11_6x4, rfl, h1_0_11_6x4, h2_0_11_6x4, h3_0_11_6x4⟩ := gQuery_rd.1 h0_11_6x4 ; obtain ⟨l1_7x4, b2_7x4, c2_7x4, b4_7x4, c4_7x4, l6_7x4, rfl, h1_7x4, h2_7x4, w3_7x4, h4_7x4, h6_7x4⟩ := gAsk_rd.1 h7x4 ; obtain ⟨b1_1_7x4, c1_1_7x4, b2_1_7x4, c2_1_7x4, b3_1_7x4, c3_1_7x4, rfl, h1_1_7x4, h2_1_7x4, h3_1_7x4⟩ := gQuery_rd.1 h1_7x4 ; obtain ⟨b0_6_7x4, c0_6_7x4, rfl, h0_6_7x4⟩ := gBag_rd.1 h6_7x4
      refine VCnew.intro fun x5 => ?_
      refine idx_rd h1p ?_ ?_ fun b6 o6 hb6 => ?_
      · omega
      · omega
      refine load_allN default (k) rfl h1p ?_ ?_ hb6 rfl (mem_at 0 rfl) fun l7 hl7 => ?_
      · omega
      · omega
      obtain ⟨l2x7, b5x7, c5x7, l6x7, l7x7, rfl, w0x7, h2x7, w3x7, h5x7, h6x7, h7x7⟩ := gNode_rd.1 hl7 ; obtain ⟨b0_2x7, c0_2x7, rfl, h0_2x7⟩ := gDisk_rd.1 h2x7 ; obtain ⟨l1_6x7, b2_6x7, c2_6x7, b4_6x7, c4_6x7, l11_6x7, b13_6x7, c13_6x7, rfl, h1_6x7, h2_6x7, w3_6x7, h4_6x7, w5_6x7, w8_6x7, h11_6x7, h13_6x7⟩ := gWork_rd.1 h6x7 ; obtain ⟨b1_1_6x7, c1_1_6x7, b2_1_6x7, c2_1_6x7, b3_1_6x7, c3_1_6x7, rfl, h1_1_6x7, h2_1_6x7, h3_1_6x7⟩ := gQuery_rd.1 h1_6x7 ; obtain ⟨l0_11_6x7, b1_11_6x7, c1_11_6x7, b4_11_6x7, c4_11_6x7, rfl, h0_11_6x7, h1_11_6x7, w2_11_6x7, w3_11_6x7, h4_11_6x7⟩ := gCell_rd.1 h11_6x7 ; obtain ⟨b1_0_11_6x7, c1_0_11_6x7, b2_0_11_6x7, c2_0_11_6x7, b3_0_11_6x7, c3_0_11_6x7, rfl, h1_0_11_6x7, h2_0_11_6x7, h3_0_11_6x7⟩ := gQuery_rd.1 h0_11_6x7 ; obtain ⟨l1_7x7, b2_7x7, c2_7x7, b4_7x7, c4_7x7, l6_7x7, rfl, h1_7x7, h2_7x7, w3_7x7, h4_7x7, h6_7x7⟩ := gAsk_rd.1 h7x7 ; obtain ⟨b1_1_7x7, c1_1_7x7, b2_1_7x7, c2_1_7x7, b3_1_7x7, c3_1_7x7, rfl, h1_1_7x7, h2_1_7x7, h3_1_7x7⟩ := gQuery_rd.1 h1_7x7 ; obtain ⟨b0_6_7x7, c0_6_7x7, rfl, h0_6_7x7⟩ := gBag_rd.1 h6_7x7
      refine VCnew.intro fun x8 => ?_
      refine VCsplit.intro (fun q9 => ?_) (fun q9 => ?_)
      ·
        simp at q9
        apply loop_stepA (k + 1)
        · exact .refl _
        · repeat' (first | exact trivial | refine ⟨⟨_, rfl, by first | rfl | exact inc_eq _ (by omega) | (refine sl_eq ?_; simp; done), by first | exact trivial | simp [SV.ok]⟩, ?_⟩)
        · exact ⟨rfl, trivial⟩
        · exact ⟨by omega, by unfold rowOk pairOk; rw [hK, decide_eq_true (by omega : i = k)]; rfl⟩
        · omega
      ·
        simp at q9
        refine VCsplit.intro (fun q10 => ?_) (fun q10 => ?_)
        ·
          simp at q10
          apply loop_stepA (k + 1)
          · exact .refl _
          · repeat' (first | exact trivial | refine ⟨⟨_, rfl, by first | rfl | exact inc_eq _ (by omega) | (refine sl_eq ?_; simp; done), by first | exact trivial | simp [SV.ok]⟩, ?_⟩)
          · exact ⟨rfl, trivial⟩
          · exact ⟨by omega, by unfold rowOk pairOk together nodeAt; simp_all⟩
          · omega
        ·
          simp at q10
          refine VCsplit.intro (fun q11 => ?_) (fun q11 => ?_)
          ·
            simp at q11
            apply loop_stepA (k + 1)
            · exact .refl _
            · repeat' (first | exact trivial | refine ⟨⟨_, rfl, by first | rfl | exact inc_eq _ (by omega) | (refine sl_eq ?_; simp; done), by first | exact trivial | simp [SV.ok]⟩, ?_⟩)
            · exact ⟨rfl, trivial⟩
            · exact ⟨by omega, by unfold rowOk pairOk together nodeAt; simp_all⟩
            · omega
          ·
            simp at q11
            refine VCsplit.intro (fun q12 => ?_) (fun q12 => ?_)
            ·
              simp at q12
              apply loop_stepA (k + 1)
              · exact .refl _
              · repeat' (first | exact trivial | refine ⟨⟨_, rfl, by first | rfl | exact inc_eq _ (by omega) | (refine sl_eq ?_; simp; done), by first | exact trivial | simp [SV.ok]⟩, ?_⟩)
              · exact ⟨rfl, trivial⟩
              · exact ⟨by omega, by unfold rowOk pairOk together nodeAt; simp_all⟩
              · omega
            ·
              simp at q12
              refine VCsplit.intro (fun q13 => ?_) (fun q13 => ?_)
              ·
                simp at q13
                apply loop_stepA (k + 1)
                · exact .refl _
                · repeat' (first | exact trivial | refine ⟨⟨_, rfl, by first | rfl | exact inc_eq _ (by omega) | (refine sl_eq ?_; simp; done), by first | exact trivial | simp [SV.ok]⟩, ?_⟩)
                · exact ⟨rfl, trivial⟩
                · exact ⟨by omega, by unfold rowOk pairOk together nodeAt; simp_all⟩
                · omega
              ·
                simp at q13
                refine VCsplit.intro (fun q14 => ?_) (fun q14 => ?_)
                ·
                  simp at q14
                  apply loop_stepA (k + 1)
                  · exact .refl _
                  · repeat' (first | exact trivial | refine ⟨⟨_, rfl, by first | rfl | exact inc_eq _ (by omega) | (refine sl_eq ?_; simp; done), by first | exact trivial | simp [SV.ok]⟩, ?_⟩)
                  · exact ⟨rfl, trivial⟩
                  · exact ⟨by omega, by unfold rowOk pairOk together nodeAt; simp_all⟩
                  · omega
                ·
                  simp at q14
                  refine VCsplit.intro (fun q15 => ?_) (fun q15 => ?_)
                  ·
                    simp at q15
                    exact ⟨[], ⟨by rw [linksRight_no c i k (by omega) (by omega) (pairOk_no (by omega) ‹_› ‹_› ‹_› ‹_› ‹_› (by first | assumption | exact agree_no1 (by omega) | exact agree_no2 (by omega) | exact agree_no3 (by omega) | exact agree_no4 (by omega)))], rfl⟩, (.le fun a => by (try simp only [setR, List.cons_append, List.nil_append]); simp only [List.flatten_append, List.flatten_cons, List.flatten_nil, List.count_append, List.count_nil, List.append_nil, List.nil_append]; omega)⟩
                  ·
                    simp at q15
                    refine VCsplit.intro (fun q16 => ?_) (fun q16 => ?_)
                    ·
                      simp at q16
                      exact ⟨[], ⟨by rw [linksRight_no c i k (by omega) (by omega) (pairOk_no (by omega) ‹_› ‹_› ‹_› ‹_› ‹_› (by first | assumption | exact agree_no1 (by omega) | exact agree_no2 (by omega) | exact agree_no3 (by omega) | exact agree_no4 (by omega)))], rfl⟩, (.le fun a => by (try simp only [setR, List.cons_append, List.nil_append]); simp only [List.flatten_append, List.flatten_cons, List.flatten_nil, List.count_append, List.count_nil, List.append_nil, List.nil_append]; omega)⟩
                    ·
                      simp at q16
                      refine idx_rd h5x7 ?_ ?_ fun b17 o17 hb17 => ?_
                      · omega
                      · omega
                      refine load_partN default (i) 2 rfl h5x7 ?_ ?_ hb17 rfl (by decide) (mem_at 0 rfl) fun l18 hl18 => ?_
                      · omega
                      · omega
                      obtain ⟨b0x18, c0x18, rfl, h0x18, w1x18, w2x18⟩ := gLink_rd.1 hl18
                      refine idx_rd h5x4 ?_ ?_ fun b19 o19 hb19 => ?_
                      · omega
                      · omega
                      refine load_partN default (k) 0 rfl h5x4 ?_ ?_ hb19 rfl (by decide) (mem_at 0 rfl) fun l20 hl20 => ?_
                      · omega
                      · omega
                      obtain ⟨b0x20, c0x20, rfl, h0x20, w1x20, w2x20⟩ := gLink_rd.1 hl20
                      refine VCsplit.intro (fun q21 => ?_) (fun q21 => ?_)
                      ·
                        simp at q21
                        exact ⟨[], ⟨by rw [linksRight_no c i k (by omega) (by omega) (pairOk_no (by omega) ‹_› ‹_› ‹_› ‹_› ‹_› (by first | assumption | exact agree_no1 (by omega) | exact agree_no2 (by omega) | exact agree_no3 (by omega) | exact agree_no4 (by omega)))], rfl⟩, (.le fun a => by (try simp only [setR, List.cons_append, List.nil_append]); simp only [List.flatten_append, List.flatten_cons, List.flatten_nil, List.count_append, List.count_nil, List.append_nil, List.nil_append]; omega)⟩
                      ·
                        simp at q21
                        refine idx_rd h5x4 ?_ ?_ fun b22 o22 hb22 => ?_
                        · omega
                        · omega
                        refine load_partN default (k) 1 rfl h5x4 ?_ ?_ hb22 rfl (by decide) (mem_at 0 rfl) fun l23 hl23 => ?_
                        · omega
                        · omega
                        obtain ⟨b0x23, c0x23, rfl, h0x23, w1x23, w2x23⟩ := gLink_rd.1 hl23
                        refine VCsplit.intro (fun q24 => ?_) (fun q24 => ?_)
                        ·
                          simp at q24
                          exact ⟨[], ⟨by rw [linksRight_no c i k (by omega) (by omega) (pairOk_no (by omega) ‹_› ‹_› ‹_› ‹_› ‹_› (by first | assumption | exact agree_no1 (by omega) | exact agree_no2 (by omega) | exact agree_no3 (by omega) | exact agree_no4 (by omega)))], rfl⟩, (.le fun a => by (try simp only [setR, List.cons_append, List.nil_append]); simp only [List.flatten_append, List.flatten_cons, List.flatten_nil, List.count_append, List.count_nil, List.append_nil, List.nil_append]; omega)⟩
                        ·
                          simp at q24
                          apply loop_stepA (k + 1)
                          · exact .refl _
                          · repeat' (first | exact trivial | refine ⟨⟨_, rfl, by first | rfl | exact inc_eq _ (by omega) | (refine sl_eq ?_; simp; done), by first | exact trivial | simp [SV.ok]⟩, ?_⟩)
                          · exact ⟨rfl, trivial⟩
                          · exact ⟨by omega, by unfold rowOk pairOk; rw [hK, agree_yes (by omega) (by omega) (by omega) (by omega)]; simp⟩
                          · omega
    ·
      simp at q2
      obtain rfl : k = c.nodes.length := by omega
      apply loop_stepA (i + 1)
      · exact .refl _
      · repeat' (first | exact trivial | refine ⟨⟨_, rfl, by first | rfl | exact inc_eq _ (by omega) | (refine sl_eq ?_; simp; done), by first | exact trivial | simp [SV.ok]⟩, ?_⟩)
      · exact ⟨rfl, trivial⟩
      · exact ⟨by omega, by unfold rowsOk; rw [hI, hK]; rfl⟩
      · omega
  ·
    simp at q1
    obtain rfl : i = c.nodes.length := by omega
    exact ⟨[], ⟨by unfold linksRight; rw [hI], rfl⟩, (.le fun a => by (try simp only [setR, List.cons_append, List.nil_append]); simp only [List.flatten_append, List.flatten_cons, List.flatten_nil, List.count_append, List.count_nil, List.append_nil, List.nil_append]; omega)⟩

end Go.Proofs.Ytbgfddlnlcgbiaa
