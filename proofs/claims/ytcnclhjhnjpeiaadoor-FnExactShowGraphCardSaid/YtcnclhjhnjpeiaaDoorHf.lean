/-
  The order of edges, valid graphs, on both sides. Conditions: none.
-/
import Derived.Test.YtcnclhjhnjpeiaaDoorHh
namespace Go.Proofs.YtcnclhjhnjpeiaaDoor
open Go.SX Go.Proofs
set_option linter.unusedSimpArgs false
set_option linter.unusedVariables false
set_option maxHeartbeats 4000000
attribute [local irreducible] IntKind.wrap

def edgeLess (a b : Edge) : Bool :=
  if a.from' = b.from' then if a.label = b.label then decide (a.to < b.to) else decide (a.label.toNat < b.label.toNat) else decide (a.from' < b.from')
def cmpE (a b : Edge) : Int := if a.label ≠ b.label ∧ a.from' = b.from' then (a.label.toNat : Int) - b.label.toNat else cmpL [a.from', a.to] [b.from', b.to]
theorem cmpE_lt (a b : Edge) : decide (cmpE a b < 0) = edgeLess a b := by
  unfold cmpE edgeLess
  by_cases h1 : a.from' = b.from' <;> by_cases h2 : a.label = b.label
  · rw [if_neg (by simp [h2]), if_pos h1, if_pos h2, h1]
    simp only [cmpL, Int.lt_irrefl, if_false]
    by_cases h3 : a.to < b.to <;> by_cases h4 : b.to < a.to <;> simp [h3, h4]
  · rw [if_pos ⟨h2, h1⟩, if_pos h1, if_neg h2, decide_eq_decide]; omega
  · rw [if_neg (by simp [h1]), if_neg h1]
    simp only [cmpL]
    by_cases h3 : a.from' < b.from' <;> by_cases h4 : b.from' < a.from' <;> simp [h3, h4]; omega
  · rw [if_neg (by simp [h1]), if_neg h1]
    simp only [cmpL]
    by_cases h3 : a.from' < b.from' <;> by_cases h4 : b.from' < a.from' <;> simp [h3, h4]; omega

--@ct impl.compareEdges val compareEdges_ct _ _ $1 $2 | ⟨%1, %2⟩
theorem compareEdges_ct (l1 l2 : List Value) (a b : Edge) :
    Ct Tryd.prog 61 [.agg ⟨l1⟩, .agg ⟨l2⟩] [] (fun H => gEdge.rd H l1 a ∧ gEdge.rd H l2 b) (fun v A => v = .int .i64 (cmpE a b) ∧ A = []) := by
  refine Ct.intro0 G_ok Tryd.func61 rfl rfl rfl fun E H hp => ?_
  obtain ⟨hp1, hp2⟩ := hp
  obtain ⟨rfl, wa, wb⟩ := gEdge_rd.1 hp1
  obtain ⟨rfl, wc, wd⟩ := gEdge_rd.1 hp2
  refine VCnew.intro fun x0 => ?_
  refine VCnew.intro fun x1 => ?_
  refine VCsplit.intro (fun q2 => ?_) (fun q2 => ?_)
  ·
    simp at q2
    simp only [str_inj, u8_inj, u8_wrap] at q2
    refine VCsplit.intro (fun q3 => ?_) (fun q3 => ?_)
    ·
      simp at q3
      exact ⟨[], ⟨by unfold cmpE; rw [if_pos ⟨by assumption, by assumption⟩]; have h1 := a.label.toNat_lt; have h2 := b.label.toNat_lt; simp (disch := omega) only [wrap_of], rfl⟩, (.le fun a => by (try simp only [setR, List.cons_append, List.nil_append]); simp only [List.flatten_append, List.flatten_cons, List.flatten_nil, List.count_append, List.count_nil, List.append_nil, List.nil_append]; omega)⟩
    ·
      simp at q3
      refine VCnew.intro fun x4 => ?_
      refine VCnew.intro fun x5 => ?_
      refine call_val (sCompare_ct _ _ _ _ _ _ ([a.from', a.to]) ([b.from', b.to])) ⟨(Rp.mono _ (mem_at 1 rfl) (Ow.rd (Ow.lit (f := flInt) (T := (3 : TypeId)) (b := x4) (xs := [a.from', a.to]) (by first | (simp [flInt, okI]; done) | (simp only [List.forall_mem_cons]; simp_all [flInt, okI])) (by simp)))), (Rp.mono _ (mem_at 0 rfl) (Ow.rd (Ow.lit (f := flInt) (T := (3 : TypeId)) (b := x5) (xs := [b.from', b.to]) (by first | (simp [flInt, okI]; done) | (simp only [List.forall_mem_cons]; simp_all [flInt, okI])) (by simp))))⟩ ?_
      rintro _ rfl
      try dsimp only
      exact ⟨[], ⟨by unfold cmpE; rw [if_neg (by simp_all)], rfl⟩, (.le fun a => by (try simp only [setR, List.cons_append, List.nil_append]); simp only [List.flatten_append, List.flatten_cons, List.flatten_nil, List.count_append, List.count_nil, List.append_nil, List.nil_append]; omega)⟩
  ·
    simp at q2
    simp only [str_inj, u8_inj, u8_wrap] at q2
    refine VCnew.intro fun x7 => ?_
    refine VCnew.intro fun x8 => ?_
    refine call_val (sCompare_ct _ _ _ _ _ _ ([a.from', a.to]) ([b.from', b.to])) ⟨(Rp.mono _ (mem_at 1 rfl) (Ow.rd (Ow.lit (f := flInt) (T := (3 : TypeId)) (b := x7) (xs := [a.from', a.to]) (by first | (simp [flInt, okI]; done) | (simp only [List.forall_mem_cons]; simp_all [flInt, okI])) (by simp)))), (Rp.mono _ (mem_at 0 rfl) (Ow.rd (Ow.lit (f := flInt) (T := (3 : TypeId)) (b := x8) (xs := [b.from', b.to]) (by first | (simp [flInt, okI]; done) | (simp only [List.forall_mem_cons]; simp_all [flInt, okI])) (by simp))))⟩ ?_
    rintro _ rfl
    try dsimp only
    exact ⟨[], ⟨by unfold cmpE; rw [if_neg (by simp_all)], rfl⟩, (.le fun a => by (try simp only [setR, List.cons_append, List.nil_append]); simp only [List.flatten_append, List.flatten_cons, List.flatten_nil, List.count_append, List.count_nil, List.append_nil, List.nil_append]; omega)⟩

--@ct impl.EdgeLess val implEdgeLess_ct _ _ $1 $2 | ⟨%1, %2⟩
theorem implEdgeLess_ct (l1 l2 : List Value) (a b : Edge) :
    Ct Tryd.prog 44 [.agg ⟨l1⟩, .agg ⟨l2⟩] [] (fun H => gEdge.rd H l1 a ∧ gEdge.rd H l2 b) (fun v A => v = .bool (edgeLess a b) ∧ A = []) := by
  refine Ct.intro0 G_ok Tryd.func44 rfl rfl rfl fun E H hp => ?_
  obtain ⟨hp1, hp2⟩ := hp
  obtain ⟨rfl, wa, wb⟩ := gEdge_rd.1 hp1
  obtain ⟨rfl, wc, wd⟩ := gEdge_rd.1 hp2
  refine VCnew.intro fun x0 => ?_
  refine VCnew.intro fun x1 => ?_
  refine call_val (compareEdges_ct _ _ (a) (b)) ⟨(Rp.mono _ (mem_at 0 rfl) hp1), (Rp.mono _ (mem_at 0 rfl) hp2)⟩ ?_
  rintro _ rfl
  exact ⟨[], ⟨by rw [cmpE_lt], rfl⟩, (.le fun a => by (try simp only [setR, List.cons_append, List.nil_append]); simp only [List.flatten_append, List.flatten_cons, List.flatten_nil, List.count_append, List.count_nil, List.append_nil, List.nil_append]; omega)⟩
--@ct spec.EdgeLess val specEdgeLess_ct _ _ $1 $2 | ⟨%1, %2⟩
theorem specEdgeLess_ct (l1 l2 : List Value) (a b : Edge) :
    Ct Tryd.prog 40 [.agg ⟨l1⟩, .agg ⟨l2⟩] [] (fun H => gEdge.rd H l1 a ∧ gEdge.rd H l2 b) (fun v A => v = .bool (edgeLess a b) ∧ A = []) := by
  refine Ct.intro0 G_ok Tryd.func40 rfl rfl rfl fun E H hp => ?_
  obtain ⟨hp1, hp2⟩ := hp
  obtain ⟨rfl, wa, wb⟩ := gEdge_rd.1 hp1
  obtain ⟨rfl, wc, wd⟩ := gEdge_rd.1 hp2
  refine VCnew.intro fun x0 => ?_
  refine VCnew.intro fun x1 => ?_
  refine VCsplit.intro (fun q2 => ?_) (fun q2 => ?_)
  ·
    simp at q2
    exact ⟨[], ⟨by unfold edgeLess; rw [if_neg (by assumption)], rfl⟩, (.le fun a => by (try simp only [setR, List.cons_append, List.nil_append]); simp only [List.flatten_append, List.flatten_cons, List.flatten_nil, List.count_append, List.count_nil, List.append_nil, List.nil_append]; omega)⟩
  ·
    simp at q2
    refine VCsplit.intro (fun q3 => ?_) (fun q3 => ?_)
    ·
      simp at q3
      simp only [str_inj, u8_inj, u8_wrap] at q3
      exact ⟨[], ⟨by unfold edgeLess; rw [if_pos (by assumption), if_neg (by assumption)]; simp, rfl⟩, (.le fun a => by (try simp only [setR, List.cons_append, List.nil_append]); simp only [List.flatten_append, List.flatten_cons, List.flatten_nil, List.count_append, List.count_nil, List.append_nil, List.nil_append]; omega)⟩
    ·
      simp at q3
      simp only [str_inj, u8_inj, u8_wrap] at q3
      exact ⟨[], ⟨by unfold edgeLess; rw [if_pos (by assumption), if_pos (by assumption)], rfl⟩, (.le fun a => by (try simp only [setR, List.cons_append, List.nil_append]); simp only [List.flatten_append, List.flatten_cons, List.flatten_nil, List.count_append, List.count_nil, List.append_nil, List.nil_append]; omega)⟩

def edgeOk (g : Graph) (i : Nat) : Bool :=
  inR 0 (g.size - 1) (g.edges[i]?.getD default).from' && (inR 0 (g.size - 1) (g.edges[i]?.getD default).to && (labelOk (g.edges[i]?.getD default).label && (decide (i = 0) || edgeLess (g.edges[i - 1]?.getD default) (g.edges[i]?.getD default))))
def allOk (g : Graph) : Nat → Bool
  | 0 => true
  | k + 1 => allOk g k && edgeOk g k
def graphOk (g : Graph) : Bool := inR 1 12 g.size && (decide (g.edges.length ≤ 40) && allOk g g.edges.length)
theorem allOk_no (g : Graph) (k : Nat) (h : edgeOk g k = false) : ∀ n, k < n → allOk g n = false
  | 0, h1 => by omega
  | n + 1, h1 => by
    unfold allOk
    rcases Nat.lt_or_ge k n with h2 | h2
    · rw [allOk_no g k h n h2]; rfl
    · rw [show n = k by omega, h]; simp
theorem graphOk_no (g : Graph) (k : Nat) (h1 : k < g.edges.length) (h : edgeOk g k = false) : graphOk g = false := by
  unfold graphOk; rw [allOk_no g k h _ h1]; simp

--@ct impl.isVertex val isVertex_ct _ $1 _ ?_ | %1
theorem isVertex_ct (l : List Value) (g : Graph) (v : Int) (hg : 1 ≤ g.size) : Ct Tryd.prog 42 [.agg ⟨l⟩, .int .i64 v] [] (fun H => gGraph.rd H l g) (fun r A => r = .bool (inR 0 (g.size - 1) v) ∧ A = []) := by
  refine Ct.intro0 G_ok Tryd.func42 rfl rfl rfl fun E H hp => ?_
  obtain ⟨b1, c1, rfl, w0, h1⟩ := gGraph_rd.1 hp
  refine VCnew.intro fun x0 => ?_
  refine VCsplit.intro (fun q1 => ?_) (fun q1 => ?_)
  ·
    simp at q1
    exact ⟨[], ⟨by unfold inR; rw [decide_eq_true (by omega : (0 : Int) ≤ v), Bool.true_and]; congr 1; rw [decide_eq_decide]; omega, rfl⟩, (.le fun a => by (try simp only [setR, List.cons_append, List.nil_append]); simp only [List.flatten_append, List.flatten_cons, List.flatten_nil, List.count_append, List.count_nil, List.append_nil, List.nil_append]; omega)⟩
  ·
    simp at q1
    exact ⟨[], ⟨by unfold inR; rw [decide_eq_false (by omega : ¬ (0 : Int) ≤ v), Bool.false_and], rfl⟩, (.le fun a => by (try simp only [setR, List.cons_append, List.nil_append]); simp only [List.flatten_append, List.flatten_cons, List.flatten_nil, List.count_append, List.count_nil, List.append_nil, List.nil_append]; omega)⟩

--@ct impl.GraphOk val implGraphOk_ct _ $1 | %1
theorem implGraphOk_ct (l : List Value) (g : Graph) : Ct Tryd.prog 23 [.agg ⟨l⟩] [] (fun H => gGraph.rd H l g) (fun v A => v = .bool (graphOk g) ∧ A = []) := by
  refine Ct.intro0 G_ok Tryd.func23 rfl rfl rfl fun E H hp => ?_
  obtain ⟨b1, c1, rfl, w0, h1⟩ := gGraph_rd.1 hp
  refine VCnew.intro fun x0 => ?_
  refine VCsplit.intro (fun q1 => ?_) (fun q1 => ?_)
  ·
    simp at q1
    exact ⟨[], ⟨by unfold graphOk inR; simp; omega, rfl⟩, (.le fun a => by (try simp only [setR, List.cons_append, List.nil_append]); simp only [List.flatten_append, List.flatten_cons, List.flatten_nil, List.count_append, List.count_nil, List.append_nil, List.nil_append]; omega)⟩
  ·
    simp at q1
    refine VCsplit.intro (fun q2 => ?_) (fun q2 => ?_)
    ·
      simp at q2
      exact ⟨[], ⟨by unfold graphOk inR; simp; omega, rfl⟩, (.le fun a => by (try simp only [setR, List.cons_append, List.nil_append]); simp only [List.flatten_append, List.flatten_cons, List.flatten_nil, List.count_append, List.count_nil, List.append_nil, List.nil_append]; omega)⟩
    ·
      simp at q2
      refine VCsplit.intro (fun q3 => ?_) (fun q3 => ?_)
      ·
        simp at q3
        exact ⟨[], ⟨by unfold graphOk inR; simp; omega, rfl⟩, (.le fun a => by (try simp only [setR, List.cons_append, List.nil_append]); simp only [List.flatten_append, List.flatten_cons, List.flatten_nil, List.count_append, List.count_nil, List.append_nil, List.nil_append]; omega)⟩
      ·
        simp at q3
        apply loop_mod (α := (Nat)) G_ok [23, 24, 25, 26, 4, 3, 27, 28, 29, 30, 31, 32, 33, 34, 35, 36, 37, 38, 39, 40, 41, 42, 43, 44, 2, 45, 46, 47, 48, 49, 50, 51, 52, 53, 54, 55, 56, 57, 58, 22] (fun z => [(22, .v (.int .i64 z))]) (fun z => [{ id := x0, cs := [Value.int IntKind.i64 g.size, Value.slice b1 g.edges.length c1], ty := (29 : Nat) }]) (fun z => [H]) (fun z => g.edges.length - z) (fun z => z ≤ g.edges.length ∧ allOk g z = true) (0)
        · repeat' (first | exact trivial | refine ⟨⟨_, rfl, by first | rfl | exact inc_eq _ (by omega) | (refine sl_eq ?_; simp; done), by first | exact trivial | simp [SV.ok]⟩, ?_⟩)
        · exact ⟨rfl, trivial⟩
        · exact ⟨by omega, rfl⟩
        · exact .refl _
        rintro k hI
        obtain ⟨hk, ha⟩ : k ≤ g.edges.length ∧ allOk g k = true := hI
        try dsimp only
        refine VCsplit.intro (fun q4 => ?_) (fun q4 => ?_)
        ·
          simp at q4
          refine idx_rd h1 ?_ ?_ fun b5 o5 hb5 => ?_
          · omega
          · omega
          refine load_allN default (k) rfl h1 ?_ ?_ hb5 rfl (mem_at 0 rfl) fun l6 hl6 => ?_
          · omega
          · omega
          obtain ⟨rfl, w0x6, w2x6⟩ := gEdge_rd.1 hl6
          refine VCnew.intro fun x7 => ?_
          refine call_val (isVertex_ct _ (g) _ ?_) (Rp.mono _ (mem_at 0 rfl) hp) ?_
          · trivial
          rintro _ rfl
          refine VCsplit.intro (fun q9 => ?_) (fun q9 => ?_)
          ·
            simp at q9
            exact ⟨[], ⟨by rw [graphOk_no g k (by omega) (by simp_all [edgeOk])], rfl⟩, (.le fun a => by (try simp only [setR, List.cons_append, List.nil_append]); simp only [List.flatten_append, List.flatten_cons, List.flatten_nil, List.count_append, List.count_nil, List.append_nil, List.nil_append]; omega)⟩
          ·
            simp at q9
            have iq9 := inR_iff.1 q9
            refine call_val (isVertex_ct _ (g) _ ?_) (Rp.mono _ (mem_at 0 rfl) hp) ?_
            · trivial
            rintro _ rfl
            refine VCsplit.intro (fun q11 => ?_) (fun q11 => ?_)
            ·
              simp at q11
              exact ⟨[], ⟨by rw [graphOk_no g k (by omega) (by simp_all [edgeOk])], rfl⟩, (.le fun a => by (try simp only [setR, List.cons_append, List.nil_append]); simp only [List.flatten_append, List.flatten_cons, List.flatten_nil, List.count_append, List.count_nil, List.append_nil, List.nil_append]; omega)⟩
            ·
              simp at q11
              have iq11 := inR_iff.1 q11
              refine call_val (isLabel_ct _) trivial ?_
              rintro _ rfl
              refine VCsplit.intro (fun q13 => ?_) (fun q13 => ?_)
              ·
                simp at q13
                exact ⟨[], ⟨by rw [graphOk_no g k (by omega) (by simp_all [edgeOk])], rfl⟩, (.le fun a => by (try simp only [setR, List.cons_append, List.nil_append]); simp only [List.flatten_append, List.flatten_cons, List.flatten_nil, List.count_append, List.count_nil, List.append_nil, List.nil_append]; omega)⟩
              ·
                simp at q13
                have iq13 := inR_iff.1 q13
                refine draw G_ok mixed none (.q 0 (.q 1 (.q 2 (.q 3 (.q 4 (.q 5 (.q 6 (.q 7 (.q 8 (.q 9 (.f 10 (.q 11 (.q 12 (.nil)))))))))))))) (by decide +kernel) ?_
                refine VCsplit.intro (fun q14 => ?_) (fun q14 => ?_)
                ·
                  simp at q14
                  refine idx_rd h1 ?_ ?_ fun b15 o15 hb15 => ?_
                  · (simp (disch := omega) only [wrap_of]; omega)
                  · (simp (disch := omega) only [wrap_of]; omega)
                  refine load_all default h1 ?_ ?_ hb15 rfl (mem_at 0 rfl) fun l16 hl16 => ?_
                  · (simp (disch := omega) only [wrap_of]; omega)
                  · (simp (disch := omega) only [wrap_of]; omega)
                  rw [show (IntKind.i64.wrap ((k : Int) - 1)).toNat = k - 1 by (simp (disch := omega) only [wrap_of]; omega)] at hl16
                  obtain ⟨rfl, w0x16, w2x16⟩ := gEdge_rd.1 hl16
                  refine call_val (implEdgeLess_ct _ _ (g.edges[k - (1 : Nat)]?.getD default) (g.edges[k]?.getD default)) ⟨(Rp.mono _ (mem_at 0 rfl) hl16), (Rp.mono _ (mem_at 0 rfl) hl6)⟩ ?_
                  rintro _ rfl
                  refine VC.intro ?_ ?_
                  · exact fun _ h => h
                  refine VCsplit.intro (fun q18 => ?_) (fun q18 => ?_)
                  ·
                    simp at q18
                    exact ⟨[], ⟨by rw [graphOk_no g k (by omega) (by unfold edgeOk; rw [‹edgeLess _ _ = false›, decide_eq_false (by omega : ¬ k = 0)]; simp)], rfl⟩, (.le fun a => by (try simp only [setR, List.cons_append, List.nil_append]); simp only [List.flatten_append, List.flatten_cons, List.flatten_nil, List.count_append, List.count_nil, List.append_nil, List.nil_append]; omega)⟩
                  ·
                    simp at q18
                    apply loop_stepA (k + 1)
                    · exact .refl _
                    · repeat' (first | exact trivial | refine ⟨⟨_, rfl, by first | rfl | exact inc_eq _ (by omega) | (refine sl_eq ?_; simp; done), by first | exact trivial | simp [SV.ok]⟩, ?_⟩)
                    · exact ⟨rfl, trivial⟩
                    · exact ⟨by omega, by simp_all [allOk, edgeOk]⟩
                    · omega
                ·
                  simp at q14
                  apply loop_stepA (k + 1)
                  · exact .refl _
                  · repeat' (first | exact trivial | refine ⟨⟨_, rfl, by first | rfl | exact inc_eq _ (by omega) | (refine sl_eq ?_; simp; done), by first | exact trivial | simp [SV.ok]⟩, ?_⟩)
                  · exact ⟨rfl, trivial⟩
                  · exact ⟨by omega, by simp_all [allOk, edgeOk]⟩
                  · omega
        ·
          simp at q4
          obtain rfl : k = g.edges.length := by omega
          exact ⟨[], ⟨by unfold graphOk inR; simp_all; omega, rfl⟩, (.le fun a => by (try simp only [setR, List.cons_append, List.nil_append]); simp only [List.flatten_append, List.flatten_cons, List.flatten_nil, List.count_append, List.count_nil, List.append_nil, List.nil_append]; omega)⟩

--@ct spec.GraphOk val specGraphOk_ct _ $1 | %1
theorem specGraphOk_ct (l : List Value) (g : Graph) : Ct Tryd.prog 21 [.agg ⟨l⟩] [] (fun H => gGraph.rd H l g) (fun v A => v = .bool (graphOk g) ∧ A = []) := by
  refine Ct.intro0 G_ok Tryd.func21 rfl rfl rfl fun E H hp => ?_
  obtain ⟨b1, c1, rfl, w0, h1⟩ := gGraph_rd.1 hp
  refine VCnew.intro fun x0 => ?_
  refine call_val (l01In_ct _ _ _) trivial ?_
  rintro _ rfl
  refine VCsplit.intro (fun q2 => ?_) (fun q2 => ?_)
  ·
    simp at q2
    exact ⟨[], ⟨by unfold graphOk; simp_all, rfl⟩, (.le fun a => by (try simp only [setR, List.cons_append, List.nil_append]); simp only [List.flatten_append, List.flatten_cons, List.flatten_nil, List.count_append, List.count_nil, List.append_nil, List.nil_append]; omega)⟩
  ·
    simp at q2
    have iq2 := inR_iff.1 q2
    refine VCsplit.intro (fun q3 => ?_) (fun q3 => ?_)
    ·
      simp at q3
      exact ⟨[], ⟨by unfold graphOk inR; simp; omega, rfl⟩, (.le fun a => by (try simp only [setR, List.cons_append, List.nil_append]); simp only [List.flatten_append, List.flatten_cons, List.flatten_nil, List.count_append, List.count_nil, List.append_nil, List.nil_append]; omega)⟩
    ·
      simp at q3
      apply loop_mod (α := (Nat)) G_ok [15, 16, 17, 18, 19, 22, 23, 24, 25, 26, 4, 27, 28, 29, 30, 31, 32, 33, 34, 35, 36, 37, 38, 39, 40, 41, 42, 43, 44, 45, 46, 47, 48, 49, 50, 51, 52, 53, 54, 55, 56, 57, 58, 59, 60, 61, 62, 63, 64, 65, 66, 67, 2, 20, 21, 3] (fun z => [(3, .v (.int .i64 z))]) (fun z => [{ id := x0, cs := [Value.int IntKind.i64 g.size, Value.slice b1 g.edges.length c1], ty := (29 : Nat) }]) (fun z => [H]) (fun z => g.edges.length - z) (fun z => z ≤ g.edges.length ∧ allOk g z = true) (0)
      · repeat' (first | exact trivial | refine ⟨⟨_, rfl, by first | rfl | exact inc_eq _ (by omega) | (refine sl_eq ?_; simp; done), by first | exact trivial | simp [SV.ok]⟩, ?_⟩)
      · exact ⟨rfl, trivial⟩
      · exact ⟨by omega, rfl⟩
      · exact .refl _
      rintro k hI
      obtain ⟨hk, ha⟩ : k ≤ g.edges.length ∧ allOk g k = true := hI
      try dsimp only
      refine VCsplit.intro (fun q4 => ?_) (fun q4 => ?_)
      ·
        simp at q4
        refine idx_rd h1 ?_ ?_ fun b5 o5 hb5 => ?_
        · omega
        · omega
        refine load_allN default (k) rfl h1 ?_ ?_ hb5 rfl (mem_at 0 rfl) fun l6 hl6 => ?_
        · omega
        · omega
        obtain ⟨rfl, w0x6, w2x6⟩ := gEdge_rd.1 hl6
        refine VCnew.intro fun x7 => ?_
        refine draw G_ok mixed none (.q 0 (.q 1 (.q 2 (.q 3 (.q 4 (.f 5 (.q 6 (.q 7 (.q 8 (.q 9 (.q 10 (.q 11 (.q 12 (.f 13 (.q 14 (.q 15 (.q 16 (.q 17 (.q 18 (.q 19 (.q 20 (.q 21 (.q 22 (.q 23 (.q 24 (.q 25 (.q 26 (.q 27 (.q 28 (.q 29 (.q 30 (.q 31 (.q 32 (.q 33 (.q 34 (.q 35 (.q 36 (.f 37 (.q 38 (.q 39 (.q 40 (.nil)))))))))))))))))))))))))))))))))))))))))) (by decide +kernel) ?_
        refine call_val (l01In_ct _ _ _) trivial ?_
        rintro _ rfl
        refine VC.intro ?_ ?_
        · exact fun _ h => h
        refine VCsplit.intro (fun q9 => ?_) (fun q9 => ?_)
        ·
          simp at q9
          simp (disch := omega) only [wrap_of] at q9
          exact ⟨[], ⟨by rw [graphOk_no g k (by omega) (by simp_all [edgeOk])], rfl⟩, (.le fun a => by (try simp only [setR, List.cons_append, List.nil_append]); simp only [List.flatten_append, List.flatten_cons, List.flatten_nil, List.count_append, List.count_nil, List.append_nil, List.nil_append]; omega)⟩
        ·
          simp at q9
          simp (disch := omega) only [wrap_of] at q9
          have iq9 := inR_iff.1 q9
          refine call_val (l01In_ct _ _ _) trivial ?_
          rintro _ rfl
          refine VC.intro ?_ ?_
          · exact fun _ h => h
          refine VCsplit.intro (fun q11 => ?_) (fun q11 => ?_)
          ·
            simp at q11
            simp (disch := omega) only [wrap_of] at q11
            exact ⟨[], ⟨by rw [graphOk_no g k (by omega) (by simp_all [edgeOk])], rfl⟩, (.le fun a => by (try simp only [setR, List.cons_append, List.nil_append]); simp only [List.flatten_append, List.flatten_cons, List.flatten_nil, List.count_append, List.count_nil, List.append_nil, List.nil_append]; omega)⟩
          ·
            simp at q11
            simp (disch := omega) only [wrap_of] at q11
            have iq11 := inR_iff.1 q11
            refine VCsplit.intro (fun q12 => ?_) (fun q12 => ?_)
            ·
              simp at q12
              exact ⟨[], ⟨by rw [graphOk_no g k (by omega) (by unfold edgeOk labelOk; rw [decide_eq_false (by omega : ¬ (97 : Int) ≤ ((g.edges[k]?.getD default).label.toNat : Nat))]; simp)], rfl⟩, (.le fun a => by (try simp only [setR, List.cons_append, List.nil_append]); simp only [List.flatten_append, List.flatten_cons, List.flatten_nil, List.count_append, List.count_nil, List.append_nil, List.nil_append]; omega)⟩
            ·
              simp at q12
              refine VCsplit.intro (fun q13 => ?_) (fun q13 => ?_)
              ·
                simp at q13
                exact ⟨[], ⟨by rw [graphOk_no g k (by omega) (by unfold edgeOk labelOk; rw [decide_eq_false (by omega : ¬ (((g.edges[k]?.getD default).label.toNat : Nat) : Int) ≤ 100)]; simp)], rfl⟩, (.le fun a => by (try simp only [setR, List.cons_append, List.nil_append]); simp only [List.flatten_append, List.flatten_cons, List.flatten_nil, List.count_append, List.count_nil, List.append_nil, List.nil_append]; omega)⟩
              ·
                simp at q13
                refine VCsplit.intro (fun q14 => ?_) (fun q14 => ?_)
                ·
                  simp at q14
                  refine idx_rd h1 ?_ ?_ fun b15 o15 hb15 => ?_
                  · (simp (disch := omega) only [wrap_of]; omega)
                  · (simp (disch := omega) only [wrap_of]; omega)
                  refine load_all default h1 ?_ ?_ hb15 rfl (mem_at 0 rfl) fun l16 hl16 => ?_
                  · (simp (disch := omega) only [wrap_of]; omega)
                  · (simp (disch := omega) only [wrap_of]; omega)
                  rw [show (IntKind.i64.wrap ((k : Int) - 1)).toNat = k - 1 by (simp (disch := omega) only [wrap_of]; omega)] at hl16
                  obtain ⟨rfl, w0x16, w2x16⟩ := gEdge_rd.1 hl16
                  refine call_val (specEdgeLess_ct _ _ (g.edges[k - (1 : Nat)]?.getD default) (g.edges[k]?.getD default)) ⟨(Rp.mono _ (mem_at 0 rfl) hl16), (Rp.mono _ (mem_at 0 rfl) hl6)⟩ ?_
                  rintro _ rfl
                  refine VC.intro ?_ ?_
                  · exact fun _ h => h
                  refine VCsplit.intro (fun q18 => ?_) (fun q18 => ?_)
                  ·
                    simp at q18
                    exact ⟨[], ⟨by rw [graphOk_no g k (by omega) (by unfold edgeOk; rw [‹edgeLess _ _ = false›, decide_eq_false (by omega : ¬ k = 0)]; simp)], rfl⟩, (.le fun a => by (try simp only [setR, List.cons_append, List.nil_append]); simp only [List.flatten_append, List.flatten_cons, List.flatten_nil, List.count_append, List.count_nil, List.append_nil, List.nil_append]; omega)⟩
                  ·
                    simp at q18
                    apply loop_stepA (k + 1)
                    · exact .refl _
                    · repeat' (first | exact trivial | refine ⟨⟨_, rfl, by first | rfl | exact inc_eq _ (by omega) | (refine sl_eq ?_; simp; done), by first | exact trivial | simp [SV.ok]⟩, ?_⟩)
                    · exact ⟨rfl, trivial⟩
                    · exact ⟨by omega, by unfold allOk edgeOk labelOk; rw [ha, ‹inR 0 (g.size - 1) (g.edges[k]?.getD default).from' = true›, ‹inR 0 (g.size - 1) (g.edges[k]?.getD default).to = true›, decide_eq_true (by omega : (97 : Int) ≤ ((g.edges[k]?.getD default).label.toNat : Nat)), decide_eq_true (by omega : (((g.edges[k]?.getD default).label.toNat : Nat) : Int) ≤ 100)]; first | (rw [‹edgeLess _ _ = true›]; simp) | (rw [decide_eq_true (by omega : k = 0)]; rfl)⟩
                    · omega
                ·
                  simp at q14
                  apply loop_stepA (k + 1)
                  · exact .refl _
                  · repeat' (first | exact trivial | refine ⟨⟨_, rfl, by first | rfl | exact inc_eq _ (by omega) | (refine sl_eq ?_; simp; done), by first | exact trivial | simp [SV.ok]⟩, ?_⟩)
                  · exact ⟨rfl, trivial⟩
                  · exact ⟨by omega, by unfold allOk edgeOk labelOk; rw [ha, ‹inR 0 (g.size - 1) (g.edges[k]?.getD default).from' = true›, ‹inR 0 (g.size - 1) (g.edges[k]?.getD default).to = true›, decide_eq_true (by omega : (97 : Int) ≤ ((g.edges[k]?.getD default).label.toNat : Nat)), decide_eq_true (by omega : (((g.edges[k]?.getD default).label.toNat : Nat) : Int) ≤ 100)]; first | (rw [‹edgeLess _ _ = true›]; simp) | (rw [decide_eq_true (by omega : k = 0)]; rfl)⟩
                  · omega
      ·
        simp at q4
        obtain rfl : k = g.edges.length := by omega
        exact ⟨[], ⟨by unfold graphOk inR; simp_all; omega, rfl⟩, (.le fun a => by (try simp only [setR, List.cons_append, List.nil_append]); simp only [List.flatten_append, List.flatten_cons, List.flatten_nil, List.count_append, List.count_nil, List.append_nil, List.nil_append]; omega)⟩

end Go.Proofs.YtcnclhjhnjpeiaaDoor
