/-
  The laws' helpers over their types: sizes, copies, likeness (printed by gent.py). Conditions: none.
-/
import Derived.Test.YtcnclhjhnjpeiaaDoorGb
namespace Go.Proofs.YtcnclhjhnjpeiaaDoor
open Go.SX Go.Proofs
set_option maxHeartbeats 4000000
set_option linter.unusedSimpArgs false
set_option linter.unusedVariables false

--@ct laws.toEdge new toEdge_ct _ $1 ?_ | %1 | obtain ⟨l#, rfl, o#⟩ := o# ;; have r# := Gt.owrd _ o# ;; obtain ⟨rfl, w0x#, w2x#⟩ := gEdge_rd.1 r#
theorem toEdge_ct (l : List Value) (x : Edge) (hx : gEdge.sz x ≤ 1048576) :
    Ct Tryd.prog 41 [.agg ⟨l⟩] [] (fun H => gEdge.rd H l x) (fun v A => ∃ l, v = .agg ⟨l⟩ ∧ gEdge.ow l x A) := by
  refine Ct.intro0 G_ok Tryd.func41 rfl rfl rfl fun E H hp => ?_
  obtain ⟨rfl, w0, w2⟩ := gEdge_rd.1 hp
  have hz := gEdge_sz x
  refine VCnew.intro fun x0 => ?_
  refine VCnew.intro fun x1 => ?_
  refine VCnew.intro fun x2 => ?_
  exact ⟨_, ⟨_, rfl, gEdge_ow.2 ⟨rfl, .refl _, by assumption, by assumption⟩⟩, (.le fun a => by (try simp only [setR, List.cons_append, List.nil_append]); simp only [List.flatten_append, List.flatten_cons, List.flatten_nil, List.count_append, List.count_nil, List.append_nil, List.nil_append]; omega)⟩

--@ct laws.eqEdge val eqEdge_ct _ _ $1 $2 | ⟨%1, %2⟩
theorem eqEdge_ct (l1 l2 : List Value) (x y : Edge) :
    Ct Tryd.prog 47 [.agg ⟨l1⟩, .agg ⟨l2⟩] [] (fun H => gEdge.rd H l1 x ∧ gEdge.rd H l2 y) (fun v A => v = .bool (decide (x = y)) ∧ A = []) := by
  refine Ct.intro0 G_ok Tryd.func47 rfl rfl rfl fun E H hp => ?_
  obtain ⟨hp1, hp2⟩ := hp
  obtain ⟨rfl, w0p, w2p⟩ := gEdge_rd.1 hp1
  obtain ⟨rfl, w0q, w2q⟩ := gEdge_rd.1 hp2
  refine VCnew.intro fun x0 => ?_
  refine VCnew.intro fun x1 => ?_
  refine VCsplit.intro (fun q2 => ?_) (fun q2 => ?_)
  ·
    simp at q2
    exact ⟨[], ⟨by rw [decide_eq_false (fun e => by subst e; simp at *)], rfl⟩, (.le fun a => by (try simp only [setR, List.cons_append, List.nil_append]); simp only [List.flatten_append, List.flatten_cons, List.flatten_nil, List.count_append, List.count_nil, List.append_nil, List.nil_append]; omega)⟩
  ·
    simp at q2
    refine VCsplit.intro (fun q3 => ?_) (fun q3 => ?_)
    ·
      simp at q3
      simp only [str_inj, u8_inj, u8_wrap] at q3
      exact ⟨[], ⟨by rw [decide_eq_false (fun e => by subst e; simp at *)], rfl⟩, (.le fun a => by (try simp only [setR, List.cons_append, List.nil_append]); simp only [List.flatten_append, List.flatten_cons, List.flatten_nil, List.count_append, List.count_nil, List.append_nil, List.nil_append]; omega)⟩
    ·
      simp at q3
      simp only [str_inj, u8_inj, u8_wrap] at q3
      refine VCsplit.intro (fun q4 => ?_) (fun q4 => ?_)
      ·
        simp at q4
        exact ⟨[], ⟨by rw [decide_eq_false (fun e => by subst e; simp at *)], rfl⟩, (.le fun a => by (try simp only [setR, List.cons_append, List.nil_append]); simp only [List.flatten_append, List.flatten_cons, List.flatten_nil, List.count_append, List.count_nil, List.append_nil, List.nil_append]; omega)⟩
      ·
        simp at q4
        exact ⟨[], ⟨by rw [decide_eq_true (Edge.eq_iff.2 (by simp_all))], rfl⟩, (.le fun a => by (try simp only [setR, List.cons_append, List.nil_append]); simp only [List.flatten_append, List.flatten_cons, List.flatten_nil, List.count_append, List.count_nil, List.append_nil, List.nil_append]; omega)⟩

--@ct laws.szEdgeS raw refine call_q (szEdgeS_ct _ _ _ $1 _ ?_ ?_) %1 ?_ | | rintro _ ⟨r#, rfl, hr#⟩
theorem szEdgeS_ct (b : Option Addr) (m c : Nat) (xs : List Edge) (left : Int) (h0 : 0 ≤ left) (h1 : left ≤ 1048576) :
    Ct Tryd.prog 20 [.slice b m c, .int .i64 left] [] (fun H => (gSl 42 gEdge).rd H [.slice b m c] xs) (fun v A => (∃ r : Int, v = .int .i64 r ∧ ((r = -1 ∧ left < (szL gEdge xs : Int)) ∨ (r = left - (szL gEdge xs : Int) ∧ (szL gEdge xs : Int) ≤ left))) ∧ A = []) := by
  refine Ct.intro0 G_ok Tryd.func20 rfl rfl rfl fun E H hp => ?_
  obtain ⟨rfl, hcl, hl⟩ := sl_len hp
  have hq := szL_eq gEdge xs
  have hz := szE_zero gEdge (fun _ => rfl) xs
  refine VCsplit.intro (fun q0 => ?_) (fun q0 => ?_)
  ·
    simp at q0
    simp (disch := omega) only [wrap_of] at q0
    exact ⟨[], ⟨⟨-1, rfl, .inl ⟨rfl, by (try simp (disch := omega) only [wrap_of] at *); omega⟩⟩, rfl⟩, (.le fun a => by (try simp only [setR, List.cons_append, List.nil_append]); simp only [List.flatten_append, List.flatten_cons, List.flatten_nil, List.count_append, List.count_nil, List.append_nil, List.nil_append]; omega)⟩
  ·
    simp at q0
    simp (disch := omega) only [wrap_of] at q0
    exact ⟨[], ⟨⟨_, rfl, .inr ⟨by (try simp (disch := omega) only [wrap_of] at *); omega, by omega⟩⟩, rfl⟩, (.le fun a => by (try simp only [setR, List.cons_append, List.nil_append]); simp only [List.flatten_append, List.flatten_cons, List.flatten_nil, List.count_append, List.count_nil, List.append_nil, List.nil_append]; omega)⟩

--@ct laws.toEdgeS new toEdgeS_ct _ _ _ $1 ?_ | %1 | obtain ⟨b#, c#, rfl, o#⟩ := o#
theorem toEdgeS_ct (b : Option Addr) (m c : Nat) (xs : List Edge) (hx : szL gEdge xs ≤ 1048576) :
    Ct Tryd.prog 22 [.slice b m c] [] (fun H => (gSl 42 gEdge).rd H [.slice b m c] xs) (fun v A => ∃ b c, v = .slice b xs.length c ∧ (gSl 42 gEdge).ow [.slice b xs.length c] xs A) := by
  refine Ct.intro0 G_ok Tryd.func22 rfl rfl rfl fun E H hp => ?_
  obtain ⟨rfl, hcl, hl⟩ := sl_len hp
  have hls := len_szL gEdge xs
  refine VCmake.intro ?_ ?_ ?_ ?_ fun x0 => ?_
  · omega
  · omega
  · omega
  · omega
  apply loop_mod (α := (Nat) × (Hp)) G_ok [8, 9, 10, 11, 14, 15, 16, 17, 18, 19, 20, 21, 12, 13, 4] (fun z => [(4, .v (.int .i64 z.1))]) (fun z => []) (fun z => [z.2, H]) (fun z => xs.length - z.1) (fun z => z.1 ≤ xs.length ∧ (gSl 42 gEdge).ow [.slice (some ⟨x0, 0, none⟩) xs.length xs.length] (xs.take z.1 ++ List.replicate (xs.length - z.1) zEdge) z.2) ((0, _))
  · repeat' (first | exact trivial | refine ⟨⟨_, rfl, by first | rfl | exact inc_eq _ (by omega) | (refine sl_eq ?_; simp; done), by first | exact trivial | simp [SV.ok]⟩, ?_⟩)
  · exact trivial
  · try dsimp only
    exact ⟨by omega, by simpa using gmake (g := gEdge) (T := 42) (b := x0) (zEdge_ow) (Nat.le_refl xs.length) (by omega)⟩
  · exact .refl _
  rintro ⟨k, A⟩ hI
  obtain ⟨hk, oA⟩ : k ≤ xs.length ∧ (gSl 42 gEdge).ow [.slice (some ⟨x0, 0, none⟩) xs.length xs.length] (xs.take k ++ List.replicate (xs.length - k) zEdge) A := hI
  try dsimp only
  refine VCsplit.intro (fun q1 => ?_) (fun q1 => ?_)
  ·
    simp at q1
    refine idx_rd hp ?_ ?_ fun b2 o2 hb2 => ?_
    · omega
    · omega
    refine load_allN default (k) rfl hp ?_ ?_ hb2 rfl (mem_at 1 rfl) fun l3 hl3 => ?_
    · omega
    · omega
    obtain ⟨rfl, w0x3, w2x3⟩ := gEdge_rd.1 hl3
    refine call_new (toEdge_ct _ (xs[k]?.getD default) ?_) (Rp.mono _ (mem_at 1 rfl) hl3) ?_
    · exact Nat.zero_le 1048576
    rintro v4 A4 o4
    obtain ⟨l4, rfl, o4⟩ := o4
    have r4 := Gt.owrd _ o4
    obtain ⟨rfl, w0x4, w2x4⟩ := gEdge_rd.1 r4
    refine idx_rd (Gt.owrd _ oA) ?_ ?_ fun b5 o5 hb5 => ?_
    · omega
    · simp; omega
    refine gstore1N (k) (A) (A4) [H] (.le fun a => by (try simp only [setR, List.cons_append, List.nil_append]); simp only [List.flatten_append, List.flatten_cons, List.flatten_nil, List.count_append, List.count_nil, List.append_nil, List.nil_append]; omega) rfl oA ?_ ?_ hb5 rfl _ o4 fun A6 o6 => ?_
    · omega
    · simp; omega
    apply loop_stepA (k + 1, _)
    · exact .refl _
    · repeat' (first | exact trivial | refine ⟨⟨_, rfl, by first | rfl | exact inc_eq _ (by omega) | (refine sl_eq ?_; simp; done), by first | exact trivial | simp [SV.ok]⟩, ?_⟩)
    · exact trivial
    · try dsimp only
      exact ⟨by omega, by rw [← take_stepz xs k default zEdge (by omega)] ; assumption⟩
    · try dsimp only
      omega
  ·
    simp at q1
    obtain rfl : k = xs.length := by omega
    rw [List.take_length, Nat.sub_self, List.replicate_zero, List.append_nil] at oA
    exact ⟨_, ⟨_, _, rfl, oA⟩, (.le fun a => by (try simp only [setR, List.cons_append, List.nil_append]); simp only [List.flatten_append, List.flatten_cons, List.flatten_nil, List.count_append, List.count_nil, List.append_nil, List.nil_append]; omega)⟩

--@ct laws.eqEdgeS val eqEdgeS_ct _ _ _ _ _ _ $1 $2 | ⟨%1, %2⟩
theorem eqEdgeS_ct (b1 : Option Addr) (m1 c1 : Nat) (b2 : Option Addr) (m2 c2 : Nat) (xs ys : List Edge) :
    Ct Tryd.prog 27 [.slice b1 m1 c1, .slice b2 m2 c2] [] (fun H => (gSl 42 gEdge).rd H [.slice b1 m1 c1] xs ∧ (gSl 42 gEdge).rd H [.slice b2 m2 c2] ys) (fun v A => v = .bool (decide (xs = ys)) ∧ A = []) := by
  refine Ct.intro0 G_ok Tryd.func27 rfl rfl rfl fun E H hp => ?_
  obtain ⟨hp1, hp2⟩ := hp
  obtain ⟨rfl, hc1, hl1⟩ := sl_len hp1
  obtain ⟨rfl, hc2, hl2⟩ := sl_len hp2
  refine VCsplit.intro (fun q0 => ?_) (fun q0 => ?_)
  ·
    simp at q0
    exact ⟨[], ⟨by rw [decide_eq_false (fun e => by subst e; omega)], rfl⟩, (.le fun a => by (try simp only [setR, List.cons_append, List.nil_append]); simp only [List.flatten_append, List.flatten_cons, List.flatten_nil, List.count_append, List.count_nil, List.append_nil, List.nil_append]; omega)⟩
  ·
    simp at q0
    apply loop_mod (α := (Nat)) G_ok [11, 12, 13, 14, 17, 18, 19, 20, 21, 22, 23, 24, 25, 26, 4, 15, 16, 5] (fun z => [(5, .v (.int .i64 z))]) (fun z => []) (fun z => [H]) (fun z => xs.length - z) (fun z => z ≤ xs.length ∧ xs.take z = ys.take z) (0)
    · repeat' (first | exact trivial | refine ⟨⟨_, rfl, by first | rfl | exact inc_eq _ (by omega) | (refine sl_eq ?_; simp; done), by first | exact trivial | simp [SV.ok]⟩, ?_⟩)
    · exact trivial
    · exact ⟨by omega, by simp⟩
    · exact .refl _
    rintro k hI
    obtain ⟨hk, he⟩ : k ≤ xs.length ∧ xs.take k = ys.take k := hI
    try dsimp only
    refine VCsplit.intro (fun q1 => ?_) (fun q1 => ?_)
    ·
      simp at q1
      refine draw G_ok mixed none (.q 0 (.q 1 (.q 2 (.q 3 (.q 4 (.q 5 (.q 6 (.q 7 (.f 8 (.q 9 (.nil))))))))))) (by decide +kernel) ?_
      refine idx_rd hp1 ?_ ?_ fun b2 o2 hb2 => ?_
      · omega
      · omega
      refine load_allN default (k) rfl hp1 ?_ ?_ hb2 rfl (mem_at 0 rfl) fun l3 hl3 => ?_
      · omega
      · omega
      obtain ⟨rfl, w0x3, w2x3⟩ := gEdge_rd.1 hl3
      refine idx_rd hp2 ?_ ?_ fun b4 o4 hb4 => ?_
      · omega
      · omega
      refine load_allN default (k) rfl hp2 ?_ ?_ hb4 rfl (mem_at 0 rfl) fun l5 hl5 => ?_
      · omega
      · omega
      obtain ⟨rfl, w0x5, w2x5⟩ := gEdge_rd.1 hl5
      refine call_val (eqEdge_ct _ _ (xs[k]?.getD default) (ys[k]?.getD default)) ⟨(Rp.mono _ (mem_at 0 rfl) hl3), (Rp.mono _ (mem_at 0 rfl) hl5)⟩ ?_
      rintro _ rfl
      refine VC.intro ?_ ?_
      · exact fun _ h => h
      refine VCsplit.intro (fun q7 => ?_) (fun q7 => ?_)
      ·
        simp at q7
        exact ⟨[], ⟨by rw [decide_eq_false (fun e => by subst e; simp at *)], rfl⟩, (.le fun a => by (try simp only [setR, List.cons_append, List.nil_append]); simp only [List.flatten_append, List.flatten_cons, List.flatten_nil, List.count_append, List.count_nil, List.append_nil, List.nil_append]; omega)⟩
      ·
        simp at q7
        apply loop_stepA (k + 1)
        · exact .refl _
        · repeat' (first | exact trivial | refine ⟨⟨_, rfl, by first | rfl | exact inc_eq _ (by omega) | (refine sl_eq ?_; simp; done), by first | exact trivial | simp [SV.ok]⟩, ?_⟩)
        · exact trivial
        · exact ⟨by omega, eq_step default (by omega) he (by omega) (by simpa using ‹_›)⟩
        · omega
    ·
      simp at q1
      exact ⟨[], ⟨by rw [decide_eq_true]; rw [← List.take_length (l := xs), ← List.take_length (l := ys), ← (by omega : xs.length = ys.length), show xs.length = k by omega]; exact he, rfl⟩, (.le fun a => by (try simp only [setR, List.cons_append, List.nil_append]); simp only [List.flatten_append, List.flatten_cons, List.flatten_nil, List.count_append, List.count_nil, List.append_nil, List.nil_append]; omega)⟩

--@ct laws.szGraph raw refine call_q (szGraph_ct _ $1 _ ?_ ?_) %1 ?_ | | rintro _ ⟨r#, rfl, hr#⟩
theorem szGraph_ct (l : List Value) (x : Graph) (left : Int) (h0 : 0 ≤ left) (h1 : left ≤ 1048576) :
    Ct Tryd.prog 6 [.agg ⟨l⟩, .int .i64 left] [] (fun H => gGraph.rd H l x) (fun v A => (∃ r : Int, v = .int .i64 r ∧ ((r = -1 ∧ left < (gGraph.sz x : Int)) ∨ (r = left - (gGraph.sz x : Int) ∧ (gGraph.sz x : Int) ≤ left))) ∧ A = []) := by
  refine Ct.intro0 G_ok Tryd.func6 rfl rfl rfl fun E H hp => ?_
  obtain ⟨b1, c1, rfl, w0, h1⟩ := gGraph_rd.1 hp
  have hz := gGraph_sz x
  refine VCnew.intro fun x0 => ?_
  refine call_q (szEdgeS_ct _ _ _ (x.edges) _ ?_ ?_) (Rp.mono _ (mem_at 0 rfl) h1) ?_
  · trivial
  · trivial
  rintro _ ⟨r1, rfl, hr1⟩
  refine VCsplit.intro (fun q2 => ?_) (fun q2 => ?_)
  ·
    simp at q2
    exact ⟨[], ⟨⟨-1, rfl, .inl ⟨rfl, by (try simp (disch := omega) only [wrap_of] at *); omega⟩⟩, rfl⟩, (.le fun a => by (try simp only [setR, List.cons_append, List.nil_append]); simp only [List.flatten_append, List.flatten_cons, List.flatten_nil, List.count_append, List.count_nil, List.append_nil, List.nil_append]; omega)⟩
  ·
    simp at q2
    exact ⟨[], ⟨⟨_, rfl, .inr ⟨by (try simp (disch := omega) only [wrap_of] at *); omega, by omega⟩⟩, rfl⟩, (.le fun a => by (try simp only [setR, List.cons_append, List.nil_append]); simp only [List.flatten_append, List.flatten_cons, List.flatten_nil, List.count_append, List.count_nil, List.append_nil, List.nil_append]; omega)⟩

--@ct laws.toGraph new toGraph_ct _ $1 ?_ | %1 | obtain ⟨l#, rfl, o#⟩ := o# ;; have r# := Gt.owrd _ o# ;; obtain ⟨b1x#, c1x#, rfl, w0x#, h1x#⟩ := gGraph_rd.1 r#
theorem toGraph_ct (l : List Value) (x : Graph) (hx : gGraph.sz x ≤ 1048576) :
    Ct Tryd.prog 8 [.agg ⟨l⟩] [] (fun H => gGraph.rd H l x) (fun v A => ∃ l, v = .agg ⟨l⟩ ∧ gGraph.ow l x A) := by
  refine Ct.intro0 G_ok Tryd.func8 rfl rfl rfl fun E H hp => ?_
  obtain ⟨b1, c1, rfl, w0, h1⟩ := gGraph_rd.1 hp
  have hz := gGraph_sz x
  refine VCnew.intro fun x0 => ?_
  refine VCnew.intro fun x1 => ?_
  refine VCnew.intro fun x2 => ?_
  refine call_new (toEdgeS_ct _ _ _ (x.edges) ?_) (Rp.mono _ (mem_at 0 rfl) h1) ?_
  · omega
  rintro v3 A3 o3
  obtain ⟨b3, c3, rfl, o3⟩ := o3
  exact ⟨_, ⟨_, rfl, gGraph_ow.2 ⟨_, _, _, rfl, .refl _, by assumption, by assumption⟩⟩, (.le fun a => by (try simp only [setR, List.cons_append, List.nil_append]); simp only [List.flatten_append, List.flatten_cons, List.flatten_nil, List.count_append, List.count_nil, List.append_nil, List.nil_append]; omega)⟩

--@ct laws.eqGraph val eqGraph_ct _ _ $1 $2 | ⟨%1, %2⟩
theorem eqGraph_ct (l1 l2 : List Value) (x y : Graph) :
    Ct Tryd.prog 10 [.agg ⟨l1⟩, .agg ⟨l2⟩] [] (fun H => gGraph.rd H l1 x ∧ gGraph.rd H l2 y) (fun v A => v = .bool (decide (x = y)) ∧ A = []) := by
  refine Ct.intro0 G_ok Tryd.func10 rfl rfl rfl fun E H hp => ?_
  obtain ⟨hp1, hp2⟩ := hp
  obtain ⟨b1p, c1p, rfl, w0p, h1p⟩ := gGraph_rd.1 hp1
  obtain ⟨b1q, c1q, rfl, w0q, h1q⟩ := gGraph_rd.1 hp2
  refine VCnew.intro fun x0 => ?_
  refine VCnew.intro fun x1 => ?_
  refine VCsplit.intro (fun q2 => ?_) (fun q2 => ?_)
  ·
    simp at q2
    exact ⟨[], ⟨by rw [decide_eq_false (fun e => by subst e; simp at *)], rfl⟩, (.le fun a => by (try simp only [setR, List.cons_append, List.nil_append]); simp only [List.flatten_append, List.flatten_cons, List.flatten_nil, List.count_append, List.count_nil, List.append_nil, List.nil_append]; omega)⟩
  ·
    simp at q2
    refine call_val (eqEdgeS_ct _ _ _ _ _ _ (x.edges) (y.edges)) ⟨(Rp.mono _ (mem_at 0 rfl) h1p), (Rp.mono _ (mem_at 0 rfl) h1q)⟩ ?_
    rintro _ rfl
    refine VCsplit.intro (fun q4 => ?_) (fun q4 => ?_)
    ·
      simp at q4
      exact ⟨[], ⟨by rw [decide_eq_false (fun e => by subst e; simp at *)], rfl⟩, (.le fun a => by (try simp only [setR, List.cons_append, List.nil_append]); simp only [List.flatten_append, List.flatten_cons, List.flatten_nil, List.count_append, List.count_nil, List.append_nil, List.nil_append]; omega)⟩
    ·
      simp at q4
      exact ⟨[], ⟨by rw [decide_eq_true (Graph.eq_iff.2 (by simp_all))], rfl⟩, (.le fun a => by (try simp only [setR, List.cons_append, List.nil_append]); simp only [List.flatten_append, List.flatten_cons, List.flatten_nil, List.count_append, List.count_nil, List.append_nil, List.nil_append]; omega)⟩

end Go.Proofs.YtcnclhjhnjpeiaaDoor
