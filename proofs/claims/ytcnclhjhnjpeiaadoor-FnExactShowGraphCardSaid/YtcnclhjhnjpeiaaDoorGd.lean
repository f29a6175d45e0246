/-
  The laws' helpers over their types: marks, and what is held (printed by gent.py). Conditions: none.
-/
import Derived.Test.YtcnclhjhnjpeiaaDoorGc
namespace Go.Proofs.YtcnclhjhnjpeiaaDoor
open Go.SX Go.Proofs
set_option maxHeartbeats 4000000
set_option linter.unusedSimpArgs false
set_option linter.unusedVariables false

--@ct laws.markEdgeS mark1 markEdgeS_ct _ _ _ _ _ _ ~ ?_ ?_
theorem markEdgeS_ct (b : Option Addr) (m c : Nat) (xs : List Edge) (A : Hp) (k0 : Int) (ho : (gSl 42 gEdge).ow [.slice b m c] xs A) (h0 : 0 ≤ k0) (h1 : k0 + cntL gEdge xs ≤ 4611686018427387904) :
    CtR Tryd.prog 33 [.slice b m c, .int .i64 k0] A (fun _ => True) (fun v A => v = .int .i64 (k0 + cntL gEdge xs) ∧ (gSl 42 gEdge).ow [.slice b m c] (mkL gEdge k0 xs) A) := by
  obtain ⟨rfl, hcl, hl⟩ := sl_len (Gt.owrd _ ho)
  refine CtR.intro G_ok [A] Tryd.func33 rfl rfl rfl (by simp) fun E H hp => ?_
  apply loop_mod (α := (Nat) × (Hp)) G_ok [6, 7, 8, 9, 12, 13, 14, 15, 16, 17, 18, 1, 19, 20, 21, 22, 23, 24, 25, 26, 27, 28, 29, 30, 31, 32, 33, 10, 11, 5] (fun z => [(5, .v (.int .i64 z.1)), (1, .v (.int .i64 (k0 + cntL gEdge (xs.take z.1))))]) (fun z => []) (fun z => [z.2, H]) (fun z => xs.length - z.1) (fun z => z.1 ≤ xs.length ∧ (gSl 42 gEdge).ow [.slice b xs.length c] (mkL gEdge k0 (xs.take z.1) ++ xs.drop z.1) z.2) ((0, A))
  · repeat' (first | exact trivial | refine ⟨⟨_, rfl, by first | rfl | exact inc_eq _ (by omega) | (refine sl_eq ?_; simp; done) | (refine svi_eq ?_; subst_vars; (try dsimp only); (try simp (disch := omega) only [wrap_of]); omega) | (simp [cntL]), by first | exact trivial | simp [SV.ok]⟩, ?_⟩)
  · exact trivial
  · try dsimp only
    exact ⟨by omega, by simpa [mkL] using ho⟩
  · exact .refl _
  rintro ⟨k, B⟩ hI
  obtain ⟨hk, oB⟩ : k ≤ xs.length ∧ (gSl 42 gEdge).ow [.slice b xs.length c] (mkL gEdge k0 (xs.take k) ++ xs.drop k) B := hI
  try dsimp only
  refine VCsplit.intro (fun q0 => ?_) (fun q0 => ?_)
  ·
    simp at q0
    have hs := (cntL_step gEdge xs k default (by omega))
    simp only [gEdge_cnt] at hs
    have hs2 := cntL_take_le gEdge xs (k + 1)
    obtain ⟨y, ey, oe⟩ := OwE.mk default k oB (by rw [mk_len _ _ _ _ (by omega)]; omega)
    rw [mk_get _ _ _ _ _ (by omega)] at ey
    clear oB
    refine oe_idx oe ?_ fun b1 o1 hb1 => ?_
    · rfl
    refine oe_store gEdge_from 0 rfl oe rfl hb1 rfl gI_pl _ (gI_ow ?_) fun y2 A2 ey2 o2 => ?_
    · unfold okI; omega
    refine oe_idx o2 ?_ fun b3 o3 hb3 => ?_
    · rfl
    refine oe_store gEdge_label 0 rfl o2 rfl hb3 rfl gY_pl _ (gY_owM _) fun y4 A4 ey4 o4 => ?_
    refine oe_idx o4 ?_ fun b5 o5 hb5 => ?_
    · rfl
    refine oe_store gEdge_to 0 rfl o4 rfl hb5 rfl gI_pl _ (gI_ow ?_) fun y6 A6 ey6 o6 => ?_
    · exact okI_wrap _
    apply loop_stepA (k + 1, _)
    · exact .refl _
    · repeat' (first | exact trivial | refine ⟨⟨_, rfl, by first | rfl | exact inc_eq _ (by omega) | (refine sl_eq ?_; simp; done) | (refine svi_eq ?_; subst_vars; (try dsimp only); (try simp (disch := omega) only [wrap_of]); omega) | (simp [cntL]), by first | exact trivial | simp [SV.ok]⟩, ?_⟩)
    · exact trivial
    · try dsimp only
      exact ⟨by omega, OwE.done (by assumption) (by rw [← mk_step gEdge default xs k0 k (by omega)]; congr 1; subst_vars; (try simp only [gEdge_mark, gEdge_cnt]); (try simp (disch := omega) only [wrap_of]); (try rfl))⟩
    · try dsimp only
      omega
  ·
    simp at q0
    obtain rfl : k = xs.length := by omega
    rw [List.take_length, List.drop_length, List.append_nil] at oB
    exact ⟨_, ⟨by rw [List.take_length], oB⟩, (.le fun a => by (try simp only [setR, List.cons_append, List.nil_append]); simp only [List.flatten_append, List.flatten_cons, List.flatten_nil, List.count_append, List.count_nil, List.append_nil, List.nil_append]; omega)⟩

--@ct laws.heldEdgeS val heldEdgeS_ct _ _ _ _ _ _ ?_ ?_ ?_ | %1
theorem heldEdgeS_ct (b : Option Addr) (m c : Nat) (xs : List Edge) (k0 k1 : Int) (hk1 : k0 = k1) (h0 : 0 ≤ k0) (h1 : k0 + cntL gEdge xs ≤ 4611686018427387904) :
    Ct Tryd.prog 34 [.slice b m c, .int .i64 k0] [] (fun H => (gSl 42 gEdge).rd H [.slice b m c] (mkL gEdge k1 xs)) (fun v A => v = .int .i64 (k0 + cntL gEdge xs) ∧ A = []) := by
  subst hk1
  refine Ct.intro0 G_ok Tryd.func34 rfl rfl rfl fun E H hp => ?_
  have hm0 := (sl_len hp).1
  rw [mkL_len] at hm0; subst hm0
  obtain ⟨-, hcl, hl⟩ := sl_len hp
  rw [mkL_len] at hcl hl
  have hln := mkL_len gEdge xs k0
  apply loop_mod (α := (Nat)) G_ok [6, 7, 8, 9, 12, 13, 14, 15, 16, 17, 18, 4, 19, 20, 1, 21, 22, 23, 24, 25, 26, 27, 28, 29, 30, 31, 32, 33, 34, 35, 36, 37, 38, 39, 10, 11, 5] (fun z => [(5, .v (.int .i64 z)), (1, .v (.int .i64 (k0 + cntL gEdge (xs.take z))))]) (fun z => []) (fun z => [H]) (fun z => xs.length - z) (fun z => z ≤ xs.length) (0)
  · repeat' (first | exact trivial | refine ⟨⟨_, rfl, by first | rfl | exact inc_eq _ (by omega) | (refine sl_eq ?_; simp; done) | (refine svi_eq ?_; (try dsimp only); (try simp (disch := omega) only [wrap_of]); omega) | (simp [cntL]), by first | exact trivial | simp [SV.ok]⟩, ?_⟩)
  · exact trivial
  · omega
  · exact .refl _
  rintro k hI
  obtain hk : k ≤ xs.length := hI
  try dsimp only
  refine VCsplit.intro (fun q0 => ?_) (fun q0 => ?_)
  ·
    simp at q0
    have hs := (cntL_step gEdge xs k default (by omega))
    simp only [gEdge_cnt] at hs
    have hs2 := cntL_take_le gEdge xs (k + 1)
    have hm := mkL_get gEdge default xs k0 k (by omega)
    simp only [gEdge_mark, gEdge_cnt] at hm
    refine idx_rd hp ?_ ?_ fun b1 o1 hb1 => ?_
    · omega
    · omega
    refine load_partN default (k) 0 rfl hp ?_ ?_ hb1 rfl (by decide) (mem_at 0 rfl) fun l2 hl2 => ?_
    · omega
    · omega
    rw [hm] at hl2
    obtain ⟨rfl, w0x2, w2x2⟩ := gEdge_rd.1 hl2
    refine VCsplit.intro (fun q3 => ?_) (fun q3 => ?_)
    ·
      simp at q3
    ·
      simp at q3
      refine idx_rd hp ?_ ?_ fun b4 o4 hb4 => ?_
      · omega
      · omega
      refine load_partN default (k) 1 rfl hp ?_ ?_ hb4 rfl (by decide) (mem_at 0 rfl) fun l5 hl5 => ?_
      · omega
      · omega
      rw [hm] at hl5
      obtain ⟨rfl, w0x5, w2x5⟩ := gEdge_rd.1 hl5
      refine VCsplit.intro (fun q6 => ?_) (fun q6 => ?_)
      ·
        simp at q6
        simp only [str_inj, u8_inj, u8_wrap] at q6
        simp (disch := omega) only [wrap_of] at q6
        exfalso; omega
      ·
        simp at q6
        simp only [str_inj, u8_inj, u8_wrap] at q6
        simp (disch := omega) only [wrap_of] at q6
        refine idx_rd hp ?_ ?_ fun b7 o7 hb7 => ?_
        · omega
        · omega
        refine load_partN default (k) 2 rfl hp ?_ ?_ hb7 rfl (by decide) (mem_at 0 rfl) fun l8 hl8 => ?_
        · omega
        · omega
        rw [hm] at hl8
        obtain ⟨rfl, w0x8, w2x8⟩ := gEdge_rd.1 hl8
        refine VCsplit.intro (fun q9 => ?_) (fun q9 => ?_)
        ·
          simp at q9
          simp (disch := omega) only [wrap_of] at q9
          exact absurd trivial q9
        ·
          simp at q9
          simp (disch := omega) only [wrap_of] at q9
          apply loop_stepA (k + 1)
          · exact .refl _
          · repeat' (first | exact trivial | refine ⟨⟨_, rfl, by first | rfl | exact inc_eq _ (by omega) | (refine sl_eq ?_; simp; done) | (refine svi_eq ?_; (try dsimp only); (try simp (disch := omega) only [wrap_of]); omega) | (simp [cntL]), by first | exact trivial | simp [SV.ok]⟩, ?_⟩)
          · exact trivial
          · trivial
          · omega
  ·
    simp at q0
    obtain rfl : k = xs.length := by omega
    exact ⟨[], ⟨by rw [List.take_length], rfl⟩, (.le fun a => by (try simp only [setR, List.cons_append, List.nil_append]); simp only [List.flatten_append, List.flatten_cons, List.flatten_nil, List.count_append, List.count_nil, List.append_nil, List.nil_append]; omega)⟩

--@ct laws.markGraph mark1 markGraph_ct _ _ _ _ ~ ?_ ?_
theorem markGraph_ct (l : List Value) (x : Graph) (A : Hp) (k0 : Int) (ho : gGraph.ow l x A) (h0 : 0 ≤ k0) (h1 : k0 + gGraph.cntV x ≤ 4611686018427387904) :
    CtR Tryd.prog 13 [.agg ⟨l⟩, .int .i64 k0] A (fun _ => True) (fun v A => v = .int .i64 (k0 + gGraph.cntV x) ∧ gGraph.ow l (gGraph.markV k0 x) A) := by
  obtain ⟨b1, c1, A1, rfl, hpm, w0, h1⟩ := gGraph_ow.1 ho
  have hz := gGraph_cntV x
  refine CtR.introP G_ok [A1] Tryd.func13 rfl rfl rfl (hpm.trans (by simp)) fun E H hp => ?_
  refine VCnew.intro fun x0 => ?_
  refine callR_at 0 rfl (markEdgeS_ct _ _ _ _ _ _ h1 ?_ ?_) trivial ?_
  · trivial
  · omega
  rintro _ A1 ⟨rfl, o1⟩
  exact ⟨_, ⟨by rw [hz]; (try simp); (try omega), by rw [gGraph_markV]; exact gGraph_ow.2 ⟨_, _, _, by simp only [mkL_len]; rfl, .refl _, by assumption, by rw [mkL_len]; assumption⟩⟩, (.le fun a => by (try simp only [setR, List.cons_append, List.nil_append]); simp only [List.flatten_append, List.flatten_cons, List.flatten_nil, List.count_append, List.count_nil, List.append_nil, List.nil_append]; omega)⟩

--@ct laws.heldGraph val heldGraph_ct _ _ _ _ ?_ ?_ ?_ | %1
theorem heldGraph_ct (l : List Value) (x : Graph) (k0 k1 : Int) (hk1 : k0 = k1) (h0 : 0 ≤ k0) (h1 : k0 + gGraph.cntV x ≤ 4611686018427387904) :
    Ct Tryd.prog 14 [.agg ⟨l⟩, .int .i64 k0] [] (fun H => gGraph.rd H l (gGraph.markV k1 x)) (fun v A => v = .int .i64 (k0 + gGraph.cntV x) ∧ A = []) := by
  subst hk1
  refine Ct.intro0 G_ok Tryd.func14 rfl rfl rfl fun E H hp => ?_
  rw [gGraph_markV] at hp
  obtain ⟨b1, c1, rfl, w0, h1⟩ := gGraph_rd.1 hp
  have hz := gGraph_cntV x
  refine VCnew.intro fun x0 => ?_
  refine call_val (heldEdgeS_ct _ _ _ _ _ _ ?_ ?_ ?_) (Rp.mono _ (mem_at 0 rfl) h1) ?_
  · rfl
  · trivial
  · omega
  rintro _ rfl
  refine VCsplit.intro (fun q2 => ?_) (fun q2 => ?_)
  ·
    simp at q2
    exfalso; omega
  ·
    simp at q2
    try dsimp only
    exact ⟨[], ⟨by rw [hz]; (try simp); (try omega), rfl⟩, (.le fun a => by (try simp only [setR, List.cons_append, List.nil_append]); simp only [List.flatten_append, List.flatten_cons, List.flatten_nil, List.count_append, List.count_nil, List.append_nil, List.nil_append]; omega)⟩

end Go.Proofs.YtcnclhjhnjpeiaaDoor
