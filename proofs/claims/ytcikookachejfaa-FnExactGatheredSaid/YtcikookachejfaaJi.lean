/-
  Edges added to graphs, on both sides. Conditions: none.
-/
import Derived.Test.YtcikookachejfaaJh
import Derived.Test.YtcikookachejfaaIc
namespace Go.Proofs.Ytcikookachejfaa
open Go.SX Go.Proofs
set_option linter.unusedSimpArgs false
set_option linter.unusedVariables false
set_option maxHeartbeats 4000000
attribute [local irreducible] IntKind.wrap

--@ct slices.Clone[[]impl.Edge,impl.Edge] new cloneEdge_ct _ _ _ $1 ?_ | %1 | obtain ⟨b#, c#, rfl, o#⟩ := o#
theorem cloneEdge_ct (b : Option Addr) (m c : Nat) (xs : List Edge) (hx : xs.length ≤ 1000000) :
    Ct Try.prog 242 [.slice b m c] [] (fun H => (gSl 192 gEdge).rd H [.slice b m c] xs) (fun v A => ∃ b c, v = .slice b xs.length c ∧ (gSl 192 gEdge).ow [.slice b xs.length c] xs A) := by
  refine Ct.intro0 G_ok Try.func242 rfl rfl rfl fun E H hp => ?_
  obtain ⟨rfl, hcl, hl⟩ := sl_len hp
  refine VCsplit.intro (fun q0 => ?_) (fun q0 => ?_)
  ·
    simp at q0
    (obtain rfl := sl_none hp ‹_ = none›; exact ⟨[], ⟨none, 0, rfl, sl_nil _ _ _⟩, (.le fun a => by (try simp only [setR, List.cons_append, List.nil_append]); simp only [List.flatten_append, List.flatten_cons, List.flatten_nil, List.count_append, List.count_nil, List.append_nil, List.nil_append]; omega)⟩)
  ·
    simp at q0
    refine VCnew.intro fun x1 => ?_
    refine append_allN (g := gEdge) (T := (192 : TypeId)) G_ok (by repeat (first | exact fl_plain | apply plain_iso | apply plain_pair)) [] [[(x1, Obj.cells { toList := zeros (0 : Nat) [Value.int IntKind.i64 (0 : Int), Value.int IntKind.u8 (0 : Int), Value.int IntKind.i64 (0 : Int)] } (192 : TypeId))], H] 1 ?_ (sl_nil _ _ _) rfl hp rfl rfl rfl rfl rfl rfl rfl rfl ?_ fun b2 c2 A2 o2 => ?_
    · exact .refl _
    · simp; omega
    exact ⟨_, ⟨_, _, rfl, by assumption⟩, (.le fun a => by (try simp only [setR, List.cons_append, List.nil_append]); simp only [List.flatten_append, List.flatten_cons, List.flatten_nil, List.count_append, List.count_nil, List.append_nil, List.nil_append]; omega)⟩

--@ct impl.copyGraph new copyGraph_ct _ $1 ?_ | %1 | obtain ⟨b#, c#, rfl, o#⟩ := o#
theorem copyGraph_ct (l : List Value) (g : Graph) (hx : g.edges.length ≤ 1000000) :
    Ct Try.prog 219 [.agg ⟨l⟩] [] (fun H => gGraph.rd H l g) (fun v A => ∃ b c, v = .agg ⟨[.int .i64 g.size, .slice b g.edges.length c]⟩ ∧ (gSl 192 gEdge).ow [.slice b g.edges.length c] g.edges A) := by
  refine Ct.intro0 G_ok Try.func219 rfl rfl rfl fun E H hp => ?_
  obtain ⟨b1p, c1p, rfl, w0p, h1p⟩ := gGraph_rd.1 hp
  refine VCnew.intro fun x0 => ?_
  refine VCnew.intro fun x1 => ?_
  refine draw G_ok mixed (some 6) (.q 0 (.q 1 (.q 2 (.q 3 (.f 4 (.q 5 (.tl 6 (.nil)))))))) (by decide +kernel) ?_
  refine call_new (cloneEdge_ct _ _ _ (g.edges) ?_) (Rp.mono _ (mem_at 0 rfl) h1p) ?_
  · trivial
  rintro v2 A2 o2
  obtain ⟨b2, c2, rfl, o2⟩ := o2
  refine VC.intro ?_ ?_
  · exact keep_new
  exact ⟨_, ⟨_, _, rfl, by assumption⟩, (.le fun a => by (try simp only [setR, List.cons_append, List.nil_append]); simp [List.count_cons, Blk.ent, idOf]; try omega)⟩

/-- a graph to which an edge is added -/
def putG (g : Graph) (e : Edge) : Graph := ⟨g.size, putE g.edges e⟩
def addG (g : Graph) (e : Edge) : Graph := if graphOk (putG g e) then putG g e else g
theorem addG_yes {g : Graph} {e : Edge} (h : graphOk (putG g e) = true) : addG g e = putG g e := by unfold addG; rw [h]; rfl
theorem addG_no {g : Graph} {e : Edge} (h : graphOk (putG g e) = false) : addG g e = g := by unfold addG; rw [h]; rfl
theorem graphOk_sorted {g : Graph} (h : graphOk g = true) : sortedE g.edges := (graphOk_iff.1 h).2.2.2
theorem putG_old {g : Graph} {e : Edge} {k : Nat} (h : graphOk g = true) (ha : atE g.edges e k) (hf : k < g.edges.length ∧ g.edges[k]?.getD default = e) : putG g e = g := by
  unfold putG; rw [putE_old (graphOk_sorted h) ha hf.1 hf.2]
theorem putG_new {g : Graph} {e : Edge} {k : Nat} (h : graphOk g = true) (ha : atE g.edges e k) (hf : ¬ (k < g.edges.length ∧ g.edges[k]?.getD default = e)) : putG g e = ⟨g.size, g.edges.take k ++ ([e] ++ g.edges.drop k)⟩ := by
  unfold putG; rw [putE_new (graphOk_sorted h) ha hf]

--@ct impl.GraphAdd new graphAdd_ct _ _ $1 $2 ?_ | ⟨%1, %2⟩ | obtain ⟨b#, c#, rfl, o#⟩ := o#
theorem graphAdd_ct (l l2 : List Value) (g : Graph) (e : Edge) (hg : graphOk g = true) :
    Ct Try.prog 154 [.agg ⟨l⟩, .agg ⟨l2⟩] [] (fun H => gGraph.rd H l g ∧ gEdge.rd H l2 e) (fun v A => ∃ b c, v = .tuple #[.agg ⟨[.int .i64 (addG g e).size, .slice b (addG g e).edges.length c]⟩, .bool (graphOk (putG g e))] ∧ (gSl 192 gEdge).ow [.slice b (addG g e).edges.length c] (addG g e).edges A) := by
  refine Ct.intro0 G_ok Try.func154 rfl rfl rfl fun E H hp => ?_
  obtain ⟨hp, hp2⟩ := hp
  obtain ⟨b1p, c1p, rfl, w0p, h1p⟩ := gGraph_rd.1 hp
  obtain ⟨rfl, w0f, w2f⟩ := gEdge_rd.1 hp2
  have hr := graphOk_rng hg
  have hpost : ∀ (k : Nat) (b : Option Addr) (c : Nat) (A : Hp), (gSl 192 gEdge).ow [.slice b (g.edges.take k ++ ([e] ++ g.edges.drop k)).length c] (g.edges.take k ++ ([e] ++ g.edges.drop k)) A → gGraph.rd A [.int .i64 g.size, .slice b (g.edges.take k ++ ([e] ++ g.edges.drop k)).length c] ⟨g.size, g.edges.take k ++ ([e] ++ g.edges.drop k)⟩ := fun k b c A h => gGraph_rd.2 ⟨b, c, rfl, w0p, Gt.owrd _ h⟩
  refine VCnew.intro fun x0 => ?_
  refine VCnew.intro fun x1 => ?_
  refine VCnew.intro fun x2 => ?_
  refine call_new (copyGraph_ct _ (g) ?_) (Rp.mono _ (mem_at 0 rfl) hp) ?_
  · omega
  rintro v3 A3 o3
  obtain ⟨b3, c3, rfl, o3⟩ := o3
  refine VCnew.intro fun x4 => ?_
  refine call_val (implGraphOk_ct _ _) (by (try exact Rp.mono _ (mem_at 0 rfl) hp); (try exact Rp.mono _ (mem_at 1 rfl) hp); (try exact Rp.mono _ (mem_at 0 rfl) (hpost _ _ _ _ (by assumption))); (try exact Rp.mono _ (mem_at 1 rfl) (hpost _ _ _ _ (by assumption)))) ?_
  rintro _ rfl
  refine VCsplit.intro (fun q6 => ?_) (fun q6 => ?_)
  ·
    simp at q6
    exact absurd (hg.symm.trans q6) (by decide)
  ·
    simp at q6
    refine call_val (bsEdge_ct _ _ _ _ (g.edges) (e) ?_ ?_) ⟨(Rp.mono _ (mem_at 0 rfl) (Gt.owrd _ o3)), (Rp.mono _ (mem_at 1 rfl) hp2)⟩ ?_
    · exact graphOk_sorted hg
    · omega
    rintro _ ⟨k7, hk7, rfl⟩
    refine VCsplit.intro (fun q8 => ?_) (fun q8 => ?_)
    ·
      simp at q8
      (have e0 := putG_old hg ‹atE _ _ _› ‹_ ∧ _›; have e2 : graphOk (putG g e) = true := (by rw [e0]; exact hg); rw [addG_yes e2, e2, e0]; exact ⟨_, ⟨_, _, rfl, by assumption⟩, (.le fun a => by (try simp only [setR, List.cons_append, List.nil_append]); simp [List.count_cons, Blk.ent, idOf]; try omega)⟩)
    ·
      simp at q8
      refine VCnew.intro fun x9 => ?_
      refine callR_at 1 rfl (insEdge_ct _ _ _ _ _ _ _ _ _ o3 (gEdge_own ‹gEdge.rd _ _ _›) ?_ ?_) (mem_at 0 rfl _ (List.mem_singleton.2 rfl)) ?_
      · exact ‹atE _ _ _›.1
      · omega
      rintro _ A10 ⟨b10, c10, rfl, o10⟩
      refine call_val (implGraphOk_ct _ _) (by (try exact Rp.mono _ (mem_at 0 rfl) hp); (try exact Rp.mono _ (mem_at 1 rfl) hp); (try exact Rp.mono _ (mem_at 0 rfl) (hpost _ _ _ _ (by assumption))); (try exact Rp.mono _ (mem_at 1 rfl) (hpost _ _ _ _ (by assumption)))) ?_
      rintro _ rfl
      refine VCsplit.intro (fun q12 => ?_) (fun q12 => ?_)
      ·
        simp at q12
        refine call_new (copyGraph_ct _ (g) ?_) (Rp.mono _ (mem_at 2 rfl) hp) ?_
        · omega
        rintro v13 A13 o13
        obtain ⟨b13, c13, rfl, o13⟩ := o13
        try dsimp only
        (have e1 := putG_new hg ‹atE _ _ _› (fun h => ‹_ → ¬ _› h.1 h.2); have e2 : graphOk (putG g e) = false := (by rw [e1]; exact ‹graphOk ⟨_, _⟩ = false›); rw [addG_no e2, e2]; exact ⟨_, ⟨_, _, rfl, by assumption⟩, (.le fun a => by (try simp only [setR, List.cons_append, List.nil_append]); simp [List.count_cons, Blk.ent, idOf]; try omega)⟩)
      ·
        simp at q12
        try dsimp only
        (have e1 := putG_new hg ‹atE _ _ _› (fun h => ‹_ → ¬ _› h.1 h.2); have e2 : graphOk (putG g e) = true := (by rw [e1]; exact ‹graphOk ⟨_, _⟩ = true›); rw [addG_yes e2, e2, e1]; exact ⟨_, ⟨_, _, rfl, by assumption⟩, (.le fun a => by (try simp only [setR, List.cons_append, List.nil_append]); simp [List.count_cons, Blk.ent, idOf]; try omega)⟩)

--@ct spec.l04Put new l04Put_ct _ _ _ _ $1 $2 ?_ | ⟨%1, %2⟩ | obtain ⟨b#, c#, rfl, o#⟩ := o#
theorem l04Put_ct (b : Option Addr) (m c : Nat) (l : List Value) (xs : List Edge) (e : Edge) (hm : xs.length ≤ 400000000) :
    Ct Try.prog 149 [.slice b m c, .agg ⟨l⟩] [] (fun H => (gSl 192 gEdge).rd H [.slice b m c] xs ∧ gEdge.rd H l e) (fun v A => ∃ b c, v = .slice b (putE xs e).length c ∧ (gSl 192 gEdge).ow [.slice b (putE xs e).length c] (putE xs e) A) := by
  refine Ct.intro0 G_ok Try.func149 rfl rfl rfl fun E H hp => ?_
  obtain ⟨hp, hp2⟩ := hp
  obtain ⟨rfl, hcl, hl⟩ := sl_len hp
  obtain ⟨rfl, w0f, w2f⟩ := gEdge_rd.1 hp2
  refine VCnew.intro fun x0 => ?_
  refine VCnew.intro fun x1 => ?_
  apply loop_mod (α := (Nat) × (List Edge) × (Hp) × (Option Addr) × (Nat)) G_ok [9, 10, 11, 12, 15, 16, 17, 18, 19, 20, 21, 22, 23, 24, 25, 26, 27, 5, 13, 14, 6] (fun z => [(6, .v (.int .i64 z.1)), (5, .v (.slice z.2.2.2.1 z.2.1.length z.2.2.2.2))]) (fun z => [{ id := x0, cs := [Value.int IntKind.i64 e.from', Value.int IntKind.u8 (↑e.label.toNat : Int), Value.int IntKind.i64 e.to], ty := (192 : Nat) }]) (fun z => [z.2.2.1, H]) (fun z => xs.length - z.1) (fun z => z.1 ≤ xs.length ∧ z.2.1 = (xs.take z.1).filter (fun x => edgeLess x e) ∧ (gSl 192 gEdge).ow [.slice z.2.2.2.1 z.2.1.length z.2.2.2.2] z.2.1 z.2.2.1) ((0, [], [], _, 0))
  · repeat' (first | exact trivial | refine ⟨⟨_, rfl, by first | rfl | exact inc_eq _ (by omega) | (refine sl_eq ?_; simp; done), by first | exact trivial | simp [SV.ok]⟩, ?_⟩)
  · exact ⟨rfl, trivial⟩
  · try dsimp only
    exact ⟨by omega, rfl, sl_nil _ _ _⟩
  · exact .tl
  rintro ⟨k, o, A, lb, lc⟩ hI
  obtain ⟨hk, ho, oA⟩ : k ≤ xs.length ∧ o = (xs.take k).filter (fun x => edgeLess x e) ∧ (gSl 192 gEdge).ow [.slice lb o.length lc] o A := hI
  try dsimp only
  refine VCsplit.intro (fun q2 => ?_) (fun q2 => ?_)
  ·
    simp at q2
    have hol : o.length ≤ k := by rw [ho]; exact Nat.le_trans (List.length_filter_le _ _) (by rw [List.length_take]; omega)
    refine draw G_ok mixed none (.q 0 (.q 1 (.q 2 (.q 3 (.q 4 (.f 5 (.nil))))))) (by decide +kernel) ?_
    refine idx_rd hp ?_ ?_ fun b3 o3 hb3 => ?_
    · omega
    · omega
    refine load_allN default (k) rfl hp ?_ ?_ hb3 rfl (mem_at 1 rfl) fun l4 hl4 => ?_
    · omega
    · omega
    obtain ⟨rfl, w0x4, w2x4⟩ := gEdge_rd.1 hl4
    refine call_val (specEdgeLess_ct _ _ (xs[k]?.getD default) (e)) ⟨(Rp.mono _ (mem_at 1 rfl) hl4), (Rp.mono _ (mem_at 1 rfl) hp2)⟩ ?_
    rintro _ rfl
    refine VC.intro ?_ ?_
    · exact fun _ h => h
    refine VCsplit.intro (fun q6 => ?_) (fun q6 => ?_)
    ·
      refine idx_rd hp ?_ ?_ fun b7 o7 hb7 => ?_
      · omega
      · omega
      refine load_allN default (k) rfl hp ?_ ?_ hb7 rfl (mem_at 1 rfl) fun l8 hl8 => ?_
      · omega
      · omega
      obtain ⟨rfl, w0x8, w2x8⟩ := gEdge_rd.1 hl8
      refine VCnew.intro fun x9 => ?_
      refine gappend1 (g := gEdge) (T := (192 : TypeId)) G_ok A _ [H] ?_ oA (gEdge_own ‹_›) (List.mem_of_getElem? (i := 0) rfl) rfl rfl rfl rfl rfl rfl rfl rfl ?_ fun b10 c10 A10 o10 => ?_
      · exact .tl
      · omega
      apply loop_stepA (k + 1, _, _, _, _)
      · exact .refl _
      · repeat' (first | exact trivial | refine ⟨⟨_, rfl, by first | rfl | exact inc_eq _ (by omega) | (refine sl_eq ?_; simp; done), by first | exact trivial | simp [SV.ok]⟩, ?_⟩)
      · exact ⟨rfl, trivial⟩
      · try dsimp only
        exact ⟨by omega, by rw [ho, filter_yes default (by omega) (by exact ‹edgeLess _ _ = true›)], ‹_›⟩
      · try dsimp only
        omega
    ·
      apply loop_stepA (k + 1, _, _, _, _)
      · exact .refl _
      · repeat' (first | exact trivial | refine ⟨⟨_, rfl, by first | rfl | exact inc_eq _ (by omega) | (refine sl_eq ?_; simp; done), by first | exact trivial | simp [SV.ok]⟩, ?_⟩)
      · exact ⟨rfl, trivial⟩
      · try dsimp only
        exact ⟨by omega, by rw [ho, filter_no default (by omega) (by exact ‹edgeLess _ _ = false›)], ‹_›⟩
      · try dsimp only
        omega
  ·
    simp at q2
    obtain rfl : k = xs.length := by omega
    rw [List.take_length] at ho
    have hol : o.length ≤ xs.length := by rw [ho]; exact List.length_filter_le _ _
    refine VCnew.intro fun x11 => ?_
    refine gappend1 (g := gEdge) (T := (192 : TypeId)) G_ok A _ [H] ?_ oA (gEdge_own ‹_›) (List.mem_of_getElem? (i := 0) rfl) rfl rfl rfl rfl rfl rfl rfl rfl ?_ fun b12 c12 A12 o12 => ?_
    · exact .tl
    · omega
    apply loop_mod (α := (Nat) × (List Edge) × (Hp) × (Option Addr) × (Nat)) G_ok [32, 33, 34, 35, 38, 39, 40, 41, 42, 43, 44, 45, 46, 47, 48, 49, 50, 5, 36, 37, 7] (fun z => [(7, .v (.int .i64 z.1)), (5, .v (.slice z.2.2.2.1 z.2.1.length z.2.2.2.2))]) (fun z => [{ id := x0, cs := [Value.int IntKind.i64 e.from', Value.int IntKind.u8 (↑e.label.toNat : Int), Value.int IntKind.i64 e.to], ty := (192 : Nat) }]) (fun z => [z.2.2.1, H]) (fun z => xs.length - z.1) (fun z => z.1 ≤ xs.length ∧ z.2.1 = xs.filter (fun x => edgeLess x e) ++ ([e] ++ (xs.take z.1).filter (fun x => edgeLess e x)) ∧ (gSl 192 gEdge).ow [.slice z.2.2.2.1 z.2.1.length z.2.2.2.2] z.2.1 z.2.2.1) ((0, _, _, _, _))
    · repeat' (first | exact trivial | refine ⟨⟨_, rfl, by first | rfl | exact inc_eq _ (by omega) | (refine sl_eq ?_; simp; done), by first | exact trivial | simp [SV.ok]⟩, ?_⟩)
    · exact ⟨rfl, trivial⟩
    · try dsimp only
      exact ⟨by omega, by rw [ho]; simp, ‹_›⟩
    · exact .refl _
    rintro ⟨k, o, A, lb, lc⟩ hI
    obtain ⟨hk, ho, oA⟩ : k ≤ xs.length ∧ o = xs.filter (fun x => edgeLess x e) ++ ([e] ++ (xs.take k).filter (fun x => edgeLess e x)) ∧ (gSl 192 gEdge).ow [.slice lb o.length lc] o A := hI
    try dsimp only
    refine VCsplit.intro (fun q13 => ?_) (fun q13 => ?_)
    ·
      simp at q13
      have hol : o.length ≤ 2 * xs.length + 1 := by (rw [ho]; have h1 := List.length_filter_le (fun x => edgeLess x e) xs; have h2 := List.length_filter_le (fun x => edgeLess e x) (xs.take k); rw [List.length_take] at h2; simp only [List.length_append, List.length_cons, List.length_nil]; omega)
      refine draw G_ok mixed none (.q 0 (.q 1 (.q 2 (.q 3 (.q 4 (.f 5 (.nil))))))) (by decide +kernel) ?_
      refine idx_rd hp ?_ ?_ fun b14 o14 hb14 => ?_
      · omega
      · omega
      refine load_allN default (k) rfl hp ?_ ?_ hb14 rfl (mem_at 1 rfl) fun l15 hl15 => ?_
      · omega
      · omega
      obtain ⟨rfl, w0x15, w2x15⟩ := gEdge_rd.1 hl15
      refine call_val (specEdgeLess_ct _ _ (e) (xs[k]?.getD default)) ⟨(Rp.mono _ (mem_at 1 rfl) hp2), (Rp.mono _ (mem_at 1 rfl) hl15)⟩ ?_
      rintro _ rfl
      refine VC.intro ?_ ?_
      · exact fun _ h => h
      refine VCsplit.intro (fun q17 => ?_) (fun q17 => ?_)
      ·
        refine idx_rd hp ?_ ?_ fun b18 o18 hb18 => ?_
        · omega
        · omega
        refine load_allN default (k) rfl hp ?_ ?_ hb18 rfl (mem_at 1 rfl) fun l19 hl19 => ?_
        · omega
        · omega
        obtain ⟨rfl, w0x19, w2x19⟩ := gEdge_rd.1 hl19
        refine VCnew.intro fun x20 => ?_
        refine gappend1 (g := gEdge) (T := (192 : TypeId)) G_ok A _ [H] ?_ oA (gEdge_own ‹_›) (List.mem_of_getElem? (i := 0) rfl) rfl rfl rfl rfl rfl rfl rfl rfl ?_ fun b21 c21 A21 o21 => ?_
        · exact .tl
        · omega
        apply loop_stepA (k + 1, _, _, _, _)
        · exact .refl _
        · repeat' (first | exact trivial | refine ⟨⟨_, rfl, by first | rfl | exact inc_eq _ (by omega) | (refine sl_eq ?_; simp; done), by first | exact trivial | simp [SV.ok]⟩, ?_⟩)
        · exact ⟨rfl, trivial⟩
        · try dsimp only
          exact ⟨by omega, by rw [ho, filter_yes default (by omega) (by exact ‹edgeLess _ _ = true›)]; simp, ‹_›⟩
        · try dsimp only
          omega
      ·
        apply loop_stepA (k + 1, _, _, _, _)
        · exact .refl _
        · repeat' (first | exact trivial | refine ⟨⟨_, rfl, by first | rfl | exact inc_eq _ (by omega) | (refine sl_eq ?_; simp; done), by first | exact trivial | simp [SV.ok]⟩, ?_⟩)
        · exact ⟨rfl, trivial⟩
        · try dsimp only
          exact ⟨by omega, by rw [ho, filter_no default (by omega) (by exact ‹edgeLess _ _ = false›)], ‹_›⟩
        · try dsimp only
          omega
    ·
      simp at q13
      (have hke : k = xs.length := (by omega); subst hke; rw [List.take_length] at ho; subst ho; exact ⟨_, ⟨_, _, rfl, by assumption⟩, (.le fun a => by (try simp only [setR, List.cons_append, List.nil_append]); simp [List.count_cons, Blk.ent, idOf]; try omega)⟩)

end Go.Proofs.Ytcikookachejfaa
