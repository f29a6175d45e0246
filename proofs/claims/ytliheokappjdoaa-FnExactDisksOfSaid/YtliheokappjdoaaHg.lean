/-
  Frames, owners, parts of graphs, graphs as texts, on both sides. Conditions: none.
-/
import Derived.Test.YtliheokappjdoaaHf
import Derived.Test.YtliheokappjdoaaGw
namespace Go.Proofs.Ytliheokappjdoaa
open Go.SX Go.Proofs
set_option linter.unusedSimpArgs false
set_option linter.unusedVariables false
set_option maxHeartbeats 4000000
attribute [local irreducible] IntKind.wrap

def ownerOk (v n : Int) : Bool := inR 1 8 n && inR 0 11 v
def ownerOf (v n : Int) : Int := if ownerOk v n then sumOf (varText v) % n else 0
theorem ownerOf_no {v n : Int} (h : ownerOk v n = false) : ownerOf v n = 0 := by unfold ownerOf; rw [h]; rfl
theorem ownerOf_val {v n : Int} (h1 : 1 ≤ n) (h2 : n ≤ 8) (h3 : 0 ≤ v) (h4 : v ≤ 11) : Value.int .i64 (IntKind.i64.wrap ((sumOf (varText v)).tmod (IntKind.u32.wrap n))) = Value.int .i64 (ownerOf v n) := by
  have h5 := sumOf_rng (varText v)
  have h6 : IntKind.u32.wrap n = n := by rw [u32_wrap]; omega
  have h7 : 0 ≤ sumOf (varText v) % n := Int.emod_nonneg _ (by omega)
  have h8 : sumOf (varText v) % n < n := Int.emod_lt_of_pos _ (by omega)
  have h9 : ownerOk v n = true := by unfold ownerOk inR; simp; omega
  unfold ownerOf
  rw [h6, Int.tmod_eq_emod_of_nonneg h5.1, wrap_of (by omega) (by omega), h9]; rfl
--@ct impl.OwnerOf val implOwnerOf_ct _ _
theorem implOwnerOf_ct (v n : Int) : Ct Try.prog 168 [.int .i64 v, .int .i64 n] [] (fun _ => True) (fun r A => r = .int .i64 (ownerOf v n) ∧ A = []) := by
  refine Ct.intro0 G_ok Try.func168 rfl rfl rfl fun E H hp => ?_
  have h1 := varText_size v
  have h3 := sumOf_rng (varText v)
  refine VCsplit.intro (fun q0 => ?_) (fun q0 => ?_)
  ·
    simp at q0
    exact ⟨[], ⟨by rw [ownerOf_no (by unfold ownerOk inR; simp; omega)], rfl⟩, (.le fun a => by (try simp only [setR, List.cons_append, List.nil_append]); simp only [List.flatten_append, List.flatten_cons, List.flatten_nil, List.count_append, List.count_nil, List.append_nil, List.nil_append]; omega)⟩
  ·
    simp at q0
    refine VCsplit.intro (fun q1 => ?_) (fun q1 => ?_)
    ·
      simp at q1
      exact ⟨[], ⟨by rw [ownerOf_no (by unfold ownerOk inR; simp; omega)], rfl⟩, (.le fun a => by (try simp only [setR, List.cons_append, List.nil_append]); simp only [List.flatten_append, List.flatten_cons, List.flatten_nil, List.count_append, List.count_nil, List.append_nil, List.nil_append]; omega)⟩
    ·
      simp at q1
      refine VCsplit.intro (fun q2 => ?_) (fun q2 => ?_)
      ·
        simp at q2
        exact ⟨[], ⟨by rw [ownerOf_no (by unfold ownerOk inR; simp; omega)], rfl⟩, (.le fun a => by (try simp only [setR, List.cons_append, List.nil_append]); simp only [List.flatten_append, List.flatten_cons, List.flatten_nil, List.count_append, List.count_nil, List.append_nil, List.nil_append]; omega)⟩
      ·
        simp at q2
        refine VCsplit.intro (fun q3 => ?_) (fun q3 => ?_)
        ·
          simp at q3
          exact ⟨[], ⟨by rw [ownerOf_no (by unfold ownerOk inR; simp; omega)], rfl⟩, (.le fun a => by (try simp only [setR, List.cons_append, List.nil_append]); simp only [List.flatten_append, List.flatten_cons, List.flatten_nil, List.count_append, List.count_nil, List.append_nil, List.nil_append]; omega)⟩
        ·
          simp at q3
          refine call_val (varText_ct _ ?_ ?_) trivial ?_
          · trivial
          · omega
          rintro _ rfl
          refine call_val (implSumOf_ct _ ?_) trivial ?_
          · omega
          rintro _ rfl
          refine VC.intro ?_ ?_
          · (rw [u32_wrap]; omega)
          exact ⟨[], ⟨ownerOf_val (by omega) (by omega) (by omega) (by omega), rfl⟩, (.le fun a => by (try simp only [setR, List.cons_append, List.nil_append]); simp only [List.flatten_append, List.flatten_cons, List.flatten_nil, List.count_append, List.count_nil, List.append_nil, List.nil_append]; omega)⟩
--@ct spec.OwnerOf val specOwnerOf_ct _ _
theorem specOwnerOf_ct (v n : Int) : Ct Try.prog 161 [.int .i64 v, .int .i64 n] [] (fun _ => True) (fun r A => r = .int .i64 (ownerOf v n) ∧ A = []) := by
  refine Ct.intro0 G_ok Try.func161 rfl rfl rfl fun E H hp => ?_
  have h1 := varText_size v
  have h3 := sumOf_rng (varText v)
  refine call_val (l01In_ct _ _ _) trivial ?_
  rintro _ rfl
  refine VCsplit.intro (fun q1 => ?_) (fun q1 => ?_)
  ·
    simp at q1
    exact ⟨[], ⟨by rw [ownerOf_no (by unfold ownerOk; simp_all)], rfl⟩, (.le fun a => by (try simp only [setR, List.cons_append, List.nil_append]); simp only [List.flatten_append, List.flatten_cons, List.flatten_nil, List.count_append, List.count_nil, List.append_nil, List.nil_append]; omega)⟩
  ·
    simp at q1
    have iq1 := inR_iff.1 q1
    refine call_val (l01In_ct _ _ _) trivial ?_
    rintro _ rfl
    refine VCsplit.intro (fun q3 => ?_) (fun q3 => ?_)
    ·
      simp at q3
      exact ⟨[], ⟨by rw [ownerOf_no (by unfold ownerOk; simp_all)], rfl⟩, (.le fun a => by (try simp only [setR, List.cons_append, List.nil_append]); simp only [List.flatten_append, List.flatten_cons, List.flatten_nil, List.count_append, List.count_nil, List.append_nil, List.nil_append]; omega)⟩
    ·
      simp at q3
      have iq3 := inR_iff.1 q3
      refine call_val (l01Var_ct _ ?_ ?_) trivial ?_
      · omega
      · omega
      rintro _ rfl
      refine call_val (specSumOf_ct _ ?_) trivial ?_
      · omega
      rintro _ rfl
      refine VC.intro ?_ ?_
      · (rw [u32_wrap]; omega)
      exact ⟨[], ⟨ownerOf_val (by omega) (by omega) (by omega) (by omega), rfl⟩, (.le fun a => by (try simp only [setR, List.cons_append, List.nil_append]); simp only [List.flatten_append, List.flatten_cons, List.flatten_nil, List.count_append, List.count_nil, List.append_nil, List.nil_append]; omega)⟩

def partOf (g : Graph) (w n : Int) : Graph := if graphOk g then ⟨g.size, g.edges.filter fun e => ownerOf e.from' n == w⟩ else ⟨g.size, []⟩
theorem graphOk_rng {g : Graph} (h : graphOk g = true) : 1 ≤ g.size ∧ g.size ≤ 12 ∧ g.edges.length ≤ 40 := by
  unfold graphOk inR at h
  simp at h
  omega
theorem allOk_edge {g : Graph} : ∀ {n : Nat}, allOk g n = true → ∀ k, k < n → edgeOk g k = true
  | 0, _, k, hk => by omega
  | n + 1, h, k, hk => by
    unfold allOk at h
    simp at h
    rcases Nat.lt_or_ge k n with h1 | h1
    · exact allOk_edge h.1 k h1
    · rw [show k = n by omega]; exact h.2
theorem graphOk_edge {g : Graph} (h : graphOk g = true) (k : Nat) (hk : k < g.edges.length) : edgeOk g k = true := by
  have h1 := h
  unfold graphOk at h1
  simp at h1
  exact allOk_edge h1.2.2 k hk
theorem edgeOk_rng {g : Graph} {k : Nat} (h : edgeOk g k = true) : 0 ≤ (g.edges[k]?.getD default).from' ∧ (g.edges[k]?.getD default).from' ≤ g.size - 1 ∧ 0 ≤ (g.edges[k]?.getD default).to ∧ (g.edges[k]?.getD default).to ≤ g.size - 1 := by
  unfold edgeOk at h
  simp only [Bool.and_eq_true] at h
  have h1 := inR_iff.1 h.1
  have h2 := inR_iff.1 h.2.1
  omega
theorem filter_yes {α : Type} {p : α → Bool} {xs : List α} {k : Nat} (z : α) (h : k < xs.length) (hp : p (xs[k]?.getD z) = true) : (xs.take (k + 1)).filter p = (xs.take k).filter p ++ [xs[k]?.getD z] := by
  rw [List.getElem?_eq_getElem h] at hp ⊢
  rw [← List.take_append_getElem h, List.filter_append]
  simp at hp
  simp [hp]
theorem filter_no {α : Type} {p : α → Bool} {xs : List α} {k : Nat} (z : α) (h : k < xs.length) (hp : p (xs[k]?.getD z) = false) : (xs.take (k + 1)).filter p = (xs.take k).filter p := by
  rw [List.getElem?_eq_getElem h] at hp
  rw [← List.take_append_getElem h, List.filter_append]
  simp at hp
  simp [hp]
theorem partOf_yes {g : Graph} {w n : Int} (h : graphOk g = true) : partOf g w n = ⟨g.size, g.edges.filter fun e => ownerOf e.from' n == w⟩ := by unfold partOf; rw [h]; rfl
theorem partOf_no {g : Graph} {w n : Int} (h : graphOk g = false) : partOf g w n = ⟨g.size, []⟩ := by unfold partOf; rw [h]; rfl
--@ct impl.PartOf new implPartOf_ct _ $1 _ _ | %1 | obtain ⟨l#, rfl, o#⟩ := o# ;; have r# := Gt.owrd _ o# ;; obtain ⟨b1#, c1#, rfl, w0#, h1#⟩ := gGraph_rd.1 r#
--@ct spec.PartOf new specPartOf_ct _ $1 _ _ | %1 | obtain ⟨l#, rfl, o#⟩ := o# ;; have r# := Gt.owrd _ o# ;; obtain ⟨b1#, c1#, rfl, w0#, h1#⟩ := gGraph_rd.1 r#
theorem implPartOf_ct (l : List Value) (g : Graph) (w n : Int) : Ct Try.prog 81 [.agg ⟨l⟩, .int .i64 w, .int .i64 n] [] (fun H => gGraph.rd H l g) (fun v A => ∃ l, v = .agg ⟨l⟩ ∧ gGraph.ow l (partOf g w n) A) := by
  refine Ct.intro0 G_ok Try.func81 rfl rfl rfl fun E H hp => ?_
  obtain ⟨b1, c1, rfl, w0, h1⟩ := gGraph_rd.1 hp
  refine VCnew.intro fun x0 => ?_
  refine VCnew.intro fun x1 => ?_
  refine VCnew.intro fun x2 => ?_
  refine call_val (implGraphOk_ct _ (g)) (Rp.mono _ (mem_at 0 rfl) hp) ?_
  rintro _ rfl
  refine VCsplit.intro (fun q4 => ?_) (fun q4 => ?_)
  ·
    simp at q4
    exact ⟨[], ⟨_, rfl, by rw [partOf_no ‹_›]; exact gGraph_ow.2 ⟨none, 0, [], rfl, .refl _, ‹_›, sl_nil _ _ _⟩⟩, (.le fun a => by (try simp only [setR, List.cons_append, List.nil_append]); simp only [List.flatten_append, List.flatten_cons, List.flatten_nil, List.count_append, List.count_nil, List.append_nil, List.nil_append]; omega)⟩
  ·
    simp at q4
    apply loop_mod (α := (Nat) × (List Edge) × (Hp) × (Option Addr) × (Nat)) G_ok [21, 22, 23, 9, 24, 25, 26, 27, 28, 29, 30, 31, 32, 33, 34, 35, 36, 20] (fun z => [(20, .v (.int .i64 z.1))]) (fun z => [⟨x0, [.int .i64 g.size, .slice b1 g.edges.length c1], 55⟩, ⟨x1, [.int .i64 0, .slice none 0 0], 55⟩, ⟨x2, [.int .i64 g.size, .slice z.2.2.2.1 z.2.1.length z.2.2.2.2], 55⟩]) (fun z => [z.2.2.1, H]) (fun z => g.edges.length - z.1) (fun z => z.1 ≤ g.edges.length ∧ z.2.1 = (g.edges.take z.1).filter (fun e => ownerOf e.from' n == w) ∧ (gSl 197 gEdge).ow [.slice z.2.2.2.1 z.2.1.length z.2.2.2.2] z.2.1 z.2.2.1) ((0, [], [], none, 0))
    · repeat' (first | exact trivial | refine ⟨⟨_, rfl, by first | rfl | exact inc_eq _ (by omega) | (refine sl_eq ?_; simp; done), by first | exact trivial | simp [SV.ok]⟩, ?_⟩)
    · exact ⟨rfl, rfl, rfl, trivial⟩
    · try dsimp only
      exact ⟨by omega, rfl, sl_nil _ _ _⟩
    · exact .refl _
    rintro ⟨k, o, A, b, c⟩ hI
    obtain ⟨hk, ho, oA⟩ : k ≤ g.edges.length ∧ o = (g.edges.take k).filter (fun e => ownerOf e.from' n == w) ∧ (gSl 197 gEdge).ow [.slice b o.length c] o A := hI
    try dsimp only
    refine VCsplit.intro (fun q5 => ?_) (fun q5 => ?_)
    ·
      simp at q5
      have hol : o.length ≤ k := by rw [ho]; exact Nat.le_trans (List.length_filter_le _ _) (by rw [List.length_take]; omega)
      have hg := graphOk_rng ‹_›
      refine idx_rd h1 ?_ ?_ fun b6 o6 hb6 => ?_
      · omega
      · omega
      refine load_allN default (k) rfl h1 ?_ ?_ hb6 rfl (mem_at 1 rfl) fun l7 hl7 => ?_
      · omega
      · omega
      obtain ⟨rfl, w0x7, w2x7⟩ := gEdge_rd.1 hl7
      refine VCnew.intro fun x8 => ?_
      refine call_val (implOwnerOf_ct _ _) trivial ?_
      rintro _ rfl
      refine VCsplit.intro (fun q10 => ?_) (fun q10 => ?_)
      ·
        simp at q10
        refine VCnew.intro fun x11 => ?_
        refine gappend1 (g := gEdge) (T := (197 : TypeId)) G_ok A [] [H] ?_ oA (gEdge_own ‹_›) (List.mem_of_getElem? (i := 0) rfl) rfl rfl rfl rfl rfl rfl rfl rfl ?_ fun b12 c12 A12 o12 => ?_
        · exact .tl
        · omega
        apply loop_stepA (k + 1, _, _, _, _)
        · exact .refl _
        · repeat' (first | exact trivial | refine ⟨⟨_, rfl, by first | rfl | exact inc_eq _ (by omega) | (refine sl_eq ?_; simp; done), by first | exact trivial | simp [SV.ok]⟩, ?_⟩)
        · exact ⟨rfl, rfl, rfl, trivial⟩
        · try dsimp only
          exact ⟨by omega, by rw [ho, filter_yes default (by omega) (by simpa using ‹_›)], ‹_›⟩
        · try dsimp only
          omega
      ·
        simp at q10
        apply loop_stepA (k + 1, _, _, _, _)
        · exact .refl _
        · repeat' (first | exact trivial | refine ⟨⟨_, rfl, by first | rfl | exact inc_eq _ (by omega) | (refine sl_eq ?_; simp; done), by first | exact trivial | simp [SV.ok]⟩, ?_⟩)
        · exact ⟨rfl, rfl, rfl, trivial⟩
        · try dsimp only
          exact ⟨by omega, by rw [ho, filter_no default (by omega) (by simpa using ‹_›)], ‹_›⟩
        · try dsimp only
          omega
    ·
      simp at q5
      obtain rfl : k = g.edges.length := by omega
      rw [List.take_length] at ho
      subst ho
      exact ⟨_, ⟨_, rfl, by rw [partOf_yes ‹_›]; exact gGraph_ow.2 ⟨_, _, _, rfl, .refl _, ‹_›, ‹_›⟩⟩, (.le fun a => by (try simp only [setR, List.cons_append, List.nil_append]); simp only [List.flatten_append, List.flatten_cons, List.flatten_nil, List.count_append, List.count_nil, List.append_nil, List.nil_append]; omega)⟩
theorem specPartOf_ct (l : List Value) (g : Graph) (w n : Int) : Ct Try.prog 76 [.agg ⟨l⟩, .int .i64 w, .int .i64 n] [] (fun H => gGraph.rd H l g) (fun v A => ∃ l, v = .agg ⟨l⟩ ∧ gGraph.ow l (partOf g w n) A) := by
  refine Ct.intro0 G_ok Try.func76 rfl rfl rfl fun E H hp => ?_
  obtain ⟨b1, c1, rfl, w0, h1⟩ := gGraph_rd.1 hp
  refine VCnew.intro fun x0 => ?_
  refine VCnew.intro fun x1 => ?_
  refine VCnew.intro fun x2 => ?_
  refine call_val (specGraphOk_ct _ (g)) (Rp.mono _ (mem_at 0 rfl) hp) ?_
  rintro _ rfl
  refine VCsplit.intro (fun q4 => ?_) (fun q4 => ?_)
  ·
    simp at q4
    exact ⟨[], ⟨_, rfl, by rw [partOf_no ‹_›]; exact gGraph_ow.2 ⟨none, 0, [], rfl, .refl _, ‹_›, sl_nil _ _ _⟩⟩, (.le fun a => by (try simp only [setR, List.cons_append, List.nil_append]); simp only [List.flatten_append, List.flatten_cons, List.flatten_nil, List.count_append, List.count_nil, List.append_nil, List.nil_append]; omega)⟩
  ·
    simp at q4
    apply loop_mod (α := (Nat) × (List Edge) × (Hp) × (Option Addr) × (Nat)) G_ok [16, 17, 18, 19, 20, 23, 24, 25, 26, 27, 28, 29, 30, 31, 32, 33, 34, 35, 36, 37, 38, 39, 40, 41, 42, 21, 22, 8] (fun z => [(8, .v (.int .i64 z.1))]) (fun z => [⟨x0, [.int .i64 g.size, .slice b1 g.edges.length c1], 55⟩, ⟨x1, [.int .i64 0, .slice none 0 0], 55⟩, ⟨x2, [.int .i64 g.size, .slice z.2.2.2.1 z.2.1.length z.2.2.2.2], 55⟩]) (fun z => [z.2.2.1, H]) (fun z => g.edges.length - z.1) (fun z => z.1 ≤ g.edges.length ∧ z.2.1 = (g.edges.take z.1).filter (fun e => ownerOf e.from' n == w) ∧ (gSl 197 gEdge).ow [.slice z.2.2.2.1 z.2.1.length z.2.2.2.2] z.2.1 z.2.2.1) ((0, [], [], none, 0))
    · repeat' (first | exact trivial | refine ⟨⟨_, rfl, by first | rfl | exact inc_eq _ (by omega) | (refine sl_eq ?_; simp; done), by first | exact trivial | simp [SV.ok]⟩, ?_⟩)
    · exact ⟨rfl, rfl, rfl, trivial⟩
    · try dsimp only
      exact ⟨by omega, rfl, sl_nil _ _ _⟩
    · exact .refl _
    rintro ⟨k, o, A, b, c⟩ hI
    obtain ⟨hk, ho, oA⟩ : k ≤ g.edges.length ∧ o = (g.edges.take k).filter (fun e => ownerOf e.from' n == w) ∧ (gSl 197 gEdge).ow [.slice b o.length c] o A := hI
    try dsimp only
    refine VCsplit.intro (fun q5 => ?_) (fun q5 => ?_)
    ·
      simp at q5
      have hol : o.length ≤ k := by rw [ho]; exact Nat.le_trans (List.length_filter_le _ _) (by rw [List.length_take]; omega)
      have hg := graphOk_rng ‹_›
      refine idx_rd h1 ?_ ?_ fun b6 o6 hb6 => ?_
      · omega
      · omega
      refine load_partN default (k) 0 rfl h1 ?_ ?_ hb6 rfl (by decide) (mem_at 1 rfl) fun l7 hl7 => ?_
      · omega
      · omega
      obtain ⟨rfl, w0x7, w2x7⟩ := gEdge_rd.1 hl7
      refine call_val (specOwnerOf_ct _ _) trivial ?_
      rintro _ rfl
      refine VCsplit.intro (fun q9 => ?_) (fun q9 => ?_)
      ·
        simp at q9
        refine draw G_ok mixed (some 8) (.q 0 (.q 1 (.q 2 (.q 3 (.q 4 (.q 5 (.q 6 (.f 7 (.tl 8 (.f 9 (.f 10 (.nil)))))))))))) (by decide +kernel) ?_
        refine idx_rd h1 ?_ ?_ fun b10 o10 hb10 => ?_
        · omega
        · omega
        refine load_allN default (k) rfl h1 ?_ ?_ hb10 rfl (mem_at 1 rfl) fun l11 hl11 => ?_
        · omega
        · omega
        obtain ⟨rfl, w0x11, w2x11⟩ := gEdge_rd.1 hl11
        refine VCnew.intro fun x12 => ?_
        refine VC.intro ?_ ?_
        · exact keep_new
        refine gappend1 (g := gEdge) (T := (197 : TypeId)) G_ok A [] [H] ?_ oA (gEdge_own ‹_›) (List.mem_of_getElem? (i := 0) rfl) rfl rfl rfl rfl rfl rfl rfl rfl ?_ fun b13 c13 A13 o13 => ?_
        · exact .tl
        · omega
        apply loop_stepA (k + 1, _, _, _, _)
        · exact .refl _
        · repeat' (first | exact trivial | refine ⟨⟨_, rfl, by first | rfl | exact inc_eq _ (by omega) | (refine sl_eq ?_; simp; done), by first | exact trivial | simp [SV.ok]⟩, ?_⟩)
        · exact ⟨rfl, rfl, rfl, trivial⟩
        · try dsimp only
          exact ⟨by omega, by rw [ho, filter_yes default (by omega) (by simpa using ‹_›)], ‹_›⟩
        · try dsimp only
          omega
      ·
        simp at q9
        apply loop_stepA (k + 1, _, _, _, _)
        · exact .refl _
        · repeat' (first | exact trivial | refine ⟨⟨_, rfl, by first | rfl | exact inc_eq _ (by omega) | (refine sl_eq ?_; simp; done), by first | exact trivial | simp [SV.ok]⟩, ?_⟩)
        · exact ⟨rfl, rfl, rfl, trivial⟩
        · try dsimp only
          exact ⟨by omega, by rw [ho, filter_no default (by omega) (by simpa using ‹_›)], ‹_›⟩
        · try dsimp only
          omega
    ·
      simp at q5
      obtain rfl : k = g.edges.length := by omega
      rw [List.take_length] at ho
      subst ho
      exact ⟨_, ⟨_, rfl, by rw [partOf_yes ‹_›]; exact gGraph_ow.2 ⟨_, _, _, rfl, .refl _, ‹_›, ‹_›⟩⟩, (.le fun a => by (try simp only [setR, List.cons_append, List.nil_append]); simp only [List.flatten_append, List.flatten_cons, List.flatten_nil, List.count_append, List.count_nil, List.append_nil, List.nil_append]; omega)⟩
def edgeText (e : Edge) : List UInt8 := varT e.from' ++ ([e.label] ++ varT e.to)
def graphBytes (g : Graph) : List UInt8 := varT g.size ++ (varT g.edges.length ++ g.edges.flatMap edgeText)
def graphText (g : Graph) : ByteArray := tx (graphBytes g)
theorem by_var (n : Int) : (varText n).data.toList = varT n := by_tx _
theorem gt_step {g : Graph} {k : Nat} (h : k < g.edges.length) : (g.edges.take (k + 1)).flatMap edgeText = (g.edges.take k).flatMap edgeText ++ edgeText (g.edges[k]?.getD default) := by
  rw [← List.take_append_getElem h, List.flatMap_append, List.getElem?_eq_getElem h]; simp
theorem lbl_tx (x : UInt8) : (⟨(([(x.toNat : Int)] : List Int).map fun v => UInt8.ofNat v.toNat).toArray⟩ : ByteArray) = tx [x] := by
  unfold tx; simp
theorem gt_s {g : Graph} {k : Nat} {s : ByteArray} {P Q : List UInt8} (h : k < g.edges.length) (ho : s = tx (P ++ (Q ++ (g.edges.take k).flatMap edgeText))) :
    s ++ varText (g.edges[k]?.getD default).from' ++ ⟨(([((g.edges[k]?.getD default).label.toNat : Int)] : List Int).map fun v => UInt8.ofNat v.toNat).toArray⟩ ++ varText (g.edges[k]?.getD default).to = tx (P ++ (Q ++ (g.edges.take (k + 1)).flatMap edgeText)) := by
  rw [lbl_tx, gt_step h, ho]
  unfold edgeText varText
  simp only [tx_app, ByteArray.append_assoc]
--@ct impl.GraphText val implGraphText_ct _ $1 | %1
--@ct spec.GraphText val specGraphText_ct _ $1 | %1
theorem implGraphText_ct (l : List Value) (g : Graph) : Ct Try.prog 234 [.agg ⟨l⟩] [] (fun H => gGraph.rd H l g) (fun v A => v = .tuple #[.string (if graphOk g then graphText g else .empty), .bool (graphOk g)] ∧ A = []) := by
  refine Ct.intro0 G_ok Try.func234 rfl rfl rfl fun E H hp => ?_
  obtain ⟨b1, c1, rfl, w0, h1⟩ := gGraph_rd.1 hp
  refine VCnew.intro fun x0 => ?_
  refine call_val (implGraphOk_ct _ (g)) (Rp.mono _ (mem_at 0 rfl) hp) ?_
  rintro _ rfl
  refine VCsplit.intro (fun q2 => ?_) (fun q2 => ?_)
  ·
    simp at q2
    exact ⟨[], ⟨by rw [show graphOk g = false by assumption]; rfl, rfl⟩, (.le fun a => by (try simp only [setR, List.cons_append, List.nil_append]); simp only [List.flatten_append, List.flatten_cons, List.flatten_nil, List.count_append, List.count_nil, List.append_nil, List.nil_append]; omega)⟩
  ·
    simp at q2
    have iq2 := graphOk_rng q2
    refine VCnew.intro fun x3 => ?_
    refine call_val (varText_ct _ ?_ ?_) trivial ?_
    · omega
    · omega
    rintro _ rfl
    refine callR_blk 1 ([]) [H] rfl ?_ (WriteString_ct _ _ _ _ _ _ _ _ (by first | exact .inl rfl | exact .inr rfl | assumption) (sl_nil _ _ _) (.inl ⟨rfl, rfl⟩) ?_) trivial ?_
    · exact .refl _
    · (have := varText_size g.size; have := varText_size g.edges.length; simp; omega)
    rintro _ A5 ⟨rfl, bb5, bc5, B5, rfl, o5, z5⟩
    refine ⟨_, _, [B5], rfl, perm1, ?_⟩
    refine call_val (varText_ct _ ?_ ?_) trivial ?_
    · omega
    · omega
    rintro _ rfl
    refine callR_blk 1 (B5) [H] rfl ?_ (WriteString_ct _ _ _ _ _ _ _ _ (by first | exact .inl rfl | exact .inr rfl | assumption) o5 z5 ?_) trivial ?_
    · exact .refl _
    · (have := varText_size g.size; have := varText_size g.edges.length; simp; omega)
    rintro _ A7 ⟨rfl, bb7, bc7, B7, rfl, o7, z7⟩
    refine ⟨_, _, [B7], rfl, perm1, ?_⟩
    apply loop_mod (α := (Nat) × (List UInt8) × (Hp) × (Option Addr) × (Nat)) G_ok [23, 24, 25, 6, 26, 27, 28, 29, 30, 31, 32, 33, 34, 35, 36, 37, 22] (fun z => [(22, .v (.int .i64 z.1))]) (fun z => [⟨x0, [.int .i64 g.size, .slice b1 g.edges.length c1], 55⟩, ⟨x3, [.pointer (some ⟨x3, 0, none⟩), .slice z.2.2.2.1 z.2.1.length z.2.2.2.2], 304⟩]) (fun z => [z.2.2.1, H]) (fun z => g.edges.length - z.1) (fun z => z.1 ≤ g.edges.length ∧ z.2.1 = varT g.size ++ (varT g.edges.length ++ (g.edges.take z.1).flatMap edgeText) ∧ z.2.1.length ≤ 20 + 21 * z.1 ∧ (gSl 5 gY).ow [.slice z.2.2.2.1 z.2.1.length z.2.2.2.2] z.2.1 z.2.2.1 ∧ Bz z.2.2.2.1 z.2.2.2.2) ((0, _, _, _, _))
    · repeat' (first | exact trivial | refine ⟨⟨_, rfl, by first | rfl | exact inc_eq _ (by omega) | (refine sl_eq ?_; simp; done), by first | exact trivial | simp [SV.ok]⟩, ?_⟩)
    · exact ⟨rfl, rfl, trivial⟩
    · try dsimp only
      exact ⟨by omega, by simp [by_var], by have := varText_size g.size; have := varText_size g.edges.length; simp; omega, ‹_›, ‹_›⟩
    · exact .refl _
    rintro ⟨k, o, A, b, c⟩ hI
    obtain ⟨hk, ho, hol, oA, zA⟩ : k ≤ g.edges.length ∧ o = varT g.size ++ (varT g.edges.length ++ (g.edges.take k).flatMap edgeText) ∧ o.length ≤ 20 + 21 * k ∧ (gSl 5 gY).ow [.slice b o.length c] o A ∧ Bz b c := hI
    try dsimp only
    refine VCsplit.intro (fun q8 => ?_) (fun q8 => ?_)
    ·
      simp at q8
      have he := edgeOk_rng (graphOk_edge ‹_› k (by omega))
      refine idx_rd h1 ?_ ?_ fun b9 o9 hb9 => ?_
      · omega
      · omega
      refine load_allN default (k) rfl h1 ?_ ?_ hb9 rfl (mem_at 1 rfl) fun l10 hl10 => ?_
      · omega
      · omega
      obtain ⟨rfl, w0x10, w2x10⟩ := gEdge_rd.1 hl10
      refine VCnew.intro fun x11 => ?_
      refine call_val (varText_ct _ ?_ ?_) trivial ?_
      · omega
      · omega
      rintro _ rfl
      refine callR_blk 1 (A) [H] rfl ?_ (WriteString_ct _ _ _ _ _ _ _ _ (by first | exact .inl rfl | exact .inr rfl | assumption) oA zA ?_) trivial ?_
      · exact .refl _
      · (have := varText_size (g.edges[k]?.getD default).from'; have := varText_size (g.edges[k]?.getD default).to; simp; omega)
      rintro _ A13 ⟨rfl, bb13, bc13, B13, rfl, o13, z13⟩
      refine ⟨_, _, [B13], rfl, perm1, ?_⟩
      refine callR_blk 1 (B13) [H] rfl ?_ (WriteByte_ct _ _ _ _ _ _ _ _ (by first | exact .inl rfl | exact .inr rfl | assumption) o13 z13 ?_) trivial ?_
      · exact .refl _
      · (have := varText_size (g.edges[k]?.getD default).from'; have := varText_size (g.edges[k]?.getD default).to; simp; omega)
      rintro _ A14 ⟨rfl, bb14, bc14, B14, rfl, o14, z14⟩
      refine ⟨_, _, [B14], rfl, perm1, ?_⟩
      refine call_val (varText_ct _ ?_ ?_) trivial ?_
      · omega
      · omega
      rintro _ rfl
      refine callR_blk 1 (B14) [H] rfl ?_ (WriteString_ct _ _ _ _ _ _ _ _ (by first | exact .inl rfl | exact .inr rfl | assumption) o14 z14 ?_) trivial ?_
      · exact .refl _
      · (have := varText_size (g.edges[k]?.getD default).from'; have := varText_size (g.edges[k]?.getD default).to; simp; omega)
      rintro _ A16 ⟨rfl, bb16, bc16, B16, rfl, o16, z16⟩
      refine ⟨_, _, [B16], rfl, perm1, ?_⟩
      apply loop_stepA (k + 1, _, _, _, _)
      · exact .refl _
      · repeat' (first | exact trivial | refine ⟨⟨_, rfl, by first | rfl | exact inc_eq _ (by omega) | (refine sl_eq ?_; simp; done), by first | exact trivial | simp [SV.ok]⟩, ?_⟩)
      · exact ⟨rfl, rfl, trivial⟩
      · try dsimp only
        exact ⟨by omega, by rw [gt_step (by omega), ho]; simp [by_var, edgeText], by have := varText_size (g.edges[k]?.getD default).from'; have := varText_size (g.edges[k]?.getD default).to; simp; omega, ‹_›, ‹_›⟩
      · try dsimp only
        omega
    ·
      simp at q8
      obtain rfl : k = g.edges.length := by omega
      rw [List.take_length] at ho
      refine callR_blk 1 (A) [H] rfl ?_ (String_ct _ _ _ _ _ _ _ oA zA) trivial ?_
      · exact .refl _
      rintro _ A17 ⟨rfl, rfl⟩
      refine ⟨_, _, [], rfl, perm0, ?_⟩
      exact ⟨[], ⟨by rw [show graphOk g = true by assumption, ho]; rfl, rfl⟩, (.le fun a => by (try simp only [setR, List.cons_append, List.nil_append]); simp only [List.flatten_append, List.flatten_cons, List.flatten_nil, List.count_append, List.count_nil, List.append_nil, List.nil_append]; omega)⟩
theorem specGraphText_ct (l : List Value) (g : Graph) : Ct Try.prog 229 [.agg ⟨l⟩] [] (fun H => gGraph.rd H l g) (fun v A => v = .tuple #[.string (if graphOk g then graphText g else .empty), .bool (graphOk g)] ∧ A = []) := by
  refine Ct.intro0 G_ok Try.func229 rfl rfl rfl fun E H hp => ?_
  obtain ⟨b1, c1, rfl, w0, h1⟩ := gGraph_rd.1 hp
  refine VCnew.intro fun x0 => ?_
  refine call_val (specGraphOk_ct _ (g)) (Rp.mono _ (mem_at 0 rfl) hp) ?_
  rintro _ rfl
  refine VCsplit.intro (fun q2 => ?_) (fun q2 => ?_)
  ·
    simp at q2
    exact ⟨[], ⟨by rw [show graphOk g = false by assumption]; rfl, rfl⟩, (.le fun a => by (try simp only [setR, List.cons_append, List.nil_append]); simp only [List.flatten_append, List.flatten_cons, List.flatten_nil, List.count_append, List.count_nil, List.append_nil, List.nil_append]; omega)⟩
  ·
    simp at q2
    have iq2 := graphOk_rng q2
    refine draw G_ok mixed none (.q 0 (.q 1 (.q 3 (.q 4 (.q 5 (.f 2 (.f 6 (.q 7 (.q 8 (.nil)))))))))) (by decide +kernel) ?_
    refine call_val (l01Var_ct _ ?_ ?_) trivial ?_
    · omega
    · omega
    rintro _ rfl
    refine VC.intro ?_ ?_
    · exact fun _ h => h
    refine call_val (l01Var_ct _ ?_ ?_) trivial ?_
    · omega
    · omega
    rintro _ rfl
    refine VC.intro ?_ ?_
    · exact fun _ h => h
    refine VC.intro ?_ ?_
    · (have := varText_size g.size; have := varText_size g.edges.length; have : IntKind.i64.max = 9223372036854775807 := rfl; omega)
    apply loop_mod (α := (Nat) × (ByteArray)) G_ok [17, 18, 19, 20, 21, 24, 25, 26, 27, 28, 29, 30, 31, 32, 33, 34, 35, 36, 37, 38, 39, 40, 41, 42, 43, 44, 45, 46, 47, 48, 49, 4, 22, 23, 5] (fun z => [(5, .v (.int .i64 z.1)), (4, .v (.string z.2))]) (fun z => [{ id := x0, cs := [Value.int IntKind.i64 g.size, Value.slice b1 g.edges.length c1], ty := (55 : Nat) }]) (fun z => [H]) (fun z => g.edges.length - z.1) (fun z => z.1 ≤ g.edges.length ∧ z.2 = tx (varT g.size ++ (varT g.edges.length ++ (g.edges.take z.1).flatMap edgeText)) ∧ z.2.size ≤ 20 + 21 * z.1) ((0, _))
    · repeat' (first | exact trivial | refine ⟨⟨_, rfl, by first | rfl | exact inc_eq _ (by omega) | (refine sl_eq ?_; simp; done), by first | exact trivial | simp [SV.ok]⟩, ?_⟩)
    · exact ⟨rfl, trivial⟩
    · try dsimp only
      exact ⟨by omega, by simp [tx_app, varText], by have := varText_size g.size; have := varText_size g.edges.length; rw [ByteArray.size_append]; omega⟩
    · exact .refl _
    rintro ⟨k, s⟩ hI
    obtain ⟨hk, ho, hol⟩ : k ≤ g.edges.length ∧ s = tx (varT g.size ++ (varT g.edges.length ++ (g.edges.take k).flatMap edgeText)) ∧ s.size ≤ 20 + 21 * k := hI
    try dsimp only
    refine VCsplit.intro (fun q5 => ?_) (fun q5 => ?_)
    ·
      simp at q5
      have he := edgeOk_rng (graphOk_edge ‹_› k (by omega))
      have h5 := varText_size (g.edges[k]?.getD default).from'
      have h6 := varText_size (g.edges[k]?.getD default).to
      have h7 : IntKind.i64.max = 9223372036854775807 := rfl
      refine draw G_ok mixed none (.q 0 (.q 1 (.q 2 (.q 3 (.q 4 (.q 5 (.q 6 (.q 9 (.q 10 (.q 11 (.q 12 (.q 13 (.q 14 (.q 18 (.q 19 (.q 20 (.q 21 (.q 22 (.q 23 (.hd (.alt 7 (.q 8 (.hd (.alt 15 (.hd (.alt 16 (.q 17 (.f 24 (.q 25 (.q 26 (.nil))))) (.alt 24 (.f 16 (.q 17 (.q 25 (.q 26 (.nil))))) (.nil)))) (.alt 24 (.f 15 (.f 16 (.q 17 (.q 25 (.q 26 (.nil)))))) (.nil))))) (.alt 15 (.hd (.alt 7 (.q 8 (.hd (.alt 16 (.q 17 (.f 24 (.q 25 (.q 26 (.nil))))) (.alt 24 (.f 16 (.q 17 (.q 25 (.q 26 (.nil))))) (.nil))))) (.alt 16 (.f 7 (.q 8 (.q 17 (.f 24 (.q 25 (.q 26 (.nil))))))) (.nil)))) (.nil))))))))))))))))))))))) (by decide +kernel) ?_
      refine idx_rd h1 ?_ ?_ fun b6 o6 hb6 => ?_
      · omega
      · omega
      refine load_partN default (k) 0 rfl h1 ?_ ?_ hb6 rfl (by decide) (mem_at 0 rfl) fun l7 hl7 => ?_
      · omega
      · omega
      obtain ⟨rfl, w0x7, w2x7⟩ := gEdge_rd.1 hl7
      refine idx_rd h1 ?_ ?_ fun b8 o8 hb8 => ?_
      · omega
      · omega
      refine load_partN default (k) 1 rfl h1 ?_ ?_ hb8 rfl (by decide) (mem_at 0 rfl) fun l9 hl9 => ?_
      · omega
      · omega
      obtain ⟨rfl, w0x9, w2x9⟩ := gEdge_rd.1 hl9
      refine idx_rd h1 ?_ ?_ fun b10 o10 hb10 => ?_
      · omega
      · omega
      refine load_partN default (k) 2 rfl h1 ?_ ?_ hb10 rfl (by decide) (mem_at 0 rfl) fun l11 hl11 => ?_
      · omega
      · omega
      obtain ⟨rfl, w0x11, w2x11⟩ := gEdge_rd.1 hl11
      refine VC.intro ?_ ?_
      ·
        refine call_val (l01Var_ct _ ?_ ?_) trivial ?_
        · omega
        · omega
        rintro _ rfl
        refine VC.intro ?_ ?_
        · exact fun _ h => h
        refine VC.intro ?_ ?_
        · omega
        refine VC.intro ?_ ?_
        ·
          refine VCnew.intro fun x13 => ?_
          refine VC.intro ?_ ?_
          · exact keep_new
          refine VC.intro ?_ ?_
          ·
            refine conv_bs G_ok (([(↑(g.edges[k]?.getD default).label.toNat : Int)] : List Int).map fun v => UInt8.ofNat v.toNat) rfl (lit_bs [(↑(g.edges[k]?.getD default).label.toNat : Int)] (mem_at 0 rfl _ (List.mem_singleton.2 rfl)) rfl ?_ (by simp)) rfl rfl rfl ?_
            · exact inU8_1 _
            refine VC.intro ?_ ?_
            · exact keep_new
            refine VC.intro ?_ ?_
            · (simp only [ByteArray.size_append, bsz, List.length_map, List.length_cons, List.length_nil]; omega)
            refine call_val (l01Var_ct _ ?_ ?_) trivial ?_
            · omega
            · omega
            rintro _ rfl
            refine VC.intro ?_ ?_
            · exact keep_new
            refine VC.intro ?_ ?_
            · (simp only [ByteArray.size_append, bsz, List.length_map, List.length_cons, List.length_nil]; omega)
            apply loop_stepA (k + 1, _)
            · exact .sub (by repeat (first | exact .slnil | apply List.Sublist.cons_cons | apply List.Sublist.cons))
            · repeat' (first | exact trivial | refine ⟨⟨_, rfl, by first | rfl | exact inc_eq _ (by omega) | (refine sl_eq ?_; simp; done), by first | exact trivial | simp [SV.ok]⟩, ?_⟩)
            · exact ⟨rfl, trivial⟩
            · try dsimp only
              exact ⟨by omega, gt_s (by omega) ho, by simp only [ByteArray.size_append, bsz, List.length_map, List.length_cons, List.length_nil]; omega⟩
            · try dsimp only
              omega
          ·
            refine VC.intro ?_ ?_
            ·
              refine call_val (l01Var_ct _ ?_ ?_) trivial ?_
              · omega
              · omega
              rintro _ rfl
              refine VC.intro ?_ ?_
              · exact keep_new
              refine conv_bs G_ok (([(↑(g.edges[k]?.getD default).label.toNat : Int)] : List Int).map fun v => UInt8.ofNat v.toNat) rfl (lit_bs [(↑(g.edges[k]?.getD default).label.toNat : Int)] (mem_at 0 rfl _ (List.mem_singleton.2 rfl)) rfl ?_ (by simp)) rfl rfl rfl ?_
              · exact inU8_1 _
              refine VC.intro ?_ ?_
              · exact keep_new
              refine VC.intro ?_ ?_
              · (simp only [ByteArray.size_append, bsz, List.length_map, List.length_cons, List.length_nil]; omega)
              refine VC.intro ?_ ?_
              · (simp only [ByteArray.size_append, bsz, List.length_map, List.length_cons, List.length_nil]; omega)
              apply loop_stepA (k + 1, _)
              · exact .sub (by repeat (first | exact .slnil | apply List.Sublist.cons_cons | apply List.Sublist.cons))
              · repeat' (first | exact trivial | refine ⟨⟨_, rfl, by first | rfl | exact inc_eq _ (by omega) | (refine sl_eq ?_; simp; done), by first | exact trivial | simp [SV.ok]⟩, ?_⟩)
              · exact ⟨rfl, trivial⟩
              · try dsimp only
                exact ⟨by omega, gt_s (by omega) ho, by simp only [ByteArray.size_append, bsz, List.length_map, List.length_cons, List.length_nil]; omega⟩
              · try dsimp only
                omega
            ·
              exact trivial
        ·
          refine VC.intro ?_ ?_
          ·
            refine call_val (l01Var_ct _ ?_ ?_) trivial ?_
            · omega
            · omega
            rintro _ rfl
            refine VC.intro ?_ ?_
            · exact fun _ h => h
            refine VCnew.intro fun x17 => ?_
            refine VC.intro ?_ ?_
            · exact keep_new
            refine conv_bs G_ok (([(↑(g.edges[k]?.getD default).label.toNat : Int)] : List Int).map fun v => UInt8.ofNat v.toNat) rfl (lit_bs [(↑(g.edges[k]?.getD default).label.toNat : Int)] (mem_at 0 rfl _ (List.mem_singleton.2 rfl)) rfl ?_ (by simp)) rfl rfl rfl ?_
            · exact inU8_1 _
            refine VC.intro ?_ ?_
            · exact keep_new
            refine VC.intro ?_ ?_
            · (simp only [ByteArray.size_append, bsz, List.length_map, List.length_cons, List.length_nil]; omega)
            refine VC.intro ?_ ?_
            · (simp only [ByteArray.size_append, bsz, List.length_map, List.length_cons, List.length_nil]; omega)
            apply loop_stepA (k + 1, _)
            · exact .sub (by repeat (first | exact .slnil | apply List.Sublist.cons_cons | apply List.Sublist.cons))
            · repeat' (first | exact trivial | refine ⟨⟨_, rfl, by first | rfl | exact inc_eq _ (by omega) | (refine sl_eq ?_; simp; done), by first | exact trivial | simp [SV.ok]⟩, ?_⟩)
            · exact ⟨rfl, trivial⟩
            · try dsimp only
              exact ⟨by omega, gt_s (by omega) ho, by simp only [ByteArray.size_append, bsz, List.length_map, List.length_cons, List.length_nil]; omega⟩
            · try dsimp only
              omega
          ·
            exact trivial
      ·
        refine VC.intro ?_ ?_
        ·
          refine VCnew.intro fun x18 => ?_
          refine VC.intro ?_ ?_
          · exact keep_new
          refine VC.intro ?_ ?_
          ·
            refine call_val (l01Var_ct _ ?_ ?_) trivial ?_
            · omega
            · omega
            rintro _ rfl
            refine VC.intro ?_ ?_
            · exact keep_new
            refine VC.intro ?_ ?_
            · omega
            refine VC.intro ?_ ?_
            ·
              refine conv_bs G_ok (([(↑(g.edges[k]?.getD default).label.toNat : Int)] : List Int).map fun v => UInt8.ofNat v.toNat) rfl (lit_bs [(↑(g.edges[k]?.getD default).label.toNat : Int)] (mem_at 0 rfl _ (List.mem_singleton.2 rfl)) rfl ?_ (by simp)) rfl rfl rfl ?_
              · exact inU8_1 _
              refine VC.intro ?_ ?_
              · exact keep_new
              refine VC.intro ?_ ?_
              · (simp only [ByteArray.size_append, bsz, List.length_map, List.length_cons, List.length_nil]; omega)
              refine call_val (l01Var_ct _ ?_ ?_) trivial ?_
              · omega
              · omega
              rintro _ rfl
              refine VC.intro ?_ ?_
              · exact keep_new
              refine VC.intro ?_ ?_
              · (simp only [ByteArray.size_append, bsz, List.length_map, List.length_cons, List.length_nil]; omega)
              apply loop_stepA (k + 1, _)
              · exact .sub (by repeat (first | exact .slnil | apply List.Sublist.cons_cons | apply List.Sublist.cons))
              · repeat' (first | exact trivial | refine ⟨⟨_, rfl, by first | rfl | exact inc_eq _ (by omega) | (refine sl_eq ?_; simp; done), by first | exact trivial | simp [SV.ok]⟩, ?_⟩)
              · exact ⟨rfl, trivial⟩
              · try dsimp only
                exact ⟨by omega, gt_s (by omega) ho, by simp only [ByteArray.size_append, bsz, List.length_map, List.length_cons, List.length_nil]; omega⟩
              · try dsimp only
                omega
            ·
              refine VC.intro ?_ ?_
              ·
                refine call_val (l01Var_ct _ ?_ ?_) trivial ?_
                · omega
                · omega
                rintro _ rfl
                refine VC.intro ?_ ?_
                · exact keep_new
                refine conv_bs G_ok (([(↑(g.edges[k]?.getD default).label.toNat : Int)] : List Int).map fun v => UInt8.ofNat v.toNat) rfl (lit_bs [(↑(g.edges[k]?.getD default).label.toNat : Int)] (mem_at 0 rfl _ (List.mem_singleton.2 rfl)) rfl ?_ (by simp)) rfl rfl rfl ?_
                · exact inU8_1 _
                refine VC.intro ?_ ?_
                · exact keep_new
                refine VC.intro ?_ ?_
                · (simp only [ByteArray.size_append, bsz, List.length_map, List.length_cons, List.length_nil]; omega)
                refine VC.intro ?_ ?_
                · (simp only [ByteArray.size_append, bsz, List.length_map, List.length_cons, List.length_nil]; omega)
                apply loop_stepA (k + 1, _)
                · exact .sub (by repeat (first | exact .slnil | apply List.Sublist.cons_cons | apply List.Sublist.cons))
                · repeat' (first | exact trivial | refine ⟨⟨_, rfl, by first | rfl | exact inc_eq _ (by omega) | (refine sl_eq ?_; simp; done), by first | exact trivial | simp [SV.ok]⟩, ?_⟩)
                · exact ⟨rfl, trivial⟩
                · try dsimp only
                  exact ⟨by omega, gt_s (by omega) ho, by simp only [ByteArray.size_append, bsz, List.length_map, List.length_cons, List.length_nil]; omega⟩
                · try dsimp only
                  omega
              ·
                exact trivial
          ·
            refine VC.intro ?_ ?_
            ·
              refine conv_bs G_ok (([(↑(g.edges[k]?.getD default).label.toNat : Int)] : List Int).map fun v => UInt8.ofNat v.toNat) rfl (lit_bs [(↑(g.edges[k]?.getD default).label.toNat : Int)] (mem_at 0 rfl _ (List.mem_singleton.2 rfl)) rfl ?_ (by simp)) rfl rfl rfl ?_
              · exact inU8_1 _
              refine VC.intro ?_ ?_
              · exact keep_new
              refine call_val (l01Var_ct _ ?_ ?_) trivial ?_
              · omega
              · omega
              rintro _ rfl
              refine VC.intro ?_ ?_
              · exact keep_new
              refine VC.intro ?_ ?_
              · omega
              refine VC.intro ?_ ?_
              · (simp only [ByteArray.size_append, bsz, List.length_map, List.length_cons, List.length_nil]; omega)
              refine call_val (l01Var_ct _ ?_ ?_) trivial ?_
              · omega
              · omega
              rintro _ rfl
              refine VC.intro ?_ ?_
              · exact keep_new
              refine VC.intro ?_ ?_
              · (simp only [ByteArray.size_append, bsz, List.length_map, List.length_cons, List.length_nil]; omega)
              apply loop_stepA (k + 1, _)
              · exact .sub (by repeat (first | exact .slnil | apply List.Sublist.cons_cons | apply List.Sublist.cons))
              · repeat' (first | exact trivial | refine ⟨⟨_, rfl, by first | rfl | exact inc_eq _ (by omega) | (refine sl_eq ?_; simp; done), by first | exact trivial | simp [SV.ok]⟩, ?_⟩)
              · exact ⟨rfl, trivial⟩
              · try dsimp only
                exact ⟨by omega, gt_s (by omega) ho, by simp only [ByteArray.size_append, bsz, List.length_map, List.length_cons, List.length_nil]; omega⟩
              · try dsimp only
                omega
            ·
              exact trivial
        ·
          exact trivial
    ·
      simp at q5
      obtain rfl : k = g.edges.length := by omega
      rw [List.take_length] at ho
      exact ⟨[], ⟨by rw [show graphOk g = true by assumption, ho]; rfl, rfl⟩, (.le fun a => by (try simp only [setR, List.cons_append, List.nil_append]); simp only [List.flatten_append, List.flatten_cons, List.flatten_nil, List.count_append, List.count_nil, List.append_nil, List.nil_append]; omega)⟩
end Go.Proofs.Ytliheokappjdoaa
