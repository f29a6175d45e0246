/-
  Graphs put together, on both sides. Conditions: none.
-/
import Derived.Test.YtcikookachejfaaJn
namespace Go.Proofs.Ytcikookachejfaa
open Go.SX Go.Proofs
set_option linter.unusedSimpArgs false
set_option linter.unusedVariables false
set_option maxHeartbeats 1000000
attribute [local irreducible] IntKind.wrap

def tgR (l : List Graph) : Graph := (together l).getD ⟨0, []⟩
theorem tg_none {l : List Graph} (h : together l = none) : tgR l = ⟨0, []⟩ ∧ (together l).isSome = false := by unfold tgR; rw [h]; exact ⟨rfl, rfl⟩
theorem tg_some {l : List Graph} {g : Graph} (h : together l = some g) : tgR l = g ∧ (together l).isSome = true := by unfold tgR; rw [h]; exact ⟨rfl, rfl⟩
/-- the edges so far: all of the first k graphs, j of the next -/
def tgE (l : List Graph) (k j : Nat) : List Edge := putAll (togE (l.take k)) ((l[k]?.getD default).edges.take j)
theorem tgE_zero (l : List Graph) (k : Nat) : tgE l k 0 = togE (l.take k) := rfl
theorem tgE_next {l : List Graph} {k : Nat} (hk : k < l.length) : tgE l k (l[k]?.getD default).edges.length = togE (l.take (k + 1)) := by
  unfold tgE togE
  rw [List.take_length, ← List.take_append_getElem hk, List.foldl_append, List.getElem?_eq_getElem hk]; rfl
theorem tgE_more {l : List Graph} {k j : Nat} (hj : j < (l[k]?.getD default).edges.length) : tgE l k (j + 1) = putE (tgE l k j) ((l[k]?.getD default).edges[j]?.getD default) := by
  unfold tgE putAll
  rw [← List.take_append_getElem hj, List.foldl_append, List.getElem?_eq_getElem hj]; rfl
theorem putAll_app (es a b : List Edge) : putAll es (a ++ b) = putAll (putAll es a) b := by unfold putAll; rw [List.foldl_append]
theorem togE_split {l : List Graph} {k j : Nat} (hk : k < l.length) : togE l = (l.drop (k + 1)).foldl (fun es g => putAll es g.edges) (putAll (tgE l k j) ((l[k]?.getD default).edges.drop j)) := by
  unfold tgE
  rw [← putAll_app, List.take_append_drop]
  conv => lhs; rw [← List.take_append_drop k l, List.drop_eq_getElem_cons hk]
  unfold togE
  rw [List.foldl_append, List.foldl_cons, List.getElem?_eq_getElem hk]; rfl
theorem togOk_at {n : Int} {l : List Graph} (h : togOk n l = true) {k : Nat} (hk : k < l.length) : graphOk (l[k]?.getD default) = true ∧ (l[k]?.getD default).size = n := by
  unfold togOk at h
  rw [List.all_eq_true] at h
  have := h l[k] (List.getElem_mem hk)
  rw [List.getElem?_eq_getElem hk, Option.getD_some]
  simpa using this
/-- what GraphAdd refuses on the way is too long at the end -/
theorem tog_fail {n : Int} {l : List Graph} {k j : Nat} (hk : k < l.length) (hj : j < (l[k]?.getD default).edges.length) (ht : togOk n l = true) (hn : 1 ≤ n ∧ n ≤ 12) (hok : gOk n (tgE l k j)) (hbad : graphOk ⟨n, tgE l k (j + 1)⟩ = false) : graphOk ⟨n, togE l⟩ = false := by
  cases e : graphOk ⟨n, togE l⟩ with
  | false => rfl
  | true =>
    obtain ⟨-, h2, -⟩ := graphOk_iff.1 e
    have hg := togOk_at ht hk
    have hv : ∀ x ∈ (l[k]?.getD default).edges, eOk n x = true := by
      have := (graphOk_iff.1 hg.1).2.2.1
      rw [hg.2] at this; exact this
    have h3 : gOk n (tgE l k (j + 1)) := by
      rw [tgE_more hj]
      exact putE_ok hok (hv _ (getD_mem hj))
    have h4 := putAll_ok ((l[k]?.getD default).edges.drop (j + 1)) h3 fun x hx => hv x (List.mem_of_mem_drop hx)
    have h5 := tog_ok (l.drop (k + 1)) h4.1 (by
      unfold togOk at ht ⊢
      rw [List.all_eq_true] at ht ⊢
      exact fun x hx => ht x (List.mem_of_mem_drop hx))
    rw [← togE_split hk] at h5
    have : graphOk ⟨n, tgE l k (j + 1)⟩ = true := graphOk_iff.2 ⟨hn, by have := h4.2; have := h5.2; show (tgE l k (j + 1)).length ≤ 40; have h6 : (togE l).length ≤ 40 := h2; omega, h3⟩
    rw [hbad] at this; cases this
theorem gOk_nil (n : Int) : gOk n [] := And.intro (fun _ h => absurd h (by simp)) List.Pairwise.nil
theorem tog_case {l : List Graph} (h : l ≠ []) : together l = if togOk (l[0]?.getD default).size l && graphOk ⟨(l[0]?.getD default).size, togE l⟩ then some ⟨(l[0]?.getD default).size, togE l⟩ else none := by
  cases l with
  | nil => exact absurd rfl h
  | cons g r => rfl
theorem tog_bad {l : List Graph} (h : l ≠ []) (h2 : togOk (l[0]?.getD default).size l = true → graphOk ⟨(l[0]?.getD default).size, togE l⟩ = false) : together l = none := by
  rw [tog_case h]
  cases e : togOk (l[0]?.getD default).size l with
  | false => rfl
  | true => rw [h2 e]; rfl
theorem tog_good {l : List Graph} (h : l ≠ []) (h1 : togOk (l[0]?.getD default).size l = true) (h2 : graphOk ⟨(l[0]?.getD default).size, togE l⟩ = true) : together l = some ⟨(l[0]?.getD default).size, togE l⟩ := by
  rw [tog_case h, h1, h2]; rfl
theorem togOk_take {n : Int} {l : List Graph} {k : Nat} (hk : k < l.length) (h : togOk n (l.take k) = true) (h1 : graphOk (l[k]?.getD default) = true) (h2 : (l[k]?.getD default).size = n) : togOk n (l.take (k + 1)) = true := by
  unfold togOk at *
  rw [List.getElem?_eq_getElem hk, Option.getD_some] at h1 h2
  rw [← List.take_append_getElem hk, List.all_append, h]
  simp [h1, h2]
theorem tgE_add {xs : List Graph} {k j : Nat} {n : Int} (hj : j < (xs[k]?.getD default).edges.length) (h : graphOk (putG ⟨n, tgE xs k j⟩ ((xs[k]?.getD default).edges[j]?.getD default)) = true) : addG ⟨n, tgE xs k j⟩ ((xs[k]?.getD default).edges[j]?.getD default) = ⟨n, tgE xs k (j + 1)⟩ := by
  rw [addG_yes h, tgE_more hj]; rfl
theorem tgE_bad {xs : List Graph} {k j : Nat} {n : Int} (hne : ¬ xs = []) (h0 : n = (xs[0]?.getD default).size) (hk : k < xs.length) (hj : j < (xs[k]?.getD default).edges.length) (hn : 1 ≤ n ∧ n ≤ 12) (hok : gOk n (tgE xs k j)) (h : graphOk (putG ⟨n, tgE xs k j⟩ ((xs[k]?.getD default).edges[j]?.getD default)) = false) : together xs = none := by
  subst h0
  exact tog_bad hne fun e => tog_fail hk hj e hn hok (by rw [tgE_more hj]; exact h)
theorem tgE_ok {xs : List Graph} {k j : Nat} {n : Int} (h1 : graphOk (xs[k]?.getD default) = true) (h2 : (xs[k]?.getD default).size = n) (hle : (tgE xs k j).length ≤ 40) (hg : gOk n (tgE xs k j)) : graphOk ⟨n, tgE xs k j⟩ = true := by
  have h9 := graphOk_rng h1
  rw [h2] at h9
  exact graphOk_iff.2 ⟨⟨h9.1, h9.2.1⟩, hle, hg⟩
theorem tgE_len {xs : List Graph} {k j : Nat} {n : Int} (h1 : graphOk (xs[k]?.getD default) = true) (h2 : (xs[k]?.getD default).size = n) (hj : j < (xs[k]?.getD default).edges.length) (hg : gOk n (tgE xs k j)) (h : graphOk (putG ⟨n, tgE xs k j⟩ ((xs[k]?.getD default).edges[j]?.getD default)) = true) : gOk n (tgE xs k (j + 1)) ∧ (tgE xs k (j + 1)).length ≤ 40 := by
  have h3 := graphOk_iff.1 h
  rw [tgE_more hj]
  exact ⟨h3.2.2, h3.2.1⟩
--@ct impl.Together new implTogether_ct _ _ _ $1 ?_ | %1 | obtain ⟨b#, c#, rfl, o#⟩ := o#
theorem implTogether_ct (b : Option Addr) (m c : Nat) (xs : List Graph) (hx : xs.length ≤ 1048576) : Ct Try.prog 87 [.slice b m c] [] (fun H => (gSl 58 gGraph).rd H [.slice b m c] xs) (fun v A => ∃ b c, v = .tuple #[.agg ⟨[.int .i64 (tgR xs).size, .slice b (tgR xs).edges.length c]⟩, .bool (together xs).isSome] ∧ (gSl 192 gEdge).ow [.slice b (tgR xs).edges.length c] (tgR xs).edges A) := by
  refine Ct.intro0 G_ok Try.func87 rfl rfl rfl fun E H hp => ?_
  obtain ⟨rfl, hcl, hl⟩ := sl_len hp
  have hS : ∀ h : 0 < xs.length, okI (xs[0]?.getD default).size := fun h => by
    obtain ⟨l0, h0⟩ := rd_el hp 0 h
    rw [List.getElem?_eq_getElem h, Option.getD_some]
    obtain ⟨_, _, _, w, _⟩ := gGraph_rd.1 h0
    exact w
  refine VCnew.intro fun x0 => ?_
  refine VCsplit.intro (fun q1 => ?_) (fun q1 => ?_)
  ·
    simp at q1
    (have h1 : together xs = none := (by rw [‹xs = []›]; rfl); obtain ⟨e1, e2⟩ := tg_none h1; rw [e1, e2]; exact ⟨[], ⟨none, 0, rfl, sl_nil _ _ _⟩, (.le fun a => by (try simp only [setR, List.cons_append, List.nil_append]); simp [List.count_cons, Blk.ent, idOf]; try omega)⟩)
  ·
    simp at q1
    refine idx_rd hp ?_ ?_ fun b2 o2 hb2 => ?_
    · trivial
    · grind
    refine load_partN default (0) 0 rfl hp ?_ ?_ hb2 rfl (by decide) (mem_at 0 rfl) fun l3 hl3 => ?_
    · trivial
    · grind
    obtain ⟨b1x3, c1x3, rfl, w0x3, h1x3⟩ := gGraph_rd.1 hl3
    refine VCnew.intro fun x4 => ?_
    apply loop_mod (α := (Nat) × (Hp) × (Option Addr) × (Nat)) G_ok [23, 24, 25, 6, 26, 27, 28, 29, 30, 31, 32, 33, 34, 35, 36, 3, 37, 38, 39, 40, 41, 42, 43, 8, 45, 46, 47, 44, 48, 49, 9, 10, 50, 51, 52, 53, 54, 55, 22] (fun z => [(22, .v (.int .i64 z.1)), (3, .v (.bool false))]) (fun z => [⟨x0, [Value.int IntKind.i64 (0 : Int), Value.slice none (0 : Nat) (0 : Nat)], (58 : Nat)⟩, ⟨x4, [Value.int IntKind.i64 (xs[(0 : Nat)]?.getD default).size, .slice z.2.2.1 (togE (xs.take z.1)).length z.2.2.2], (58 : Nat)⟩]) (fun z => [z.2.1, H]) (fun z => xs.length - z.1) (fun z => z.1 ≤ xs.length ∧ togOk (xs[0]?.getD default).size (xs.take z.1) = true ∧ gOk (xs[0]?.getD default).size (togE (xs.take z.1)) ∧ (togE (xs.take z.1)).length ≤ 40 ∧ (gSl 192 gEdge).ow [.slice z.2.2.1 (togE (xs.take z.1)).length z.2.2.2] (togE (xs.take z.1)) z.2.1) ((0, [], none, 0))
    · repeat' (first | exact trivial | refine ⟨⟨_, rfl, by first | rfl | exact inc_eq _ (by omega) | (refine sl_eq ?_; simp; done), by first | exact trivial | simp [SV.ok]⟩, ?_⟩)
    · exact ⟨rfl, rfl, trivial⟩
    · try dsimp only
      exact ⟨by omega, rfl, gOk_nil _, Nat.zero_le _, sl_nil _ _ _⟩
    · exact .refl _
    rintro ⟨k, A, lb, lc⟩ hI
    obtain ⟨hk, ht, hg, hle, oA⟩ : k ≤ xs.length ∧ togOk (xs[0]?.getD default).size (xs.take k) = true ∧ gOk (xs[0]?.getD default).size (togE (xs.take k)) ∧ (togE (xs.take k)).length ≤ 40 ∧ (gSl 192 gEdge).ow [.slice lb (togE (xs.take k)).length lc] (togE (xs.take k)) A := hI
    try dsimp only
    refine VCsplit.intro (fun q5 => ?_) (fun q5 => ?_)
    ·
      simp at q5
      refine idx_rd hp ?_ ?_ fun b6 o6 hb6 => ?_
      · omega
      · omega
      refine load_allN default (k) rfl hp ?_ ?_ hb6 rfl (mem_at 1 rfl) fun l7 hl7 => ?_
      · omega
      · omega
      obtain ⟨b1x7, c1x7, rfl, w0x7, h1x7⟩ := gGraph_rd.1 hl7
      refine VCnew.intro fun x8 => ?_
      refine VCsplit.intro (fun q9 => ?_) (fun q9 => ?_)
      ·
        simp at q9
        (have hkk : k < xs.length := (by omega); have h1 := tog_bad ‹¬ xs = []› (fun e => by (obtain ⟨a1, a2⟩ := togOk_at e hkk; first | exact absurd a2 ‹¬ _ = _› | exact absurd (a1.symm.trans ‹graphOk _ = false›) (by decide))); obtain ⟨e1, e2⟩ := tg_none h1; rw [e1, e2]; exact ⟨[], ⟨none, 0, rfl, sl_nil _ _ _⟩, (.le fun a => by (try simp only [setR, List.cons_append, List.nil_append]); simp [List.count_cons, Blk.ent, idOf]; try omega)⟩)
      ·
        simp at q9
        refine call_val (implGraphOk_ct _ (xs[k]?.getD default)) (Rp.mono _ (mem_at 1 rfl) hl7) ?_
        rintro _ rfl
        refine VCsplit.intro (fun q11 => ?_) (fun q11 => ?_)
        ·
          simp at q11
          (have hkk : k < xs.length := (by omega); have h1 := tog_bad ‹¬ xs = []› (fun e => by (obtain ⟨a1, a2⟩ := togOk_at e hkk; first | exact absurd a2 ‹¬ _ = _› | exact absurd (a1.symm.trans ‹graphOk _ = false›) (by decide))); obtain ⟨e1, e2⟩ := tg_none h1; rw [e1, e2]; exact ⟨[], ⟨none, 0, rfl, sl_nil _ _ _⟩, (.le fun a => by (try simp only [setR, List.cons_append, List.nil_append]); simp [List.count_cons, Blk.ent, idOf]; try omega)⟩)
        ·
          simp at q11
          have h40 := (graphOk_rng ‹graphOk (xs[k]?.getD default) = true›).2.2
          apply loop_mod (α := (Nat) × (Hp) × (Option Addr) × (Nat)) G_ok [41, 42, 43, 8, 45, 46, 47, 44, 48, 49, 9, 10, 50, 51, 52, 3, 53, 54, 40] (fun z => [(40, .v (.int .i64 z.1)), (3, .v (.bool false))]) (fun z => [⟨x0, [Value.int IntKind.i64 (0 : Int), Value.slice none (0 : Nat) (0 : Nat)], (58 : Nat)⟩, ⟨x4, [Value.int IntKind.i64 (xs[(0 : Nat)]?.getD default).size, .slice z.2.2.1 (tgE xs k z.1).length z.2.2.2], (58 : Nat)⟩, ⟨x8, [Value.int IntKind.i64 (xs[k]?.getD default).size, Value.slice b1x7 (xs[k]?.getD default).edges.length c1x7], (58 : Nat)⟩]) (fun z => [z.2.1, H]) (fun z => (xs[k]?.getD default).edges.length - z.1) (fun z => z.1 ≤ (xs[k]?.getD default).edges.length ∧ gOk (xs[0]?.getD default).size (tgE xs k z.1) ∧ (tgE xs k z.1).length ≤ 40 ∧ (gSl 192 gEdge).ow [.slice z.2.2.1 (tgE xs k z.1).length z.2.2.2] (tgE xs k z.1) z.2.1) ((0, A, lb, lc))
          · repeat' (first | exact trivial | refine ⟨⟨_, rfl, by first | rfl | exact inc_eq _ (by omega) | (refine sl_eq ?_; simp; done), by first | exact trivial | simp [SV.ok]⟩, ?_⟩)
          · exact ⟨rfl, rfl, rfl, trivial⟩
          · try dsimp only
            exact ⟨Nat.zero_le _, hg, hle, oA⟩
          · exact .refl _
          rintro ⟨j, A, lb, lc⟩ hI
          obtain ⟨hj, hg2, hle2, oA2⟩ : j ≤ (xs[k]?.getD default).edges.length ∧ gOk (xs[0]?.getD default).size (tgE xs k j) ∧ (tgE xs k j).length ≤ 40 ∧ (gSl 192 gEdge).ow [.slice lb (tgE xs k j).length lc] (tgE xs k j) A := hI
          try dsimp only
          refine VCsplit.intro (fun q12 => ?_) (fun q12 => ?_)
          ·
            simp at q12
            refine idx_rd h1x7 ?_ ?_ fun b13 o13 hb13 => ?_
            · omega
            · omega
            refine load_allN default (j) rfl h1x7 ?_ ?_ hb13 rfl (mem_at 1 rfl) fun l14 hl14 => ?_
            · omega
            · omega
            obtain ⟨rfl, w0x14, w2x14⟩ := gEdge_rd.1 hl14
            refine VCnew.intro fun x15 => ?_
            refine call_new (graphAdd_ct _ _ (⟨(xs[0]?.getD default).size, tgE xs k j⟩ : Graph) ((xs[k]?.getD default).edges[j]?.getD default) ?_) ⟨gGraph_rd.2 ⟨_, _, rfl, hS (by omega), Rp.mono _ (mem_at 0 rfl) (Gt.owrd _ oA2)⟩, (Rp.mono _ (mem_at 1 rfl) hl14)⟩ ?_
            · exact tgE_ok ‹graphOk _ = true› ‹_ = (xs[0]?.getD default).size› hle2 hg2
            rintro v16 A16 o16
            obtain ⟨b16, c16, rfl, o16⟩ := o16
            refine VCnew.intro fun x17 => ?_
            refine VCsplit.intro (fun q18 => ?_) (fun q18 => ?_)
            ·
              simp at q18
              (have h9 := graphOk_rng ‹graphOk (xs[k]?.getD default) = true›; rw [‹(xs[k]?.getD default).size = _›] at h9; have h1 := tgE_bad ‹¬ xs = []› rfl (by omega) (by omega) ⟨h9.1, h9.2.1⟩ hg2 ‹graphOk (putG _ _) = false›; obtain ⟨e1, e2⟩ := tg_none h1; rw [e1, e2]; exact ⟨[], ⟨none, 0, rfl, sl_nil _ _ _⟩, (.le fun a => by (try simp only [setR, List.cons_append, List.nil_append]); simp [List.count_cons, Blk.ent, idOf]; try omega)⟩)
            ·
              simp at q18
              (have e18 := tgE_add (by omega) q18; simp only [e18] at *)
              apply loop_stepA (j + 1, _, _, _)
              · exact .sub (by repeat (first | exact .slnil | apply List.Sublist.cons_cons | apply List.Sublist.cons))
              · repeat' (first | exact trivial | refine ⟨⟨_, rfl, by first | rfl | exact inc_eq _ (by omega) | (refine sl_eq ?_; simp; done), by first | exact trivial | simp [SV.ok]⟩, ?_⟩)
              · exact ⟨rfl, rfl, rfl, trivial⟩
              · try dsimp only
                (have h9 := tgE_len ‹graphOk (xs[k]?.getD default) = true› ‹_ = (xs[0]?.getD default).size› (by omega) hg2 ‹graphOk (putG _ _) = true›; exact ⟨by omega, h9.1, h9.2, by assumption⟩)
              · try dsimp only
                omega
          ·
            simp at q12
            obtain rfl : j = (xs[k]?.getD default).edges.length := by omega
            simp only [tgE_next ‹k < xs.length›] at hg2 hle2 oA2 ⊢
            apply loop_stepA (k + 1, _, _, _)
            · exact .refl _
            · repeat' (first | exact trivial | refine ⟨⟨_, rfl, by first | rfl | exact inc_eq _ (by omega) | (refine sl_eq ?_; simp; done), by first | exact trivial | simp [SV.ok]⟩, ?_⟩)
            · exact ⟨rfl, rfl, trivial⟩
            · try dsimp only
              exact ⟨by omega, togOk_take (by omega) ht ‹graphOk _ = true› ‹_ = (xs[0]?.getD default).size›, hg2, hle2, oA2⟩
            · try dsimp only
              omega
    ·
      simp at q5
      obtain rfl : k = xs.length := by omega
      simp only [List.take_length] at hg hle oA ht ⊢
      have h0 : 0 < xs.length := List.length_pos_iff.2 ‹¬ xs = []›
      have hgS := graphOk_rng (togOk_at ht h0).1
      obtain ⟨e1, e2⟩ := tg_some (tog_good ‹¬ xs = []› ht (graphOk_iff.2 ⟨⟨hgS.1, hgS.2.1⟩, hle, hg⟩))
      rw [e1, e2]
      try dsimp only
      exact ⟨_, ⟨_, _, rfl, oA⟩, (.le fun a => by (try simp only [setR, List.cons_append, List.nil_append]); simp [List.count_cons, Blk.ent, idOf]; try omega)⟩

theorem putE_up (e : Edge) : ∀ l : List Edge, (putE l e).length ≤ l.length + 1
  | [] => by simp [putE]
  | a :: l => by
    have ih := putE_up e l
    unfold putE at *
    simp only [List.length_append, List.length_cons, List.length_nil] at *
    cases e1 : edgeLess a e with
    | true =>
      rw [List.filter_cons_of_pos (by simpa using e1), List.filter_cons_of_neg (by rw [edgeLess_asym e1]; simp)]
      simp only [List.length_cons]; omega
    | false =>
      rw [List.filter_cons_of_neg (by simp [e1])]
      cases e2 : edgeLess e a with
      | true => rw [List.filter_cons_of_pos (by simpa using e2)]; simp only [List.length_cons]; omega
      | false => rw [List.filter_cons_of_neg (by simp [e2])]; omega
theorem tgE_up {xs : List Graph} {k j : Nat} (hj : j < (xs[k]?.getD default).edges.length) : (tgE xs k (j + 1)).length ≤ (tgE xs k j).length + 1 := by
  rw [tgE_more hj]; exact putE_up _ _
theorem tgE_gok {xs : List Graph} {k j : Nat} {n : Int} (h1 : graphOk (xs[k]?.getD default) = true) (h2 : (xs[k]?.getD default).size = n) (hj : j < (xs[k]?.getD default).edges.length) (hg : gOk n (tgE xs k j)) : gOk n (tgE xs k (j + 1)) := by
  have hv := (graphOk_iff.1 h1).2.2.1
  rw [h2] at hv
  rw [tgE_more hj]
  exact putE_ok hg (hv _ (getD_mem hj))
--@ct spec.Together new specTogether_ct _ _ _ $1 ?_ | %1 | obtain ⟨b#, c#, rfl, o#⟩ := o#
theorem specTogether_ct (b : Option Addr) (m c : Nat) (xs : List Graph) (hx : xs.length ≤ 1048576) : Ct Try.prog 84 [.slice b m c] [] (fun H => (gSl 58 gGraph).rd H [.slice b m c] xs) (fun v A => ∃ b c, v = .tuple #[.agg ⟨[.int .i64 (tgR xs).size, .slice b (tgR xs).edges.length c]⟩, .bool (together xs).isSome] ∧ (gSl 192 gEdge).ow [.slice b (tgR xs).edges.length c] (tgR xs).edges A) := by
  refine Ct.intro0 G_ok Try.func84 rfl rfl rfl fun E H hp => ?_
  obtain ⟨rfl, hcl, hl⟩ := sl_len hp
  refine VCnew.intro fun x0 => ?_
  refine VCsplit.intro (fun q1 => ?_) (fun q1 => ?_)
  ·
    simp at q1
    (have h1 : together xs = none := (by rw [‹xs = []›]; rfl); obtain ⟨e1, e2⟩ := tg_none h1; rw [e1, e2]; exact ⟨[], ⟨none, 0, rfl, sl_nil _ _ _⟩, (.le fun a => by (try simp only [setR, List.cons_append, List.nil_append]); simp [List.count_cons, Blk.ent, idOf]; try omega)⟩)
  ·
    simp at q1
    refine idx_rd hp ?_ ?_ fun b2 o2 hb2 => ?_
    · trivial
    · (have := List.length_pos_iff.2 ‹¬ xs = []›; omega)
    refine load_partN default (0) 0 rfl hp ?_ ?_ hb2 rfl (by decide) (mem_at 0 rfl) fun l3 hl3 => ?_
    · trivial
    · (have := List.length_pos_iff.2 ‹¬ xs = []›; omega)
    obtain ⟨b1x3, c1x3, rfl, w0x3, h1x3⟩ := gGraph_rd.1 hl3
    refine VCnew.intro fun x4 => ?_
    apply loop_mod (α := (Nat) × (Hp) × (Option Addr) × (Nat)) G_ok [16, 17, 18, 19, 22, 23, 24, 25, 26, 27, 28, 29, 30, 31, 32, 33, 34, 35, 36, 37, 38, 3, 6, 39, 40, 41, 42, 43, 44, 45, 46, 49, 50, 51, 52, 53, 54, 55, 56, 57, 58, 59, 60, 47, 48, 20, 21, 5] (fun z => [(5, .v (.int .i64 z.1))]) (fun z => [⟨x0, [Value.int IntKind.i64 (0 : Int), Value.slice none (0 : Nat) (0 : Nat)], (58 : Nat)⟩, ⟨x4, [Value.int IntKind.i64 (xs[(0 : Nat)]?.getD default).size, .slice z.2.2.1 (togE (xs.take z.1)).length z.2.2.2], (58 : Nat)⟩]) (fun z => [z.2.1, H]) (fun z => xs.length - z.1) (fun z => z.1 ≤ xs.length ∧ togOk (xs[0]?.getD default).size (xs.take z.1) = true ∧ gOk (xs[0]?.getD default).size (togE (xs.take z.1)) ∧ (togE (xs.take z.1)).length ≤ 40 * z.1 ∧ (gSl 192 gEdge).ow [.slice z.2.2.1 (togE (xs.take z.1)).length z.2.2.2] (togE (xs.take z.1)) z.2.1) ((0, [], none, 0))
    · repeat' (first | exact trivial | refine ⟨⟨_, rfl, by first | rfl | exact inc_eq _ (by omega) | (refine sl_eq ?_; simp; done), by first | exact trivial | simp [SV.ok]⟩, ?_⟩)
    · exact ⟨rfl, rfl, trivial⟩
    · try dsimp only
      exact ⟨by omega, rfl, gOk_nil _, Nat.zero_le _, sl_nil _ _ _⟩
    · exact .refl _
    rintro ⟨k, A, lb, lc⟩ hI
    obtain ⟨hk, ht, hg, hle, oA⟩ : k ≤ xs.length ∧ togOk (xs[0]?.getD default).size (xs.take k) = true ∧ gOk (xs[0]?.getD default).size (togE (xs.take k)) ∧ (togE (xs.take k)).length ≤ 40 * k ∧ (gSl 192 gEdge).ow [.slice lb (togE (xs.take k)).length lc] (togE (xs.take k)) A := hI
    try dsimp only
    refine VCsplit.intro (fun q5 => ?_) (fun q5 => ?_)
    ·
      simp at q5
      refine draw G_ok mixed none (.q 0 (.q 1 (.q 2 (.q 3 (.f 4 (.q 5 (.q 6 (.q 7 (.q 8 (.q 9 (.q 10 (.q 11 (.q 12 (.q 13 (.q 14 (.q 15 (.nil))))))))))))))))) (by decide +kernel) ?_
      refine idx_rd hp ?_ ?_ fun b6 o6 hb6 => ?_
      · omega
      · omega
      refine load_allN default (k) rfl hp ?_ ?_ hb6 rfl (mem_at 1 rfl) fun l7 hl7 => ?_
      · omega
      · omega
      obtain ⟨b1x7, c1x7, rfl, w0x7, h1x7⟩ := gGraph_rd.1 hl7
      refine call_val (specGraphOk_ct _ (xs[k]?.getD default)) (Rp.mono _ (mem_at 1 rfl) hl7) ?_
      rintro _ rfl
      refine VC.intro ?_ ?_
      · exact fun _ h => h
      refine VCsplit.intro (fun q9 => ?_) (fun q9 => ?_)
      ·
        simp at q9
        (have hkk : k < xs.length := (by omega); have h1 := tog_bad ‹¬ xs = []› (fun e => by (obtain ⟨a1, a2⟩ := togOk_at e hkk; first | exact absurd a2 ‹¬ _ = _› | exact absurd (a1.symm.trans ‹graphOk _ = false›) (by decide))); obtain ⟨e1, e2⟩ := tg_none h1; rw [e1, e2]; exact ⟨[], ⟨none, 0, rfl, sl_nil _ _ _⟩, (.le fun a => by (try simp only [setR, List.cons_append, List.nil_append]); simp [List.count_cons, Blk.ent, idOf]; try omega)⟩)
      ·
        simp at q9
        refine idx_rd hp ?_ ?_ fun b10 o10 hb10 => ?_
        · omega
        · omega
        refine load_partN default (k) 0 rfl hp ?_ ?_ hb10 rfl (by decide) (mem_at 1 rfl) fun l11 hl11 => ?_
        · omega
        · omega
        obtain ⟨b1x11, c1x11, rfl, w0x11, h1x11⟩ := gGraph_rd.1 hl11
        refine VCsplit.intro (fun q12 => ?_) (fun q12 => ?_)
        ·
          simp at q12
          (have hkk : k < xs.length := (by omega); have h1 := tog_bad ‹¬ xs = []› (fun e => by (obtain ⟨a1, a2⟩ := togOk_at e hkk; first | exact absurd a2 ‹¬ _ = _› | exact absurd (a1.symm.trans ‹graphOk _ = false›) (by decide))); obtain ⟨e1, e2⟩ := tg_none h1; rw [e1, e2]; exact ⟨[], ⟨none, 0, rfl, sl_nil _ _ _⟩, (.le fun a => by (try simp only [setR, List.cons_append, List.nil_append]); simp [List.count_cons, Blk.ent, idOf]; try omega)⟩)
        ·
          simp at q12
          have h40 := (graphOk_rng ‹graphOk (xs[k]?.getD default) = true›).2.2
          apply loop_mod (α := (Nat) × (Hp) × (Option Addr) × (Nat)) G_ok [39, 40, 41, 42, 43, 44, 45, 46, 49, 50, 51, 52, 53, 54, 55, 56, 57, 58, 59, 60, 47, 48, 6] (fun z => [(6, .v (.int .i64 z.1))]) (fun z => [⟨x0, [Value.int IntKind.i64 (0 : Int), Value.slice none (0 : Nat) (0 : Nat)], (58 : Nat)⟩, ⟨x4, [Value.int IntKind.i64 (xs[(0 : Nat)]?.getD default).size, .slice z.2.2.1 (tgE xs k z.1).length z.2.2.2], (58 : Nat)⟩]) (fun z => [z.2.1, H]) (fun z => (xs[k]?.getD default).edges.length - z.1) (fun z => z.1 ≤ (xs[k]?.getD default).edges.length ∧ gOk (xs[0]?.getD default).size (tgE xs k z.1) ∧ (tgE xs k z.1).length ≤ 40 * k + z.1 ∧ (gSl 192 gEdge).ow [.slice z.2.2.1 (tgE xs k z.1).length z.2.2.2] (tgE xs k z.1) z.2.1) ((0, A, lb, lc))
          · repeat' (first | exact trivial | refine ⟨⟨_, rfl, by first | rfl | exact inc_eq _ (by omega) | (refine sl_eq ?_; simp; done), by first | exact trivial | simp [SV.ok]⟩, ?_⟩)
          · exact ⟨rfl, rfl, trivial⟩
          · try dsimp only
            exact ⟨Nat.zero_le _, hg, hle, oA⟩
          · exact .refl _
          rintro ⟨j, A, lb, lc⟩ hI
          obtain ⟨hj, hg2, hle2, oA2⟩ : j ≤ (xs[k]?.getD default).edges.length ∧ gOk (xs[0]?.getD default).size (tgE xs k j) ∧ (tgE xs k j).length ≤ 40 * k + j ∧ (gSl 192 gEdge).ow [.slice lb (tgE xs k j).length lc] (tgE xs k j) A := hI
          try dsimp only
          refine idx_rd hp ?_ ?_ fun b13 o13 hb13 => ?_
          · omega
          · omega
          refine load_partN default (k) 1 rfl hp ?_ ?_ hb13 rfl (by decide) (mem_at 1 rfl) fun l14 hl14 => ?_
          · omega
          · omega
          obtain ⟨b1x14, c1x14, rfl, w0x14, h1x14⟩ := gGraph_rd.1 hl14
          refine VCsplit.intro (fun q15 => ?_) (fun q15 => ?_)
          ·
            simp at q15
            refine draw G_ok mixed (some 12) (.q 0 (.q 1 (.q 2 (.q 3 (.q 4 (.q 5 (.q 6 (.q 7 (.q 8 (.q 9 (.f 10 (.q 11 (.tl 12 (.nil)))))))))))))) (by decide +kernel) ?_
            refine idx_rd hp ?_ ?_ fun b16 o16 hb16 => ?_
            · omega
            · omega
            refine load_partN default (k) 1 rfl hp ?_ ?_ hb16 rfl (by decide) (mem_at 1 rfl) fun l17 hl17 => ?_
            · omega
            · omega
            obtain ⟨b1x17, c1x17, rfl, w0x17, h1x17⟩ := gGraph_rd.1 hl17
            refine idx_rd h1x17 ?_ ?_ fun b18 o18 hb18 => ?_
            · omega
            · omega
            refine load_allN default (j) rfl h1x17 ?_ ?_ hb18 rfl (mem_at 1 rfl) fun l19 hl19 => ?_
            · omega
            · omega
            obtain ⟨rfl, w0x19, w2x19⟩ := gEdge_rd.1 hl19
            refine call_new (l04Put_ct _ _ _ _ (tgE xs k j) ((xs[k]?.getD default).edges[j]?.getD default) ?_) ⟨(Rp.mono _ (mem_at 0 rfl) (Gt.owrd _ oA2)), (Rp.mono _ (mem_at 1 rfl) hl19)⟩ ?_
            · omega
            rintro v20 A20 o20
            obtain ⟨b20, c20, rfl, o20⟩ := o20
            rw [← tgE_more (by omega)] at o20 ⊢
            refine VC.intro ?_ ?_
            · exact keep_new
            apply loop_stepA (j + 1, _, _, _)
            · exact .sub (by repeat (first | exact .slnil | apply List.Sublist.cons_cons | apply List.Sublist.cons))
            · repeat' (first | exact trivial | refine ⟨⟨_, rfl, by first | rfl | exact inc_eq _ (by omega) | (refine sl_eq ?_; simp; done), by first | exact trivial | simp [SV.ok]⟩, ?_⟩)
            · exact ⟨rfl, rfl, trivial⟩
            · try dsimp only
              exact ⟨by omega, tgE_gok ‹graphOk (xs[k]?.getD default) = true› ‹_ = (xs[0]?.getD default).size› (by omega) hg2, by (have := tgE_up (by omega : j < (xs[k]?.getD default).edges.length); omega), by assumption⟩
            · try dsimp only
              omega
          ·
            simp at q15
            obtain rfl : j = (xs[k]?.getD default).edges.length := by omega
            simp only [tgE_next ‹k < xs.length›] at hg2 hle2 oA2 ⊢
            apply loop_stepA (k + 1, _, _, _)
            · exact .refl _
            · repeat' (first | exact trivial | refine ⟨⟨_, rfl, by first | rfl | exact inc_eq _ (by omega) | (refine sl_eq ?_; simp; done), by first | exact trivial | simp [SV.ok]⟩, ?_⟩)
            · exact ⟨rfl, rfl, trivial⟩
            · try dsimp only
              exact ⟨by omega, togOk_take (by omega) ht ‹graphOk _ = true› ‹_ = (xs[0]?.getD default).size›, hg2, by omega, oA2⟩
            · try dsimp only
              omega
    ·
      simp at q5
      obtain rfl : k = xs.length := by omega
      simp only [List.take_length] at hg hle oA ht ⊢
      have h0 : 0 < xs.length := List.length_pos_iff.2 ‹¬ xs = []›
      have hgS := graphOk_rng (togOk_at ht h0).1
      have rG : gGraph.rd A [.int .i64 (xs[0]?.getD default).size, .slice lb (togE xs).length lc] ⟨(xs[0]?.getD default).size, togE xs⟩ := gGraph_rd.2 ⟨lb, lc, rfl, by assumption, Gt.owrd _ oA⟩
      refine call_val (specGraphOk_ct _ ({ size := (xs[(0 : Nat)]?.getD default).size, edges := togE xs })) (Rp.mono _ (mem_at 0 rfl) rG) ?_
      rintro _ rfl
      refine VCsplit.intro (fun q22 => ?_) (fun q22 => ?_)
      ·
        simp at q22
        (obtain ⟨e1, e2⟩ := tg_none (tog_bad ‹¬ xs = []› fun _ => ‹graphOk ⟨_, _⟩ = false›); rw [e1, e2]; exact ⟨[], ⟨none, 0, rfl, sl_nil _ _ _⟩, (.le fun a => by (try simp only [setR, List.cons_append, List.nil_append]); simp [List.count_cons, Blk.ent, idOf]; try omega)⟩)
      ·
        simp at q22
        (obtain ⟨e1, e2⟩ := tg_some (tog_good ‹¬ xs = []› ht ‹graphOk ⟨_, _⟩ = true›); rw [e1, e2]; exact ⟨_, ⟨_, _, rfl, oA⟩, (.le fun a => by (try simp only [setR, List.cons_append, List.nil_append]); simp [List.count_cons, Blk.ent, idOf]; try omega)⟩)

end Go.Proofs.Ytcikookachejfaa
