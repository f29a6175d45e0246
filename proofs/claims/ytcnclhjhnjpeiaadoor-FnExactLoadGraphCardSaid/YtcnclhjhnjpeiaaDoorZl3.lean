/-
  Graphs loaded: both sides. The laws' helpers over their types: marks, and what is held (printed by gent.py). Graphs loaded: the law walked. Conditions: none.
-/
import Derived.Test.YtcnclhjhnjpeiaaDoorZl2

namespace Go.Proofs.YtcnclhjhnjpeiaaDoor
open Go.SX Go.Proofs
set_option linter.unusedSimpArgs false
set_option linter.unusedVariables false
set_option maxHeartbeats 4000000
attribute [local irreducible] IntKind.wrap
def scanG : Graph → Nat → List ByteArray → Graph × Nat
  | g, _, [] => if g.size = 0 then (⟨0, []⟩, 1) else (g, 0)
  | g, i, t :: ts => if ignT t = true then scanG g (i + 1) ts else if partsOk t = true then if lineR g (partsV t) = true then scanG (lineG g (partsV t)) (i + 1) ts else (⟨0, []⟩, i + 1) else (⟨0, []⟩, i + 1)
def loadG (t : ByteArray) : Graph × Nat := scanG ⟨0, []⟩ 0 (linesT t)
def goodG (g : Graph) : Prop := g = ⟨0, []⟩ ∨ graphOk g = true
theorem goodG_line {g : Graph} {ps : List ByteArray} (h : lineR g ps = true) : goodG (lineG g ps) := by
  unfold lineR at h
  unfold lineG
  split at h
  · rename_i h0
    rw [if_pos h0]
    unfold vertsR at h
    simp only [Bool.and_eq_true] at h
    exact .inr h.2.2.2
  rename_i h0
  rw [if_neg h0]
  simp only [Bool.and_eq_true] at h
  exact .inr h.2
theorem goodG_0 {g : Graph} (h : goodG g) : g.size = 0 ∨ graphOk g = true := h.imp (fun e => by rw [e]) id
theorem goodG_z {g : Graph} (h : goodG g) (h0 : g.size = 0) : g = ⟨0, []⟩ := by
  rcases h with h | h
  · exact h
  have := graphOk_iff.1 h
  omega
theorem goodG_n {g : Graph} (h : goodG g) (h0 : ¬ g.size = 0) : graphOk g = true := by
  rcases h with h | h
  · rw [h] at h0; exact absurd rfl h0
  exact h
/-- k lines are read, g is the graph so far -/
def scanI (t : ByteArray) (k : Nat) (g : Graph) : Prop := scanG g k ((linesT t).drop k) = loadG t ∧ goodG g
theorem scanI_0 (t : ByteArray) : scanI t 0 ⟨0, []⟩ := ⟨rfl, .inl rfl⟩
theorem scan_drop {t : ByteArray} {k : Nat} (hk : k < (linesT t).length) : (linesT t).drop k = ((linesT t)[k]?.getD ByteArray.empty) :: (linesT t).drop (k + 1) := by
  rw [List.drop_eq_getElem_cons hk, List.getElem?_eq_getElem hk]; rfl
theorem scanI_ign {t : ByteArray} {k : Nat} {g : Graph} (h : scanI t k g) (hk : k < (linesT t).length) (h1 : ignT ((linesT t)[k]?.getD ByteArray.empty) = true) : scanI t (k + 1) g := by
  obtain ⟨h2, h3⟩ := h
  rw [scan_drop hk] at h2
  unfold scanG at h2
  rw [if_pos h1] at h2
  exact ⟨h2, h3⟩
theorem scanI_line {t : ByteArray} {k : Nat} {g : Graph} (h : scanI t k g) (hk : k < (linesT t).length) (h1 : ignT ((linesT t)[k]?.getD ByteArray.empty) = false) (h4 : partsOk ((linesT t)[k]?.getD ByteArray.empty) = true) (h5 : lineR g (partsV ((linesT t)[k]?.getD ByteArray.empty)) = true) : scanI t (k + 1) (lineG g (partsV ((linesT t)[k]?.getD ByteArray.empty))) := by
  obtain ⟨h2, h3⟩ := h
  rw [scan_drop hk] at h2
  unfold scanG at h2
  rw [if_neg (by rw [h1]; decide), if_pos h4, if_pos h5] at h2
  exact ⟨h2, goodG_line h5⟩
theorem scanI_no {t : ByteArray} {k : Nat} {g : Graph} (h : scanI t k g) (hk : k < (linesT t).length) (h1 : ignT ((linesT t)[k]?.getD ByteArray.empty) = false) (h4 : partsOk ((linesT t)[k]?.getD ByteArray.empty) = false) : loadG t = (⟨0, []⟩, k + 1) := by
  obtain ⟨h2, h3⟩ := h
  rw [scan_drop hk] at h2
  unfold scanG at h2
  rw [if_neg (by rw [h1]; decide), if_neg (by rw [h4]; decide)] at h2
  exact h2.symm
theorem scanI_bad {t : ByteArray} {k : Nat} {g : Graph} (h : scanI t k g) (hk : k < (linesT t).length) (h1 : ignT ((linesT t)[k]?.getD ByteArray.empty) = false) (h4 : lineR g (partsV ((linesT t)[k]?.getD ByteArray.empty)) = false) : loadG t = (⟨0, []⟩, k + 1) := by
  obtain ⟨h2, h3⟩ := h
  rw [scan_drop hk] at h2
  unfold scanG at h2
  rw [if_neg (by rw [h1]; decide)] at h2
  by_cases h5 : partsOk ((linesT t)[k]?.getD ByteArray.empty) = true
  · rw [if_pos h5, if_neg (by rw [h4]; decide)] at h2
    exact h2.symm
  rw [if_neg h5] at h2
  exact h2.symm
theorem scanI_end {t : ByteArray} {k : Nat} {g : Graph} (h : scanI t k g) (hk : (linesT t).length ≤ k) : loadG t = if g.size = 0 then (⟨0, []⟩, 1) else (g, 0) := by
  obtain ⟨h2, h3⟩ := h
  rw [List.drop_eq_nil_of_le hk] at h2
  exact h2.symm
def loadV (t : ByteArray) (v : Value) (A : Hp) : Prop := ∃ b c, v = .tuple #[.agg ⟨[.int .i64 (loadG t).1.size, .slice b (loadG t).1.edges.length c]⟩, .int .i64 ((loadG t).2 : Nat)] ∧ (gSl 42 gEdge).ow [.slice b (loadG t).1.edges.length c] (loadG t).1.edges A
theorem loadV_f {t : ByteArray} {n : Nat} {z : Int} (h : loadG t = (⟨0, []⟩, n)) (hz : z = n) : loadV t (.tuple ⟨[.agg ⟨[.int .i64 0, .slice none 0 0]⟩, .int .i64 z]⟩) [] := by
  subst hz
  unfold loadV
  rw [h]
  exact ⟨none, 0, rfl, sl_nil _ _ _⟩
theorem loadV_g {t : ByteArray} {g : Graph} {b : Option Addr} {c : Nat} {A : Hp} (h : loadG t = (g, 0)) (o : (gSl 42 gEdge).ow [.slice b g.edges.length c] g.edges A) : loadV t (.tuple ⟨[.agg ⟨[.int .i64 g.size, .slice b g.edges.length c]⟩, .int .i64 0]⟩) A := by
  unfold loadV
  rw [h]
  exact ⟨b, c, rfl, o⟩
theorem ign_no {t : ByteArray} (h : partsOk t = false) : ignT t = false := by unfold ignT; rw [h]; rfl
theorem ign_nil {t : ByteArray} (h : partsOk t = true) (h1 : (partsV t).length = 0) : ignT t = true := by unfold ignT; rw [h, decide_eq_true h1]; rfl
theorem ign_val {t : ByteArray} (h : partsOk t = true) (h1 : ¬ (partsV t).length = 0) : decide (((((pA (partsV t) 0)[0]?.getD 0).toNat : Nat) : Int) = 35) = ignT t := by
  unfold ignT
  rw [h, decide_eq_false h1]
  show _ = decide _
  rw [decide_eq_decide]
  constructor
  · intro h2
    apply UInt8.toNat_inj.1
    exact Int.ofNat.inj h2
  intro h2; rw [h2]; rfl
theorem parts0_pos {t : ByteArray} (h1 : ¬ (partsV t).length = 0) : 0 < (pA (partsV t) 0).size := by
  have h2 : partsOk t = true := by
    cases h : partsOk t with
    | true => rfl
    | false => rw [partsV_no h] at h1; exact absurd rfl h1
  rw [partsV_yes h2] at h1 ⊢
  unfold pA
  rw [List.getElem?_eq_getElem (by omega)]
  exact parts_pos _ (List.getElem_mem _)
theorem partsV_len (t : ByteArray) : (partsV t).length ≤ 10 := by
  cases h : partsOk t with
  | false => rw [partsV_no h]; exact Nat.zero_le _
  | true =>
    rw [partsV_yes h]
    unfold partsOk at h
    simp only [Bool.and_eq_true, decide_eq_true_eq] at h
    unfold partsT
    rw [List.length_map]
    exact h.2.2
--@ct impl.partsOrNone new partsOrNone_ct _ | trivial | obtain ⟨b#, c#, rfl, o#⟩ := o#
theorem partsOrNone_ct (t : ByteArray) : Ct Tryd.prog 31 [.string t] [] (fun _ => True)
    (fun v A => ∃ b m, v = .tuple #[.slice b (partsV t).length m, .bool (ignT t), .bool (partsOk t)] ∧ (gSl 9 gS).ow [.slice b (partsV t).length m] (partsV t) A) := by
  refine Ct.intro0 G_ok Tryd.func31 rfl rfl rfl fun E H hp => ?_
  have hpl := partsV_len t
  refine call_new (implPartsOf_ct _) trivial ?_
  rintro v0 A0 o0
  obtain ⟨b0, c0, rfl, o0⟩ := o0
  refine VCsplit.intro (fun q1 => ?_) (fun q1 => ?_)
  ·
    refine VCsplit.intro (fun q2 => ?_) (fun q2 => ?_)
    ·
      simp at q2
      (exact ⟨_, ⟨_, _, by rw [ign_nil (by assumption) (by rw [‹partsV t = []›]; rfl)], by assumption⟩, (.le fun a => by (try simp only [setR, List.cons_append, List.nil_append]); simp [List.count_cons, Blk.ent, idOf]; try omega)⟩)
    ·
      simp at q2
      (have l2 : ¬ (partsV t).length = 0 := fun e => q2 (List.length_eq_zero_iff.1 e); have p2 := parts0_pos l2; unfold pA at p2)
      refine idx_rd (Gt.owrd _ o0) ?_ ?_ fun b3 o3 hb3 => ?_
      · trivial
      · omega
      refine load_allN ByteArray.empty (0) rfl (Gt.owrd _ o0) ?_ ?_ hb3 rfl (mem_at 0 rfl) fun l4 hl4 => ?_
      · trivial
      · omega
      obtain ⟨rfl, hw4⟩ := hl4; simp only [flStr, flInt, okI] at hw4
      refine VC.intro ?_ ?_
      · omega
      (exact ⟨_, ⟨_, _, by rw [← ign_val (by assumption) (by assumption)]; rfl, by assumption⟩, (.le fun a => by (try simp only [setR, List.cons_append, List.nil_append]); simp [List.count_cons, Blk.ent, idOf]; try omega)⟩)
  ·
    (exact ⟨_, ⟨_, _, by rw [ign_no (by assumption)], by assumption⟩, (.le fun a => by (try simp only [setR, List.cons_append, List.nil_append]); simp [List.count_cons, Blk.ent, idOf]; try omega)⟩)
theorem linesT_len (t : ByteArray) : (linesT t).length ≤ t.size + 1 := by
  by_cases h : t.size = 0
  · rw [linesT_nil h]; exact Nat.zero_le _
  have e : linesT t = splitT 10 (trimC 10 t) := (trim_split h).symm
  have h1 := splitT_len 10 (trimC 10 t)
  have h2 := count_le 10 (trimC 10 t)
  have h3 := trim_size 10 t
  rw [e]; omega
theorem graph_is {g : Graph} {b : Option Addr} {c : Nat} {D H : Hp} (hg : goodG g) (o : (gSl 42 gEdge).ow [.slice b g.edges.length c] g.edges D) (hs : ∀ p ∈ D, p ∈ H) : gGraph.rd H [.int .i64 g.size, .slice b g.edges.length c] g := by
  refine gGraph_rd.2 ⟨_, _, rfl, ?_, Rp.mono _ hs (Gt.owrd _ o)⟩
  rcases hg with h | h
  · rw [h]; show okI 0; unfold okI; omega
  have := graphOk_iff.1 h
  unfold okI; omega
theorem loadV_e1 {t : ByteArray} {k : Nat} {g : Graph} (h : scanI t k g) (hk : (linesT t).length ≤ k) (h0 : g.size = 0) : loadV t (.tuple ⟨[.agg ⟨[.int .i64 0, .slice none 0 0]⟩, .int .i64 1]⟩) [] :=
  loadV_f (n := 1) (by rw [scanI_end h hk, if_pos h0]) rfl
theorem loadV_e2 {t : ByteArray} {k : Nat} {g : Graph} {b : Option Addr} {c : Nat} {A : Hp} (h : scanI t k g) (hk : (linesT t).length ≤ k) (h0 : ¬ g.size = 0) (o : (gSl 42 gEdge).ow [.slice b g.edges.length c] g.edges A) : loadV t (.tuple ⟨[.agg ⟨[.int .i64 g.size, .slice b g.edges.length c]⟩, .int .i64 0]⟩) A :=
  loadV_g (by rw [scanI_end h hk, if_neg h0]) o
theorem implLoadGraph_ct (t : ByteArray) (ht : t.size ≤ 1048576) : Ct Tryd.prog 12 [.string t] [] TabIn (loadV t) := by
  refine Ct.intro0 G_ok Tryd.func12 rfl rfl rfl fun E H hp => ?_
  have hlt := linesT_len t
  refine VCnew.intro fun x0 => ?_
  refine VCnew.intro fun x1 => ?_
  refine call_new (scriptLines_ct _ ?_) trivial ?_
  · trivial
  rintro v2 A2 o2
  obtain ⟨b2, c2, rfl, o2⟩ := o2
  apply loop_mod (α := (Nat) × (Graph) × (Hp) × (Option Addr) × (Nat)) G_ok [14, 15, 16, 17, 5, 6, 19, 20, 18, 21, 22, 23, 7, 8, 9, 24, 25, 27, 28, 29, 26, 30, 31, 32, 33, 34, 35, 36, 3, 37, 13] (fun z => [(13, .v (.int .i64 z.1))]) (fun z => [⟨x0, [Value.int IntKind.i64 (0 : Int), Value.slice none (0 : Nat) (0 : Nat)], (29 : Nat)⟩, ⟨x1, [.int .i64 z.2.1.size, .slice z.2.2.2.1 z.2.1.edges.length z.2.2.2.2], 29⟩]) (fun z => [z.2.2.1, A2, H]) (fun z => (linesT t).length - z.1) (fun z => z.1 ≤ (linesT t).length ∧ scanI t z.1 z.2.1 ∧ (gSl 42 gEdge).ow [.slice z.2.2.2.1 z.2.1.edges.length z.2.2.2.2] z.2.1.edges z.2.2.1) ((0, ⟨0, []⟩, [], none, 0))
  · repeat' (first | exact trivial | refine ⟨⟨_, rfl, by first | rfl | exact inc_eq _ (by omega) | (refine sl_eq ?_; simp; done), by first | exact trivial | simp [SV.ok]⟩, ?_⟩)
  · exact ⟨rfl, rfl, trivial⟩
  · try dsimp only
    exact ⟨Nat.zero_le _, scanI_0 _, sl_nil _ _ _⟩
  · exact .refl _
  rintro ⟨k, g, D, gb, gc⟩ hI
  obtain ⟨hk, hS, oD⟩ : k ≤ (linesT t).length ∧ scanI t k g ∧ (gSl 42 gEdge).ow [.slice gb g.edges.length gc] g.edges D := hI
  try dsimp only
  refine VCsplit.intro (fun q3 => ?_) (fun q3 => ?_)
  ·
    simp at q3
    refine idx_rd (Gt.owrd _ o2) ?_ ?_ fun b4 o4 hb4 => ?_
    · omega
    · omega
    refine load_allN ByteArray.empty (k) rfl (Gt.owrd _ o2) ?_ ?_ hb4 rfl (mem_at 1 rfl) fun l5 hl5 => ?_
    · omega
    · omega
    obtain ⟨rfl, hw5⟩ := hl5; simp only [flStr, flInt, okI] at hw5
    refine call_new (partsOrNone_ct _) trivial ?_
    rintro v6 A6 o6
    obtain ⟨b6, c6, rfl, o6⟩ := o6
    refine VCsplit.intro (fun q7 => ?_) (fun q7 => ?_)
    ·
      apply loop_stepA (k + 1, g, D, gb, gc)
      · exact .sub (by repeat (first | exact .slnil | apply List.Sublist.cons_cons | apply List.Sublist.cons))
      · repeat' (first | exact trivial | refine ⟨⟨_, rfl, by first | rfl | exact inc_eq _ (by omega) | (refine sl_eq ?_; simp; done), by first | exact trivial | simp [SV.ok]⟩, ?_⟩)
      · exact ⟨rfl, rfl, trivial⟩
      · try dsimp only
        exact ⟨by omega, scanI_ign hS (by omega) (by assumption), oD⟩
      try dsimp only
      omega
    ·
      refine VCsplit.intro (fun q8 => ?_) (fun q8 => ?_)
      ·
        refine call_new (loadLine_ct _ g _ _ _ (partsV ((linesT t)[k]?.getD ByteArray.empty)) (goodG_0 hS.2) ?_) ⟨graph_is hS.2 oD (by (try exact mem_at 0 rfl); (try exact mem_at 1 rfl); (try exact mem_at 2 rfl)), (Rp.mono _ (mem_at 0 rfl) (Gt.owrd _ o6)), (by (try exact TabIn.mono hp (mem_at 0 rfl)); (try exact TabIn.mono hp (mem_at 1 rfl)); (try exact TabIn.mono hp (mem_at 2 rfl)); (try exact TabIn.mono hp (mem_at 3 rfl)))⟩ ?_
        · exact Nat.le_trans (partsV_len _) (by decide)
        rintro v9 A9 o9
        obtain ⟨g9, b9, c9, rfl, e9, o9⟩ := o9
        refine VCsplit.intro (fun q10 => ?_) (fun q10 => ?_)
        ·
          simp at q10
          exact ⟨[], loadV_f (scanI_bad hS (by omega) (by assumption) (by assumption)) (by rw [wrap_of (by omega) (by omega)]; rfl), (.le fun a => by (try simp only [setR, List.cons_append, List.nil_append]); simp [List.count_cons, Blk.ent, idOf]; try omega)⟩
        ·
          simp at q10
          apply loop_stepA (k + 1, _, _, _, _)
          · exact .sub (by repeat (first | exact .slnil | apply List.Sublist.cons_cons | apply List.Sublist.cons))
          · repeat' (first | exact trivial | refine ⟨⟨_, rfl, by first | rfl | exact inc_eq _ (by omega) | (refine sl_eq ?_; simp; done), by first | exact trivial | simp [SV.ok]⟩, ?_⟩)
          · exact ⟨rfl, rfl, trivial⟩
          · try dsimp only
            (have hge := ‹_ → _ = lineG _ _› ‹lineR _ _ = true›; subst hge; exact ⟨by omega, scanI_line hS (by omega) (by assumption) (by assumption) (by assumption), by assumption⟩)
          try dsimp only
          omega
      ·
        refine VCsplit.intro (fun q11 => ?_) (fun q11 => ?_)
        ·
          simp at q11
          exact ⟨[], loadV_f (scanI_no hS (by omega) (by assumption) (by assumption)) (by rw [wrap_of (by omega) (by omega)]; rfl), (.le fun a => by (try simp only [setR, List.cons_append, List.nil_append]); simp [List.count_cons, Blk.ent, idOf]; try omega)⟩
        ·
          simp at q11
          apply loop_stepA (k + 1, _, _, _, _)
          · exact .sub (by repeat (first | exact .slnil | apply List.Sublist.cons_cons | apply List.Sublist.cons))
          · repeat' (first | exact trivial | refine ⟨⟨_, rfl, by first | rfl | exact inc_eq _ (by omega) | (refine sl_eq ?_; simp; done), by first | exact trivial | simp [SV.ok]⟩, ?_⟩)
          · exact ⟨rfl, rfl, trivial⟩
          · try dsimp only
            simp_all
          try dsimp only
          omega
  ·
    simp at q3
    refine VCsplit.intro (fun q12 => ?_) (fun q12 => ?_)
    ·
      simp at q12
      exact ⟨[], loadV_e1 hS (by omega) (by assumption), (.le fun a => by (try simp only [setR, List.cons_append, List.nil_append]); simp [List.count_cons, Blk.ent, idOf]; try omega)⟩
    ·
      simp at q12
      exact ⟨_, loadV_e2 hS (by omega) (by assumption) oD, (.le fun a => by (try simp only [setR, List.cons_append, List.nil_append]); simp [List.count_cons, Blk.ent, idOf]; try omega)⟩
theorem ign_35 {t : ByteArray} (h : partsOk t = true) (h1 : ¬ partsV t = []) (h2 : ((((pA (partsV t) 0)[0]?.getD 0).toNat : Nat) : Int) = 35) : ignT t = true := by
  rw [← ign_val h (fun e => h1 (List.length_eq_zero_iff.1 e))]; exact decide_eq_true h2
theorem ign_n35 {t : ByteArray} (h : partsOk t = true) (h1 : ¬ partsV t = []) (h2 : ¬ ((((pA (partsV t) 0)[0]?.getD 0).toNat : Nat) : Int) = 35) : ignT t = false := by
  rw [← ign_val h (fun e => h1 (List.length_eq_zero_iff.1 e))]; exact decide_eq_false h2
theorem gz_rd {t : ByteArray} {k : Nat} {g : Graph} {n : Int} {b : Option Addr} {c : Nat} {D H : Hp} (hn : okI n) (o : (gSl 42 gEdge).ow [.slice b g.edges.length c] g.edges D) (hs : ∀ p ∈ D, p ∈ H) : gGraph.rd H [.int .i64 n, .slice b g.edges.length c] ⟨n, g.edges⟩ :=
  gGraph_rd.2 ⟨_, _, rfl, hn, Rp.mono _ hs (Gt.owrd _ o)⟩
theorem scanI_v {t : ByteArray} {k : Nat} {g : Graph} (h : scanI t k g) (hk : k < (linesT t).length) (h1 : ignT ((linesT t)[k]?.getD ByteArray.empty) = false) (h2 : partsOk ((linesT t)[k]?.getD ByteArray.empty) = true) (h0 : g.size = 0)
    (h3 : (partsV ((linesT t)[k]?.getD ByteArray.empty)).length = 2) (h4 : (pA (partsV ((linesT t)[k]?.getD ByteArray.empty)) 0).toList = [118, 101, 114, 116, 115]) (h5 : isD (pA (partsV ((linesT t)[k]?.getD ByteArray.empty)) 1) = true)
    (h6 : graphOk ⟨readD (pA (partsV ((linesT t)[k]?.getD ByteArray.empty)) 1), g.edges⟩ = true) : scanI t (k + 1) ⟨readD (pA (partsV ((linesT t)[k]?.getD ByteArray.empty)) 1), g.edges⟩ := by
  have e : g.edges = [] := by rw [goodG_z h.2 h0]
  rw [e] at h6 ⊢
  have := scanI_line h hk h1 h2 (by rw [vertsR_4 h0 h3 h4 h5]; exact h6)
  unfold lineG at this
  rwa [if_pos h0] at this
theorem lineR_v6 {g : Graph} {ps : List ByteArray} (hg : goodG g) (h0 : g.size = 0) (h3 : ps.length = 2) (h4 : (pA ps 0).toList = [118, 101, 114, 116, 115]) (h5 : isD (pA ps 1) = true) (h6 : graphOk ⟨readD (pA ps 1), g.edges⟩ = false) : lineR g ps = false := by
  rw [vertsR_4 h0 h3 h4 h5]
  rw [goodG_z hg h0] at h6
  exact h6
theorem lineR_n5 {g : Graph} {ps : List ByteArray} (h : ¬ g.size = 0) (h1 : edgeR ps = false) : lineR g ps = false := by rw [lineR_e h, h1]; rfl
theorem lineR_n6 {g : Graph} {e : Edge} {ps : List ByteArray} (h : ¬ g.size = 0) (h1 : edgeR ps = true) (hf : edgeR ps = true → e = edgeP ps) (h2 : graphOk (putG g e) = false) : lineR g ps = false := by
  rw [lineR_e h, h1, ← hf h1, h2]; rfl
theorem scanI_e {t : ByteArray} {k : Nat} {g : Graph} {e : Edge} (h : scanI t k g) (hk : k < (linesT t).length) (h1 : ignT ((linesT t)[k]?.getD ByteArray.empty) = false) (h2 : partsOk ((linesT t)[k]?.getD ByteArray.empty) = true) (h0 : ¬ g.size = 0)
    (h3 : edgeR (partsV ((linesT t)[k]?.getD ByteArray.empty)) = true) (hf : edgeR (partsV ((linesT t)[k]?.getD ByteArray.empty)) = true → e = edgeP (partsV ((linesT t)[k]?.getD ByteArray.empty))) (h6 : graphOk (putG g e) = true) : scanI t (k + 1) (addG g e) := by
  have hf := hf h3
  have := scanI_line h hk h1 h2 (by rw [lineR_e h0, h3, ← hf, h6]; rfl)
  rw [lineG_e h0, ← hf, ← addG_yes h6] at this
  exact this
theorem l27Load_ct (t : ByteArray) (b : Option Addr) (m c : Nat) : Ct Tryd.prog 28 [.slice b m c] [] (fun H => (gSl 9 gS).rd H [.slice b m c] (linesT t)) (loadV t) := by
  refine Ct.intro0 G_ok Tryd.func28 rfl rfl rfl fun E H hp => ?_
  obtain ⟨rfl, hcl, hl⟩ := sl_len hp
  have hlt := linesT_len t
  refine VCnew.intro fun x0 => ?_
  refine VCnew.intro fun x1 => ?_
  apply loop_mod (α := (Nat) × (Graph) × (Hp) × (Option Addr) × (Nat)) G_ok [15, 16, 17, 18, 22, 23, 24, 25, 26, 21, 27, 28, 6, 7, 29, 30, 31, 32, 33, 34, 35, 36, 37, 38, 39, 40, 41, 42, 43, 44, 45, 46, 3, 47, 48, 49, 8, 50, 51, 52, 53, 54, 55, 56, 57, 58, 9, 59, 61, 62, 63, 64, 60, 65, 66, 67, 68, 69, 70, 71, 72, 73, 74, 75, 76, 77, 78, 80, 81, 79, 82, 83, 10, 11, 85, 86, 87, 84, 88, 89, 12, 13, 90, 91, 92, 93, 94, 95, 96, 97, 98, 99, 19, 20, 5] (fun z => [(5, .v (.int .i64 z.1))]) (fun z => [⟨x0, [Value.int IntKind.i64 (0 : Int), Value.slice none (0 : Nat) (0 : Nat)], (29 : Nat)⟩, ⟨x1, [.int .i64 z.2.1.size, .slice z.2.2.2.1 z.2.1.edges.length z.2.2.2.2], 29⟩]) (fun z => [z.2.2.1, H]) (fun z => (linesT t).length - z.1) (fun z => z.1 ≤ (linesT t).length ∧ scanI t z.1 z.2.1 ∧ (gSl 42 gEdge).ow [.slice z.2.2.2.1 z.2.1.edges.length z.2.2.2.2] z.2.1.edges z.2.2.1) ((0, ⟨0, []⟩, [], none, 0))
  · repeat' (first | exact trivial | refine ⟨⟨_, rfl, by first | rfl | exact inc_eq _ (by omega) | (refine sl_eq ?_; simp; done), by first | exact trivial | simp [SV.ok]⟩, ?_⟩)
  · exact ⟨rfl, rfl, trivial⟩
  · try dsimp only
    exact ⟨Nat.zero_le _, scanI_0 _, sl_nil _ _ _⟩
  · exact .refl _
  rintro ⟨k, g, D, gb, gc⟩ hI
  obtain ⟨hk, hS, oD⟩ : k ≤ (linesT t).length ∧ scanI t k g ∧ (gSl 42 gEdge).ow [.slice gb g.edges.length gc] g.edges D := hI
  try dsimp only
  refine VCsplit.intro (fun q2 => ?_) (fun q2 => ?_)
  ·
    simp at q2
    refine idx_rd hp ?_ ?_ fun b3 o3 hb3 => ?_
    · omega
    · omega
    refine load_allN ByteArray.empty (k) rfl hp ?_ ?_ hb3 rfl (mem_at 1 rfl) fun l4 hl4 => ?_
    · omega
    · omega
    obtain ⟨rfl, hw4⟩ := hl4; simp only [flStr, flInt, okI] at hw4
    refine call_new (specPartsOf_ct _) trivial ?_
    rintro v5 A5 o5
    obtain ⟨b5, c5, rfl, o5⟩ := o5
    refine VCsplit.intro (fun q6 => ?_) (fun q6 => ?_)
    ·
      refine VCsplit.intro (fun q7 => ?_) (fun q7 => ?_)
      ·
        simp at q7
        apply loop_stepA (k + 1, g, D, gb, gc)
        · exact .sub (by repeat (first | exact .slnil | apply List.Sublist.cons_cons | apply List.Sublist.cons))
        · repeat' (first | exact trivial | refine ⟨⟨_, rfl, by first | rfl | exact inc_eq _ (by omega) | (refine sl_eq ?_; simp; done), by first | exact trivial | simp [SV.ok]⟩, ?_⟩)
        · exact ⟨rfl, rfl, trivial⟩
        · try dsimp only
          exact ⟨by omega, scanI_ign hS (by omega) (ign_nil (by assumption) (by rw [‹partsV _ = []›]; rfl)), oD⟩
        try dsimp only
        omega
      ·
        simp at q7
        (have l7 : ¬ (partsV _).length = 0 := fun e => q7 (List.length_eq_zero_iff.1 e); have p7 := parts0_pos l7; unfold pA at p7)
        refine idx_rd (Gt.owrd _ o5) ?_ ?_ fun b8 o8 hb8 => ?_
        · trivial
        · omega
        refine load_allN ByteArray.empty (0) rfl (Gt.owrd _ o5) ?_ ?_ hb8 rfl (mem_at 0 rfl) fun l9 hl9 => ?_
        · trivial
        · omega
        obtain ⟨rfl, hw9⟩ := hl9; simp only [flStr, flInt, okI] at hw9
        refine VC.intro ?_ ?_
        · omega
        refine VCsplit.intro (fun q10 => ?_) (fun q10 => ?_)
        ·
          simp at q10
          apply loop_stepA (k + 1, g, D, gb, gc)
          · exact .sub (by repeat (first | exact .slnil | apply List.Sublist.cons_cons | apply List.Sublist.cons))
          · repeat' (first | exact trivial | refine ⟨⟨_, rfl, by first | rfl | exact inc_eq _ (by omega) | (refine sl_eq ?_; simp; done), by first | exact trivial | simp [SV.ok]⟩, ?_⟩)
          · exact ⟨rfl, rfl, trivial⟩
          · try dsimp only
            exact ⟨by omega, scanI_ign hS (by omega) (ign_35 (by assumption) (by assumption) (by assumption)), oD⟩
          try dsimp only
          omega
        ·
          simp at q10
          refine VCsplit.intro (fun q11 => ?_) (fun q11 => ?_)
          ·
            simp at q11
            exact ⟨[], loadV_f (scanI_no hS (by omega) (ign_no (by assumption)) (by assumption)) (by rw [wrap_of (by omega) (by omega)]; rfl), (.le fun a => by (try simp only [setR, List.cons_append, List.nil_append]); simp [List.count_cons, Blk.ent, idOf]; try omega)⟩
          ·
            simp at q11
            refine VCsplit.intro (fun q12 => ?_) (fun q12 => ?_)
            ·
              simp at q12
              refine VCsplit.intro (fun q13 => ?_) (fun q13 => ?_)
              ·
                simp at q13
                refine idx_rd (Gt.owrd _ o5) ?_ ?_ fun b14 o14 hb14 => ?_
                · trivial
                · omega
                refine load_allN ByteArray.empty (0) rfl (Gt.owrd _ o5) ?_ ?_ hb14 rfl (mem_at 0 rfl) fun l15 hl15 => ?_
                · trivial
                · omega
                obtain ⟨rfl, hw15⟩ := hl15; simp only [flStr, flInt, okI] at hw15
                refine VCsplit.intro (fun q16 => ?_) (fun q16 => ?_)
                ·
                  simp at q16
                  refine idx_rd (Gt.owrd _ o5) ?_ ?_ fun b17 o17 hb17 => ?_
                  · trivial
                  · omega
                  refine load_allN ByteArray.empty (1) rfl (Gt.owrd _ o5) ?_ ?_ hb17 rfl (mem_at 0 rfl) fun l18 hl18 => ?_
                  · trivial
                  · omega
                  obtain ⟨rfl, hw18⟩ := hl18; simp only [flStr, flInt, okI] at hw18
                  refine call_val (specReadDecimal_ct _) trivial ?_
                  rintro _ rfl
                  refine VCsplit.intro (fun q20 => ?_) (fun q20 => ?_)
                  ·
                    simp at q20
                    exact ⟨[], loadV_f (scanI_bad hS (by omega) (ign_n35 (by assumption) (by assumption) (by assumption)) (by first | exact vertsR_1 (by assumption) (by omega) | exact vertsR_2 (by assumption) (by assumption) | exact vertsR_3 (by assumption) (by assumption) | exact lineR_v6 hS.2 (by assumption) (by omega) (by assumption) (by assumption) (by assumption) | exact lineR_n5 (by assumption) (by assumption) | exact lineR_n6 (by assumption) (by assumption) fL (by assumption))) (by rw [wrap_of (by omega) (by omega)]; rfl), (.le fun a => by (try simp only [setR, List.cons_append, List.nil_append]); simp [List.count_cons, Blk.ent, idOf]; try omega)⟩
                  ·
                    simp at q20
                    refine call_val (specGraphOk_ct _ ⟨readD (pA (partsV ((linesT t)[k]?.getD ByteArray.empty)) 1), g.edges⟩) (gz_rd (t := t) (k := k) (okI_D _) oD (by (try exact mem_at 0 rfl); (try exact mem_at 1 rfl); (try exact mem_at 2 rfl))) ?_
                    rintro _ rfl
                    refine VCsplit.intro (fun q22 => ?_) (fun q22 => ?_)
                    ·
                      simp at q22
                      exact ⟨[], loadV_f (scanI_bad hS (by omega) (ign_n35 (by assumption) (by assumption) (by assumption)) (by first | exact vertsR_1 (by assumption) (by omega) | exact vertsR_2 (by assumption) (by assumption) | exact vertsR_3 (by assumption) (by assumption) | exact lineR_v6 hS.2 (by assumption) (by omega) (by assumption) (by assumption) (by assumption) | exact lineR_n5 (by assumption) (by assumption) | exact lineR_n6 (by assumption) (by assumption) fL (by assumption))) (by rw [wrap_of (by omega) (by omega)]; rfl), (.le fun a => by (try simp only [setR, List.cons_append, List.nil_append]); simp [List.count_cons, Blk.ent, idOf]; try omega)⟩
                    ·
                      simp at q22
                      apply loop_stepA (k + 1, ⟨readD (pA (partsV ((linesT t)[k]?.getD ByteArray.empty)) 1), g.edges⟩, D, gb, gc)
                      · exact .sub (by repeat (first | exact .slnil | apply List.Sublist.cons_cons | apply List.Sublist.cons))
                      · repeat' (first | exact trivial | refine ⟨⟨_, rfl, by first | rfl | exact inc_eq _ (by omega) | (refine sl_eq ?_; simp; done), by first | exact trivial | simp [SV.ok]⟩, ?_⟩)
                      · exact ⟨rfl, rfl, trivial⟩
                      · try dsimp only
                        exact ⟨by omega, scanI_v hS (by omega) (ign_n35 (by assumption) (by assumption) (by assumption)) (by assumption) (by assumption) (by omega) (by assumption) (by assumption) (by assumption), oD⟩
                      try dsimp only
                      omega
                ·
                  simp at q16
                  refine VCsplit.intro (fun q23 => ?_) (fun q23 => ?_)
                  ·
                    simp at q23
                    exact ⟨[], loadV_f (scanI_bad hS (by omega) (ign_n35 (by assumption) (by assumption) (by assumption)) (by first | exact vertsR_1 (by assumption) (by omega) | exact vertsR_2 (by assumption) (by assumption) | exact vertsR_3 (by assumption) (by assumption) | exact lineR_v6 hS.2 (by assumption) (by omega) (by assumption) (by assumption) (by assumption) | exact lineR_n5 (by assumption) (by assumption) | exact lineR_n6 (by assumption) (by assumption) fL (by assumption))) (by rw [wrap_of (by omega) (by omega)]; rfl), (.le fun a => by (try simp only [setR, List.cons_append, List.nil_append]); simp [List.count_cons, Blk.ent, idOf]; try omega)⟩
                  ·
                    simp at q23
                    exact absurd q23 (by assumption)
              ·
                simp at q13
                exact ⟨[], loadV_f (scanI_bad hS (by omega) (ign_n35 (by assumption) (by assumption) (by assumption)) (by first | exact vertsR_1 (by assumption) (by omega) | exact vertsR_2 (by assumption) (by assumption) | exact vertsR_3 (by assumption) (by assumption) | exact lineR_v6 hS.2 (by assumption) (by omega) (by assumption) (by assumption) (by assumption) | exact lineR_n5 (by assumption) (by assumption) | exact lineR_n6 (by assumption) (by assumption) fL (by assumption))) (by rw [wrap_of (by omega) (by omega)]; rfl), (.le fun a => by (try simp only [setR, List.cons_append, List.nil_append]); simp [List.count_cons, Blk.ent, idOf]; try omega)⟩
            ·
              simp at q12
              refine call_new (l27Edge_ct _ _ _ (partsV ((linesT t)[k]?.getD ByteArray.empty)) ?_) (Rp.mono _ (mem_at 0 rfl) (Gt.owrd _ o5)) ?_
              · exact Nat.le_trans (partsV_len _) (by decide)
              rintro v24 A24 o24
              obtain ⟨⟨eL, rfl, rL, fL⟩, rfl⟩ := o24
              refine VCnew.intro fun x25 => ?_
              refine call_new (specGraphAdd_ct _ _ g eL (goodG_n hS.2 (by assumption))) ⟨graph_is hS.2 oD (by (try exact mem_at 0 rfl); (try exact mem_at 1 rfl); (try exact mem_at 2 rfl)), gEdge_rd.2 ⟨rfl, rL.1, rL.2⟩⟩ ?_
              rintro v26 A26 o26
              obtain ⟨b26, c26, rfl, o26⟩ := o26
              refine VCnew.intro fun x27 => ?_
              refine VCsplit.intro (fun q28 => ?_) (fun q28 => ?_)
              ·
                simp at q28
                exact ⟨[], loadV_f (scanI_bad hS (by omega) (ign_n35 (by assumption) (by assumption) (by assumption)) (by first | exact vertsR_1 (by assumption) (by omega) | exact vertsR_2 (by assumption) (by assumption) | exact vertsR_3 (by assumption) (by assumption) | exact lineR_v6 hS.2 (by assumption) (by omega) (by assumption) (by assumption) (by assumption) | exact lineR_n5 (by assumption) (by assumption) | exact lineR_n6 (by assumption) (by assumption) fL (by assumption))) (by rw [wrap_of (by omega) (by omega)]; rfl), (.le fun a => by (try simp only [setR, List.cons_append, List.nil_append]); simp [List.count_cons, Blk.ent, idOf]; try omega)⟩
              ·
                simp at q28
                refine VCsplit.intro (fun q29 => ?_) (fun q29 => ?_)
                ·
                  simp at q29
                  exact ⟨[], loadV_f (scanI_bad hS (by omega) (ign_n35 (by assumption) (by assumption) (by assumption)) (by first | exact vertsR_1 (by assumption) (by omega) | exact vertsR_2 (by assumption) (by assumption) | exact vertsR_3 (by assumption) (by assumption) | exact lineR_v6 hS.2 (by assumption) (by omega) (by assumption) (by assumption) (by assumption) | exact lineR_n5 (by assumption) (by assumption) | exact lineR_n6 (by assumption) (by assumption) fL (by assumption))) (by rw [wrap_of (by omega) (by omega)]; rfl), (.le fun a => by (try simp only [setR, List.cons_append, List.nil_append]); simp [List.count_cons, Blk.ent, idOf]; try omega)⟩
                ·
                  simp at q29
                  apply loop_stepA (k + 1, _, _, _, _)
                  · exact .sub (by repeat (first | exact .slnil | apply List.Sublist.cons_cons | apply List.Sublist.cons))
                  · repeat' (first | exact trivial | refine ⟨⟨_, rfl, by first | rfl | exact inc_eq _ (by omega) | (refine sl_eq ?_; simp; done), by first | exact trivial | simp [SV.ok]⟩, ?_⟩)
                  · exact ⟨rfl, rfl, trivial⟩
                  · try dsimp only
                    exact ⟨by omega, scanI_e hS (by omega) (ign_n35 (by assumption) (by assumption) (by assumption)) (by assumption) (by assumption) (by assumption) fL (by assumption), by assumption⟩
                  try dsimp only
                  omega
    ·
      refine VCsplit.intro (fun q30 => ?_) (fun q30 => ?_)
      ·
        simp at q30
        exact ⟨[], loadV_f (scanI_no hS (by omega) (ign_no (by assumption)) (by assumption)) (by rw [wrap_of (by omega) (by omega)]; rfl), (.le fun a => by (try simp only [setR, List.cons_append, List.nil_append]); simp [List.count_cons, Blk.ent, idOf]; try omega)⟩
      ·
        simp at q30
        exact absurd (q30.symm.trans (show partsOk _ = false by assumption)) (by decide)
  ·
    simp at q2
    refine VCsplit.intro (fun q31 => ?_) (fun q31 => ?_)
    ·
      simp at q31
      exact ⟨[], loadV_e1 hS (by omega) (by assumption), (.le fun a => by (try simp only [setR, List.cons_append, List.nil_append]); simp [List.count_cons, Blk.ent, idOf]; try omega)⟩
    ·
      simp at q31
      exact ⟨_, loadV_e2 hS (by omega) (by assumption) oD, (.le fun a => by (try simp only [setR, List.cons_append, List.nil_append]); simp [List.count_cons, Blk.ent, idOf]; try omega)⟩
theorem specLoadGraph_ct (t : ByteArray) (ht : t.size ≤ 1048576) : Ct Tryd.prog 11 [.string t] [] (fun _ => True) (loadV t) := by
  refine Ct.intro0 G_ok Tryd.func11 rfl rfl rfl fun E H hp => ?_
  refine VCnew.intro fun x0 => ?_
  refine call_new (l27Lines_ct _ ?_) trivial ?_
  · trivial
  rintro v1 A1 o1
  obtain ⟨b1, c1, rfl, o1⟩ := o1
  refine call_new (l27Load_ct t _ _ _) (Rp.mono _ (mem_at 0 rfl) (Gt.owrd _ o1)) ?_
  rintro v2 A2 o2
  obtain ⟨b2, c2, rfl, o2⟩ := o2
  exact ⟨_, ⟨_, _, rfl, by assumption⟩, (.le fun a => by (try simp only [setR, List.cons_append, List.nil_append]); simp [List.count_cons, Blk.ent, idOf]; try omega)⟩
theorem scanG_good : ∀ (ts : List ByteArray) (g : Graph) (i : Nat), goodG g → goodG (scanG g i ts).1
  | [], g, i, h => by
    unfold scanG
    split
    · exact .inl rfl
    exact h
  | t :: ts, g, i, h => by
    unfold scanG
    split
    · exact scanG_good ts g (i + 1) h
    split
    · split
      · exact scanG_good ts _ (i + 1) (goodG_line ‹_›)
      exact .inl rfl
    exact .inl rfl
theorem load_rng (t : ByteArray) : 0 ≤ (loadG t).1.size ∧ (loadG t).1.size ≤ 12 ∧ (loadG t).1.edges.length ≤ 40 := by
  rcases scanG_good (linesT t) ⟨0, []⟩ 0 (.inl rfl) with h | h
  · unfold loadG; rw [h]; exact ⟨by decide, by decide, Nat.zero_le _⟩
  have := graphOk_iff.1 h
  unfold loadG; omega
theorem load_ow {t : ByteArray} {b : Option Addr} {c : Nat} {A : Hp} (h : (gSl 42 gEdge).ow [.slice b (loadG t).1.edges.length c] (loadG t).1.edges A) : gGraph.ow [.int .i64 (loadG t).1.size, .slice b (loadG t).1.edges.length c] (loadG t).1 A := gGraph_ow.2 ⟨b, c, A, rfl, by simp, by have := load_rng t; unfold okI; omega, h⟩
end Go.Proofs.YtcnclhjhnjpeiaaDoor

namespace Go.Proofs.YtcnclhjhnjpeiaaDoor
open Go.SX Go.Proofs
set_option maxHeartbeats 4000000
set_option linter.unusedSimpArgs false
set_option linter.unusedVariables false
--@ct laws.markEdgeS mark1 markEdgeS_ct _ _ _ _ _ _ ~ ?_ ?_
theorem markEdgeS_ct (b : Option Addr) (m c : Nat) (xs : List Edge) (A : Hp) (k0 : Int) (ho : (gSl 42 gEdge).ow [.slice b m c] xs A) (h0 : 0 ≤ k0) (h1 : k0 + cntL gEdge xs ≤ 4611686018427387904) :
    CtR Tryd.prog 33 [.slice b m c, .int .i64 k0] A (fun _ => True) (fun v A => v = .int .i64 (k0 + cntL gEdge xs) ∧ (gSl 42 gEdge).ow [.slice b m c] (mkL gEdge k0 xs) A) := by
  obtain ⟨rfl, hcl, hl⟩ := sl_len (Gt.owrd _ ho)
  refine CtR.intro G_ok [A] Tryd.func33 rfl rfl rfl (by simp) fun E H hp => ?_
  apply loop_mod (α := (Nat) × (Hp)) G_ok [6, 7, 8, 9, 12, 13, 14, 15, 16, 17, 18, 1, 19, 20, 21, 22, 23, 24, 25, 26, 27, 28, 29, 30, 31, 32, 33, 10, 11, 5] (fun z => [(5, .v (.int .i64 z.1)), (1, .v (.int .i64 (k0 + cntL gEdge (xs.take z.1))))]) (fun z => []) (fun z => [z.2, H]) (fun z => xs.length - z.1) (fun z => z.1 ≤ xs.length ∧ (gSl 42 gEdge).ow [.slice b xs.length c] (mkL gEdge k0 (xs.take z.1) ++ xs.drop z.1) z.2) ((0, A))
  · repeat' (first | exact trivial | refine ⟨⟨_, rfl, by first | rfl | exact inc_eq _ (by omega) | (refine sl_eq ?_; simp; done) | (refine svi_eq ?_; subst_vars; (try dsimp only); (try simp (disch := omega) only [wrap_of]); omega) | (simp [cntL]), by first | exact trivial | simp [SV.ok]⟩, ?_⟩)
  · exact trivial
  · try dsimp only
    exact ⟨by omega, by simpa [mkL] using ho⟩
  · exact .refl _
  rintro ⟨k, B⟩ hI
  obtain ⟨hk, oB⟩ : k ≤ xs.length ∧ (gSl 42 gEdge).ow [.slice b xs.length c] (mkL gEdge k0 (xs.take k) ++ xs.drop k) B := hI
  try dsimp only
  refine VCsplit.intro (fun q0 => ?_) (fun q0 => ?_)
  ·
    simp at q0
    have hs := (cntL_step gEdge xs k default (by omega))
    simp only [gEdge_cnt] at hs
    have hs2 := cntL_take_le gEdge xs (k + 1)
    obtain ⟨y, ey, oe⟩ := OwE.mk default k oB (by rw [mk_len _ _ _ _ (by omega)]; omega)
    rw [mk_get _ _ _ _ _ (by omega)] at ey
    clear oB
    refine oe_idx oe ?_ fun b1 o1 hb1 => ?_
    · rfl
    refine oe_store gEdge_from 0 rfl oe rfl hb1 rfl gI_pl _ (gI_ow ?_) fun y2 A2 ey2 o2 => ?_
    · unfold okI; omega
    refine oe_idx o2 ?_ fun b3 o3 hb3 => ?_
    · rfl
    refine oe_store gEdge_label 0 rfl o2 rfl hb3 rfl gY_pl _ (gY_owM _) fun y4 A4 ey4 o4 => ?_
    refine oe_idx o4 ?_ fun b5 o5 hb5 => ?_
    · rfl
    refine oe_store gEdge_to 0 rfl o4 rfl hb5 rfl gI_pl _ (gI_ow ?_) fun y6 A6 ey6 o6 => ?_
    · exact okI_wrap _
    apply loop_stepA (k + 1, _)
    · exact .refl _
    · repeat' (first | exact trivial | refine ⟨⟨_, rfl, by first | rfl | exact inc_eq _ (by omega) | (refine sl_eq ?_; simp; done) | (refine svi_eq ?_; subst_vars; (try dsimp only); (try simp (disch := omega) only [wrap_of]); omega) | (simp [cntL]), by first | exact trivial | simp [SV.ok]⟩, ?_⟩)
    · exact trivial
    · try dsimp only
      exact ⟨by omega, OwE.done (by assumption) (by rw [← mk_step gEdge default xs k0 k (by omega)]; congr 1; subst_vars; (try simp only [gEdge_mark, gEdge_cnt]); (try simp (disch := omega) only [wrap_of]); (try rfl))⟩
    try dsimp only
    omega
  ·
    simp at q0
    obtain rfl : k = xs.length := by omega
    rw [List.take_length, List.drop_length, List.append_nil] at oB
    exact ⟨_, ⟨by rw [List.take_length], oB⟩, (.le fun a => by (try simp only [setR, List.cons_append, List.nil_append]); simp only [List.flatten_append, List.flatten_cons, List.flatten_nil, List.count_append, List.count_nil, List.append_nil, List.nil_append]; omega)⟩
--@ct laws.heldEdgeS val heldEdgeS_ct _ _ _ _ _ _ ?_ ?_ ?_ | %1
theorem heldEdgeS_ct (b : Option Addr) (m c : Nat) (xs : List Edge) (k0 k1 : Int) (hk1 : k0 = k1) (h0 : 0 ≤ k0) (h1 : k0 + cntL gEdge xs ≤ 4611686018427387904) :
    Ct Tryd.prog 34 [.slice b m c, .int .i64 k0] [] (fun H => (gSl 42 gEdge).rd H [.slice b m c] (mkL gEdge k1 xs)) (fun v A => v = .int .i64 (k0 + cntL gEdge xs) ∧ A = []) := by
  subst hk1
  refine Ct.intro0 G_ok Tryd.func34 rfl rfl rfl fun E H hp => ?_
  have hm0 := (sl_len hp).1
  rw [mkL_len] at hm0; subst hm0
  obtain ⟨-, hcl, hl⟩ := sl_len hp
  rw [mkL_len] at hcl hl
  have hln := mkL_len gEdge xs k0
  apply loop_mod (α := (Nat)) G_ok [6, 7, 8, 9, 12, 13, 14, 15, 16, 17, 18, 4, 19, 20, 1, 21, 22, 23, 24, 25, 26, 27, 28, 29, 30, 31, 32, 33, 34, 35, 36, 37, 38, 39, 10, 11, 5] (fun z => [(5, .v (.int .i64 z)), (1, .v (.int .i64 (k0 + cntL gEdge (xs.take z))))]) (fun z => []) (fun z => [H]) (fun z => xs.length - z) (fun z => z ≤ xs.length) (0)
  · repeat' (first | exact trivial | refine ⟨⟨_, rfl, by first | rfl | exact inc_eq _ (by omega) | (refine sl_eq ?_; simp; done) | (refine svi_eq ?_; (try dsimp only); (try simp (disch := omega) only [wrap_of]); omega) | (simp [cntL]), by first | exact trivial | simp [SV.ok]⟩, ?_⟩)
  · exact trivial
  · omega
  · exact .refl _
  rintro k hI
  obtain hk : k ≤ xs.length := hI
  try dsimp only
  refine VCsplit.intro (fun q0 => ?_) (fun q0 => ?_)
  ·
    simp at q0
    have hs := (cntL_step gEdge xs k default (by omega))
    simp only [gEdge_cnt] at hs
    have hs2 := cntL_take_le gEdge xs (k + 1)
    have hm := mkL_get gEdge default xs k0 k (by omega)
    simp only [gEdge_mark, gEdge_cnt] at hm
    refine idx_rd hp ?_ ?_ fun b1 o1 hb1 => ?_
    · omega
    · omega
    refine load_partN default (k) 0 rfl hp ?_ ?_ hb1 rfl (by decide) (mem_at 0 rfl) fun l2 hl2 => ?_
    · omega
    · omega
    rw [hm] at hl2
    obtain ⟨rfl, w0x2, w2x2⟩ := gEdge_rd.1 hl2
    refine VCsplit.intro (fun q3 => ?_) (fun q3 => ?_)
    ·
      simp at q3
    ·
      simp at q3
      refine idx_rd hp ?_ ?_ fun b4 o4 hb4 => ?_
      · omega
      · omega
      refine load_partN default (k) 1 rfl hp ?_ ?_ hb4 rfl (by decide) (mem_at 0 rfl) fun l5 hl5 => ?_
      · omega
      · omega
      rw [hm] at hl5
      obtain ⟨rfl, w0x5, w2x5⟩ := gEdge_rd.1 hl5
      refine VCsplit.intro (fun q6 => ?_) (fun q6 => ?_)
      ·
        simp at q6
        simp only [str_inj, u8_inj, u8_wrap] at q6
        simp (disch := omega) only [wrap_of] at q6
        exfalso; omega
      ·
        simp at q6
        simp only [str_inj, u8_inj, u8_wrap] at q6
        simp (disch := omega) only [wrap_of] at q6
        refine idx_rd hp ?_ ?_ fun b7 o7 hb7 => ?_
        · omega
        · omega
        refine load_partN default (k) 2 rfl hp ?_ ?_ hb7 rfl (by decide) (mem_at 0 rfl) fun l8 hl8 => ?_
        · omega
        · omega
        rw [hm] at hl8
        obtain ⟨rfl, w0x8, w2x8⟩ := gEdge_rd.1 hl8
        refine VCsplit.intro (fun q9 => ?_) (fun q9 => ?_)
        ·
          simp at q9
          simp (disch := omega) only [wrap_of] at q9
          exact absurd trivial q9
        ·
          simp at q9
          simp (disch := omega) only [wrap_of] at q9
          apply loop_stepA (k + 1)
          · exact .refl _
          · repeat' (first | exact trivial | refine ⟨⟨_, rfl, by first | rfl | exact inc_eq _ (by omega) | (refine sl_eq ?_; simp; done) | (refine svi_eq ?_; (try dsimp only); (try simp (disch := omega) only [wrap_of]); omega) | (simp [cntL]), by first | exact trivial | simp [SV.ok]⟩, ?_⟩)
          · exact trivial
          · trivial
          omega
  ·
    simp at q0
    obtain rfl : k = xs.length := by omega
    exact ⟨[], ⟨by rw [List.take_length], rfl⟩, (.le fun a => by (try simp only [setR, List.cons_append, List.nil_append]); simp only [List.flatten_append, List.flatten_cons, List.flatten_nil, List.count_append, List.count_nil, List.append_nil, List.nil_append]; omega)⟩
--@ct laws.markGraph mark1 markGraph_ct _ _ _ _ ~ ?_ ?_
theorem markGraph_ct (l : List Value) (x : Graph) (A : Hp) (k0 : Int) (ho : gGraph.ow l x A) (h0 : 0 ≤ k0) (h1 : k0 + gGraph.cntV x ≤ 4611686018427387904) :
    CtR Tryd.prog 13 [.agg ⟨l⟩, .int .i64 k0] A (fun _ => True) (fun v A => v = .int .i64 (k0 + gGraph.cntV x) ∧ gGraph.ow l (gGraph.markV k0 x) A) := by
  obtain ⟨b1, c1, A1, rfl, hpm, w0, h1⟩ := gGraph_ow.1 ho
  have hz := gGraph_cntV x
  refine CtR.introP G_ok [A1] Tryd.func13 rfl rfl rfl (hpm.trans (by simp)) fun E H hp => ?_
  refine VCnew.intro fun x0 => ?_
  refine callR_at 0 rfl (markEdgeS_ct _ _ _ _ _ _ h1 ?_ ?_) trivial ?_
  · trivial
  · omega
  rintro _ A1 ⟨rfl, o1⟩
  exact ⟨_, ⟨by rw [hz]; (try simp); (try omega), by rw [gGraph_markV]; exact gGraph_ow.2 ⟨_, _, _, by simp only [mkL_len]; rfl, .refl _, by assumption, by rw [mkL_len]; assumption⟩⟩, (.le fun a => by (try simp only [setR, List.cons_append, List.nil_append]); simp only [List.flatten_append, List.flatten_cons, List.flatten_nil, List.count_append, List.count_nil, List.append_nil, List.nil_append]; omega)⟩
--@ct laws.heldGraph val heldGraph_ct _ _ _ _ ?_ ?_ ?_ | %1
theorem heldGraph_ct (l : List Value) (x : Graph) (k0 k1 : Int) (hk1 : k0 = k1) (h0 : 0 ≤ k0) (h1 : k0 + gGraph.cntV x ≤ 4611686018427387904) :
    Ct Tryd.prog 14 [.agg ⟨l⟩, .int .i64 k0] [] (fun H => gGraph.rd H l (gGraph.markV k1 x)) (fun v A => v = .int .i64 (k0 + gGraph.cntV x) ∧ A = []) := by
  subst hk1
  refine Ct.intro0 G_ok Tryd.func14 rfl rfl rfl fun E H hp => ?_
  rw [gGraph_markV] at hp
  obtain ⟨b1, c1, rfl, w0, h1⟩ := gGraph_rd.1 hp
  have hz := gGraph_cntV x
  refine VCnew.intro fun x0 => ?_
  refine call_val (heldEdgeS_ct _ _ _ _ _ _ ?_ ?_ ?_) (Rp.mono _ (mem_at 0 rfl) h1) ?_
  · rfl
  · trivial
  · omega
  rintro _ rfl
  refine VCsplit.intro (fun q2 => ?_) (fun q2 => ?_)
  ·
    simp at q2
    exfalso; omega
  ·
    simp at q2
    try dsimp only
    exact ⟨[], ⟨by rw [hz]; (try simp); (try omega), rfl⟩, (.le fun a => by (try simp only [setR, List.cons_append, List.nil_append]); simp only [List.flatten_append, List.flatten_cons, List.flatten_nil, List.count_append, List.count_nil, List.append_nil, List.nil_append]; omega)⟩
end Go.Proofs.YtcnclhjhnjpeiaaDoor

namespace Go.Proofs.YtcnclhjhnjpeiaaDoor
open Go.SX Go.Proofs
set_option linter.unusedSimpArgs false
set_option linter.unusedVariables false
set_option maxHeartbeats 8000000
theorem load_sz (t : ByteArray) : gGraph.sz (loadG t).1 ≤ 40 := by
  have h1 : ∀ l : List Edge, szL gEdge l = l.length := by
    intro l
    induction l with
    | nil => rfl
    | cons e r ih => show 1 + gEdge.sz e + szL gEdge r = r.length + 1; rw [ih, show gEdge.sz e = 0 from rfl]; omega
  rw [gGraph_sz, h1]; have := load_rng t; omega
theorem load_cnt (t : ByteArray) : (gGraph.cntV (loadG t).1 : Int) ≤ 1100000000 := by
  have h1 := gGraph.cntV_le (loadG t).1
  have h2 : gGraph.w ≤ 1000 := by decide
  have := Nat.mul_le_mul h2 (show 1 + gGraph.sz (loadG t).1 ≤ 1048577 by have := load_sz t; omega)
  omega
theorem fnExactLoadGraph_ct (v0 : Value) :
    Ct Tryd.prog 4 [v0] [] (fun H => (∃ x, rdV false gS.toRp H v0 x) ∧ TabIn H) (fun v A => v = .bool true ∧ A = []) := by
  refine Ct.intro0 G_ok Tryd.func4 rfl rfl rfl fun E H hp => ?_
  obtain ⟨⟨xa0, hp0⟩, hT⟩ := hp
  obtain ⟨ea0, wa0⟩ := hp0; cases ea0
  refine VCsplit.intro (fun q0 => ?_) (fun q0 => ?_)
  ·
    simp at q0
    exact ⟨[], ⟨rfl, rfl⟩, (.le fun a => by (try simp only [setR, List.cons_append, List.nil_append]); simp only [List.flatten_append, List.flatten_cons, List.flatten_nil, List.count_append, List.count_nil, List.append_nil, List.nil_append]; omega)⟩
  ·
    simp at q0
    refine call_new (specLoadGraph_ct xa0 ?_) trivial ?_
    · omega
    rintro v1 A1 o1
    obtain ⟨b1, c1, rfl, o1⟩ := o1
    have p1 := load_ow o1
    have r1 := Gt.owrd _ p1
    refine VCnew.intro fun x2 => ?_
    refine call_new (implLoadGraph_ct xa0 ?_) (by (try exact TabIn.mono hT (mem_at 0 rfl)); (try exact TabIn.mono hT (mem_at 1 rfl)); (try exact TabIn.mono hT (mem_at 2 rfl)); (try exact TabIn.mono hT (mem_at 3 rfl))) ?_
    · omega
    rintro v3 A3 o3
    obtain ⟨b3, c3, rfl, o3⟩ := o3
    have p3 := load_ow o3
    have r3 := Gt.owrd _ p3
    refine VCnew.intro fun x4 => ?_
    refine call_val (eqGraph_ct _ _ ((loadG xa0).fst) ((loadG xa0).fst)) ⟨(Rp.mono _ (mem_at 0 rfl) r3), (Rp.mono _ (mem_at 1 rfl) r1)⟩ ?_
    rintro _ rfl
    refine VCsplit.intro (fun q6 => ?_) (fun q6 => ?_)
    ·
      simp at q6
    ·
      simp at q6
      refine VCsplit.intro (fun q7 => ?_) (fun q7 => ?_)
      ·
        simp at q7
      ·
        simp at q7
        refine callR_at 0 rfl (markGraph_ct _ _ _ _ p3 ?_ ?_) trivial ?_
        · trivial
        · (have := load_cnt xa0; omega)
        rintro _ A8 ⟨rfl, o8⟩
        refine call_val (heldGraph_ct _ _ _ _ ?_ ?_ ?_) (Rp.mono _ (mem_at 0 rfl) (Gt.owrd _ o8)) ?_
        · rfl
        · trivial
        · (have := load_cnt xa0; omega)
        rintro _ rfl
        refine VCsplit.intro (fun q10 => ?_) (fun q10 => ?_)
        ·
          simp at q10
          exfalso; omega
        ·
          simp at q10
          refine VCsplit.intro (fun q11 => ?_) (fun q11 => ?_)
          ·
            simp at q11
          ·
            simp at q11
            refine call_new (implLoadGraph_ct xa0 ?_) (by (try exact TabIn.mono hT (mem_at 0 rfl)); (try exact TabIn.mono hT (mem_at 1 rfl)); (try exact TabIn.mono hT (mem_at 2 rfl)); (try exact TabIn.mono hT (mem_at 3 rfl))) ?_
            · omega
            rintro v12 A12 o12
            obtain ⟨b12, c12, rfl, o12⟩ := o12
            have p12 := load_ow o12
            have r12 := Gt.owrd _ p12
            refine VCnew.intro fun x13 => ?_
            refine call_val (eqGraph_ct _ _ ((loadG xa0).fst) ((loadG xa0).fst)) ⟨(Rp.mono _ (mem_at 0 rfl) r12), (Rp.mono _ (mem_at 2 rfl) r1)⟩ ?_
            rintro _ rfl
            refine VCsplit.intro (fun q15 => ?_) (fun q15 => ?_)
            ·
              simp at q15
            ·
              simp at q15
              refine VCsplit.intro (fun q16 => ?_) (fun q16 => ?_)
              ·
                simp at q16
              ·
                simp at q16
                refine call_val (heldGraph_ct _ _ _ _ ?_ ?_ ?_) (Rp.mono _ (mem_at 1 rfl) (Gt.owrd _ o8)) ?_
                · rfl
                · trivial
                · (have := load_cnt xa0; omega)
                rintro _ rfl
                refine VCsplit.intro (fun q18 => ?_) (fun q18 => ?_)
                ·
                  simp at q18
                  exfalso; omega
                ·
                  simp at q18
                  refine VCsplit.intro (fun q19 => ?_) (fun q19 => ?_)
                  ·
                    simp at q19
                  ·
                    simp at q19
                    exact ⟨[], ⟨rfl, rfl⟩, (.le fun a => by (try simp only [setR, List.cons_append, List.nil_append]); simp only [List.flatten_append, List.flatten_cons, List.flatten_nil, List.count_append, List.count_nil, List.append_nil, List.nil_append]; omega)⟩
end Go.Proofs.YtcnclhjhnjpeiaaDoor
