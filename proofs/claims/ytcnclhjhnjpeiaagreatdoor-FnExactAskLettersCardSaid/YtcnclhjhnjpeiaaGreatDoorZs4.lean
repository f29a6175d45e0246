/-
  Path expressions read, the program's side. Path expressions read, the program's side: items, the whole. Path expressions read, the reference's side. Path expressions read, the reference's side: items, the whole. Sets of places as bits. Automata of path expressions: the program's positions. Automata of path expressions: what the program's positions come to. Plain. Automata: arcs in order, the reference's puts, NfaOk. Automata: the reference's joins. Automata: what the reference's look comes to. Plain. Automata of path expressions: the program visits a path's pieces. Automata: the reference's look walked. Conditions: none.
-/
import Derived.Test.YtcnclhjhnjpeiaaGreatDoorZs3

namespace Go.Proofs.YtcnclhjhnjpeiaaGreatDoor
open Go.SX Go.Proofs
set_option linter.unusedSimpArgs false
set_option linter.unusedVariables false
set_option maxHeartbeats 4000000
attribute [local irreducible] IntKind.wrap
def prK (R : Option PR) : Int := (R.getD (0, 0, [])).1
def prP (R : Option PR) : Nat := (R.getD (0, 0, [])).2.1
def prS (R : Option PR) : List Piece := (R.getD (0, 0, [])).2.2
theorem pr_some {R : Option PR} (h : R.isSome = true) : R = some (prK R, prP R, prS R) := by
  cases R with
  | none => cases h
  | some r => rfl
theorem pr_none {R : Option PR} (h : R.isSome = false) : R = none := by cases R <;> simp_all
--@ct (*impl.pathReader).next blk0 prNext_ct _ _ _ _ _ rfl ?_ ?_ |  | rintro _ A# ⟨rfl, rfl⟩ ;; refine ⟨_, _, [], rfl, perm0, ?_⟩
theorem prNext_ct (q : Nat) (t : ByteArray) (ai : Int) (a : Nat) (v : Value) (hai : ai = (a : Int)) (ht : t.size ≤ 1152921504606846976) (ha : a ≤ t.size) :
    CtR Tryz.prog 224 [.pointer (some ⟨q, 0, none⟩)] [(q, Obj.cells ⟨[.string t, .int .i64 ai, v]⟩ 294)] (fun _ => True) (fun r A => r = .int .u8 ((byteAt t a).toNat : Nat) ∧ A = [(q, Obj.cells ⟨[.string t, .int .i64 ai, v]⟩ 294)]) := by
  subst hai
  refine CtR.introB G_ok [.p 0 0] [⟨q, [.string t, .int .i64 (a : Int), v], 294⟩] [] Tryz.func224 rfl rfl rfl rfl (by simp [SV.ok]) (by simp [Blk.ent]) fun E H hp => ?_
  refine draw G_ok mixed none (.q 0 (.q 1 (.q 2 (.q 3 (.q 4 (.q 5 (.q 6 (.q 7 (.q 8 (.q 9 (.nil))))))))))) (by decide +kernel) ?_
  refine VCsplit.intro (fun q0 => ?_) (fun q0 => ?_)
  ·
    simp at q0
    refine draw G_ok mixed none (.q 0 (.q 1 (.q 2 (.q 3 (.q 4 (.q 5 (.q 6 (.q 7 (.q 8 (.q 9 (.nil))))))))))) (by decide +kernel) ?_
    refine VC.intro ?_ ?_
    · omega
    exact ⟨_, ⟨rfl, rfl⟩, (.le fun a => by (try simp only [setR, List.cons_append, List.nil_append]); simp [List.count_cons, Blk.ent, idOf]; try omega)⟩
  ·
    simp at q0
    exact ⟨_, ⟨by rw [byteAt_end (by omega)]; rfl, rfl⟩, (.le fun a => by (try simp only [setR, List.cons_append, List.nil_append]); simp [List.count_cons, Blk.ent, idOf]; try omega)⟩
--@ct (*impl.pathReader).piece blk2s+2 prPiece_ct _ _ _ _ _ _ _ _ _ _ !o !2o ?_ |  | rintro _ A# ⟨b#, c#, Ax#, rfl, rfl, o#⟩ ;; refine ⟨_, _, [Ax#], rfl, perm1, ?_⟩
theorem prPiece_ct (q : Nat) (v0 v1 : Value) (b : Option Addr) (c : Nat) (l : List Value) (ps : List Piece) (x : Piece) (A B : Hp) (hA : (gSl 279 gPiece).ow [.slice b ps.length c] ps A) (hB : gPiece.ow l x B) (hn : ps.length ≤ 1000000) :
    CtR Tryz.prog 234 [.pointer (some ⟨q, 0, none⟩), .agg ⟨l⟩] ((q, Obj.cells ⟨[v0, v1, .slice b ps.length c]⟩ 294) :: (A ++ B)) (fun _ => True)
      (fun r D => ∃ b c A', r = .int .i64 (ps.length : Nat) ∧ D = (q, Obj.cells ⟨[v0, v1, .slice b (ps ++ [x]).length c]⟩ 294) :: A' ∧ (gSl 279 gPiece).ow [.slice b (ps ++ [x]).length c] (ps ++ [x]) A') := by
  refine CtR.introB G_ok [.p 0 0, .v (.agg ⟨l⟩)] [⟨q, [v0, v1, .slice b ps.length c], 294⟩] [A, B] Tryz.func234 rfl rfl rfl rfl (by simp [SV.ok]) (by simp [Blk.ent]) fun E H hp => ?_
  have hr := Gt.owrd _ hB
  obtain ⟨b2x, c2x, rfl, w0x, h2x⟩ := gPiece_rd.1 hr
  refine VCnew.intro fun x0 => ?_
  refine draw G_ok mixed (some 8) (.q 0 (.q 1 (.q 2 (.q 3 (.q 4 (.q 5 (.q 6 (.f 7 (.tl 8 (.f 9 (.f 10 (.f 11 (.f 12 (.nil)))))))))))))) (by decide +kernel) ?_
  refine VCnew.intro fun x1 => ?_
  refine VC.intro ?_ ?_
  · exact keep_new
  refine gappend1 (g := gPiece) (T := (279 : TypeId)) G_ok A _ [H] ?_ hA (hB) (List.mem_of_getElem? (i := 0) rfl) rfl rfl rfl rfl rfl rfl rfl rfl ?_ fun b2 c2 A2 o2 => ?_
  · exact .tl
  · omega
  exact ⟨_, ⟨_, _, _, by (simp (disch := (simp only [List.length_append, List.length_singleton]; omega)) only [wrap_of]; simp), rfl, by assumption⟩, (.le fun a => by (try simp only [setR, List.cons_append, List.nil_append]); simp [List.count_cons, Blk.ent, idOf]; try omega)⟩
theorem piece_own {op : Int} {lb : UInt8} {b : Option Addr} {c : Nat} {ks : List Int} {A : Hp} (h1 : okI op) (h2 : (gSl 3 gI).ow [.slice b ks.length c] ks A) : gPiece.ow [.int .i64 op, .int .u8 (lb.toNat : Nat), .slice b ks.length c] ⟨op, lb, ks⟩ A := gPiece_ow.2 ⟨b, c, A, rfl, by simp, h1, h2⟩
theorem pGroup_one {op : Int} {ks : List Int} {p : Nat} {ps : List Piece} (h : ks.length = 1) : pGroup op (ks, p, ps) = (ks[0]?.getD 0, p, ps) := by unfold pGroup; rw [if_pos h]
theorem pGroup_many {op : Int} {ks : List Int} {p : Nat} {ps : List Piece} (h : ¬ ks.length = 1) : pGroup op (ks, p, ps) = (((ps.length : Nat) : Int), p, ps ++ [⟨op, 0, ks⟩]) := by unfold pGroup; rw [if_neg h]
--@ct (*impl.pathReader).group blk2s+3 prGroup_ct _ _ _ _ _ _ _ _ _ _ _ _ _ ?_ !o !3o ?_ ?_ |  | rintro _ A# ⟨b#, c#, Ax#, rfl, rfl, o#⟩ ;; refine ⟨_, _, [Ax#], rfl, perm1, ?_⟩
theorem prGroup_ct (q p : Nat) (v0 v1 : Value) (b bk : Option Addr) (c ck : Nat) (ps : List Piece) (op : Int) (ks : List Int) (A B : Hp) (hop : okI op) (hA : (gSl 279 gPiece).ow [.slice b ps.length c] ps A) (hB : (gSl 3 gI).ow [.slice bk ks.length ck] ks B) (hn : ps.length ≤ 1000000) (hk : ks.length ≤ 1000000) :
    CtR Tryz.prog 225 [.pointer (some ⟨q, 0, none⟩), .int .i64 op, .slice bk ks.length ck] ((q, Obj.cells ⟨[v0, v1, .slice b ps.length c]⟩ 294) :: (A ++ B)) (fun _ => True)
      (fun r D => ∃ b c A', r = .int .i64 (pGroup op (ks, p, ps)).1 ∧ D = (q, Obj.cells ⟨[v0, v1, .slice b (pGroup op (ks, p, ps)).2.2.length c]⟩ 294) :: A' ∧ (gSl 279 gPiece).ow [.slice b (pGroup op (ks, p, ps)).2.2.length c] (pGroup op (ks, p, ps)).2.2 A') := by
  refine CtR.introB G_ok [.p 0 0, .v (.int .i64 op), .v (.slice bk ks.length ck)] [⟨q, [v0, v1, .slice b ps.length c], 294⟩] [A, B] Tryz.func225 rfl rfl rfl rfl (by simp [SV.ok]) (by simp [Blk.ent]) fun E H hp => ?_
  have hPo := piece_own (lb := 0) hop hB
  refine VCsplit.intro (fun q0 => ?_) (fun q0 => ?_)
  ·
    simp at q0
    refine idx_rd (Gt.owrd _ hB) ?_ ?_ fun b1 o1 hb1 => ?_
    · trivial
    · omega
    refine load_allN 0 (0) rfl (Gt.owrd _ hB) ?_ ?_ hb1 rfl (mem_at 1 rfl) fun l2 hl2 => ?_
    · trivial
    · omega
    obtain ⟨rfl, hw2⟩ := hl2; simp only [flStr, flInt, okI] at hw2
    (rw [pGroup_one (by omega)]; exact ⟨_, ⟨_, _, _, rfl, rfl, hA⟩, (.le fun a => by (try simp only [setR, List.cons_append, List.nil_append]); simp [List.count_cons, Blk.ent, idOf]; try omega)⟩)
  ·
    simp at q0
    refine callR_blk 0 (A ++ B) [H] rfl ?_ (prPiece_ct _ _ _ _ _ _ _ _ _ _ hA hPo ?_) trivial ?_
    · exact .le fun a => by (try simp only [setR, List.cons_append, List.nil_append]); simp only [List.flatten_append, List.flatten_cons, List.flatten_nil, List.count_append, List.count_nil, List.append_nil, List.nil_append]; omega
    · trivial
    rintro _ A3 ⟨b3, c3, Ax3, rfl, rfl, o3⟩
    refine ⟨_, _, [Ax3], rfl, perm1, ?_⟩
    (rw [pGroup_many (by omega)]; exact ⟨_, ⟨_, _, _, rfl, rfl, by assumption⟩, (.le fun a => by (try simp only [setR, List.cons_append, List.nil_append]); simp [List.count_cons, Blk.ent, idOf]; try omega)⟩)
theorem pGroup_eta {op : Int} {ks : List Int} {p : Nat} {ps : List Piece} : pGroup op (ks, p, ps) = ((pGroup op (ks, p, ps)).1, p, (pGroup op (ks, p, ps)).2.2) := by
  unfold pGroup; split <;> rfl
/-- what reading a part does: R is what it reads from p with the pieces ps -/
def PrPost (q : Nat) (t : ByteArray) (R : Option PR) (v : Value) (D : Hp) : Prop :=
  ∃ (p' : Nat) (ps' : List Piece) (b : Option Addr) (c : Nat) (A' : Hp), v = .tuple #[.int .i64 (prK R), .bool R.isSome] ∧ D = (q, Obj.cells ⟨[.string t, .int .i64 (p' : Nat), .slice b ps'.length c]⟩ 294) :: A' ∧ (gSl 279 gPiece).ow [.slice b ps'.length c] ps' A' ∧ (R.isSome = true → p' = prP R ∧ ps' = prS R)
def PrCt (f : FuncId) (F : Nat → List Piece → Option PR) (t : ByteArray) (P : Nat → Prop) : Prop :=
  ∀ (q : Nat) (pi : Int) (p : Nat) (ps : List Piece) (b : Option Addr) (c : Nat) (A : Hp), pi = p → P p → ps.length ≤ 2 * p → (gSl 279 gPiece).ow [.slice b ps.length c] ps A →
    CtR Tryz.prog f [.pointer (some ⟨q, 0, none⟩)] ((q, Obj.cells ⟨[.string t, .int .i64 pi, .slice b ps.length c]⟩ 294) :: A) (fun _ => True) (PrPost q t (F p ps))
def ReadsR (t : ByteArray) (p : Nat) (ps : List Piece) (R : Option PR) : Prop := p < prP R ∧ prP R ≤ t.size ∧ (prS R).length + 1 + 2 * p ≤ ps.length + 2 * prP R ∧ ps.length ≤ (prS R).length ∧ 0 ≤ prK R ∧ prK R < (prS R).length
theorem reads_of {R : Option PR} {t : ByteArray} {p : Nat} {ps : List Piece} (h : R.isSome = true) (hl : ∀ r, R = some r → Reads t p ps r) : ReadsR t p ps R := hl _ (pr_some h)
theorem item_reads {t : ByteArray} {n p : Nat} {ps : List Piece} (hp : p < t.size) (h : (pItem t (pExpr t n) p ps).isSome = true) : ReadsR t p ps (pItem t (pExpr t n) p ps) := reads_of h fun _ e => pItem_le (fun _ _ _ h1 h2 => pExpr_le t n _ _ _ h1 h2) hp e
theorem alt_reads {t : ByteArray} {n p : Nat} {ps : List Piece} (hp : p ≤ t.size) (h : (pAlt t (pItem t (pExpr t n)) p ps).isSome = true) : ReadsR t p ps (pAlt t (pItem t (pExpr t n)) p ps) := reads_of h fun _ e => pAlt_le (fun _ _ _ h3 h4 => pItem_le (fun _ _ _ h1 h2 => pExpr_le t n _ _ _ h1 h2) h3 h4) hp e
theorem expr_reads {t : ByteArray} {n p : Nat} {ps : List Piece} (hp : p ≤ t.size) (h : (pExpr t n p ps).isSome = true) : ReadsR t p ps (pExpr t n p ps) := reads_of h fun _ e => pExpr_le t n _ _ _ hp e
theorem pAlts_go {t : ByteArray} {I : Nat → List Piece → Option PR} {f : Nat} {ks : List Int} {p : Nat} {ps : List Piece} (hf : 1 ≤ f) (hb : begins (byteAt t p) = true) (h : (I p ps).isSome = true) : pAlts t I f ks p ps = pAlts t I (f - 1) (ks ++ [prK (I p ps)]) (prP (I p ps)) (prS (I p ps)) := by
  obtain ⟨f, rfl⟩ : ∃ g, f = g + 1 := ⟨f - 1, by omega⟩
  exact pAlts_more hb (pr_some h)
theorem pAlts_none {t : ByteArray} {I : Nat → List Piece → Option PR} {f : Nat} {ks : List Int} {p : Nat} {ps : List Piece} (hf : 1 ≤ f) (hb : begins (byteAt t p) = true) (h : I p ps = none) : pAlts t I f ks p ps = none := by
  obtain ⟨f, rfl⟩ : ∃ g, f = g + 1 := ⟨f - 1, by omega⟩
  exact pAlts_bad hb h
theorem pr_no {q : Nat} {t : ByteArray} {R : Option PR} {p' : Nat} {ps' : List Piece} {b : Option Addr} {c : Nat} {A' : Hp} (hR : R = none) (h : (gSl 279 gPiece).ow [.slice b ps'.length c] ps' A') : PrPost q t R (.tuple ⟨[.int .i64 0, .bool false]⟩) ((q, Obj.cells ⟨[.string t, .int .i64 (p' : Nat), .slice b ps'.length c]⟩ 294) :: A') := by
  subst hR
  exact ⟨p', ps', b, c, A', rfl, rfl, h, fun h => by cases h⟩
theorem pr_yes {q : Nat} {t : ByteArray} {R : Option PR} {k : Int} {p' : Nat} {ps' : List Piece} {b : Option Addr} {c : Nat} {A' : Hp} (hR : R = some (k, p', ps')) (h : (gSl 279 gPiece).ow [.slice b ps'.length c] ps' A') : PrPost q t R (.tuple ⟨[.int .i64 k, .bool true]⟩) ((q, Obj.cells ⟨[.string t, .int .i64 (p' : Nat), .slice b ps'.length c]⟩ 294) :: A') := by
  subst hR
  exact ⟨p', ps', b, c, A', rfl, rfl, h, fun _ => ⟨rfl, rfl⟩⟩
theorem altEnd_nil {ks : List Int} {p : Nat} {ps : List Piece} (h : ks = []) : altEnd (some (ks, p, ps)) = none := by subst h; rfl
theorem altEnd_cons {ks : List Int} {p : Nat} {ps : List Piece} (h : ¬ ks = []) : altEnd (some (ks, p, ps)) = some ((pGroup 2 (ks, p, ps)).1, p, (pGroup 2 (ks, p, ps)).2.2) := by
  unfold altEnd
  rw [← pGroup_eta]
  exact if_neg (by simpa using h)
theorem begins_1 {b : UInt8} (h : labelOk b = true) : begins b = true := by unfold begins; rw [h]; rfl
theorem begins_2 {b : UInt8} (h : ((b.toNat : Nat) : Int) = 40) : begins b = true := by unfold begins; rw [decide_eq_true (show b.toNat = 40 by omega)]; simp
theorem begins_0 {b : UInt8} (h : labelOk b = false) (h2 : ¬ ((b.toNat : Nat) : Int) = 40) : begins b = false := by unfold begins; rw [h, decide_eq_false (show ¬ b.toNat = 40 by omega)]; rfl
attribute [local irreducible] pItem pExpr pAlts prK prP prS
/-- an alternative: items -/
theorem prAlt_ct (t : ByteArray) (n : Nat) (ht : t.size ≤ 20) (hI : PrCt 233 (pItem t (pExpr t n)) t (fun p => begins (byteAt t p) = true ∧ t.size < n + 1 + p)) : PrCt 223 (pAlt t (pItem t (pExpr t n))) t (fun p => p ≤ t.size ∧ t.size < n + 1 + p) := by
  intro q pi p ps b c A hpi hP hps hA
  obtain ⟨hp, hn⟩ := hP
  subst hpi
  refine CtR.introB G_ok [.p 0 0] [⟨q, [.string t, .int .i64 (p : Int), .slice b ps.length c], 294⟩] [A] Tryz.func223 rfl rfl rfl rfl (by simp [SV.ok]) (by simp [Blk.ent]) fun E H hp => ?_
  apply loop_mod (α := (Nat) × (List Int) × (Nat) × (List Piece) × (Hp) × (Option Addr) × (Nat) × (Hp) × (Option Addr) × (Nat)) G_ok [7, 8, 9, 10, 11, 12, 13, 14, 16, 17, 15, 18, 19, 5, 6, 20, 21, 2, 3, 22, 23, 24, 25, 4] (fun z => [(4, .v (.slice z.2.2.2.2.2.2.2.2.1 z.2.1.length z.2.2.2.2.2.2.2.2.2)), (3, .v (.bool false)), (2, .v (.int .i64 0))]) (fun z => [⟨q, [Value.string t, .int .i64 (z.2.2.1 : Nat), .slice z.2.2.2.2.2.1 z.2.2.2.1.length z.2.2.2.2.2.2.1], (294 : TypeId)⟩]) (fun z => [z.2.2.2.2.1, z.2.2.2.2.2.2.2.1, H]) (fun z => t.size - z.2.2.1) (fun z => pAlts t (pItem t (pExpr t n)) z.1 z.2.1 z.2.2.1 z.2.2.2.1 = pAlts t (pItem t (pExpr t n)) (t.size + 1) [] p ps ∧ t.size < z.1 + z.2.2.1 ∧ z.2.2.1 ≤ t.size ∧ p ≤ z.2.2.1 ∧ z.2.2.2.1.length ≤ 2 * z.2.2.1 ∧ z.2.1.length ≤ z.2.2.1 ∧ (gSl 279 gPiece).ow [.slice z.2.2.2.2.2.1 z.2.2.2.1.length z.2.2.2.2.2.2.1] z.2.2.2.1 z.2.2.2.2.1 ∧ (gSl 3 gI).ow [.slice z.2.2.2.2.2.2.2.2.1 z.2.1.length z.2.2.2.2.2.2.2.2.2] z.2.1 z.2.2.2.2.2.2.2.1) ((t.size + 1, [], p, ps, A, b, c, [], none, 0))
  · repeat' (first | exact trivial | refine ⟨⟨_, rfl, by first | rfl | exact inc_eq _ (by omega) | (refine sl_eq ?_; simp; done), by first | exact trivial | simp [SV.ok]⟩, ?_⟩)
  · exact ⟨rfl, trivial⟩
  · try dsimp only
    exact ⟨rfl, by omega, by assumption, Nat.le_refl _, hps, Nat.zero_le _, hA, sl_nil _ _ _⟩
  · exact .refl _
  rintro ⟨f, ks, p2, ps2, A, lb, lc, K, kb, kc⟩ hI
  obtain ⟨hf, hfu, hp2, hpp, hps2, hks, oA, oK⟩ : pAlts t (pItem t (pExpr t n)) f ks p2 ps2 = pAlts t (pItem t (pExpr t n)) (t.size + 1) [] p ps ∧ t.size < f + p2 ∧ p2 ≤ t.size ∧ p ≤ p2 ∧ ps2.length ≤ 2 * p2 ∧ ks.length ≤ p2 ∧ (gSl 279 gPiece).ow [.slice lb ps2.length lc] ps2 A ∧ (gSl 3 gI).ow [.slice kb ks.length kc] ks K := hI
  try dsimp only
  refine callR_blk 0 ([]) [A, K, H] rfl ?_ (prNext_ct _ _ _ _ _ rfl ?_ ?_) trivial ?_
  · exact .refl _
  · omega
  · trivial
  rintro _ A0 ⟨rfl, rfl⟩
  refine ⟨_, _, [], rfl, perm0, ?_⟩
  refine call_val (isLabel_ct _) trivial ?_
  rintro _ rfl
  refine VCsplit.intro (fun q2 => ?_) (fun q2 => ?_)
  ·
    refine callR_blk 0 (A) [K, H] rfl ?_ (hI _ _ _ _ _ _ _ rfl ⟨?_, ?_⟩ ?_ oA) trivial ?_
    · exact .refl _
    · exact begins_1 ‹_›
    · omega
    · trivial
    rintro _ A3 ⟨pz, sz, bz, cz, Az, rfl, rfl, oz, hz⟩
    refine ⟨_, _, [Az], rfl, perm1, ?_⟩
    refine VCsplit.intro (fun q4 => ?_) (fun q4 => ?_)
    ·
      simp at q4
      (have hN : pAlt t (pItem t (pExpr t n)) p ps = none := (by unfold pAlt; rw [← hf, pAlts_none (by omega) (by first | exact begins_1 ‹labelOk (byteAt t p2) = true› | exact begins_2 ‹((byteAt t p2).toNat : Int) = 40›) ‹pItem t (pExpr t n) p2 ps2 = none›]; rfl); exact ⟨_, pr_no (p' := pz) hN oz, (.le fun a => by (try simp only [setR, List.cons_append, List.nil_append]); simp [List.count_cons, Blk.ent, idOf]; try omega)⟩)
    ·
      simp at q4
      (obtain ⟨e1, e2⟩ := hz q4; subst e1; subst e2; have hr := item_reads (begins_lt (by first | exact begins_1 ‹_› | exact begins_2 ‹_›)) q4; unfold ReadsR at hr; have ok : okI (prK (pItem t (pExpr t n) p2 ps2)) := (by unfold okI; omega))
      refine VCnew.intro fun x5 => ?_
      refine gappend1 (g := gI) (T := (3 : TypeId)) G_ok K [] [Az, H] ?_ oK (gI_ow ?_) (List.mem_of_getElem? (i := 0) rfl) rfl rfl rfl rfl rfl rfl rfl rfl ?_ fun b6 c6 A6 o6 => ?_
      · exact .le fun a => by (try simp only [setR, List.cons_append, List.nil_append]); simp only [List.flatten_append, List.flatten_cons, List.flatten_nil, List.count_append, List.count_nil, List.append_nil, List.nil_append]; omega
      · trivial
      · omega
      apply loop_stepI (f - 1, ks ++ [prK (pItem t (pExpr t n) p2 ps2)], prP (pItem t (pExpr t n) p2 ps2), prS (pItem t (pExpr t n) p2 ps2), Az, _, _, _, _, _)
      · repeat' (first | exact trivial | refine ⟨⟨_, rfl, by first | rfl | exact inc_eq _ (by omega) | (refine sl_eq ?_; simp; done), by first | exact trivial | simp [SV.ok]⟩, ?_⟩)
      · exact ⟨rfl, trivial⟩
      · try dsimp only
        exact ⟨by rw [← pAlts_go (by omega) (by first | exact begins_1 ‹_› | exact begins_2 ‹_›) ‹_ = true›]; exact hf, by omega, by omega, by omega, by omega, by rw [List.length_append, List.length_singleton]; omega, oz, by assumption⟩
      · exact .le fun a => by (try simp only [setR, List.cons_append, List.nil_append]); simp only [List.flatten_append, List.flatten_cons, List.flatten_nil, List.count_append, List.count_nil, List.append_nil, List.nil_append]; omega
      try dsimp only
      omega
  ·
    refine callR_blk 0 ([]) [A, K, H] rfl ?_ (prNext_ct _ _ _ _ _ rfl ?_ ?_) trivial ?_
    · exact .refl _
    · omega
    · trivial
    rintro _ A7 ⟨rfl, rfl⟩
    refine ⟨_, _, [], rfl, perm0, ?_⟩
    refine VCsplit.intro (fun q8 => ?_) (fun q8 => ?_)
    ·
      simp at q8
      refine callR_blk 0 (A) [K, H] rfl ?_ (hI _ _ _ _ _ _ _ rfl ⟨?_, ?_⟩ ?_ oA) trivial ?_
      · exact .refl _
      · exact begins_2 ‹_›
      · omega
      · trivial
      rintro _ A9 ⟨pz, sz, bz, cz, Az, rfl, rfl, oz, hz⟩
      refine ⟨_, _, [Az], rfl, perm1, ?_⟩
      refine VCsplit.intro (fun q10 => ?_) (fun q10 => ?_)
      ·
        simp at q10
        (have hN : pAlt t (pItem t (pExpr t n)) p ps = none := (by unfold pAlt; rw [← hf, pAlts_none (by omega) (by first | exact begins_1 ‹labelOk (byteAt t p2) = true› | exact begins_2 ‹((byteAt t p2).toNat : Int) = 40›) ‹pItem t (pExpr t n) p2 ps2 = none›]; rfl); exact ⟨_, pr_no (p' := pz) hN oz, (.le fun a => by (try simp only [setR, List.cons_append, List.nil_append]); simp [List.count_cons, Blk.ent, idOf]; try omega)⟩)
      ·
        simp at q10
        (obtain ⟨e1, e2⟩ := hz q10; subst e1; subst e2; have hr := item_reads (begins_lt (by first | exact begins_1 ‹_› | exact begins_2 ‹_›)) q10; unfold ReadsR at hr; have ok : okI (prK (pItem t (pExpr t n) p2 ps2)) := (by unfold okI; omega))
        refine VCnew.intro fun x11 => ?_
        refine gappend1 (g := gI) (T := (3 : TypeId)) G_ok K [] [Az, H] ?_ oK (gI_ow ?_) (List.mem_of_getElem? (i := 0) rfl) rfl rfl rfl rfl rfl rfl rfl rfl ?_ fun b12 c12 A12 o12 => ?_
        · exact .le fun a => by (try simp only [setR, List.cons_append, List.nil_append]); simp only [List.flatten_append, List.flatten_cons, List.flatten_nil, List.count_append, List.count_nil, List.append_nil, List.nil_append]; omega
        · trivial
        · omega
        apply loop_stepI (f - 1, ks ++ [prK (pItem t (pExpr t n) p2 ps2)], prP (pItem t (pExpr t n) p2 ps2), prS (pItem t (pExpr t n) p2 ps2), Az, _, _, _, _, _)
        · repeat' (first | exact trivial | refine ⟨⟨_, rfl, by first | rfl | exact inc_eq _ (by omega) | (refine sl_eq ?_; simp; done), by first | exact trivial | simp [SV.ok]⟩, ?_⟩)
        · exact ⟨rfl, trivial⟩
        · try dsimp only
          exact ⟨by rw [← pAlts_go (by omega) (by first | exact begins_1 ‹_› | exact begins_2 ‹_›) ‹_ = true›]; exact hf, by omega, by omega, by omega, by omega, by rw [List.length_append, List.length_singleton]; omega, oz, by assumption⟩
        · exact .le fun a => by (try simp only [setR, List.cons_append, List.nil_append]); simp only [List.flatten_append, List.flatten_cons, List.flatten_nil, List.count_append, List.count_nil, List.append_nil, List.nil_append]; omega
        try dsimp only
        omega
    ·
      simp at q8
      refine VCsplit.intro (fun q13 => ?_) (fun q13 => ?_)
      ·
        simp at q13
        (have hN : pAlt t (pItem t (pExpr t n)) p ps = none := (by unfold pAlt; rw [← hf, pAlts_end (begins_0 ‹labelOk (byteAt t p2) = false› ‹¬ ((byteAt t p2).toNat : Int) = 40›)]; exact altEnd_nil ‹ks = []›); exact ⟨_, pr_no (p' := p2) hN oA, (.le fun a => by (try simp only [setR, List.cons_append, List.nil_append]); simp [List.count_cons, Blk.ent, idOf]; try omega)⟩)
      ·
        simp at q13
        refine callR_blk 0 (A ++ K) [H] rfl ?_ (prGroup_ct _ p2 _ _ _ _ _ _ _ _ _ _ _ ?_ oA oK ?_ ?_) trivial ?_
        · exact .le fun a => by (try simp only [setR, List.cons_append, List.nil_append]); simp only [List.flatten_append, List.flatten_cons, List.flatten_nil, List.count_append, List.count_nil, List.append_nil, List.nil_append]; omega
        · trivial
        · omega
        · omega
        rintro _ A14 ⟨bg, cg, Ag, rfl, rfl, og⟩
        refine ⟨_, _, [Ag], rfl, perm1, ?_⟩
        (have hN : pAlt t (pItem t (pExpr t n)) p ps = some ((pGroup 2 (ks, p2, ps2)).1, p2, (pGroup 2 (ks, p2, ps2)).2.2) := (by unfold pAlt; rw [← hf, pAlts_end (begins_0 ‹labelOk (byteAt t p2) = false› ‹¬ ((byteAt t p2).toNat : Int) = 40›)]; exact altEnd_cons ‹¬ ks = []›); exact ⟨_, pr_yes hN og, (.le fun a => by (try simp only [setR, List.cons_append, List.nil_append]); simp [List.count_cons, Blk.ent, idOf]; try omega)⟩)
/-- an expression: alternatives -/
theorem pExprs_go' {t : ByteArray} {A : Nat → List Piece → Option PR} {f : Nat} {ks : List Int} {p : Nat} {ps : List Piece} {r : PR} (hf : 1 ≤ f) (h : A p ps = some r) (hb : (byteAt t r.2.1).toNat = 124) : pExprs t A f ks p ps = pExprs t A (f - 1) (ks ++ [r.1]) (r.2.1 + 1) r.2.2 := by
  obtain ⟨f, rfl⟩ : ∃ g, f = g + 1 := ⟨f - 1, by omega⟩
  conv => lhs; unfold pExprs
  rw [h]
  exact if_pos hb
theorem pExprs_end' {t : ByteArray} {A : Nat → List Piece → Option PR} {f : Nat} {ks : List Int} {p : Nat} {ps : List Piece} {r : PR} (hf : 1 ≤ f) (h : A p ps = some r) (hb : ¬ (byteAt t r.2.1).toNat = 124) : pExprs t A f ks p ps = some (pGroup 3 (ks ++ [r.1], r.2.1, r.2.2)) := by
  obtain ⟨f, rfl⟩ : ∃ g, f = g + 1 := ⟨f - 1, by omega⟩
  conv => lhs; unfold pExprs
  rw [h]
  exact if_neg hb
theorem pExprs_go {t : ByteArray} {A : Nat → List Piece → Option PR} {f : Nat} {ks : List Int} {p : Nat} {ps : List Piece} (hf : 1 ≤ f) (h : (A p ps).isSome = true) (hb : ((byteAt t (prP (A p ps))).toNat : Int) = 124) : pExprs t A f ks p ps = pExprs t A (f - 1) (ks ++ [prK (A p ps)]) (prP (A p ps) + 1) (prS (A p ps)) :=
  pExprs_go' hf (pr_some h) (show (byteAt t (prP (A p ps))).toNat = 124 by omega)
theorem pExprs_end {t : ByteArray} {A : Nat → List Piece → Option PR} {f : Nat} {ks : List Int} {p : Nat} {ps : List Piece} (hf : 1 ≤ f) (h : (A p ps).isSome = true) (hb : ¬ ((byteAt t (prP (A p ps))).toNat : Int) = 124) : pExprs t A f ks p ps = some ((pGroup 3 (ks ++ [prK (A p ps)], prP (A p ps), prS (A p ps))).1, prP (A p ps), (pGroup 3 (ks ++ [prK (A p ps)], prP (A p ps), prS (A p ps))).2.2) :=
  (pExprs_end' hf (pr_some h) (show ¬ (byteAt t (prP (A p ps))).toNat = 124 by omega)).trans (congrArg some pGroup_eta)
theorem pExprs_none {t : ByteArray} {A : Nat → List Piece → Option PR} {f : Nat} {ks : List Int} {p : Nat} {ps : List Piece} (h : A p ps = none) : pExprs t A f ks p ps = none := by
  cases f with
  | zero => rfl
  | succ f => unfold pExprs; rw [h]
attribute [local irreducible] pExprs pAlt
theorem prExpr_ct (t : ByteArray) (n : Nat) (ht : t.size ≤ 20) (hI : PrCt 223 (pAlt t (pItem t (pExpr t n))) t (fun p => p ≤ t.size ∧ t.size < n + 1 + p)) : PrCt 208 (pExpr t (n + 1)) t (fun p => p ≤ t.size ∧ t.size < n + 1 + p) := by
  intro q pi p ps b c A hpi hP hps hA
  obtain ⟨hp, hn⟩ := hP
  subst hpi
  rw [show pExpr t (n + 1) p ps = pExprs t (pAlt t (pItem t (pExpr t n))) (t.size + 1) [] p ps by unfold pExpr; rfl]
  refine CtR.introB G_ok [.p 0 0] [⟨q, [.string t, .int .i64 (p : Int), .slice b ps.length c], 294⟩] [A] Tryz.func208 rfl rfl rfl rfl (by simp [SV.ok]) (by simp [Blk.ent]) fun E H hp => ?_
  apply loop_mod (α := (Nat) × (List Int) × (Nat) × (List Piece) × (Hp) × (Option Addr) × (Nat) × (Hp) × (Option Addr) × (Nat)) G_ok [8, 9, 7, 10, 11, 5, 6, 12, 13, 2, 3, 14, 15, 16, 17, 4, 18, 19, 20, 21, 22, 23, 24, 25, 26, 27, 28, 29, 30] (fun z => [(4, .v (.slice z.2.2.2.2.2.2.2.2.1 z.2.1.length z.2.2.2.2.2.2.2.2.2)), (3, .v (.bool false)), (2, .v (.int .i64 0))]) (fun z => [⟨q, [Value.string t, .int .i64 (z.2.2.1 : Nat), .slice z.2.2.2.2.2.1 z.2.2.2.1.length z.2.2.2.2.2.2.1], (294 : TypeId)⟩]) (fun z => [z.2.2.2.2.1, z.2.2.2.2.2.2.2.1, H]) (fun z => t.size - z.2.2.1) (fun z => pExprs t (pAlt t (pItem t (pExpr t n))) z.1 z.2.1 z.2.2.1 z.2.2.2.1 = pExprs t (pAlt t (pItem t (pExpr t n))) (t.size + 1) [] p ps ∧ t.size < z.1 + z.2.2.1 ∧ z.2.2.1 ≤ t.size ∧ p ≤ z.2.2.1 ∧ z.2.2.2.1.length ≤ 2 * z.2.2.1 ∧ z.2.1.length ≤ z.2.2.1 ∧ (gSl 279 gPiece).ow [.slice z.2.2.2.2.2.1 z.2.2.2.1.length z.2.2.2.2.2.2.1] z.2.2.2.1 z.2.2.2.2.1 ∧ (gSl 3 gI).ow [.slice z.2.2.2.2.2.2.2.2.1 z.2.1.length z.2.2.2.2.2.2.2.2.2] z.2.1 z.2.2.2.2.2.2.2.1) ((t.size + 1, [], p, ps, A, b, c, [], none, 0))
  · repeat' (first | exact trivial | refine ⟨⟨_, rfl, by first | rfl | exact inc_eq _ (by omega) | (refine sl_eq ?_; simp; done), by first | exact trivial | simp [SV.ok]⟩, ?_⟩)
  · exact ⟨rfl, trivial⟩
  · try dsimp only
    exact ⟨rfl, by omega, by assumption, Nat.le_refl _, hps, Nat.zero_le _, hA, sl_nil _ _ _⟩
  · exact .refl _
  rintro ⟨f, ks, p2, ps2, A, lb, lc, K, kb, kc⟩ hI
  obtain ⟨hf, hfu, hp2, hpp, hps2, hks, oA, oK⟩ : pExprs t (pAlt t (pItem t (pExpr t n))) f ks p2 ps2 = pExprs t (pAlt t (pItem t (pExpr t n))) (t.size + 1) [] p ps ∧ t.size < f + p2 ∧ p2 ≤ t.size ∧ p ≤ p2 ∧ ps2.length ≤ 2 * p2 ∧ ks.length ≤ p2 ∧ (gSl 279 gPiece).ow [.slice lb ps2.length lc] ps2 A ∧ (gSl 3 gI).ow [.slice kb ks.length kc] ks K := hI
  try dsimp only
  refine callR_blk 0 (A) [K, H] rfl ?_ (hI _ _ _ _ _ _ _ rfl ⟨?_, ?_⟩ ?_ oA) trivial ?_
  · exact .refl _
  · trivial
  · omega
  · trivial
  rintro _ A0 ⟨pz, sz, bz, cz, Az, rfl, rfl, oz, hz⟩
  refine ⟨_, _, [Az], rfl, perm1, ?_⟩
  refine VCsplit.intro (fun q1 => ?_) (fun q1 => ?_)
  ·
    simp at q1
    (have hN := pExprs_none (t := t) (f := f) (ks := ks) ‹pAlt t (pItem t (pExpr t n)) p2 ps2 = none›; rw [hf] at hN; exact ⟨_, pr_no (p' := pz) hN oz, (.le fun a => by (try simp only [setR, List.cons_append, List.nil_append]); simp [List.count_cons, Blk.ent, idOf]; try omega)⟩)
  ·
    simp at q1
    (obtain ⟨e1, e2⟩ := hz q1; subst e1; subst e2; have hr := alt_reads (by assumption) q1; unfold ReadsR at hr; have ok : okI (prK (pAlt t (pItem t (pExpr t n)) p2 ps2)) := (by unfold okI; omega))
    refine VCnew.intro fun x2 => ?_
    refine gappend1 (g := gI) (T := (3 : TypeId)) G_ok K [] [Az, H] ?_ oK (gI_ow ?_) (List.mem_of_getElem? (i := 0) rfl) rfl rfl rfl rfl rfl rfl rfl rfl ?_ fun b3 c3 A3 o3 => ?_
    · exact .le fun a => by (try simp only [setR, List.cons_append, List.nil_append]); simp only [List.flatten_append, List.flatten_cons, List.flatten_nil, List.count_append, List.count_nil, List.append_nil, List.nil_append]; omega
    · trivial
    · omega
    refine callR_blk 0 ([]) [A3, Az, H] rfl ?_ (prNext_ct _ _ _ _ _ rfl ?_ ?_) trivial ?_
    · exact .refl _
    · omega
    · omega
    rintro _ A4 ⟨rfl, rfl⟩
    refine ⟨_, _, [], rfl, perm0, ?_⟩
    refine VCsplit.intro (fun q5 => ?_) (fun q5 => ?_)
    ·
      simp at q5
      refine callR_blk 0 (Az ++ A3) [H] rfl ?_ (prGroup_ct _ (prP (pAlt t (pItem t (pExpr t n)) p2 ps2)) _ _ _ _ _ _ _ _ _ _ _ ?_ oz o3 ?_ ?_) trivial ?_
      · exact .le fun a => by (try simp only [setR, List.cons_append, List.nil_append]); simp only [List.flatten_append, List.flatten_cons, List.flatten_nil, List.count_append, List.count_nil, List.append_nil, List.nil_append]; omega
      · trivial
      · omega
      · simp; omega
      rintro _ A6 ⟨bg, cg, Ag, rfl, rfl, og⟩
      refine ⟨_, _, [Ag], rfl, perm1, ?_⟩
      (have hN := pExprs_end (t := t) (f := f) (ks := ks) (by omega) ‹(pAlt t (pItem t (pExpr t n)) p2 ps2).isSome = true› ‹¬ ((byteAt t (prP (pAlt t (pItem t (pExpr t n)) p2 ps2))).toNat : Int) = 124›; rw [hf] at hN; exact ⟨_, pr_yes hN og, (.le fun a => by (try simp only [setR, List.cons_append, List.nil_append]); simp [List.count_cons, Blk.ent, idOf]; try omega)⟩)
    ·
      simp at q5
      have hlt : prP (pAlt t (pItem t (pExpr t n)) p2 ps2) < t.size := byteAt_lt (by omega)
      have hw : IntKind.i64.wrap ((prP (pAlt t (pItem t (pExpr t n)) p2 ps2) : Int) + 1) = ((prP (pAlt t (pItem t (pExpr t n)) p2 ps2) + 1 : Nat) : Int) := by (rw [wrap_of (by omega) (by omega)]; omega)
      apply loop_stepI (f - 1, ks ++ [prK (pAlt t (pItem t (pExpr t n)) p2 ps2)], prP (pAlt t (pItem t (pExpr t n)) p2 ps2) + 1, prS (pAlt t (pItem t (pExpr t n)) p2 ps2), Az, _, _, _, _, _)
      · repeat' (first | exact trivial | refine ⟨⟨_, rfl, by first | rfl | exact inc_eq _ (by omega) | (refine sl_eq ?_; simp; done), by first | exact trivial | simp [SV.ok]⟩, ?_⟩)
      · ((rw [hw]); repeat' (first | exact trivial | refine ⟨by first | rfl | simp [Blk.ent], ?_⟩))
      · try dsimp only
        exact ⟨by rw [← pExprs_go (by omega) ‹(pAlt t (pItem t (pExpr t n)) p2 ps2).isSome = true› ‹((byteAt t (prP (pAlt t (pItem t (pExpr t n)) p2 ps2))).toNat : Int) = 124›]; exact hf, by omega, by omega, by omega, by omega, by rw [List.length_append, List.length_singleton]; omega, oz, by assumption⟩
      · exact .le fun a => by (try simp only [setR, List.cons_append, List.nil_append]); simp only [List.flatten_append, List.flatten_cons, List.flatten_nil, List.count_append, List.count_nil, List.append_nil, List.nil_append]; omega
      try dsimp only
      omega
end Go.Proofs.YtcnclhjhnjpeiaaGreatDoor

namespace Go.Proofs.YtcnclhjhnjpeiaaGreatDoor
open Go.SX Go.Proofs
set_option linter.unusedSimpArgs false
set_option linter.unusedVariables false
set_option maxHeartbeats 4000000
attribute [local irreducible] IntKind.wrap
theorem piece_lit {op k : Int} {x : Nat} (h1 : okI op) (h2 : okI k) : gPiece.ow [.int .i64 op, .int .u8 0, .slice (some ⟨x, 0, none⟩) 1 1] ⟨op, 0, [k]⟩ [(x, Obj.cells ⟨[.int .i64 k]⟩ 3)] :=
  piece_own (lb := 0) h1 (ow_fl (Ow.lit (f := flInt) (T := 3) (b := x) (xs := [k]) (by simpa [flInt] using h2) (by simp)))
theorem piece_leaf {op : Int} {lb : UInt8} (h1 : okI op) : gPiece.ow [.int .i64 op, .int .u8 (lb.toNat : Nat), .slice none 0 0] ⟨op, lb, []⟩ [] := piece_own (ks := []) h1 (sl_nil _ _ _)
theorem item_par {t : ByteArray} {E : Nat → List Piece → Option PR} {p : Nat} {ps : List Piece} (h : ((byteAt t p).toNat : Int) = 40) (h1 : (E (p + 1) ps).isSome = true) (h2 : ((byteAt t (prP (E (p + 1) ps))).toNat : Int) = 41) : pItem t E p ps = some (pPost t (t.size + 1) (prK (E (p + 1) ps)) (prP (E (p + 1) ps) + 1) (prS (E (p + 1) ps))) := by
  have h3 := pr_some h1
  have h4 : pItem t E p ps = if (byteAt t (prP (E (p + 1) ps))).toNat = 41 then some (pPost t (t.size + 1) (prK (E (p + 1) ps)) (prP (E (p + 1) ps) + 1) (prS (E (p + 1) ps))) else none := by
    conv => lhs; unfold pItem; rw [if_pos (show (byteAt t p).toNat = 40 by omega), h3]
  rw [h4, if_pos (by omega)]
theorem item_exp_no {t : ByteArray} {E : Nat → List Piece → Option PR} {p : Nat} {ps : List Piece} (h : ((byteAt t p).toNat : Int) = 40) (h1 : E (p + 1) ps = none) : pItem t E p ps = none := by
  unfold pItem; rw [if_pos (show (byteAt t p).toNat = 40 by omega), h1]
theorem item_par_no {t : ByteArray} {E : Nat → List Piece → Option PR} {p : Nat} {ps : List Piece} (h : ((byteAt t p).toNat : Int) = 40) (h1 : (E (p + 1) ps).isSome = true) (h2 : ¬ ((byteAt t (prP (E (p + 1) ps))).toNat : Int) = 41) : pItem t E p ps = none := by
  have h3 := pr_some h1
  have h4 : pItem t E p ps = if (byteAt t (prP (E (p + 1) ps))).toNat = 41 then some (pPost t (t.size + 1) (prK (E (p + 1) ps)) (prP (E (p + 1) ps) + 1) (prS (E (p + 1) ps))) else none := by
    conv => lhs; unfold pItem; rw [if_pos (show (byteAt t p).toNat = 40 by omega), h3]
  rw [h4, if_neg (by omega)]
theorem item_step {t : ByteArray} {E : Nat → List Piece → Option PR} {p : Nat} {ps : List Piece} (h : ¬ ((byteAt t p).toNat : Int) = 40) : pItem t E p ps = some (pPost t (t.size + 1) (ps.length : Nat) (p + 1) (ps ++ [⟨1, byteAt t p, []⟩])) := by
  unfold pItem; rw [if_neg (by omega)]
theorem post_end {t : ByteArray} {f p : Nat} {k : Int} {ps : List Piece} (h : ¬ ((byteAt t p).toNat : Int) = 42) (h2 : ¬ ((byteAt t p).toNat : Int) = 43) (h3 : ¬ ((byteAt t p).toNat : Int) = 63) : pPost t f k p ps = (k, p, ps) := by
  cases f with
  | zero => rfl
  | succ f => unfold pPost; rw [if_pos (by unfold postOp; rw [if_neg (by omega), if_neg (by omega), if_neg (by omega)])]
theorem post_go {t : ByteArray} {f p : Nat} {k op : Int} {ps : List Piece} (hf : 1 ≤ f) (h : (((byteAt t p).toNat : Int) = 42 ∧ op = 4) ∨ (((byteAt t p).toNat : Int) = 43 ∧ op = 5) ∨ (((byteAt t p).toNat : Int) = 63 ∧ op = 6)) : pPost t f k p ps = pPost t (f - 1) (ps.length : Nat) (p + 1) (ps ++ [⟨op, 0, [k]⟩]) := by
  obtain ⟨f, rfl⟩ : ∃ g, f = g + 1 := ⟨f - 1, by omega⟩
  have hop : postOp (byteAt t p) = op := by
    unfold postOp
    rcases h with ⟨h1, h2⟩ | ⟨h1, h2⟩ | ⟨h1, h2⟩
    · rw [if_pos (by omega)]; omega
    · rw [if_neg (by omega), if_pos (by omega)]; omega
    rw [if_neg (by omega), if_neg (by omega), if_pos (by omega)]; omega
  conv => lhs; unfold pPost
  rw [hop, if_neg (by omega)]; rfl
attribute [local irreducible] pItem pExpr pAlts pPost prK prP prS
theorem prItem_ct (t : ByteArray) (n : Nat) (ht : t.size ≤ 20) (hI : PrCt 208 (pExpr t n) t (fun p => p ≤ t.size ∧ t.size < n + p)) : PrCt 233 (pItem t (pExpr t n)) t (fun p => begins (byteAt t p) = true ∧ t.size < n + 1 + p) := by
  intro q pi p ps b c A hpi hP hps hA
  obtain ⟨hb, hn⟩ := hP
  have hplt := begins_lt hb
  subst hpi
  have hst := piece_leaf (op := 1) (lb := byteAt t p) (by unfold okI; omega)
  have hw : IntKind.i64.wrap ((p : Int) + 1) = ((p + 1 : Nat) : Int) := by (rw [wrap_of (by omega) (by omega)]; omega)
  refine CtR.introB G_ok [.p 0 0] [⟨q, [.string t, .int .i64 (p : Int), .slice b ps.length c], 294⟩] [A] Tryz.func233 rfl rfl rfl rfl (by simp [SV.ok]) (by simp [Blk.ent]) fun E H hp => ?_
  refine callR_blk 0 ([]) [A, H] rfl ?_ (prNext_ct _ _ _ _ _ rfl ?_ ?_) trivial ?_
  · exact .refl _
  · omega
  · omega
  rintro _ A0 ⟨rfl, rfl⟩
  refine ⟨_, _, [], rfl, perm0, ?_⟩
  refine VCsplit.intro (fun q1 => ?_) (fun q1 => ?_)
  ·
    simp at q1
    refine callR_blk 0 (A) [H] rfl ?_ (hI _ _ (p + 1) _ _ _ _ hw ⟨?_, ?_⟩ ?_ hA) trivial ?_
    · exact .refl _
    · trivial
    · omega
    · omega
    rintro _ A2 ⟨pz, sz, bz, cz, Az, rfl, rfl, oz, hz⟩
    refine ⟨_, _, [Az], rfl, perm1, ?_⟩
    refine VCsplit.intro (fun q3 => ?_) (fun q3 => ?_)
    ·
      simp at q3
      exact ⟨_, pr_no (p' := pz) (item_exp_no ‹((byteAt t p).toNat : Int) = 40› ‹(pExpr t n (p + 1) ps) = none›) oz, (.le fun a => by (try simp only [setR, List.cons_append, List.nil_append]); simp [List.count_cons, Blk.ent, idOf]; try omega)⟩
    ·
      simp at q3
      (obtain ⟨e1, e2⟩ := hz q3; subst e1; subst e2; have hr := expr_reads (n := n) (by omega) q3; unfold ReadsR at hr; have ok : okI (prK (pExpr t n (p + 1) ps)) := (by unfold okI; omega))
      refine callR_blk 0 ([]) [Az, H] rfl ?_ (prNext_ct _ _ _ _ _ rfl ?_ ?_) trivial ?_
      · exact .refl _
      · omega
      · omega
      rintro _ A4 ⟨rfl, rfl⟩
      refine ⟨_, _, [], rfl, perm0, ?_⟩
      refine VCsplit.intro (fun q5 => ?_) (fun q5 => ?_)
      ·
        simp at q5
        exact ⟨_, pr_no (p' := prP (pExpr t n (p + 1) ps)) (item_par_no ‹((byteAt t p).toNat : Int) = 40› ‹(pExpr t n (p + 1) ps).isSome = true› ‹¬ ((byteAt t (prP (pExpr t n (p + 1) ps))).toNat : Int) = 41›) oz, (.le fun a => by (try simp only [setR, List.cons_append, List.nil_append]); simp [List.count_cons, Blk.ent, idOf]; try omega)⟩
      ·
        simp at q5
        have hlt : prP (pExpr t n (p + 1) ps) < t.size := byteAt_lt (by omega)
        have hw2 : IntKind.i64.wrap ((prP (pExpr t n (p + 1) ps) : Int) + 1) = ((prP (pExpr t n (p + 1) ps) + 1 : Nat) : Int) := by (rw [wrap_of (by omega) (by omega)]; omega)
        have hit := item_par ‹((byteAt t p).toNat : Int) = 40› ‹(pExpr t n (p + 1) ps).isSome = true› ‹((byteAt t (prP (pExpr t n (p + 1) ps))).toNat : Int) = 41›
        apply loop_mod (α := (Nat) × (Int) × (Nat) × (List Piece) × (Hp) × (Option Addr) × (Nat)) G_ok [8, 44, 45, 48, 47, 50, 49, 52, 51, 46, 2, 3, 53, 54, 55, 56, 57, 58, 59, 60, 61, 62, 63, 64, 65, 5] (fun z => [(5, .v (.int .i64 z.2.1)), (3, .v (.bool false)), (2, .v (.int .i64 0))]) (fun z => [⟨q, [Value.string t, .int .i64 (z.2.2.1 : Nat), .slice z.2.2.2.2.2.1 z.2.2.2.1.length z.2.2.2.2.2.2], (294 : TypeId)⟩]) (fun z => [z.2.2.2.2.1, H]) (fun z => t.size - z.2.2.1) (fun z => some (pPost t z.1 z.2.1 z.2.2.1 z.2.2.2.1) = pItem t (pExpr t n) p ps ∧ t.size < z.1 + z.2.2.1 ∧ z.2.2.1 ≤ t.size ∧ z.2.2.2.1.length ≤ 2 * z.2.2.1 ∧ okI z.2.1 ∧ (gSl 279 gPiece).ow [.slice z.2.2.2.2.2.1 z.2.2.2.1.length z.2.2.2.2.2.2] z.2.2.2.1 z.2.2.2.2.1) ((t.size + 1, prK (pExpr t n (p + 1) ps), prP (pExpr t n (p + 1) ps) + 1, prS (pExpr t n (p + 1) ps), Az, bz, cz))
        · repeat' (first | exact trivial | refine ⟨⟨_, rfl, by first | rfl | exact inc_eq _ (by omega) | (refine sl_eq ?_; simp; done), by first | exact trivial | simp [SV.ok]⟩, ?_⟩)
        · ((rw [hw2]); repeat' (first | exact trivial | refine ⟨by first | rfl | simp [Blk.ent], ?_⟩))
        · try dsimp only
          exact ⟨hit.symm, by omega, by omega, by omega, ok, oz⟩
        · exact .refl _
        rintro ⟨f, k, p2, ps2, A, lb, lc⟩ hI
        obtain ⟨hf, hfu, hp2, hps2, hk, oA⟩ : some (pPost t f k p2 ps2) = pItem t (pExpr t n) p ps ∧ t.size < f + p2 ∧ p2 ≤ t.size ∧ ps2.length ≤ 2 * p2 ∧ okI k ∧ (gSl 279 gPiece).ow [.slice lb ps2.length lc] ps2 A := hI
        try dsimp only
        refine callR_blk 0 ([]) [A, H] rfl ?_ (prNext_ct _ _ _ _ _ rfl ?_ ?_) trivial ?_
        · exact .refl _
        · omega
        · trivial
        rintro _ A6 ⟨rfl, rfl⟩
        refine ⟨_, _, [], rfl, perm0, ?_⟩
        refine VCsplit.intro (fun q7 => ?_) (fun q7 => ?_)
        ·
          simp at q7
          (have hp2t : p2 < t.size := byteAt_lt (by omega); have hw3 : IntKind.i64.wrap ((p2 : Int) + 1) = ((p2 + 1 : Nat) : Int) := (by rw [wrap_of (by omega) (by omega)]; omega))
          refine VCnew.intro fun x8 => ?_
          refine callR_blk 0 (A ++ [(x8, Obj.cells { toList := Value.int IntKind.i64 k :: [].append (zeros (nat_lit 0) [Value.int IntKind.i64 (0 : Int)]) } (3 : TypeId))]) [H] rfl ?_ (prPiece_ct _ _ _ _ _ _ _ _ _ _ oA (by first | exact piece_lit (by unfold okI; omega) hk) ?_) trivial ?_
          · exact .le fun a => by (try simp only [setR, List.cons_append, List.nil_append]); simp only [List.flatten_append, List.flatten_cons, List.flatten_nil, List.count_append, List.count_nil, List.append_nil, List.nil_append]; omega
          · omega
          rintro _ A9 ⟨b9, c9, Ax9, rfl, rfl, o9⟩
          refine ⟨_, _, [Ax9], rfl, perm1, ?_⟩
          apply loop_stepA (f - 1, ((ps2.length : Nat) : Int), p2 + 1, _, _, _, _)
          · exact .refl _
          · repeat' (first | exact trivial | refine ⟨⟨_, rfl, by first | rfl | exact inc_eq _ (by omega) | (refine sl_eq ?_; simp; done), by first | exact trivial | simp [SV.ok]⟩, ?_⟩)
          · ((rw [hw3]); repeat' (first | exact trivial | refine ⟨by first | rfl | simp [Blk.ent], ?_⟩))
          · try dsimp only
            exact ⟨(congrArg some (post_go (by omega) (by omega))).symm.trans hf, by omega, by omega, by rw [List.length_append, List.length_singleton]; omega, by unfold okI; omega, by assumption⟩
          try dsimp only
          omega
        ·
          simp at q7
          refine VCsplit.intro (fun q10 => ?_) (fun q10 => ?_)
          ·
            simp at q10
            (have hp2t : p2 < t.size := byteAt_lt (by omega); have hw3 : IntKind.i64.wrap ((p2 : Int) + 1) = ((p2 + 1 : Nat) : Int) := (by rw [wrap_of (by omega) (by omega)]; omega))
            refine VCnew.intro fun x11 => ?_
            refine callR_blk 0 (A ++ [(x11, Obj.cells { toList := Value.int IntKind.i64 k :: [].append (zeros (nat_lit 0) [Value.int IntKind.i64 (0 : Int)]) } (3 : TypeId))]) [H] rfl ?_ (prPiece_ct _ _ _ _ _ _ _ _ _ _ oA (by first | exact piece_lit (by unfold okI; omega) hk) ?_) trivial ?_
            · exact .le fun a => by (try simp only [setR, List.cons_append, List.nil_append]); simp only [List.flatten_append, List.flatten_cons, List.flatten_nil, List.count_append, List.count_nil, List.append_nil, List.nil_append]; omega
            · omega
            rintro _ A12 ⟨b12, c12, Ax12, rfl, rfl, o12⟩
            refine ⟨_, _, [Ax12], rfl, perm1, ?_⟩
            apply loop_stepA (f - 1, ((ps2.length : Nat) : Int), p2 + 1, _, _, _, _)
            · exact .refl _
            · repeat' (first | exact trivial | refine ⟨⟨_, rfl, by first | rfl | exact inc_eq _ (by omega) | (refine sl_eq ?_; simp; done), by first | exact trivial | simp [SV.ok]⟩, ?_⟩)
            · ((rw [hw3]); repeat' (first | exact trivial | refine ⟨by first | rfl | simp [Blk.ent], ?_⟩))
            · try dsimp only
              exact ⟨(congrArg some (post_go (by omega) (by omega))).symm.trans hf, by omega, by omega, by rw [List.length_append, List.length_singleton]; omega, by unfold okI; omega, by assumption⟩
            try dsimp only
            omega
          ·
            simp at q10
            refine VCsplit.intro (fun q13 => ?_) (fun q13 => ?_)
            ·
              simp at q13
              (have hp2t : p2 < t.size := byteAt_lt (by omega); have hw3 : IntKind.i64.wrap ((p2 : Int) + 1) = ((p2 + 1 : Nat) : Int) := (by rw [wrap_of (by omega) (by omega)]; omega))
              refine VCnew.intro fun x14 => ?_
              refine callR_blk 0 (A ++ [(x14, Obj.cells { toList := Value.int IntKind.i64 k :: [].append (zeros (nat_lit 0) [Value.int IntKind.i64 (0 : Int)]) } (3 : TypeId))]) [H] rfl ?_ (prPiece_ct _ _ _ _ _ _ _ _ _ _ oA (by first | exact piece_lit (by unfold okI; omega) hk) ?_) trivial ?_
              · exact .le fun a => by (try simp only [setR, List.cons_append, List.nil_append]); simp only [List.flatten_append, List.flatten_cons, List.flatten_nil, List.count_append, List.count_nil, List.append_nil, List.nil_append]; omega
              · omega
              rintro _ A15 ⟨b15, c15, Ax15, rfl, rfl, o15⟩
              refine ⟨_, _, [Ax15], rfl, perm1, ?_⟩
              apply loop_stepA (f - 1, ((ps2.length : Nat) : Int), p2 + 1, _, _, _, _)
              · exact .refl _
              · repeat' (first | exact trivial | refine ⟨⟨_, rfl, by first | rfl | exact inc_eq _ (by omega) | (refine sl_eq ?_; simp; done), by first | exact trivial | simp [SV.ok]⟩, ?_⟩)
              · ((rw [hw3]); repeat' (first | exact trivial | refine ⟨by first | rfl | simp [Blk.ent], ?_⟩))
              · try dsimp only
                exact ⟨(congrArg some (post_go (by omega) (by omega))).symm.trans hf, by omega, by omega, by rw [List.length_append, List.length_singleton]; omega, by unfold okI; omega, by assumption⟩
              try dsimp only
              omega
            ·
              simp at q13
              exact ⟨_, pr_yes (hf.symm.trans (congrArg some (post_end ‹¬ ((byteAt t p2).toNat : Int) = 42› ‹¬ ((byteAt t p2).toNat : Int) = 43› ‹¬ ((byteAt t p2).toNat : Int) = 63›))) oA, (.le fun a => by (try simp only [setR, List.cons_append, List.nil_append]); simp [List.count_cons, Blk.ent, idOf]; try omega)⟩
  ·
    simp at q1
    refine callR_blk 0 (A ++ []) [H] rfl ?_ (prPiece_ct _ _ _ _ _ _ _ _ _ _ hA hst ?_) trivial ?_
    · exact .le fun a => by (try simp only [setR, List.cons_append, List.nil_append]); simp only [List.flatten_append, List.flatten_cons, List.flatten_nil, List.count_append, List.count_nil, List.append_nil, List.nil_append]; omega
    · omega
    rintro _ A16 ⟨b16, c16, Ax16, rfl, rfl, o16⟩
    refine ⟨_, _, [Ax16], rfl, perm1, ?_⟩
    apply loop_mod (α := (Nat) × (Int) × (Nat) × (List Piece) × (Hp) × (Option Addr) × (Nat)) G_ok [8, 44, 45, 48, 47, 50, 49, 52, 51, 46, 2, 3, 53, 54, 55, 56, 57, 58, 59, 60, 61, 62, 63, 64, 65, 5] (fun z => [(5, .v (.int .i64 z.2.1)), (3, .v (.bool false)), (2, .v (.int .i64 0))]) (fun z => [⟨q, [Value.string t, .int .i64 (z.2.2.1 : Nat), .slice z.2.2.2.2.2.1 z.2.2.2.1.length z.2.2.2.2.2.2], (294 : TypeId)⟩]) (fun z => [z.2.2.2.2.1, H]) (fun z => t.size - z.2.2.1) (fun z => some (pPost t z.1 z.2.1 z.2.2.1 z.2.2.2.1) = pItem t (pExpr t n) p ps ∧ t.size < z.1 + z.2.2.1 ∧ z.2.2.1 ≤ t.size ∧ z.2.2.2.1.length ≤ 2 * z.2.2.1 ∧ okI z.2.1 ∧ (gSl 279 gPiece).ow [.slice z.2.2.2.2.2.1 z.2.2.2.1.length z.2.2.2.2.2.2] z.2.2.2.1 z.2.2.2.2.1) ((t.size + 1, ((ps.length : Nat) : Int), p + 1, ps ++ [⟨1, byteAt t p, []⟩], _, _, _))
    · repeat' (first | exact trivial | refine ⟨⟨_, rfl, by first | rfl | exact inc_eq _ (by omega) | (refine sl_eq ?_; simp; done), by first | exact trivial | simp [SV.ok]⟩, ?_⟩)
    · ((rw [hw]); repeat' (first | exact trivial | refine ⟨by first | rfl | simp [Blk.ent], ?_⟩))
    · try dsimp only
      exact ⟨(item_step ‹¬ ((byteAt t p).toNat : Int) = 40›).symm, by omega, by omega, by rw [List.length_append, List.length_singleton]; omega, by unfold okI; omega, by assumption⟩
    · exact .refl _
    rintro ⟨f, k, p2, ps2, A, lb, lc⟩ hI
    obtain ⟨hf, hfu, hp2, hps2, hk, oA⟩ : some (pPost t f k p2 ps2) = pItem t (pExpr t n) p ps ∧ t.size < f + p2 ∧ p2 ≤ t.size ∧ ps2.length ≤ 2 * p2 ∧ okI k ∧ (gSl 279 gPiece).ow [.slice lb ps2.length lc] ps2 A := hI
    try dsimp only
    refine callR_blk 0 ([]) [A, H] rfl ?_ (prNext_ct _ _ _ _ _ rfl ?_ ?_) trivial ?_
    · exact .refl _
    · omega
    · trivial
    rintro _ A17 ⟨rfl, rfl⟩
    refine ⟨_, _, [], rfl, perm0, ?_⟩
    refine VCsplit.intro (fun q18 => ?_) (fun q18 => ?_)
    ·
      simp at q18
      (have hp2t : p2 < t.size := byteAt_lt (by omega); have hw3 : IntKind.i64.wrap ((p2 : Int) + 1) = ((p2 + 1 : Nat) : Int) := (by rw [wrap_of (by omega) (by omega)]; omega))
      refine VCnew.intro fun x19 => ?_
      refine callR_blk 0 (A ++ [(x19, Obj.cells { toList := Value.int IntKind.i64 k :: [].append (zeros (nat_lit 0) [Value.int IntKind.i64 (0 : Int)]) } (3 : TypeId))]) [H] rfl ?_ (prPiece_ct _ _ _ _ _ _ _ _ _ _ oA (by first | exact piece_lit (by unfold okI; omega) hk) ?_) trivial ?_
      · exact .le fun a => by (try simp only [setR, List.cons_append, List.nil_append]); simp only [List.flatten_append, List.flatten_cons, List.flatten_nil, List.count_append, List.count_nil, List.append_nil, List.nil_append]; omega
      · omega
      rintro _ A20 ⟨b20, c20, Ax20, rfl, rfl, o20⟩
      refine ⟨_, _, [Ax20], rfl, perm1, ?_⟩
      apply loop_stepA (f - 1, ((ps2.length : Nat) : Int), p2 + 1, _, _, _, _)
      · exact .refl _
      · repeat' (first | exact trivial | refine ⟨⟨_, rfl, by first | rfl | exact inc_eq _ (by omega) | (refine sl_eq ?_; simp; done), by first | exact trivial | simp [SV.ok]⟩, ?_⟩)
      · ((rw [hw3]); repeat' (first | exact trivial | refine ⟨by first | rfl | simp [Blk.ent], ?_⟩))
      · try dsimp only
        exact ⟨(congrArg some (post_go (by omega) (by omega))).symm.trans hf, by omega, by omega, by rw [List.length_append, List.length_singleton]; omega, by unfold okI; omega, by assumption⟩
      try dsimp only
      omega
    ·
      simp at q18
      refine VCsplit.intro (fun q21 => ?_) (fun q21 => ?_)
      ·
        simp at q21
        (have hp2t : p2 < t.size := byteAt_lt (by omega); have hw3 : IntKind.i64.wrap ((p2 : Int) + 1) = ((p2 + 1 : Nat) : Int) := (by rw [wrap_of (by omega) (by omega)]; omega))
        refine VCnew.intro fun x22 => ?_
        refine callR_blk 0 (A ++ [(x22, Obj.cells { toList := Value.int IntKind.i64 k :: [].append (zeros (nat_lit 0) [Value.int IntKind.i64 (0 : Int)]) } (3 : TypeId))]) [H] rfl ?_ (prPiece_ct _ _ _ _ _ _ _ _ _ _ oA (by first | exact piece_lit (by unfold okI; omega) hk) ?_) trivial ?_
        · exact .le fun a => by (try simp only [setR, List.cons_append, List.nil_append]); simp only [List.flatten_append, List.flatten_cons, List.flatten_nil, List.count_append, List.count_nil, List.append_nil, List.nil_append]; omega
        · omega
        rintro _ A23 ⟨b23, c23, Ax23, rfl, rfl, o23⟩
        refine ⟨_, _, [Ax23], rfl, perm1, ?_⟩
        apply loop_stepA (f - 1, ((ps2.length : Nat) : Int), p2 + 1, _, _, _, _)
        · exact .refl _
        · repeat' (first | exact trivial | refine ⟨⟨_, rfl, by first | rfl | exact inc_eq _ (by omega) | (refine sl_eq ?_; simp; done), by first | exact trivial | simp [SV.ok]⟩, ?_⟩)
        · ((rw [hw3]); repeat' (first | exact trivial | refine ⟨by first | rfl | simp [Blk.ent], ?_⟩))
        · try dsimp only
          exact ⟨(congrArg some (post_go (by omega) (by omega))).symm.trans hf, by omega, by omega, by rw [List.length_append, List.length_singleton]; omega, by unfold okI; omega, by assumption⟩
        try dsimp only
        omega
      ·
        simp at q21
        refine VCsplit.intro (fun q24 => ?_) (fun q24 => ?_)
        ·
          simp at q24
          (have hp2t : p2 < t.size := byteAt_lt (by omega); have hw3 : IntKind.i64.wrap ((p2 : Int) + 1) = ((p2 + 1 : Nat) : Int) := (by rw [wrap_of (by omega) (by omega)]; omega))
          refine VCnew.intro fun x25 => ?_
          refine callR_blk 0 (A ++ [(x25, Obj.cells { toList := Value.int IntKind.i64 k :: [].append (zeros (nat_lit 0) [Value.int IntKind.i64 (0 : Int)]) } (3 : TypeId))]) [H] rfl ?_ (prPiece_ct _ _ _ _ _ _ _ _ _ _ oA (by first | exact piece_lit (by unfold okI; omega) hk) ?_) trivial ?_
          · exact .le fun a => by (try simp only [setR, List.cons_append, List.nil_append]); simp only [List.flatten_append, List.flatten_cons, List.flatten_nil, List.count_append, List.count_nil, List.append_nil, List.nil_append]; omega
          · omega
          rintro _ A26 ⟨b26, c26, Ax26, rfl, rfl, o26⟩
          refine ⟨_, _, [Ax26], rfl, perm1, ?_⟩
          apply loop_stepA (f - 1, ((ps2.length : Nat) : Int), p2 + 1, _, _, _, _)
          · exact .refl _
          · repeat' (first | exact trivial | refine ⟨⟨_, rfl, by first | rfl | exact inc_eq _ (by omega) | (refine sl_eq ?_; simp; done), by first | exact trivial | simp [SV.ok]⟩, ?_⟩)
          · ((rw [hw3]); repeat' (first | exact trivial | refine ⟨by first | rfl | simp [Blk.ent], ?_⟩))
          · try dsimp only
            exact ⟨(congrArg some (post_go (by omega) (by omega))).symm.trans hf, by omega, by omega, by rw [List.length_append, List.length_singleton]; omega, by unfold okI; omega, by assumption⟩
          try dsimp only
          omega
        ·
          simp at q24
          exact ⟨_, pr_yes (hf.symm.trans (congrArg some (post_end ‹¬ ((byteAt t p2).toNat : Int) = 42› ‹¬ ((byteAt t p2).toNat : Int) = 43› ‹¬ ((byteAt t p2).toNat : Int) = 63›))) oA, (.le fun a => by (try simp only [setR, List.cons_append, List.nil_append]); simp [List.count_cons, Blk.ent, idOf]; try omega)⟩
theorem pr_all (t : ByteArray) (ht : t.size ≤ 20) : ∀ n, PrCt 208 (pExpr t n) t (fun p => p ≤ t.size ∧ t.size < n + p)
  | 0 => by
    intro q pi p ps b c A _ hP
    have := hP.1; have := hP.2; omega
  | n + 1 => by
    have h := prExpr_ct t n ht (prAlt_ct t n ht (prItem_ct t n ht (pr_all t ht n)))
    rw [show (fun p => p ≤ t.size ∧ t.size < n + 1 + p) = (fun p => p ≤ t.size ∧ t.size < (n + 1) + p) from rfl] at h
    exact h
def rpPath (t : ByteArray) : Path := (readPath t).getD ⟨[]⟩
theorem rpt_none {t : ByteArray} (h : readPath t = none) : rpPath t = ⟨[]⟩ ∧ (readPath t).isSome = false := by unfold rpPath; rw [h]; exact ⟨rfl, rfl⟩
theorem rpt_some {t : ByteArray} {g : Path} (h : readPath t = some g) : rpPath t = g ∧ (readPath t).isSome = true := by unfold rpPath; rw [h]; exact ⟨rfl, rfl⟩
theorem rpt_long {t : ByteArray} (h : ¬ t.size ≤ 20) : readPath t = none := by unfold readPath; rw [if_neg h]
theorem rpt_no {t : ByteArray} (h : pExpr t (t.size + 1) 0 [] = none) : readPath t = none := by unfold readPath; rw [h]; simp
theorem rpt_at {t : ByteArray} (h0 : t.size ≤ 20) (h : (pExpr t (t.size + 1) 0 []).isSome = true) : readPath t = if prP (pExpr t (t.size + 1) 0 []) = t.size ∧ pathOk ⟨prS (pExpr t (t.size + 1) 0 [])⟩ = true then some ⟨prS (pExpr t (t.size + 1) 0 [])⟩ else none := by
  have h3 := pr_some h
  conv => lhs; unfold readPath; rw [if_pos h0, h3]
--@ct impl.ReadPath new implReadPath_ct _ ?_ | | obtain ⟨b#, c#, rfl, o#⟩ := o#
theorem implReadPath_ct (t : ByteArray) (hs : t.size ≤ 1152921504606846976) : Ct Tryz.prog 197 [.string t] [] (fun _ => True) (fun v A => ∃ b c, v = .tuple #[.agg ⟨[.slice b (rpPath t).pieces.length c]⟩, .bool (readPath t).isSome] ∧ (gSl 279 gPiece).ow [.slice b (rpPath t).pieces.length c] (rpPath t).pieces A) := by
  refine Ct.intro0 G_ok Tryz.func197 rfl rfl rfl fun E H hp => ?_
  refine VCnew.intro fun x0 => ?_
  refine VCsplit.intro (fun q1 => ?_) (fun q1 => ?_)
  ·
    simp at q1
    (obtain ⟨e1, e2⟩ := rpt_none (rpt_long (t := t) (by omega)); rw [e1, e2]; exact ⟨_, ⟨none, 0, rfl, sl_nil _ _ _⟩, (.le fun a => by (try simp only [setR, List.cons_append, List.nil_append]); simp [List.count_cons, Blk.ent, idOf]; try omega)⟩)
  ·
    simp at q1
    refine VCnew.intro fun x2 => ?_
    refine callR_blk 1 ([]) [H] rfl ?_ (pr_all t ?_ (t.size + 1) _ _ 0 [] _ _ _ rfl ⟨?_, ?_⟩ ?_ (sl_nil _ _ _)) trivial ?_
    · exact .refl _
    · omega
    · omega
    · omega
    · trivial
    rintro _ A3 ⟨pz, sz, bz, cz, Az, rfl, rfl, oz, hz⟩
    refine ⟨_, _, [Az], rfl, perm1, ?_⟩
    refine VCsplit.intro (fun q4 => ?_) (fun q4 => ?_)
    ·
      simp at q4
      (obtain ⟨e1, e2⟩ := rpt_none (rpt_no ‹(pExpr t (t.size + 1) 0 []) = none›); rw [e1, e2]; exact ⟨[], ⟨none, 0, rfl, sl_nil _ _ _⟩, (.le fun a => by (try simp only [setR, List.cons_append, List.nil_append]); simp [List.count_cons, Blk.ent, idOf]; try omega)⟩)
    ·
      simp at q4
      (obtain ⟨e1, e2⟩ := hz q4; subst e1; subst e2)
      refine VCsplit.intro (fun q5 => ?_) (fun q5 => ?_)
      ·
        simp at q5
        (obtain ⟨e1, e2⟩ := rpt_none ((rpt_at (by omega) ‹(pExpr t (t.size + 1) 0 []).isSome = true›).trans (if_neg (by omega))); rw [e1, e2]; exact ⟨[], ⟨none, 0, rfl, sl_nil _ _ _⟩, (.le fun a => by (try simp only [setR, List.cons_append, List.nil_append]); simp [List.count_cons, Blk.ent, idOf]; try omega)⟩)
      ·
        simp at q5
        have rP : gPath.rd Az [.slice bz (prS (pExpr t (t.size + 1) 0 [])).length cz] ⟨prS (pExpr t (t.size + 1) 0 [])⟩ := gPath_rd.2 ⟨bz, cz, rfl, Gt.owrd _ oz⟩
        refine call_val (implPathOk_ct _ ({ pieces := prS (pExpr t (t.size + (1 : Nat)) (0 : Nat) []) })) (Rp.mono _ (mem_at 0 rfl) rP) ?_
        rintro _ rfl
        refine VCsplit.intro (fun q7 => ?_) (fun q7 => ?_)
        ·
          simp at q7
          (obtain ⟨e1, e2⟩ := rpt_none ((rpt_at (by omega) ‹(pExpr t (t.size + 1) 0 []).isSome = true›).trans (if_neg (fun h => by (have h9 := ‹pathOk ⟨prS (pExpr t (t.size + 1) 0 [])⟩ = false›; rw [h.2] at h9; cases h9)))); rw [e1, e2]; exact ⟨[], ⟨none, 0, rfl, sl_nil _ _ _⟩, (.le fun a => by (try simp only [setR, List.cons_append, List.nil_append]); simp [List.count_cons, Blk.ent, idOf]; try omega)⟩)
        ·
          simp at q7
          (obtain ⟨e1, e2⟩ := rpt_some ((rpt_at (by omega) ‹(pExpr t (t.size + 1) 0 []).isSome = true›).trans (if_pos ⟨by omega, ‹pathOk ⟨prS (pExpr t (t.size + 1) 0 [])⟩ = true›⟩)); rw [e1, e2]; exact ⟨_, ⟨_, _, rfl, oz⟩, (.le fun a => by (try simp only [setR, List.cons_append, List.nil_append]); simp [List.count_cons, Blk.ent, idOf]; try omega)⟩)
end Go.Proofs.YtcnclhjhnjpeiaaGreatDoor

namespace Go.Proofs.YtcnclhjhnjpeiaaGreatDoor
open Go.SX Go.Proofs
set_option linter.unusedSimpArgs false
set_option linter.unusedVariables false
set_option maxHeartbeats 4000000
attribute [local irreducible] IntKind.wrap
--@ct (*spec.l06Read).put blk3s+2 srPut_ct _ _ _ _ _ _ _ _ _ _ _ !o !2o ?_ |  | rintro _ A# ⟨bg, cg, Ag, rfl, rfl, og⟩ ;; refine ⟨_, _, [Ag], rfl, perm1, ?_⟩
theorem srPut_ct (q : Nat) (v0 v1 v2 : Value) (b : Option Addr) (c : Nat) (l : List Value) (ps : List Piece) (x : Piece) (A B : Hp) (hA : (gSl 279 gPiece).ow [.slice b ps.length c] ps A) (hB : gPiece.ow l x B) (hn : ps.length ≤ 1000000) :
    CtR Tryz.prog 194 [.pointer (some ⟨q, 0, none⟩), .agg ⟨l⟩] ((q, Obj.cells ⟨[v0, v1, v2, .slice b ps.length c]⟩ 244) :: (A ++ B)) (fun _ => True)
      (fun r D => ∃ b c A', r = .int .i64 (ps.length : Nat) ∧ D = (q, Obj.cells ⟨[v0, v1, v2, .slice b (ps ++ [x]).length c]⟩ 244) :: A' ∧ (gSl 279 gPiece).ow [.slice b (ps ++ [x]).length c] (ps ++ [x]) A') := by
  refine CtR.introB G_ok [.p 0 0, .v (.agg ⟨l⟩)] [⟨q, [v0, v1, v2, .slice b ps.length c], 244⟩] [A, B] Tryz.func194 rfl rfl rfl rfl (by simp [SV.ok]) (by simp [Blk.ent]) fun E H hp => ?_
  have hr := Gt.owrd _ hB
  obtain ⟨b2x, c2x, rfl, w0x, h2x⟩ := gPiece_rd.1 hr
  refine VCnew.intro fun x0 => ?_
  refine draw G_ok mixed (some 7) (.q 0 (.q 1 (.q 2 (.q 3 (.q 4 (.q 5 (.f 6 (.tl 7 (.f 8 (.f 9 (.f 10 (.nil)))))))))))) (by decide +kernel) ?_
  refine VCnew.intro fun x1 => ?_
  refine VC.intro ?_ ?_
  · exact keep_new
  refine gappend1 (g := gPiece) (T := (279 : TypeId)) G_ok A _ [H] ?_ hA (hB) (List.mem_of_getElem? (i := 0) rfl) rfl rfl rfl rfl rfl rfl rfl rfl ?_ fun b2 c2 A2 o2 => ?_
  · exact .tl
  · omega
  exact ⟨_, ⟨_, _, _, by (simp (disch := (simp only [List.length_append, List.length_singleton]; omega)) only [wrap_of]; simp), rfl, by assumption⟩, (.le fun a => by (try simp only [setR, List.cons_append, List.nil_append]); simp [List.count_cons, Blk.ent, idOf]; try omega)⟩
/-! what is read, and whether what follows it may follow -/
def goodR (S : UInt8 → Bool) (t : ByteArray) (R : Option PR) : Bool := R.isSome && (S (byteAt t (prP R)) || decide (t.size ≤ prP R))
def sOne (_ : UInt8) : Bool := true
def sRow (b : UInt8) : Bool := decide (b.toNat = 124) || decide (b.toNat = 41)
def sAlts (b : UInt8) : Bool := decide (b.toNat = 41)
def pOne (t : ByteArray) (E : Nat → List Piece → Option PR) (p : Nat) (ps : List Piece) : Option PR := if begins (byteAt t p) = true then pItem t E p ps else none
def SrPost (q : Nat) (t : ByteArray) (p : Nat) (ps : List Piece) (good : Bool) (R : Option PR) (v : Value) (D : Hp) : Prop :=
  ∃ (k' : Int) (p' : Nat) (ps' : List Piece) (bd : Bool) (b : Option Addr) (c : Nat) (A' : Hp), v = .int .i64 k' ∧ D = (q, Obj.cells ⟨[.string t, .int .i64 (p' : Nat), .bool bd, .slice b ps'.length c]⟩ 244) :: A' ∧ (gSl 279 gPiece).ow [.slice b ps'.length c] ps' A' ∧ bd = !good ∧ (good = true → k' = prK R ∧ p' = prP R ∧ ps' = prS R) ∧ okI k' ∧ p' ≤ t.size ∧ p ≤ p' ∧ ps'.length + 2 * p ≤ ps.length + 2 * p'
def SrCt (f : FuncId) (S : UInt8 → Bool) (F : Nat → List Piece → Option PR) (t : ByteArray) (P : Nat → Prop) : Prop :=
  ∀ (q : Nat) (pi : Int) (p : Nat) (ps : List Piece) (b : Option Addr) (c : Nat) (A : Hp), pi = p → P p → ps.length ≤ 2 * p → (gSl 279 gPiece).ow [.slice b ps.length c] ps A →
    CtR Tryz.prog f [.pointer (some ⟨q, 0, none⟩)] ((q, Obj.cells ⟨[.string t, .int .i64 pi, .bool false, .slice b ps.length c]⟩ 244) :: A) (fun _ => True) (SrPost q t p ps (goodR S t (F p ps)) (F p ps))
theorem sr_no {q : Nat} {t : ByteArray} {p : Nat} {ps : List Piece} {good : Bool} {R : Option PR} {k : Int} {p' : Nat} {ps' : List Piece} {b : Option Addr} {c : Nat} {A' : Hp} (hg : good = false) (h : (gSl 279 gPiece).ow [.slice b ps'.length c] ps' A') (hk : okI k) (h1 : p' ≤ t.size) (h2 : p ≤ p') (h3 : ps'.length + 2 * p ≤ ps.length + 2 * p') : SrPost q t p ps good R (.int .i64 k) ((q, Obj.cells ⟨[.string t, .int .i64 (p' : Nat), .bool true, .slice b ps'.length c]⟩ 244) :: A') := by
  subst hg
  exact ⟨k, p', ps', true, b, c, A', rfl, rfl, h, rfl, (fun h => by cases h), hk, h1, h2, h3⟩
theorem sr_yes {q : Nat} {t : ByteArray} {p : Nat} {ps : List Piece} {good : Bool} {R : Option PR} {k : Int} {p' : Nat} {ps' : List Piece} {b : Option Addr} {c : Nat} {A' : Hp} (hg : good = true) (hR : R = some (k, p', ps')) (h : (gSl 279 gPiece).ow [.slice b ps'.length c] ps' A') (hk : okI k) (h1 : p' ≤ t.size) (h2 : p ≤ p') (h3 : ps'.length + 2 * p ≤ ps.length + 2 * p') : SrPost q t p ps good R (.int .i64 k) ((q, Obj.cells ⟨[.string t, .int .i64 (p' : Nat), .bool false, .slice b ps'.length c]⟩ 244) :: A') := by
  subst hg hR
  exact ⟨k, p', ps', false, b, c, A', rfl, rfl, h, rfl, fun _ => ⟨rfl, rfl, rfl⟩, hk, h1, h2, h3⟩
theorem good_one {t : ByteArray} {E : Nat → List Piece → Option PR} {p : Nat} {ps : List Piece} : goodR sOne t (pOne t E p ps) = (pOne t E p ps).isSome := by unfold goodR sOne; simp
theorem good_none {S : UInt8 → Bool} {t : ByteArray} {R : Option PR} (h : R = none) : goodR S t R = false := by subst h; rfl
theorem good_some {S : UInt8 → Bool} {t : ByteArray} {R : Option PR} {r : PR} (h : R = some r) : goodR S t R = (S (byteAt t r.2.1) || decide (t.size ≤ r.2.1)) := by subst h; rfl
theorem good_is {S : UInt8 → Bool} {t : ByteArray} {R : Option PR} (h : goodR S t R = true) : R.isSome = true := by unfold goodR at h; rw [Bool.and_eq_true] at h; exact h.1
theorem one_begins {t : ByteArray} {E : Nat → List Piece → Option PR} {p : Nat} {ps : List Piece} (h : (pOne t E p ps).isSome = true) : begins (byteAt t p) = true ∧ pOne t E p ps = pItem t E p ps := by
  unfold pOne at h ⊢
  by_cases hb : begins (byteAt t p) = true
  · rw [if_pos hb]; exact ⟨hb, rfl⟩
  rw [if_neg hb] at h; cases h
theorem one_not {t : ByteArray} {E : Nat → List Piece → Option PR} {p : Nat} {ps : List Piece} (h : pOne t E p ps = none) : begins (byteAt t p) = false ∨ pItem t E p ps = none := by
  unfold pOne at h
  by_cases hb : begins (byteAt t p) = true
  · rw [if_pos hb] at h; exact .inr h
  exact .inl (by simpa using hb)
/-! rows -/
theorem row_start {t : ByteArray} {n p : Nat} {ps : List Piece} (h : (pOne t (pExpr t n) p ps).isSome = true) : pAlts t (pItem t (pExpr t n)) t.size [prK (pOne t (pExpr t n) p ps)] (prP (pOne t (pExpr t n) p ps)) (prS (pOne t (pExpr t n) p ps)) = pAlts t (pItem t (pExpr t n)) (t.size + 1) [] p ps := by
  obtain ⟨h1, h2⟩ := one_begins h
  rw [h2] at h ⊢
  exact (pAlts_go (f := t.size + 1) (ks := []) (by omega) h1 h).symm
theorem row_more {t : ByteArray} {n f p : Nat} {ks : List Int} {ps : List Piece} (hf : 1 ≤ f) (h : (pOne t (pExpr t n) p ps).isSome = true) : pAlts t (pItem t (pExpr t n)) (f - 1) (ks ++ [prK (pOne t (pExpr t n) p ps)]) (prP (pOne t (pExpr t n) p ps)) (prS (pOne t (pExpr t n) p ps)) = pAlts t (pItem t (pExpr t n)) f ks p ps := by
  obtain ⟨h1, h2⟩ := one_begins h
  rw [h2] at h ⊢
  exact (pAlts_go hf h1 h).symm
theorem row_bad {t : ByteArray} {n f p p0 : Nat} {ks : List Int} {ps ps0 : List Piece} (hf : 1 ≤ f) (h : pOne t (pExpr t n) p ps = none) (hp : p < t.size) (hs : sRow (byteAt t p) = false) (he : pAlts t (pItem t (pExpr t n)) f ks p ps = pAlts t (pItem t (pExpr t n)) (t.size + 1) [] p0 ps0) : goodR sRow t (pAlt t (pItem t (pExpr t n)) p0 ps0) = false := by
  by_cases hb : begins (byteAt t p) = true
  · have h1 : pItem t (pExpr t n) p ps = none := by
      rcases one_not h with h2 | h2
      · rw [hb] at h2; cases h2
      exact h2
    refine good_none ?_
    unfold pAlt
    rw [← he, pAlts_none hf hb h1]; rfl
  have h1 : pAlt t (pItem t (pExpr t n)) p0 ps0 = altEnd (some (ks, p, ps)) := by unfold pAlt; rw [← he, pAlts_end (by simpa using hb)]
  by_cases hk : ks = []
  · rw [h1, altEnd_nil hk]; rfl
  rw [h1, altEnd_cons hk, good_some rfl]
  show (sRow (byteAt t p) || decide (t.size ≤ p)) = false
  rw [hs, decide_eq_false (by omega)]; rfl
theorem row_none {t : ByteArray} {n p : Nat} {ps : List Piece} (h : pOne t (pExpr t n) p ps = none) : goodR sRow t (pAlt t (pItem t (pExpr t n)) p ps) = false := by
  refine good_none ?_
  unfold pAlt
  rcases one_not h with h1 | h1
  · rw [pAlts_end h1]; exact altEnd_nil rfl
  by_cases hb : begins (byteAt t p) = true
  · rw [pAlts_none (by omega) hb h1]; rfl
  rw [pAlts_end (by simpa using hb)]; exact altEnd_nil rfl
theorem row_end {t : ByteArray} {n f p p0 : Nat} {ks : List Int} {ps ps0 : List Piece} (hk : ¬ ks = []) (hs : t.size ≤ p ∨ sRow (byteAt t p) = true) (he : pAlts t (pItem t (pExpr t n)) f ks p ps = pAlts t (pItem t (pExpr t n)) (t.size + 1) [] p0 ps0) : pAlt t (pItem t (pExpr t n)) p0 ps0 = some ((pGroup 2 (ks, p, ps)).1, p, (pGroup 2 (ks, p, ps)).2.2) ∧ goodR sRow t (pAlt t (pItem t (pExpr t n)) p0 ps0) = true := by
  have hb : begins (byteAt t p) = false := by
    rcases hs with h | h
    · rw [byteAt_end h]; rfl
    unfold sRow at h
    unfold begins labelOk
    simp at h
    rcases h with h | h <;> rw [h] <;> rfl
  have h1 : pAlt t (pItem t (pExpr t n)) p0 ps0 = some ((pGroup 2 (ks, p, ps)).1, p, (pGroup 2 (ks, p, ps)).2.2) := by
    unfold pAlt; rw [← he, pAlts_end hb]; exact altEnd_cons hk
  refine ⟨h1, ?_⟩
  rw [h1, good_some rfl]
  show (sRow (byteAt t p) || decide (t.size ≤ p)) = true
  rcases hs with h | h
  · rw [decide_eq_true h]; simp
  rw [h]; rfl
/-! alternatives of rows -/
def pTail (t : ByteArray) (A : Nat → List Piece → Option PR) (f : Nat) (ks : List Int) (p : Nat) (ps : List Piece) : Option PR :=
  if (byteAt t p).toNat = 124 then pExprs t A f ks (p + 1) ps else some (pGroup 3 (ks, p, ps))
theorem pExprs_tail {t : ByteArray} {A : Nat → List Piece → Option PR} {f : Nat} {ks : List Int} {p : Nat} {ps : List Piece} (hf : 1 ≤ f) (h : (A p ps).isSome = true) : pExprs t A f ks p ps = pTail t A (f - 1) (ks ++ [prK (A p ps)]) (prP (A p ps)) (prS (A p ps)) := by
  unfold pTail
  by_cases hb : (byteAt t (prP (A p ps))).toNat = 124
  · rw [if_pos hb]; exact pExprs_go' hf (pr_some h) hb
  rw [if_neg hb]; exact pExprs_end' hf (pr_some h) hb
theorem alts_bad {t : ByteArray} {A : Nat → List Piece → Option PR} {f : Nat} {ks : List Int} {p : Nat} {ps : List Piece} (h : goodR sRow t (A p ps) = false) : goodR sAlts t (pExprs t A f ks p ps) = false := by
  cases hA : A p ps with
  | none => exact good_none (pExprs_none hA)
  | some r =>
    rw [good_some hA] at h
    unfold sRow at h
    rw [Bool.or_eq_false_iff, Bool.or_eq_false_iff, decide_eq_false_iff_not, decide_eq_false_iff_not, decide_eq_false_iff_not] at h
    cases f with
    | zero => rfl
    | succ f =>
      rw [pExprs_end' (by omega) hA h.1.1]
      rw [good_some rfl]
      show (sAlts (byteAt t (pGroup 3 (ks ++ [r.1], r.2.1, r.2.2)).2.1) || decide (t.size ≤ (pGroup 3 (ks ++ [r.1], r.2.1, r.2.2)).2.1)) = false
      rw [pGroup_eta]
      show (sAlts (byteAt t r.2.1) || decide (t.size ≤ r.2.1)) = false
      unfold sAlts
      rw [decide_eq_false h.1.2, decide_eq_false h.2]; rfl
theorem alts_end {t : ByteArray} {A : Nat → List Piece → Option PR} {f : Nat} {ks : List Int} {p : Nat} {ps : List Piece} (hb : ¬ (byteAt t p).toNat = 124) (hs : t.size ≤ p ∨ sRow (byteAt t p) = true) : pTail t A f ks p ps = some ((pGroup 3 (ks, p, ps)).1, p, (pGroup 3 (ks, p, ps)).2.2) ∧ goodR sAlts t (pTail t A f ks p ps) = true := by
  have h1 : pTail t A f ks p ps = some ((pGroup 3 (ks, p, ps)).1, p, (pGroup 3 (ks, p, ps)).2.2) := by
    unfold pTail; rw [if_neg hb, ← pGroup_eta]
  refine ⟨h1, ?_⟩
  rw [h1, good_some rfl]
  show (sAlts (byteAt t p) || decide (t.size ≤ p)) = true
  rcases hs with h | h
  · rw [decide_eq_true h]; simp
  unfold sRow at h
  rw [decide_eq_false hb, Bool.false_or] at h
  unfold sAlts; rw [h]; rfl
theorem good_stop {t : ByteArray} {R : Option PR} (h : goodR sRow t R = true) : t.size ≤ prP R ∨ sRow (byteAt t (prP R)) = true := by
  unfold goodR at h
  rw [Bool.and_eq_true, Bool.or_eq_true, decide_eq_true_iff] at h
  rcases h.2 with h1 | h1
  · exact .inr h1
  exact .inl h1
attribute [local irreducible] pItem pExpr pAlt pAlts pExprs pPost pOne prK prP prS goodR sRow sAlts
theorem srow_124 {b : UInt8} (h : ((b.toNat : Nat) : Int) = 124) : sRow b = true := by unfold sRow; rw [decide_eq_true (show b.toNat = 124 by omega)]; rfl
theorem srow_41 {b : UInt8} (h : ((b.toNat : Nat) : Int) = 41) : sRow b = true := by unfold sRow; rw [decide_eq_true (show b.toNat = 41 by omega)]; simp
theorem srow_no {b : UInt8} (h : ¬ ((b.toNat : Nat) : Int) = 124) (h2 : ¬ ((b.toNat : Nat) : Int) = 41) : sRow b = false := by unfold sRow; rw [decide_eq_false (show ¬ b.toNat = 124 by omega), decide_eq_false (show ¬ b.toNat = 41 by omega)]; rfl
theorem one_reads {t : ByteArray} {n p : Nat} {ps : List Piece} (h : (pOne t (pExpr t n) p ps).isSome = true) : ReadsR t p ps (pOne t (pExpr t n) p ps) := by
  obtain ⟨h1, h2⟩ := one_begins h
  rw [h2] at h ⊢
  exact item_reads (begins_lt h1) h
/-- rows so far: bd tells whether one was bad -/
def RowInv (t : ByteArray) (n p : Nat) (ps : List Piece) (bd : Bool) (f : Nat) (ks : List Int) (p2 : Nat) (ps2 : List Piece) : Prop :=
  (bd = false → pAlts t (pItem t (pExpr t n)) f ks p2 ps2 = pAlts t (pItem t (pExpr t n)) (t.size + 1) [] p ps ∧ t.size < f + p2 ∧ ps2.length + ks.length + 2 * p ≤ ps.length + 2 * p2) ∧ (bd = true → goodR sRow t (pAlt t (pItem t (pExpr t n)) p ps) = false)
theorem row_init {t : ByteArray} {n p pz : Nat} {ps sz : List Piece} {bdz : Bool} {kz : Int} (hgz : bdz = !(goodR sOne t (pOne t (pExpr t n) p ps))) (hz : goodR sOne t (pOne t (pExpr t n) p ps) = true → kz = prK (pOne t (pExpr t n) p ps) ∧ pz = prP (pOne t (pExpr t n) p ps) ∧ sz = prS (pOne t (pExpr t n) p ps)) : RowInv t n p ps bdz t.size [kz] pz sz := by
  rw [good_one] at hgz hz
  constructor
  · intro h
    rw [h] at hgz
    have h1 : (pOne t (pExpr t n) p ps).isSome = true := by simpa using hgz
    obtain ⟨rfl, rfl, rfl⟩ := hz h1
    have h2 := one_reads h1
    unfold ReadsR at h2
    exact ⟨row_start h1, by omega, by simp only [List.length_singleton]; omega⟩
  intro h
  rw [h] at hgz
  have h1 : (pOne t (pExpr t n) p ps).isSome = false := by simpa using hgz
  exact row_none (pr_none h1)
theorem row_next {t : ByteArray} {n p f p2 pz : Nat} {ks : List Int} {ps ps2 sz : List Piece} {bdz : Bool} {kz : Int} (hI : RowInv t n p ps false f ks p2 ps2) (hp2 : p2 < t.size) (hs : sRow (byteAt t p2) = false) (hgz : bdz = !(goodR sOne t (pOne t (pExpr t n) p2 ps2))) (hz : goodR sOne t (pOne t (pExpr t n) p2 ps2) = true → kz = prK (pOne t (pExpr t n) p2 ps2) ∧ pz = prP (pOne t (pExpr t n) p2 ps2) ∧ sz = prS (pOne t (pExpr t n) p2 ps2)) : RowInv t n p ps bdz (f - 1) (ks ++ [kz]) pz sz := by
  obtain ⟨he, hf, hl⟩ := hI.1 rfl
  rw [good_one] at hgz hz
  constructor
  · intro h
    rw [h] at hgz
    have h1 : (pOne t (pExpr t n) p2 ps2).isSome = true := by simpa using hgz
    obtain ⟨rfl, rfl, rfl⟩ := hz h1
    have h2 := one_reads h1
    unfold ReadsR at h2
    exact ⟨(row_more (by omega) h1).trans he, by omega, by rw [List.length_append, List.length_singleton]; omega⟩
  intro h
  rw [h] at hgz
  have h1 : (pOne t (pExpr t n) p2 ps2).isSome = false := by simpa using hgz
  exact row_bad (by omega) (pr_none h1) hp2 hs he
theorem ks_ne {ks : List Int} (h : 1 ≤ ks.length) : ¬ ks = [] := by intro e; rw [e] at h; simp at h
theorem row_stop {t : ByteArray} {n p f p2 : Nat} {ks : List Int} {ps ps2 : List Piece} (hk : 1 ≤ ks.length) (hI : RowInv t n p ps false f ks p2 ps2) (hs : t.size ≤ p2 ∨ sRow (byteAt t p2) = true) : pAlt t (pItem t (pExpr t n)) p ps = some ((pGroup 2 (ks, p2, ps2)).1, p2, (pGroup 2 (ks, p2, ps2)).2.2) ∧ goodR sRow t (pAlt t (pItem t (pExpr t n)) p ps) = true :=
  row_end (ks_ne hk) hs (hI.1 rfl).1
theorem RowInv_len {t : ByteArray} {n p f p2 : Nat} {ks : List Int} {ps ps2 : List Piece} (hI : RowInv t n p ps false f ks p2 ps2) : ps2.length + ks.length + 2 * p ≤ ps.length + 2 * p2 := (hI.1 rfl).2.2
theorem RowInv_bad {t : ByteArray} {n p f p2 : Nat} {ks : List Int} {ps ps2 : List Piece} (hI : RowInv t n p ps true f ks p2 ps2) : goodR sRow t (pAlt t (pItem t (pExpr t n)) p ps) = false := hI.2 rfl
theorem row_var {t : ByteArray} {n p2 pz : Nat} {ps2 sz : List Piece} {bdz : Bool} {kz : Int} (hp2 : p2 < t.size) (hq : p2 ≤ pz) (hgz : bdz = !(goodR sOne t (pOne t (pExpr t n) p2 ps2))) (hz : goodR sOne t (pOne t (pExpr t n) p2 ps2) = true → kz = prK (pOne t (pExpr t n) p2 ps2) ∧ pz = prP (pOne t (pExpr t n) p2 ps2) ∧ sz = prS (pOne t (pExpr t n) p2 ps2)) : (t.size - pz + (if bdz = true then 0 else 1)) < t.size - p2 + (if false = true then 0 else 1) := by
  rw [good_one] at hgz hz
  cases bdz with
  | true => simp; omega
  | false =>
    have h1 : (pOne t (pExpr t n) p2 ps2).isSome = true := by simpa using hgz
    obtain ⟨rfl, rfl, rfl⟩ := hz h1
    have h2 := one_reads h1
    unfold ReadsR at h2
    simp; omega
attribute [local irreducible] RowInv
theorem srRow_ct (t : ByteArray) (n : Nat) (ht : t.size ≤ 20) (hI : SrCt 207 sOne (pOne t (pExpr t n)) t (fun p => p ≤ t.size ∧ t.size < n + 1 + p)) : SrCt 193 sRow (pAlt t (pItem t (pExpr t n))) t (fun p => p ≤ t.size ∧ t.size < n + 1 + p) := by
  intro q pi p ps b c A hpi hP hps hA
  obtain ⟨hpt, hn⟩ := hP
  subst hpi
  refine CtR.introB G_ok [.p 0 0] [⟨q, [.string t, .int .i64 (p : Int), .bool false, .slice b ps.length c], 244⟩] [A] Tryz.func193 rfl rfl rfl rfl (by simp [SV.ok]) (by simp [Blk.ent]) fun E H hp => ?_
  refine callR_blk 0 (A) [H] rfl ?_ (hI _ _ _ _ _ _ _ rfl ⟨?_, ?_⟩ ?_ hA) trivial ?_
  · exact .refl _
  · trivial
  · trivial
  · trivial
  rintro _ A0 ⟨kz, pz, sz, bdz, bz, cz, Az, rfl, rfl, oz, hgz, hz, hkz, hpz, hqz, hsz⟩
  refine ⟨_, _, [Az], rfl, perm1, ?_⟩
  refine VCnew.intro fun x1 => ?_
  apply loop_mod (α := (Bool) × (Nat) × (List Int) × (Nat) × (List Piece) × (Hp) × (Option Addr) × (Nat) × (Hp) × (Option Addr) × (Nat)) G_ok [7, 8, 9, 10, 11, 12, 13, 14, 15, 16, 17, 18, 19, 20, 21, 22, 23, 24, 25, 26, 27, 28, 29, 30, 31, 32, 33, 34, 35, 36, 37, 38, 39, 40, 41, 42, 43, 44, 45, 46, 47, 48, 49, 50, 51, 52, 3] (fun z => [(3, .v (.slice z.2.2.2.2.2.2.2.2.2.1 z.2.2.1.length z.2.2.2.2.2.2.2.2.2.2))]) (fun z => [⟨q, [Value.string t, .int .i64 (z.2.2.2.1 : Nat), .bool z.1, .slice z.2.2.2.2.2.2.1 z.2.2.2.2.1.length z.2.2.2.2.2.2.2.1], (244 : TypeId)⟩]) (fun z => [z.2.2.2.2.2.2.2.2.1, z.2.2.2.2.2.1, H]) (fun z => t.size - z.2.2.2.1 + (if z.1 = true then 0 else 1)) (fun z => RowInv t n p ps z.1 z.2.1 z.2.2.1 z.2.2.2.1 z.2.2.2.2.1 ∧ 1 ≤ z.2.2.1.length ∧ z.2.2.2.2.1.length + z.2.2.1.length + 2 * p ≤ ps.length + 2 * z.2.2.2.1 + 1 ∧ z.2.2.2.1 ≤ t.size ∧ p ≤ z.2.2.2.1 ∧ (gSl 279 gPiece).ow [.slice z.2.2.2.2.2.2.1 z.2.2.2.2.1.length z.2.2.2.2.2.2.2.1] z.2.2.2.2.1 z.2.2.2.2.2.1 ∧ (gSl 3 gI).ow [.slice z.2.2.2.2.2.2.2.2.2.1 z.2.2.1.length z.2.2.2.2.2.2.2.2.2.2] z.2.2.1 z.2.2.2.2.2.2.2.2.1 ∧ gPiece.ow [.int .i64 2, .int .u8 0, .slice z.2.2.2.2.2.2.2.2.2.1 z.2.2.1.length z.2.2.2.2.2.2.2.2.2.2] ⟨2, 0, z.2.2.1⟩ z.2.2.2.2.2.2.2.2.1) ((bdz, t.size, [kz], pz, sz, Az, bz, cz, [(x1, Obj.cells ⟨[.int .i64 kz]⟩ 3)], some ⟨x1, 0, none⟩, 1))
  · repeat' (first | exact trivial | refine ⟨⟨_, rfl, by first | rfl | exact inc_eq _ (by omega) | (refine sl_eq ?_; simp; done), by first | exact trivial | simp [SV.ok]⟩, ?_⟩)
  · exact ⟨rfl, trivial⟩
  · try dsimp only
    (have oL := ow_fl (mk := fun k => k) (sz := fun _ => 0) (Ow.lit (f := flInt) (T := 3) (b := x1) (xs := [kz]) (by simpa [flInt] using hkz) (by simp)); exact ⟨row_init hgz hz, by simp, by simp only [List.length_singleton]; omega, hpz, hqz, oz, oL, piece_own (lb := 0) (by unfold okI; omega) oL⟩)
  · exact .refl _
  rintro ⟨bd, f, ks, p2, ps2, A, lb, lc, K, kb, kc⟩ hI
  obtain ⟨hRI, hk1, hl2, hp2, hpp, oA, oK, oP⟩ : RowInv t n p ps bd f ks p2 ps2 ∧ 1 ≤ ks.length ∧ ps2.length + ks.length + 2 * p ≤ ps.length + 2 * p2 + 1 ∧ p2 ≤ t.size ∧ p ≤ p2 ∧ (gSl 279 gPiece).ow [.slice lb ps2.length lc] ps2 A ∧ (gSl 3 gI).ow [.slice kb ks.length kc] ks K ∧ gPiece.ow [.int .i64 2, .int .u8 0, .slice kb ks.length kc] ⟨2, 0, ks⟩ K := hI
  try dsimp only
  refine draw G_ok mixed none (.q 0 (.q 1 (.q 2 (.q 3 (.q 4 (.q 5 (.q 6 (.q 7 (.q 8 (.q 9 (.q 10 (.q 11 (.q 12 (.q 13 (.q 14 (.q 15 (.q 16 (.q 17 (.q 18 (.q 19 (.q 20 (.q 21 (.q 22 (.q 23 (.q 24 (.q 25 (.q 26 (.q 27 (.q 28 (.q 29 (.q 30 (.q 31 (.q 32 (.q 33 (.q 34 (.q 35 (.q 36 (.q 37 (.q 38 (.q 39 (.q 40 (.nil)))))))))))))))))))))))))))))))))))))))))) (by decide +kernel) ?_
  refine VCsplit.intro (fun q2 => ?_) (fun q2 => ?_)
  ·
    simp at q2
    (obtain rfl : bd = false := q2)
    refine VCsplit.intro (fun q3 => ?_) (fun q3 => ?_)
    ·
      simp at q3
      refine VC.intro ?_ ?_
      · omega
      refine VCsplit.intro (fun q4 => ?_) (fun q4 => ?_)
      ·
        simp at q4
        simp only [byte_p] at q4
        refine VC.intro ?_ ?_
        · omega
        refine VCsplit.intro (fun q5 => ?_) (fun q5 => ?_)
        ·
          simp at q5
          simp only [byte_p] at q5
          refine callR_blk 0 (A) [K, H] rfl ?_ (hI _ _ _ _ _ _ _ rfl ⟨?_, ?_⟩ ?_ oA) trivial ?_
          · exact .le fun a => by (try simp only [setR, List.cons_append, List.nil_append]); simp only [List.flatten_append, List.flatten_cons, List.flatten_nil, List.count_append, List.count_nil, List.append_nil, List.nil_append]; omega
          · trivial
          · omega
          · omega
          rintro _ A6 ⟨kz, pz, sz, bdz, bz, cz, Az, rfl, rfl, oz, hgz, hz, hkz, hpz, hqz, hsz⟩
          refine ⟨_, _, [Az], rfl, perm1, ?_⟩
          refine VCnew.intro fun x7 => ?_
          refine gappend1 (g := gI) (T := (3 : TypeId)) G_ok K [] [Az, H] ?_ oK (gI_ow ?_) (List.mem_of_getElem? (i := 0) rfl) rfl rfl rfl rfl rfl rfl rfl rfl ?_ fun b8 c8 A8 o8 => ?_
          · exact .le fun a => by (try simp only [setR, List.cons_append, List.nil_append]); simp only [List.flatten_append, List.flatten_cons, List.flatten_nil, List.count_append, List.count_nil, List.append_nil, List.nil_append]; omega
          · trivial
          · omega
          apply loop_stepA (bdz, f - 1, ks ++ [kz], pz, sz, Az, _, _, _, _, _)
          · exact .refl _
          · repeat' (first | exact trivial | refine ⟨⟨_, rfl, by first | rfl | exact inc_eq _ (by omega) | (refine sl_eq ?_; simp; done), by first | exact trivial | simp [SV.ok]⟩, ?_⟩)
          · exact ⟨rfl, trivial⟩
          · try dsimp only
            (have h9 := RowInv_len hRI; exact ⟨row_next hRI (by assumption) (srow_no (by assumption) (by assumption)) hgz hz, by rw [List.length_append, List.length_singleton]; omega, by rw [List.length_append, List.length_singleton]; omega, hpz, by omega, oz, by assumption, piece_own (lb := 0) (by unfold okI; omega) (by assumption)⟩)
          try dsimp only
          exact row_var (by assumption) hqz hgz hz
        ·
          simp at q5
          simp only [byte_p] at q5
          refine VCsplit.intro (fun q9 => ?_) (fun q9 => ?_)
          ·
            simp at q9
            refine idx_rd (Gt.owrd _ oK) ?_ ?_ fun b10 o10 hb10 => ?_
            · trivial
            · omega
            refine load_allN 0 (0) rfl (Gt.owrd _ oK) ?_ ?_ hb10 rfl (mem_at 0 rfl) fun l11 hl11 => ?_
            · trivial
            · omega
            obtain ⟨rfl, hw11⟩ := hl11; simp only [flStr, flInt, okI] at hw11
            (have hE := row_stop hk1 hRI (by first | exact .inl (by omega) | exact .inr (srow_124 (by assumption)) | exact .inr (srow_41 (by assumption))); have h9 := (RowInv_len hRI); exact ⟨_, sr_yes hE.2 (hE.1.trans (by rw [pGroup_one (by omega)])) oA (by assumption) hp2 hpp (by omega), (.le fun a => by (try simp only [setR, List.cons_append, List.nil_append]); simp [List.count_cons, Blk.ent, idOf]; try omega)⟩)
          ·
            simp at q9
            refine callR_blk 0 (A ++ K) [H] rfl ?_ (srPut_ct _ _ _ _ _ _ _ _ _ _ _ oA oP ?_) trivial ?_
            · exact .le fun a => by (try simp only [setR, List.cons_append, List.nil_append]); simp only [List.flatten_append, List.flatten_cons, List.flatten_nil, List.count_append, List.count_nil, List.append_nil, List.nil_append]; omega
            · omega
            rintro _ A12 ⟨bg, cg, Ag, rfl, rfl, og⟩
            refine ⟨_, _, [Ag], rfl, perm1, ?_⟩
            (have hE := row_stop hk1 hRI (by first | exact .inl (by omega) | exact .inr (srow_124 (by assumption)) | exact .inr (srow_41 (by assumption))); have h9 := (RowInv_len hRI); exact ⟨_, sr_yes hE.2 (hE.1.trans (by rw [pGroup_many (by omega)])) og (by unfold okI; omega) hp2 hpp (by rw [List.length_append, List.length_singleton]; omega), (.le fun a => by (try simp only [setR, List.cons_append, List.nil_append]); simp [List.count_cons, Blk.ent, idOf]; try omega)⟩)
      ·
        simp at q4
        simp only [byte_p] at q4
        refine VCsplit.intro (fun q13 => ?_) (fun q13 => ?_)
        ·
          simp at q13
          refine idx_rd (Gt.owrd _ oK) ?_ ?_ fun b14 o14 hb14 => ?_
          · trivial
          · omega
          refine load_allN 0 (0) rfl (Gt.owrd _ oK) ?_ ?_ hb14 rfl (mem_at 0 rfl) fun l15 hl15 => ?_
          · trivial
          · omega
          obtain ⟨rfl, hw15⟩ := hl15; simp only [flStr, flInt, okI] at hw15
          (have hE := row_stop hk1 hRI (by first | exact .inl (by omega) | exact .inr (srow_124 (by assumption)) | exact .inr (srow_41 (by assumption))); have h9 := (RowInv_len hRI); exact ⟨_, sr_yes hE.2 (hE.1.trans (by rw [pGroup_one (by omega)])) oA (by assumption) hp2 hpp (by omega), (.le fun a => by (try simp only [setR, List.cons_append, List.nil_append]); simp [List.count_cons, Blk.ent, idOf]; try omega)⟩)
        ·
          simp at q13
          refine callR_blk 0 (A ++ K) [H] rfl ?_ (srPut_ct _ _ _ _ _ _ _ _ _ _ _ oA oP ?_) trivial ?_
          · exact .le fun a => by (try simp only [setR, List.cons_append, List.nil_append]); simp only [List.flatten_append, List.flatten_cons, List.flatten_nil, List.count_append, List.count_nil, List.append_nil, List.nil_append]; omega
          · omega
          rintro _ A16 ⟨bg, cg, Ag, rfl, rfl, og⟩
          refine ⟨_, _, [Ag], rfl, perm1, ?_⟩
          (have hE := row_stop hk1 hRI (by first | exact .inl (by omega) | exact .inr (srow_124 (by assumption)) | exact .inr (srow_41 (by assumption))); have h9 := (RowInv_len hRI); exact ⟨_, sr_yes hE.2 (hE.1.trans (by rw [pGroup_many (by omega)])) og (by unfold okI; omega) hp2 hpp (by rw [List.length_append, List.length_singleton]; omega), (.le fun a => by (try simp only [setR, List.cons_append, List.nil_append]); simp [List.count_cons, Blk.ent, idOf]; try omega)⟩)
    ·
      simp at q3
      refine VCsplit.intro (fun q17 => ?_) (fun q17 => ?_)
      ·
        simp at q17
        refine idx_rd (Gt.owrd _ oK) ?_ ?_ fun b18 o18 hb18 => ?_
        · trivial
        · omega
        refine load_allN 0 (0) rfl (Gt.owrd _ oK) ?_ ?_ hb18 rfl (mem_at 0 rfl) fun l19 hl19 => ?_
        · trivial
        · omega
        obtain ⟨rfl, hw19⟩ := hl19; simp only [flStr, flInt, okI] at hw19
        (have hE := row_stop hk1 hRI (by first | exact .inl (by omega) | exact .inr (srow_124 (by assumption)) | exact .inr (srow_41 (by assumption))); have h9 := (RowInv_len hRI); exact ⟨_, sr_yes hE.2 (hE.1.trans (by rw [pGroup_one (by omega)])) oA (by assumption) hp2 hpp (by omega), (.le fun a => by (try simp only [setR, List.cons_append, List.nil_append]); simp [List.count_cons, Blk.ent, idOf]; try omega)⟩)
      ·
        simp at q17
        refine callR_blk 0 (A ++ K) [H] rfl ?_ (srPut_ct _ _ _ _ _ _ _ _ _ _ _ oA oP ?_) trivial ?_
        · exact .le fun a => by (try simp only [setR, List.cons_append, List.nil_append]); simp only [List.flatten_append, List.flatten_cons, List.flatten_nil, List.count_append, List.count_nil, List.append_nil, List.nil_append]; omega
        · omega
        rintro _ A20 ⟨bg, cg, Ag, rfl, rfl, og⟩
        refine ⟨_, _, [Ag], rfl, perm1, ?_⟩
        (have hE := row_stop hk1 hRI (by first | exact .inl (by omega) | exact .inr (srow_124 (by assumption)) | exact .inr (srow_41 (by assumption))); have h9 := (RowInv_len hRI); exact ⟨_, sr_yes hE.2 (hE.1.trans (by rw [pGroup_many (by omega)])) og (by unfold okI; omega) hp2 hpp (by rw [List.length_append, List.length_singleton]; omega), (.le fun a => by (try simp only [setR, List.cons_append, List.nil_append]); simp [List.count_cons, Blk.ent, idOf]; try omega)⟩)
  ·
    simp at q2
    (obtain rfl : bd = true := q2)
    refine VCsplit.intro (fun q21 => ?_) (fun q21 => ?_)
    ·
      simp at q21
      refine idx_rd (Gt.owrd _ oK) ?_ ?_ fun b22 o22 hb22 => ?_
      · trivial
      · omega
      refine load_allN 0 (0) rfl (Gt.owrd _ oK) ?_ ?_ hb22 rfl (mem_at 0 rfl) fun l23 hl23 => ?_
      · trivial
      · omega
      obtain ⟨rfl, hw23⟩ := hl23; simp only [flStr, flInt, okI] at hw23
      (have hE := RowInv_bad hRI; exact ⟨_, sr_no (p' := p2) hE oA (by assumption) hp2 hpp (by omega), (.le fun a => by (try simp only [setR, List.cons_append, List.nil_append]); simp [List.count_cons, Blk.ent, idOf]; try omega)⟩)
    ·
      simp at q21
      refine callR_blk 0 (A ++ K) [H] rfl ?_ (srPut_ct _ _ _ _ _ _ _ _ _ _ _ oA oP ?_) trivial ?_
      · exact .le fun a => by (try simp only [setR, List.cons_append, List.nil_append]); simp only [List.flatten_append, List.flatten_cons, List.flatten_nil, List.count_append, List.count_nil, List.append_nil, List.nil_append]; omega
      · omega
      rintro _ A24 ⟨bg, cg, Ag, rfl, rfl, og⟩
      refine ⟨_, _, [Ag], rfl, perm1, ?_⟩
      (have hE := RowInv_bad hRI; exact ⟨_, sr_no (p' := p2) hE og (by unfold okI; omega) hp2 hpp (by rw [List.length_append, List.length_singleton]; omega), (.le fun a => by (try simp only [setR, List.cons_append, List.nil_append]); simp [List.count_cons, Blk.ent, idOf]; try omega)⟩)
/-- alternatives so far -/
def AltsInv (t : ByteArray) (n p : Nat) (ps : List Piece) (bd : Bool) (f : Nat) (ks : List Int) (p2 : Nat) (ps2 : List Piece) : Prop :=
  (bd = false → pTail t (pAlt t (pItem t (pExpr t n))) f ks p2 ps2 = pExprs t (pAlt t (pItem t (pExpr t n))) (t.size + 1) [] p ps ∧ t.size < f + p2 + 1 ∧ (t.size ≤ p2 ∨ sRow (byteAt t p2) = true) ∧ ps2.length + ks.length + 2 * p ≤ ps.length + 2 * p2) ∧ (bd = true → goodR sAlts t (pExprs t (pAlt t (pItem t (pExpr t n))) (t.size + 1) [] p ps) = false)
theorem alts_init {t : ByteArray} {n p pz : Nat} {ps sz : List Piece} {bdz : Bool} {kz : Int} (hp : p ≤ t.size) (hgz : bdz = !(goodR sRow t (pAlt t (pItem t (pExpr t n)) p ps))) (hz : goodR sRow t (pAlt t (pItem t (pExpr t n)) p ps) = true → kz = prK (pAlt t (pItem t (pExpr t n)) p ps) ∧ pz = prP (pAlt t (pItem t (pExpr t n)) p ps) ∧ sz = prS (pAlt t (pItem t (pExpr t n)) p ps)) : AltsInv t n p ps bdz t.size [kz] pz sz := by
  constructor
  · intro h
    rw [h] at hgz
    have h1 : goodR sRow t (pAlt t (pItem t (pExpr t n)) p ps) = true := by simpa using hgz
    obtain ⟨rfl, rfl, rfl⟩ := hz h1
    have h2 := alt_reads hp (good_is h1)
    unfold ReadsR at h2
    exact ⟨(pExprs_tail (f := t.size + 1) (ks := []) (by omega) (good_is h1)).symm, by omega, good_stop h1, by simp only [List.length_singleton]; omega⟩
  intro h
  rw [h] at hgz
  exact alts_bad (by simpa using hgz)
theorem alts_next {t : ByteArray} {n p f p2 pz : Nat} {ks : List Int} {ps ps2 sz : List Piece} {bdz : Bool} {kz : Int} (hI : AltsInv t n p ps false f ks p2 ps2) (hp2 : p2 < t.size) (hb : (((byteAt t p2).toNat : Nat) : Int) = 124) (hgz : bdz = !(goodR sRow t (pAlt t (pItem t (pExpr t n)) (p2 + 1) ps2))) (hz : goodR sRow t (pAlt t (pItem t (pExpr t n)) (p2 + 1) ps2) = true → kz = prK (pAlt t (pItem t (pExpr t n)) (p2 + 1) ps2) ∧ pz = prP (pAlt t (pItem t (pExpr t n)) (p2 + 1) ps2) ∧ sz = prS (pAlt t (pItem t (pExpr t n)) (p2 + 1) ps2)) : AltsInv t n p ps bdz (f - 1) (ks ++ [kz]) pz sz := by
  obtain ⟨he, hf, hs, hl⟩ := hI.1 rfl
  have he2 : pExprs t (pAlt t (pItem t (pExpr t n))) f ks (p2 + 1) ps2 = pExprs t (pAlt t (pItem t (pExpr t n))) (t.size + 1) [] p ps := by
    rw [← he]; unfold pTail; rw [if_pos (by omega)]
  constructor
  · intro h
    rw [h] at hgz
    have h1 : goodR sRow t (pAlt t (pItem t (pExpr t n)) (p2 + 1) ps2) = true := by simpa using hgz
    obtain ⟨rfl, rfl, rfl⟩ := hz h1
    have h2 := alt_reads (by omega) (good_is h1)
    unfold ReadsR at h2
    exact ⟨(pExprs_tail (by omega) (good_is h1)).symm.trans he2, by omega, good_stop h1, by rw [List.length_append, List.length_singleton]; omega⟩
  intro h
  rw [h] at hgz
  rw [← he2]
  exact alts_bad (by simpa using hgz)
theorem alts_stop {t : ByteArray} {n p f p2 : Nat} {ks : List Int} {ps ps2 : List Piece} (hI : AltsInv t n p ps false f ks p2 ps2) (hb : t.size ≤ p2 ∨ ¬ (((byteAt t p2).toNat : Nat) : Int) = 124) : pExprs t (pAlt t (pItem t (pExpr t n))) (t.size + 1) [] p ps = some ((pGroup 3 (ks, p2, ps2)).1, p2, (pGroup 3 (ks, p2, ps2)).2.2) ∧ goodR sAlts t (pExprs t (pAlt t (pItem t (pExpr t n))) (t.size + 1) [] p ps) = true := by
  obtain ⟨he, hf, hs, hl⟩ := hI.1 rfl
  rw [← he]
  refine alts_end ?_ hs
  rcases hb with h | h
  · rw [byteAt_end h]; decide
  omega
theorem AltsInv_len {t : ByteArray} {n p f p2 : Nat} {ks : List Int} {ps ps2 : List Piece} (hI : AltsInv t n p ps false f ks p2 ps2) : ps2.length + ks.length + 2 * p ≤ ps.length + 2 * p2 := (hI.1 rfl).2.2.2
theorem AltsInv_bad {t : ByteArray} {n p f p2 : Nat} {ks : List Int} {ps ps2 : List Piece} (hI : AltsInv t n p ps true f ks p2 ps2) : goodR sAlts t (pExprs t (pAlt t (pItem t (pExpr t n))) (t.size + 1) [] p ps) = false := hI.2 rfl
attribute [local irreducible] AltsInv
theorem srAlts_ct (t : ByteArray) (n : Nat) (ht : t.size ≤ 20) (hI : SrCt 193 sRow (pAlt t (pItem t (pExpr t n))) t (fun p => p ≤ t.size ∧ t.size < n + 1 + p)) : SrCt 173 sAlts (pExpr t (n + 1)) t (fun p => p ≤ t.size ∧ t.size < n + 1 + p) := by
  intro q pi p ps b c A hpi hP hps hA
  obtain ⟨hpt, hn⟩ := hP
  subst hpi
  rw [show pExpr t (n + 1) p ps = pExprs t (pAlt t (pItem t (pExpr t n))) (t.size + 1) [] p ps by unfold pExpr; rfl]
  refine CtR.introB G_ok [.p 0 0] [⟨q, [.string t, .int .i64 (p : Int), .bool false, .slice b ps.length c], 244⟩] [A] Tryz.func173 rfl rfl rfl rfl (by simp [SV.ok]) (by simp [Blk.ent]) fun E H hp => ?_
  have hp0 : (p : Int) = ((p : Nat) : Int) := rfl
  refine callR_blk 0 (A) [H] rfl ?_ (hI _ _ _ _ _ _ _ (by assumption) ⟨?_, ?_⟩ ?_ hA) trivial ?_
  · exact .refl _
  · trivial
  · trivial
  · trivial
  rintro _ A0 ⟨kz, pz, sz, bdz, bz, cz, Az, rfl, rfl, oz, hgz, hz, hkz, hpz, hqz, hsz⟩
  refine ⟨_, _, [Az], rfl, perm1, ?_⟩
  refine VCnew.intro fun x1 => ?_
  apply loop_mod (α := (Bool) × (Nat) × (List Int) × (Nat) × (List Piece) × (Hp) × (Option Addr) × (Nat) × (Hp) × (Option Addr) × (Nat)) G_ok [7, 8, 9, 10, 11, 12, 13, 14, 15, 16, 17, 18, 19, 20, 21, 22, 23, 24, 25, 26, 27, 28, 29, 30, 31, 32, 33, 34, 35, 36, 37, 38, 39, 40, 41, 42, 43, 44, 45, 46, 47, 48, 3] (fun z => [(3, .v (.slice z.2.2.2.2.2.2.2.2.2.1 z.2.2.1.length z.2.2.2.2.2.2.2.2.2.2))]) (fun z => [⟨q, [Value.string t, .int .i64 (z.2.2.2.1 : Nat), .bool z.1, .slice z.2.2.2.2.2.2.1 z.2.2.2.2.1.length z.2.2.2.2.2.2.2.1], (244 : TypeId)⟩]) (fun z => [z.2.2.2.2.2.2.2.2.1, z.2.2.2.2.2.1, H]) (fun z => t.size - z.2.2.2.1) (fun z => AltsInv t n p ps z.1 z.2.1 z.2.2.1 z.2.2.2.1 z.2.2.2.2.1 ∧ 1 ≤ z.2.2.1.length ∧ z.2.2.2.2.1.length + z.2.2.1.length + 2 * p ≤ ps.length + 2 * z.2.2.2.1 + 1 ∧ z.2.2.2.1 ≤ t.size ∧ p ≤ z.2.2.2.1 ∧ (gSl 279 gPiece).ow [.slice z.2.2.2.2.2.2.1 z.2.2.2.2.1.length z.2.2.2.2.2.2.2.1] z.2.2.2.2.1 z.2.2.2.2.2.1 ∧ (gSl 3 gI).ow [.slice z.2.2.2.2.2.2.2.2.2.1 z.2.2.1.length z.2.2.2.2.2.2.2.2.2.2] z.2.2.1 z.2.2.2.2.2.2.2.2.1 ∧ gPiece.ow [.int .i64 3, .int .u8 0, .slice z.2.2.2.2.2.2.2.2.2.1 z.2.2.1.length z.2.2.2.2.2.2.2.2.2.2] ⟨3, 0, z.2.2.1⟩ z.2.2.2.2.2.2.2.2.1) ((bdz, t.size, [kz], pz, sz, Az, bz, cz, [(x1, Obj.cells ⟨[.int .i64 kz]⟩ 3)], some ⟨x1, 0, none⟩, 1))
  · repeat' (first | exact trivial | refine ⟨⟨_, rfl, by first | rfl | exact inc_eq _ (by omega) | (refine sl_eq ?_; simp; done), by first | exact trivial | simp [SV.ok]⟩, ?_⟩)
  · exact ⟨rfl, trivial⟩
  · try dsimp only
    (have oL := ow_fl (mk := fun k => k) (sz := fun _ => 0) (Ow.lit (f := flInt) (T := 3) (b := x1) (xs := [kz]) (by simpa [flInt] using hkz) (by simp)); exact ⟨alts_init hpt hgz hz, by simp, by simp only [List.length_singleton]; omega, hpz, hqz, oz, oL, piece_own (lb := 0) (by unfold okI; omega) oL⟩)
  · exact .refl _
  rintro ⟨bd, f, ks, p2, ps2, A, lb, lc, K, kb, kc⟩ hI
  obtain ⟨hRI, hk1, hl2, hp2, hpp, oA, oK, oP⟩ : AltsInv t n p ps bd f ks p2 ps2 ∧ 1 ≤ ks.length ∧ ps2.length + ks.length + 2 * p ≤ ps.length + 2 * p2 + 1 ∧ p2 ≤ t.size ∧ p ≤ p2 ∧ (gSl 279 gPiece).ow [.slice lb ps2.length lc] ps2 A ∧ (gSl 3 gI).ow [.slice kb ks.length kc] ks K ∧ gPiece.ow [.int .i64 3, .int .u8 0, .slice kb ks.length kc] ⟨3, 0, ks⟩ K := hI
  try dsimp only
  refine draw G_ok mixed none (.q 0 (.q 1 (.q 2 (.q 3 (.q 4 (.q 5 (.q 6 (.q 7 (.q 8 (.q 9 (.q 10 (.q 11 (.q 12 (.q 13 (.q 14 (.q 15 (.q 16 (.q 17 (.q 18 (.q 19 (.q 20 (.q 21 (.q 22 (.q 23 (.q 24 (.q 25 (.q 26 (.q 27 (.q 28 (.nil)))))))))))))))))))))))))))))) (by decide +kernel) ?_
  refine VCsplit.intro (fun q2 => ?_) (fun q2 => ?_)
  ·
    simp at q2
    (obtain rfl : bd = false := q2)
    (have hw3 : IntKind.i64.wrap ((p2 : Int) + 1) = ((p2 + 1 : Nat) : Int) := (by rw [wrap_of (by omega) (by omega)]; omega))
    refine VCsplit.intro (fun q3 => ?_) (fun q3 => ?_)
    ·
      simp at q3
      (have hw3 : IntKind.i64.wrap ((p2 : Int) + 1) = ((p2 + 1 : Nat) : Int) := (by rw [wrap_of (by omega) (by omega)]; omega))
      refine VC.intro ?_ ?_
      · omega
      refine VCsplit.intro (fun q4 => ?_) (fun q4 => ?_)
      ·
        simp at q4
        simp only [byte_p] at q4
        (have hw3 : IntKind.i64.wrap ((p2 : Int) + 1) = ((p2 + 1 : Nat) : Int) := (by rw [wrap_of (by omega) (by omega)]; omega))
        refine callR_blk 0 (A) [K, H] rfl ?_ (hI _ _ _ _ _ _ _ (by assumption) ⟨?_, ?_⟩ ?_ oA) trivial ?_
        · exact .le fun a => by (try simp only [setR, List.cons_append, List.nil_append]); simp only [List.flatten_append, List.flatten_cons, List.flatten_nil, List.count_append, List.count_nil, List.append_nil, List.nil_append]; omega
        · trivial
        · omega
        · omega
        rintro _ A5 ⟨kz, pz, sz, bdz, bz, cz, Az, rfl, rfl, oz, hgz, hz, hkz, hpz, hqz, hsz⟩
        refine ⟨_, _, [Az], rfl, perm1, ?_⟩
        refine VCnew.intro fun x6 => ?_
        refine gappend1 (g := gI) (T := (3 : TypeId)) G_ok K [] [Az, H] ?_ oK (gI_ow ?_) (List.mem_of_getElem? (i := 0) rfl) rfl rfl rfl rfl rfl rfl rfl rfl ?_ fun b7 c7 A7 o7 => ?_
        · exact .le fun a => by (try simp only [setR, List.cons_append, List.nil_append]); simp only [List.flatten_append, List.flatten_cons, List.flatten_nil, List.count_append, List.count_nil, List.append_nil, List.nil_append]; omega
        · trivial
        · omega
        apply loop_stepA (bdz, f - 1, ks ++ [kz], pz, sz, Az, _, _, _, _, _)
        · exact .refl _
        · repeat' (first | exact trivial | refine ⟨⟨_, rfl, by first | rfl | exact inc_eq _ (by omega) | (refine sl_eq ?_; simp; done), by first | exact trivial | simp [SV.ok]⟩, ?_⟩)
        · exact ⟨rfl, trivial⟩
        · try dsimp only
          (have h9 := AltsInv_len hRI; exact ⟨alts_next hRI (by assumption) (by assumption) hgz hz, by rw [List.length_append, List.length_singleton]; omega, by rw [List.length_append, List.length_singleton]; omega, hpz, by omega, oz, by assumption, piece_own (lb := 0) (by unfold okI; omega) (by assumption)⟩)
        try dsimp only
        omega
      ·
        simp at q4
        simp only [byte_p] at q4
        (have hw3 : IntKind.i64.wrap ((p2 : Int) + 1) = ((p2 + 1 : Nat) : Int) := (by rw [wrap_of (by omega) (by omega)]; omega))
        refine VCsplit.intro (fun q8 => ?_) (fun q8 => ?_)
        ·
          simp at q8
          (have hw3 : IntKind.i64.wrap ((p2 : Int) + 1) = ((p2 + 1 : Nat) : Int) := (by rw [wrap_of (by omega) (by omega)]; omega))
          refine idx_rd (Gt.owrd _ oK) ?_ ?_ fun b9 o9 hb9 => ?_
          · trivial
          · omega
          refine load_allN 0 (0) rfl (Gt.owrd _ oK) ?_ ?_ hb9 rfl (mem_at 0 rfl) fun l10 hl10 => ?_
          · trivial
          · omega
          obtain ⟨rfl, hw10⟩ := hl10; simp only [flStr, flInt, okI] at hw10
          (have hE := alts_stop hRI (by first | exact .inl (by omega) | exact .inr (by assumption)); have h9 := (AltsInv_len hRI); exact ⟨_, sr_yes hE.2 (hE.1.trans (by rw [pGroup_one (by omega)])) oA (by assumption) hp2 hpp (by omega), (.le fun a => by (try simp only [setR, List.cons_append, List.nil_append]); simp [List.count_cons, Blk.ent, idOf]; try omega)⟩)
        ·
          simp at q8
          (have hw3 : IntKind.i64.wrap ((p2 : Int) + 1) = ((p2 + 1 : Nat) : Int) := (by rw [wrap_of (by omega) (by omega)]; omega))
          refine callR_blk 0 (A ++ K) [H] rfl ?_ (srPut_ct _ _ _ _ _ _ _ _ _ _ _ oA oP ?_) trivial ?_
          · exact .le fun a => by (try simp only [setR, List.cons_append, List.nil_append]); simp only [List.flatten_append, List.flatten_cons, List.flatten_nil, List.count_append, List.count_nil, List.append_nil, List.nil_append]; omega
          · omega
          rintro _ A11 ⟨bg, cg, Ag, rfl, rfl, og⟩
          refine ⟨_, _, [Ag], rfl, perm1, ?_⟩
          (have hE := alts_stop hRI (by first | exact .inl (by omega) | exact .inr (by assumption)); have h9 := (AltsInv_len hRI); exact ⟨_, sr_yes hE.2 (hE.1.trans (by rw [pGroup_many (by omega)])) og (by unfold okI; omega) hp2 hpp (by rw [List.length_append, List.length_singleton]; omega), (.le fun a => by (try simp only [setR, List.cons_append, List.nil_append]); simp [List.count_cons, Blk.ent, idOf]; try omega)⟩)
    ·
      simp at q3
      (have hw3 : IntKind.i64.wrap ((p2 : Int) + 1) = ((p2 + 1 : Nat) : Int) := (by rw [wrap_of (by omega) (by omega)]; omega))
      refine VCsplit.intro (fun q12 => ?_) (fun q12 => ?_)
      ·
        simp at q12
        (have hw3 : IntKind.i64.wrap ((p2 : Int) + 1) = ((p2 + 1 : Nat) : Int) := (by rw [wrap_of (by omega) (by omega)]; omega))
        refine idx_rd (Gt.owrd _ oK) ?_ ?_ fun b13 o13 hb13 => ?_
        · trivial
        · omega
        refine load_allN 0 (0) rfl (Gt.owrd _ oK) ?_ ?_ hb13 rfl (mem_at 0 rfl) fun l14 hl14 => ?_
        · trivial
        · omega
        obtain ⟨rfl, hw14⟩ := hl14; simp only [flStr, flInt, okI] at hw14
        (have hE := alts_stop hRI (by first | exact .inl (by omega) | exact .inr (by assumption)); have h9 := (AltsInv_len hRI); exact ⟨_, sr_yes hE.2 (hE.1.trans (by rw [pGroup_one (by omega)])) oA (by assumption) hp2 hpp (by omega), (.le fun a => by (try simp only [setR, List.cons_append, List.nil_append]); simp [List.count_cons, Blk.ent, idOf]; try omega)⟩)
      ·
        simp at q12
        (have hw3 : IntKind.i64.wrap ((p2 : Int) + 1) = ((p2 + 1 : Nat) : Int) := (by rw [wrap_of (by omega) (by omega)]; omega))
        refine callR_blk 0 (A ++ K) [H] rfl ?_ (srPut_ct _ _ _ _ _ _ _ _ _ _ _ oA oP ?_) trivial ?_
        · exact .le fun a => by (try simp only [setR, List.cons_append, List.nil_append]); simp only [List.flatten_append, List.flatten_cons, List.flatten_nil, List.count_append, List.count_nil, List.append_nil, List.nil_append]; omega
        · omega
        rintro _ A15 ⟨bg, cg, Ag, rfl, rfl, og⟩
        refine ⟨_, _, [Ag], rfl, perm1, ?_⟩
        (have hE := alts_stop hRI (by first | exact .inl (by omega) | exact .inr (by assumption)); have h9 := (AltsInv_len hRI); exact ⟨_, sr_yes hE.2 (hE.1.trans (by rw [pGroup_many (by omega)])) og (by unfold okI; omega) hp2 hpp (by rw [List.length_append, List.length_singleton]; omega), (.le fun a => by (try simp only [setR, List.cons_append, List.nil_append]); simp [List.count_cons, Blk.ent, idOf]; try omega)⟩)
  ·
    simp at q2
    (obtain rfl : bd = true := q2)
    (have hw3 : IntKind.i64.wrap ((p2 : Int) + 1) = ((p2 + 1 : Nat) : Int) := (by rw [wrap_of (by omega) (by omega)]; omega))
    refine VCsplit.intro (fun q16 => ?_) (fun q16 => ?_)
    ·
      simp at q16
      (have hw3 : IntKind.i64.wrap ((p2 : Int) + 1) = ((p2 + 1 : Nat) : Int) := (by rw [wrap_of (by omega) (by omega)]; omega))
      refine idx_rd (Gt.owrd _ oK) ?_ ?_ fun b17 o17 hb17 => ?_
      · trivial
      · omega
      refine load_allN 0 (0) rfl (Gt.owrd _ oK) ?_ ?_ hb17 rfl (mem_at 0 rfl) fun l18 hl18 => ?_
      · trivial
      · omega
      obtain ⟨rfl, hw18⟩ := hl18; simp only [flStr, flInt, okI] at hw18
      (have hE := AltsInv_bad hRI; exact ⟨_, sr_no (p' := p2) hE oA (by assumption) hp2 hpp (by omega), (.le fun a => by (try simp only [setR, List.cons_append, List.nil_append]); simp [List.count_cons, Blk.ent, idOf]; try omega)⟩)
    ·
      simp at q16
      (have hw3 : IntKind.i64.wrap ((p2 : Int) + 1) = ((p2 + 1 : Nat) : Int) := (by rw [wrap_of (by omega) (by omega)]; omega))
      refine callR_blk 0 (A ++ K) [H] rfl ?_ (srPut_ct _ _ _ _ _ _ _ _ _ _ _ oA oP ?_) trivial ?_
      · exact .le fun a => by (try simp only [setR, List.cons_append, List.nil_append]); simp only [List.flatten_append, List.flatten_cons, List.flatten_nil, List.count_append, List.count_nil, List.append_nil, List.nil_append]; omega
      · omega
      rintro _ A19 ⟨bg, cg, Ag, rfl, rfl, og⟩
      refine ⟨_, _, [Ag], rfl, perm1, ?_⟩
      (have hE := AltsInv_bad hRI; exact ⟨_, sr_no (p' := p2) hE og (by unfold okI; omega) hp2 hpp (by rw [List.length_append, List.length_singleton]; omega), (.le fun a => by (try simp only [setR, List.cons_append, List.nil_append]); simp [List.count_cons, Blk.ent, idOf]; try omega)⟩)
end Go.Proofs.YtcnclhjhnjpeiaaGreatDoor

namespace Go.Proofs.YtcnclhjhnjpeiaaGreatDoor
open Go.SX Go.Proofs
set_option linter.unusedSimpArgs false
set_option linter.unusedVariables false
set_option maxHeartbeats 4000000
attribute [local irreducible] IntKind.wrap
section
variable {t : ByteArray} {E : Nat → List Piece → Option PR} {p : Nat} {ps : List Piece}
theorem one_item (h : begins (byteAt t p) = true) : pOne t E p ps = pItem t E p ps := by unfold pOne; rw [if_pos h]
theorem one_no_end (h : t.size ≤ p) : pOne t E p ps = none := by unfold pOne; rw [byteAt_end h]; rfl
theorem one_no_char (h : ¬ (97 ≤ ((byteAt t p).toNat : Int) ∧ ((byteAt t p).toNat : Int) ≤ 100)) (h2 : ¬ ((byteAt t p).toNat : Int) = 40) : pOne t E p ps = none := by
  unfold pOne
  rw [if_neg]
  rw [begins_0 (by rw [← Bool.not_eq_true, labelOk_iff]; omega) h2]; simp
theorem one_lab (h : 97 ≤ ((byteAt t p).toNat : Int) ∧ ((byteAt t p).toNat : Int) ≤ 100) : pOne t E p ps = some (pPost t (t.size + 1) (ps.length : Nat) (p + 1) (ps ++ [⟨1, byteAt t p, []⟩])) := by
  rw [one_item (begins_1 (labelOk_iff.2 (by omega)))]
  exact item_step (by omega)
theorem one_par (h : ((byteAt t p).toNat : Int) = 40) (h1 : (E (p + 1) ps).isSome = true) (h2 : ((byteAt t (prP (E (p + 1) ps))).toNat : Int) = 41) : pOne t E p ps = some (pPost t (t.size + 1) (prK (E (p + 1) ps)) (prP (E (p + 1) ps) + 1) (prS (E (p + 1) ps))) := by
  rw [one_item (begins_2 h)]; exact item_par h h1 h2
theorem one_par_no (h : ((byteAt t p).toNat : Int) = 40) (h1 : (E (p + 1) ps).isSome = true) (h2 : ¬ ((byteAt t (prP (E (p + 1) ps))).toNat : Int) = 41) : pOne t E p ps = none := by
  rw [one_item (begins_2 h)]; exact item_par_no h h1 h2
theorem one_par_bad (h : ((byteAt t p).toNat : Int) = 40) (h1 : goodR sAlts t (E (p + 1) ps) = false) : pOne t E p ps = none := by
  cases hE : (E (p + 1) ps).isSome with
  | false => rw [one_item (begins_2 h)]; exact item_exp_no h (pr_none hE)
  | true =>
    refine one_par_no h hE fun h2 => ?_
    unfold goodR sAlts at h1
    rw [hE, decide_eq_true (show (byteAt t (prP (E (p + 1) ps))).toNat = 41 by omega)] at h1
    cases h1
theorem post_stop {f : Nat} {k : Int} (h : t.size ≤ p) : pPost t f k p ps = (k, p, ps) :=
  post_end (by rw [byteAt_end h]; decide) (by rw [byteAt_end h]; decide) (by rw [byteAt_end h]; decide)
theorem one_false (h : pOne t E p ps = none) : goodR sOne t (pOne t E p ps) = false := good_none h
theorem one_true {r : PR} (h : pOne t E p ps = some r) : goodR sOne t (pOne t E p ps) = true := by rw [good_one, h]; rfl
end
attribute [local irreducible] pItem pExpr pAlt pAlts pExprs pPost pOne prK prP prS goodR sAlts
theorem srOne_ct (t : ByteArray) (n : Nat) (ht : t.size ≤ 20) (hI : SrCt 173 sAlts (pExpr t n) t (fun p => p ≤ t.size ∧ t.size < n + p)) : SrCt 207 sOne (pOne t (pExpr t n)) t (fun p => p ≤ t.size ∧ t.size < n + 1 + p) := by
  intro q pi p ps b c A hpi hP hps hA
  obtain ⟨hpt, hn⟩ := hP
  subst hpi
  have hst := piece_leaf (op := 1) (lb := byteAt t p) (by unfold okI; omega)
  have hw : IntKind.i64.wrap ((p : Int) + 1) = ((p + 1 : Nat) : Int) := by (rw [wrap_of (by omega) (by omega)]; omega)
  refine CtR.introB G_ok [.p 0 0] [⟨q, [.string t, .int .i64 (p : Int), .bool false, .slice b ps.length c], 244⟩] [A] Tryz.func207 rfl rfl rfl rfl (by simp [SV.ok]) (by simp [Blk.ent]) fun E H hp => ?_
  refine draw G_ok mixed none (.q 0 (.q 1 (.q 2 (.q 3 (.q 4 (.q 5 (.q 6 (.q 7 (.q 8 (.q 9 (.q 10 (.q 11 (.q 12 (.q 13 (.q 14 (.q 15 (.nil))))))))))))))))) (by decide +kernel) ?_
  refine VCsplit.intro (fun q0 => ?_) (fun q0 => ?_)
  ·
    simp at q0
  ·
    simp at q0
    refine VCsplit.intro (fun q1 => ?_) (fun q1 => ?_)
    ·
      simp at q1
      exact ⟨_, sr_no (p' := p) (one_false (one_no_end (by omega))) hA (by unfold okI; omega) hpt (Nat.le_refl _) (Nat.le_refl _), (.le fun a => by (try simp only [setR, List.cons_append, List.nil_append]); simp [List.count_cons, Blk.ent, idOf]; try omega)⟩
    ·
      simp at q1
      refine draw G_ok mixed none (.q 0 (.q 1 (.q 2 (.q 3 (.q 4 (.q 5 (.q 6 (.q 7 (.q 8 (.q 9 (.nil))))))))))) (by decide +kernel) ?_
      refine VC.intro ?_ ?_
      · omega
      refine VCsplit.intro (fun q2 => ?_) (fun q2 => ?_)
      ·
        simp at q2
        simp only [byte_p] at q2
        refine VCsplit.intro (fun q3 => ?_) (fun q3 => ?_)
        ·
          simp at q3
          simp only [byte_p] at q3
          refine callR_blk 0 (A ++ []) [H] rfl ?_ (srPut_ct _ _ _ _ _ _ _ _ _ _ _ hA hst ?_) trivial ?_
          · exact .le fun a => by (try simp only [setR, List.cons_append, List.nil_append]); simp only [List.flatten_append, List.flatten_cons, List.flatten_nil, List.count_append, List.count_nil, List.append_nil, List.nil_append]; omega
          · omega
          rintro _ A4 ⟨bg, cg, Ag, rfl, rfl, og⟩
          refine ⟨_, _, [Ag], rfl, perm1, ?_⟩
          apply loop_mod (α := (Nat) × (Int) × (Nat) × (List Piece) × (Hp) × (Option Addr) × (Nat)) G_ok [100, 101, 102, 103, 104, 105, 106, 107, 108, 109, 5, 110, 111, 112, 113, 114, 115, 116, 117, 118, 120, 119, 122, 121, 124, 123, 125, 126, 127, 128, 129, 130, 131, 132, 133, 134, 135, 136, 137, 138, 139, 140, 4] (fun z => [(4, .v (.int .i64 z.2.1))]) (fun z => [⟨q, [Value.string t, .int .i64 (z.2.2.1 : Nat), .bool false, .slice z.2.2.2.2.2.1 z.2.2.2.1.length z.2.2.2.2.2.2], (244 : TypeId)⟩]) (fun z => [z.2.2.2.2.1, H]) (fun z => t.size - z.2.2.1) (fun z => some (pPost t z.1 z.2.1 z.2.2.1 z.2.2.2.1) = pOne t (pExpr t n) p ps ∧ t.size < z.1 + z.2.2.1 ∧ z.2.2.1 ≤ t.size ∧ p ≤ z.2.2.1 ∧ z.2.2.2.1.length + 2 * p ≤ ps.length + 2 * z.2.2.1 ∧ okI z.2.1 ∧ (gSl 279 gPiece).ow [.slice z.2.2.2.2.2.1 z.2.2.2.1.length z.2.2.2.2.2.2] z.2.2.2.1 z.2.2.2.2.1) ((t.size + 1, ((ps.length : Nat) : Int), p + 1, ps ++ [⟨1, byteAt t p, []⟩], Ag, bg, cg))
          · repeat' (first | exact trivial | refine ⟨⟨_, rfl, by first | rfl | exact inc_eq _ (by omega) | (refine sl_eq ?_; simp; done), by first | exact trivial | simp [SV.ok]⟩, ?_⟩)
          · ((rw [hw]); repeat' (first | exact trivial | refine ⟨by first | rfl | simp [Blk.ent], ?_⟩))
          · try dsimp only
            exact ⟨(one_lab (by omega)).symm, by omega, by omega, by omega, by rw [List.length_append, List.length_singleton]; omega, by unfold okI; omega, by assumption⟩
          · exact .refl _
          rintro ⟨f, k, p2, ps2, A, lb, lc⟩ hI
          obtain ⟨hf, hfu, hp2, hpp, hps2, hk, oA⟩ : some (pPost t f k p2 ps2) = pOne t (pExpr t n) p ps ∧ t.size < f + p2 ∧ p2 ≤ t.size ∧ p ≤ p2 ∧ ps2.length + 2 * p ≤ ps.length + 2 * p2 ∧ okI k ∧ (gSl 279 gPiece).ow [.slice lb ps2.length lc] ps2 A := hI
          try dsimp only
          refine draw G_ok mixed none (.q 0 (.q 1 (.q 2 (.q 3 (.q 4 (.q 5 (.q 6 (.q 7 (.q 8 (.q 9 (.nil))))))))))) (by decide +kernel) ?_
          refine VCsplit.intro (fun q5 => ?_) (fun q5 => ?_)
          ·
            simp at q5
            (have hw3 : IntKind.i64.wrap ((p2 : Int) + 1) = ((p2 + 1 : Nat) : Int) := (by rw [wrap_of (by omega) (by omega)]; omega))
            refine draw G_ok mixed none (.q 0 (.q 1 (.q 2 (.q 3 (.q 4 (.q 5 (.q 6 (.q 7 (.q 8 (.nil)))))))))) (by decide +kernel) ?_
            refine VC.intro ?_ ?_
            · omega
            refine VCsplit.intro (fun q6 => ?_) (fun q6 => ?_)
            ·
              simp at q6
              simp only [byte_p] at q6
              (have hw3 : IntKind.i64.wrap ((p2 : Int) + 1) = ((p2 + 1 : Nat) : Int) := (by rw [wrap_of (by omega) (by omega)]; omega))
              refine VCsplit.intro (fun q7 => ?_) (fun q7 => ?_)
              ·
                simp at q7
              ·
                simp at q7
                (have hw3 : IntKind.i64.wrap ((p2 : Int) + 1) = ((p2 + 1 : Nat) : Int) := (by rw [wrap_of (by omega) (by omega)]; omega))
                refine VCnew.intro fun x8 => ?_
                refine callR_blk 0 (A ++ [(x8, Obj.cells { toList := Value.int IntKind.i64 k :: [].append (zeros (nat_lit 0) [Value.int IntKind.i64 (0 : Int)]) } (3 : TypeId))]) [H] rfl ?_ (srPut_ct _ _ _ _ _ _ _ _ _ _ _ oA (by first | exact piece_lit (by unfold okI; omega) hk) ?_) trivial ?_
                · exact .le fun a => by (try simp only [setR, List.cons_append, List.nil_append]); simp only [List.flatten_append, List.flatten_cons, List.flatten_nil, List.count_append, List.count_nil, List.append_nil, List.nil_append]; omega
                · omega
                rintro _ A9 ⟨bg, cg, Ag, rfl, rfl, og⟩
                refine ⟨_, _, [Ag], rfl, perm1, ?_⟩
                apply loop_stepA (f - 1, ((ps2.length : Nat) : Int), p2 + 1, _, _, _, _)
                · exact .refl _
                · repeat' (first | exact trivial | refine ⟨⟨_, rfl, by first | rfl | exact inc_eq _ (by omega) | (refine sl_eq ?_; simp; done), by first | exact trivial | simp [SV.ok]⟩, ?_⟩)
                · ((rw [hw3]); repeat' (first | exact trivial | refine ⟨by first | rfl | simp [Blk.ent], ?_⟩))
                · try dsimp only
                  exact ⟨(congrArg some (post_go (by omega) (by omega))).symm.trans hf, by omega, by omega, by omega, by rw [List.length_append, List.length_singleton]; omega, by unfold okI; omega, by assumption⟩
                try dsimp only
                omega
            ·
              simp at q6
              simp only [byte_p] at q6
              (have hw3 : IntKind.i64.wrap ((p2 : Int) + 1) = ((p2 + 1 : Nat) : Int) := (by rw [wrap_of (by omega) (by omega)]; omega))
              refine VCsplit.intro (fun q10 => ?_) (fun q10 => ?_)
              ·
                simp at q10
                simp only [byte_p] at q10
                (have hw3 : IntKind.i64.wrap ((p2 : Int) + 1) = ((p2 + 1 : Nat) : Int) := (by rw [wrap_of (by omega) (by omega)]; omega))
                refine VCsplit.intro (fun q11 => ?_) (fun q11 => ?_)
                ·
                  simp at q11
                ·
                  simp at q11
                  (have hw3 : IntKind.i64.wrap ((p2 : Int) + 1) = ((p2 + 1 : Nat) : Int) := (by rw [wrap_of (by omega) (by omega)]; omega))
                  refine VCnew.intro fun x12 => ?_
                  refine callR_blk 0 (A ++ [(x12, Obj.cells { toList := Value.int IntKind.i64 k :: [].append (zeros (nat_lit 0) [Value.int IntKind.i64 (0 : Int)]) } (3 : TypeId))]) [H] rfl ?_ (srPut_ct _ _ _ _ _ _ _ _ _ _ _ oA (by first | exact piece_lit (by unfold okI; omega) hk) ?_) trivial ?_
                  · exact .le fun a => by (try simp only [setR, List.cons_append, List.nil_append]); simp only [List.flatten_append, List.flatten_cons, List.flatten_nil, List.count_append, List.count_nil, List.append_nil, List.nil_append]; omega
                  · omega
                  rintro _ A13 ⟨bg, cg, Ag, rfl, rfl, og⟩
                  refine ⟨_, _, [Ag], rfl, perm1, ?_⟩
                  apply loop_stepA (f - 1, ((ps2.length : Nat) : Int), p2 + 1, _, _, _, _)
                  · exact .refl _
                  · repeat' (first | exact trivial | refine ⟨⟨_, rfl, by first | rfl | exact inc_eq _ (by omega) | (refine sl_eq ?_; simp; done), by first | exact trivial | simp [SV.ok]⟩, ?_⟩)
                  · ((rw [hw3]); repeat' (first | exact trivial | refine ⟨by first | rfl | simp [Blk.ent], ?_⟩))
                  · try dsimp only
                    exact ⟨(congrArg some (post_go (by omega) (by omega))).symm.trans hf, by omega, by omega, by omega, by rw [List.length_append, List.length_singleton]; omega, by unfold okI; omega, by assumption⟩
                  try dsimp only
                  omega
              ·
                simp at q10
                simp only [byte_p] at q10
                (have hw3 : IntKind.i64.wrap ((p2 : Int) + 1) = ((p2 + 1 : Nat) : Int) := (by rw [wrap_of (by omega) (by omega)]; omega))
                refine VCsplit.intro (fun q14 => ?_) (fun q14 => ?_)
                ·
                  simp at q14
                  simp only [byte_p] at q14
                  (have hw3 : IntKind.i64.wrap ((p2 : Int) + 1) = ((p2 + 1 : Nat) : Int) := (by rw [wrap_of (by omega) (by omega)]; omega))
                  refine VCsplit.intro (fun q15 => ?_) (fun q15 => ?_)
                  ·
                    simp at q15
                  ·
                    simp at q15
                    (have hw3 : IntKind.i64.wrap ((p2 : Int) + 1) = ((p2 + 1 : Nat) : Int) := (by rw [wrap_of (by omega) (by omega)]; omega))
                    refine VCnew.intro fun x16 => ?_
                    refine callR_blk 0 (A ++ [(x16, Obj.cells { toList := Value.int IntKind.i64 k :: [].append (zeros (nat_lit 0) [Value.int IntKind.i64 (0 : Int)]) } (3 : TypeId))]) [H] rfl ?_ (srPut_ct _ _ _ _ _ _ _ _ _ _ _ oA (by first | exact piece_lit (by unfold okI; omega) hk) ?_) trivial ?_
                    · exact .le fun a => by (try simp only [setR, List.cons_append, List.nil_append]); simp only [List.flatten_append, List.flatten_cons, List.flatten_nil, List.count_append, List.count_nil, List.append_nil, List.nil_append]; omega
                    · omega
                    rintro _ A17 ⟨bg, cg, Ag, rfl, rfl, og⟩
                    refine ⟨_, _, [Ag], rfl, perm1, ?_⟩
                    apply loop_stepA (f - 1, ((ps2.length : Nat) : Int), p2 + 1, _, _, _, _)
                    · exact .refl _
                    · repeat' (first | exact trivial | refine ⟨⟨_, rfl, by first | rfl | exact inc_eq _ (by omega) | (refine sl_eq ?_; simp; done), by first | exact trivial | simp [SV.ok]⟩, ?_⟩)
                    · ((rw [hw3]); repeat' (first | exact trivial | refine ⟨by first | rfl | simp [Blk.ent], ?_⟩))
                    · try dsimp only
                      exact ⟨(congrArg some (post_go (by omega) (by omega))).symm.trans hf, by omega, by omega, by omega, by rw [List.length_append, List.length_singleton]; omega, by unfold okI; omega, by assumption⟩
                    try dsimp only
                    omega
                ·
                  simp at q14
                  simp only [byte_p] at q14
                  (have hw3 : IntKind.i64.wrap ((p2 : Int) + 1) = ((p2 + 1 : Nat) : Int) := (by rw [wrap_of (by omega) (by omega)]; omega))
                  refine VCsplit.intro (fun q18 => ?_) (fun q18 => ?_)
                  ·
                    simp at q18
                    (have hw3 : IntKind.i64.wrap ((p2 : Int) + 1) = ((p2 + 1 : Nat) : Int) := (by rw [wrap_of (by omega) (by omega)]; omega))
                    exact ⟨_, sr_yes (one_true hf.symm) (hf.symm.trans (congrArg some (post_end (by assumption) (by assumption) (by assumption)))) oA hk hp2 hpp hps2, (.le fun a => by (try simp only [setR, List.cons_append, List.nil_append]); simp [List.count_cons, Blk.ent, idOf]; try omega)⟩
                  ·
                    simp at q18
          ·
            simp at q5
            (have hw3 : IntKind.i64.wrap ((p2 : Int) + 1) = ((p2 + 1 : Nat) : Int) := (by rw [wrap_of (by omega) (by omega)]; omega))
            exact ⟨_, sr_yes (one_true hf.symm) (hf.symm.trans (congrArg some (post_stop (by omega)))) oA hk hp2 hpp hps2, (.le fun a => by (try simp only [setR, List.cons_append, List.nil_append]); simp [List.count_cons, Blk.ent, idOf]; try omega)⟩
        ·
          simp at q3
          simp only [byte_p] at q3
          refine VCsplit.intro (fun q19 => ?_) (fun q19 => ?_)
          ·
            simp at q19
            simp only [byte_p] at q19
            exfalso; omega
          ·
            simp at q19
            simp only [byte_p] at q19
            (rw [hw]; exact ⟨_, sr_no (p' := p + 1) (one_false (one_no_char (by omega) (by assumption))) hA (by unfold okI; omega) (by omega) (by omega) (by omega), (.le fun a => by (try simp only [setR, List.cons_append, List.nil_append]); simp [List.count_cons, Blk.ent, idOf]; try omega)⟩)
      ·
        simp at q2
        simp only [byte_p] at q2
        refine VCsplit.intro (fun q20 => ?_) (fun q20 => ?_)
        ·
          simp at q20
          simp only [byte_p] at q20
          refine callR_blk 0 (A) [H] rfl ?_ (hI _ _ (p + 1) _ _ _ _ hw ⟨?_, ?_⟩ ?_ hA) trivial ?_
          · exact .refl _
          · trivial
          · omega
          · omega
          rintro _ A21 ⟨kz, pz, sz, bdz, bz, cz, Az, rfl, rfl, oz, hgz, hz, hkz, hpz, hqz, hsz⟩
          refine ⟨_, _, [Az], rfl, perm1, ?_⟩
          refine draw G_ok mixed none (.q 0 (.q 1 (.q 2 (.q 3 (.q 4 (.q 5 (.q 6 (.q 7 (.q 8 (.q 9 (.q 10 (.q 11 (.q 12 (.q 13 (.q 14 (.q 15 (.q 16 (.q 17 (.q 18 (.q 19 (.q 20 (.q 21 (.q 22 (.q 23 (.q 24 (.q 25 (.q 26 (.q 27 (.nil))))))))))))))))))))))))))))) (by decide +kernel) ?_
          refine VCsplit.intro (fun q22 => ?_) (fun q22 => ?_)
          ·
            (obtain rfl : bdz = true := q22)
            exact ⟨_, sr_no (p' := pz) (one_false (one_par_bad (by assumption) (by simpa using hgz))) oz (by unfold okI; omega) hpz (by omega) (by omega), (.le fun a => by (try simp only [setR, List.cons_append, List.nil_append]); simp [List.count_cons, Blk.ent, idOf]; try omega)⟩
          ·
            (obtain rfl : bdz = false := q22; have hgd : goodR sAlts t (pExpr t n (p + 1) ps) = true := (by simpa using hgz); obtain ⟨e1, e2, e3⟩ := hz hgd; subst e1; subst e2; subst e3; have hr := expr_reads (n := n) (by omega) (good_is hgd); unfold ReadsR at hr)
            refine VCsplit.intro (fun q23 => ?_) (fun q23 => ?_)
            ·
              simp at q23
              exact ⟨_, sr_no (p' := prP (pExpr t n (p + 1) ps)) (one_false (one_par_no (by assumption) (good_is hgd) (by rw [byteAt_end (by omega)]; decide))) oz (by unfold okI; omega) hpz (by omega) (by omega), (.le fun a => by (try simp only [setR, List.cons_append, List.nil_append]); simp [List.count_cons, Blk.ent, idOf]; try omega)⟩
            ·
              simp at q23
              refine VC.intro ?_ ?_
              · omega
              refine VCsplit.intro (fun q24 => ?_) (fun q24 => ?_)
              ·
                simp at q24
                simp only [byte_p] at q24
                exact ⟨_, sr_no (p' := prP (pExpr t n (p + 1) ps)) (one_false (one_par_no (by assumption) (good_is hgd) (by assumption))) oz (by unfold okI; omega) hpz (by omega) (by omega), (.le fun a => by (try simp only [setR, List.cons_append, List.nil_append]); simp [List.count_cons, Blk.ent, idOf]; try omega)⟩
              ·
                simp at q24
                simp only [byte_p] at q24
                have hw2 : IntKind.i64.wrap ((prP (pExpr t n (p + 1) ps) : Int) + 1) = ((prP (pExpr t n (p + 1) ps) + 1 : Nat) : Int) := by (rw [wrap_of (by omega) (by omega)]; omega)
                have hit := one_par ‹((byteAt t p).toNat : Int) = 40› (good_is hgd) ‹((byteAt t (prP (pExpr t n (p + 1) ps))).toNat : Int) = 41›
                apply loop_mod (α := (Nat) × (Int) × (Nat) × (List Piece) × (Hp) × (Option Addr) × (Nat)) G_ok [100, 101, 102, 103, 104, 105, 106, 107, 108, 109, 5, 110, 111, 112, 113, 114, 115, 116, 117, 118, 120, 119, 122, 121, 124, 123, 125, 126, 127, 128, 129, 130, 131, 132, 133, 134, 135, 136, 137, 138, 139, 140, 4] (fun z => [(4, .v (.int .i64 z.2.1))]) (fun z => [⟨q, [Value.string t, .int .i64 (z.2.2.1 : Nat), .bool false, .slice z.2.2.2.2.2.1 z.2.2.2.1.length z.2.2.2.2.2.2], (244 : TypeId)⟩]) (fun z => [z.2.2.2.2.1, H]) (fun z => t.size - z.2.2.1) (fun z => some (pPost t z.1 z.2.1 z.2.2.1 z.2.2.2.1) = pOne t (pExpr t n) p ps ∧ t.size < z.1 + z.2.2.1 ∧ z.2.2.1 ≤ t.size ∧ p ≤ z.2.2.1 ∧ z.2.2.2.1.length + 2 * p ≤ ps.length + 2 * z.2.2.1 ∧ okI z.2.1 ∧ (gSl 279 gPiece).ow [.slice z.2.2.2.2.2.1 z.2.2.2.1.length z.2.2.2.2.2.2] z.2.2.2.1 z.2.2.2.2.1) ((t.size + 1, prK (pExpr t n (p + 1) ps), prP (pExpr t n (p + 1) ps) + 1, prS (pExpr t n (p + 1) ps), Az, bz, cz))
                · repeat' (first | exact trivial | refine ⟨⟨_, rfl, by first | rfl | exact inc_eq _ (by omega) | (refine sl_eq ?_; simp; done), by first | exact trivial | simp [SV.ok]⟩, ?_⟩)
                · ((rw [hw2]); repeat' (first | exact trivial | refine ⟨by first | rfl | simp [Blk.ent], ?_⟩))
                · try dsimp only
                  exact ⟨hit.symm, by omega, by omega, by omega, by omega, hkz, oz⟩
                · exact .refl _
                rintro ⟨f, k, p2, ps2, A, lb, lc⟩ hI
                obtain ⟨hf, hfu, hp2, hpp, hps2, hk, oA⟩ : some (pPost t f k p2 ps2) = pOne t (pExpr t n) p ps ∧ t.size < f + p2 ∧ p2 ≤ t.size ∧ p ≤ p2 ∧ ps2.length + 2 * p ≤ ps.length + 2 * p2 ∧ okI k ∧ (gSl 279 gPiece).ow [.slice lb ps2.length lc] ps2 A := hI
                try dsimp only
                refine draw G_ok mixed none (.q 0 (.q 1 (.q 2 (.q 3 (.q 4 (.q 5 (.q 6 (.q 7 (.q 8 (.q 9 (.nil))))))))))) (by decide +kernel) ?_
                refine VCsplit.intro (fun q25 => ?_) (fun q25 => ?_)
                ·
                  simp at q25
                  (have hw3 : IntKind.i64.wrap ((p2 : Int) + 1) = ((p2 + 1 : Nat) : Int) := (by rw [wrap_of (by omega) (by omega)]; omega))
                  refine draw G_ok mixed none (.q 0 (.q 1 (.q 2 (.q 3 (.q 4 (.q 5 (.q 6 (.q 7 (.q 8 (.nil)))))))))) (by decide +kernel) ?_
                  refine VC.intro ?_ ?_
                  · omega
                  refine VCsplit.intro (fun q26 => ?_) (fun q26 => ?_)
                  ·
                    simp at q26
                    simp only [byte_p] at q26
                    (have hw3 : IntKind.i64.wrap ((p2 : Int) + 1) = ((p2 + 1 : Nat) : Int) := (by rw [wrap_of (by omega) (by omega)]; omega))
                    refine VCsplit.intro (fun q27 => ?_) (fun q27 => ?_)
                    ·
                      simp at q27
                    ·
                      simp at q27
                      (have hw3 : IntKind.i64.wrap ((p2 : Int) + 1) = ((p2 + 1 : Nat) : Int) := (by rw [wrap_of (by omega) (by omega)]; omega))
                      refine VCnew.intro fun x28 => ?_
                      refine callR_blk 0 (A ++ [(x28, Obj.cells { toList := Value.int IntKind.i64 k :: [].append (zeros (nat_lit 0) [Value.int IntKind.i64 (0 : Int)]) } (3 : TypeId))]) [H] rfl ?_ (srPut_ct _ _ _ _ _ _ _ _ _ _ _ oA (by first | exact piece_lit (by unfold okI; omega) hk) ?_) trivial ?_
                      · exact .le fun a => by (try simp only [setR, List.cons_append, List.nil_append]); simp only [List.flatten_append, List.flatten_cons, List.flatten_nil, List.count_append, List.count_nil, List.append_nil, List.nil_append]; omega
                      · omega
                      rintro _ A29 ⟨bg, cg, Ag, rfl, rfl, og⟩
                      refine ⟨_, _, [Ag], rfl, perm1, ?_⟩
                      apply loop_stepA (f - 1, ((ps2.length : Nat) : Int), p2 + 1, _, _, _, _)
                      · exact .refl _
                      · repeat' (first | exact trivial | refine ⟨⟨_, rfl, by first | rfl | exact inc_eq _ (by omega) | (refine sl_eq ?_; simp; done), by first | exact trivial | simp [SV.ok]⟩, ?_⟩)
                      · ((rw [hw3]); repeat' (first | exact trivial | refine ⟨by first | rfl | simp [Blk.ent], ?_⟩))
                      · try dsimp only
                        exact ⟨(congrArg some (post_go (by omega) (by omega))).symm.trans hf, by omega, by omega, by omega, by rw [List.length_append, List.length_singleton]; omega, by unfold okI; omega, by assumption⟩
                      try dsimp only
                      omega
                  ·
                    simp at q26
                    simp only [byte_p] at q26
                    (have hw3 : IntKind.i64.wrap ((p2 : Int) + 1) = ((p2 + 1 : Nat) : Int) := (by rw [wrap_of (by omega) (by omega)]; omega))
                    refine VCsplit.intro (fun q30 => ?_) (fun q30 => ?_)
                    ·
                      simp at q30
                      simp only [byte_p] at q30
                      (have hw3 : IntKind.i64.wrap ((p2 : Int) + 1) = ((p2 + 1 : Nat) : Int) := (by rw [wrap_of (by omega) (by omega)]; omega))
                      refine VCsplit.intro (fun q31 => ?_) (fun q31 => ?_)
                      ·
                        simp at q31
                      ·
                        simp at q31
                        (have hw3 : IntKind.i64.wrap ((p2 : Int) + 1) = ((p2 + 1 : Nat) : Int) := (by rw [wrap_of (by omega) (by omega)]; omega))
                        refine VCnew.intro fun x32 => ?_
                        refine callR_blk 0 (A ++ [(x32, Obj.cells { toList := Value.int IntKind.i64 k :: [].append (zeros (nat_lit 0) [Value.int IntKind.i64 (0 : Int)]) } (3 : TypeId))]) [H] rfl ?_ (srPut_ct _ _ _ _ _ _ _ _ _ _ _ oA (by first | exact piece_lit (by unfold okI; omega) hk) ?_) trivial ?_
                        · exact .le fun a => by (try simp only [setR, List.cons_append, List.nil_append]); simp only [List.flatten_append, List.flatten_cons, List.flatten_nil, List.count_append, List.count_nil, List.append_nil, List.nil_append]; omega
                        · omega
                        rintro _ A33 ⟨bg, cg, Ag, rfl, rfl, og⟩
                        refine ⟨_, _, [Ag], rfl, perm1, ?_⟩
                        apply loop_stepA (f - 1, ((ps2.length : Nat) : Int), p2 + 1, _, _, _, _)
                        · exact .refl _
                        · repeat' (first | exact trivial | refine ⟨⟨_, rfl, by first | rfl | exact inc_eq _ (by omega) | (refine sl_eq ?_; simp; done), by first | exact trivial | simp [SV.ok]⟩, ?_⟩)
                        · ((rw [hw3]); repeat' (first | exact trivial | refine ⟨by first | rfl | simp [Blk.ent], ?_⟩))
                        · try dsimp only
                          exact ⟨(congrArg some (post_go (by omega) (by omega))).symm.trans hf, by omega, by omega, by omega, by rw [List.length_append, List.length_singleton]; omega, by unfold okI; omega, by assumption⟩
                        try dsimp only
                        omega
                    ·
                      simp at q30
                      simp only [byte_p] at q30
                      (have hw3 : IntKind.i64.wrap ((p2 : Int) + 1) = ((p2 + 1 : Nat) : Int) := (by rw [wrap_of (by omega) (by omega)]; omega))
                      refine VCsplit.intro (fun q34 => ?_) (fun q34 => ?_)
                      ·
                        simp at q34
                        simp only [byte_p] at q34
                        (have hw3 : IntKind.i64.wrap ((p2 : Int) + 1) = ((p2 + 1 : Nat) : Int) := (by rw [wrap_of (by omega) (by omega)]; omega))
                        refine VCsplit.intro (fun q35 => ?_) (fun q35 => ?_)
                        ·
                          simp at q35
                        ·
                          simp at q35
                          (have hw3 : IntKind.i64.wrap ((p2 : Int) + 1) = ((p2 + 1 : Nat) : Int) := (by rw [wrap_of (by omega) (by omega)]; omega))
                          refine VCnew.intro fun x36 => ?_
                          refine callR_blk 0 (A ++ [(x36, Obj.cells { toList := Value.int IntKind.i64 k :: [].append (zeros (nat_lit 0) [Value.int IntKind.i64 (0 : Int)]) } (3 : TypeId))]) [H] rfl ?_ (srPut_ct _ _ _ _ _ _ _ _ _ _ _ oA (by first | exact piece_lit (by unfold okI; omega) hk) ?_) trivial ?_
                          · exact .le fun a => by (try simp only [setR, List.cons_append, List.nil_append]); simp only [List.flatten_append, List.flatten_cons, List.flatten_nil, List.count_append, List.count_nil, List.append_nil, List.nil_append]; omega
                          · omega
                          rintro _ A37 ⟨bg, cg, Ag, rfl, rfl, og⟩
                          refine ⟨_, _, [Ag], rfl, perm1, ?_⟩
                          apply loop_stepA (f - 1, ((ps2.length : Nat) : Int), p2 + 1, _, _, _, _)
                          · exact .refl _
                          · repeat' (first | exact trivial | refine ⟨⟨_, rfl, by first | rfl | exact inc_eq _ (by omega) | (refine sl_eq ?_; simp; done), by first | exact trivial | simp [SV.ok]⟩, ?_⟩)
                          · ((rw [hw3]); repeat' (first | exact trivial | refine ⟨by first | rfl | simp [Blk.ent], ?_⟩))
                          · try dsimp only
                            exact ⟨(congrArg some (post_go (by omega) (by omega))).symm.trans hf, by omega, by omega, by omega, by rw [List.length_append, List.length_singleton]; omega, by unfold okI; omega, by assumption⟩
                          try dsimp only
                          omega
                      ·
                        simp at q34
                        simp only [byte_p] at q34
                        (have hw3 : IntKind.i64.wrap ((p2 : Int) + 1) = ((p2 + 1 : Nat) : Int) := (by rw [wrap_of (by omega) (by omega)]; omega))
                        refine VCsplit.intro (fun q38 => ?_) (fun q38 => ?_)
                        ·
                          simp at q38
                          (have hw3 : IntKind.i64.wrap ((p2 : Int) + 1) = ((p2 + 1 : Nat) : Int) := (by rw [wrap_of (by omega) (by omega)]; omega))
                          exact ⟨_, sr_yes (one_true hf.symm) (hf.symm.trans (congrArg some (post_end (by assumption) (by assumption) (by assumption)))) oA hk hp2 hpp hps2, (.le fun a => by (try simp only [setR, List.cons_append, List.nil_append]); simp [List.count_cons, Blk.ent, idOf]; try omega)⟩
                        ·
                          simp at q38
                ·
                  simp at q25
                  (have hw3 : IntKind.i64.wrap ((p2 : Int) + 1) = ((p2 + 1 : Nat) : Int) := (by rw [wrap_of (by omega) (by omega)]; omega))
                  exact ⟨_, sr_yes (one_true hf.symm) (hf.symm.trans (congrArg some (post_stop (by omega)))) oA hk hp2 hpp hps2, (.le fun a => by (try simp only [setR, List.cons_append, List.nil_append]); simp [List.count_cons, Blk.ent, idOf]; try omega)⟩
        ·
          simp at q20
          simp only [byte_p] at q20
          (rw [hw]; exact ⟨_, sr_no (p' := p + 1) (one_false (one_no_char (by omega) (by assumption))) hA (by unfold okI; omega) (by omega) (by omega) (by omega), (.le fun a => by (try simp only [setR, List.cons_append, List.nil_append]); simp [List.count_cons, Blk.ent, idOf]; try omega)⟩)
theorem sr_all (t : ByteArray) (ht : t.size ≤ 20) : ∀ n, SrCt 173 sAlts (pExpr t n) t (fun p => p ≤ t.size ∧ t.size < n + p)
  | 0 => by
    intro q pi p ps b c A _ hP
    have := hP.1; have := hP.2; omega
  | n + 1 => srAlts_ct t n ht (srRow_ct t n ht (srOne_ct t n ht (sr_all t ht n)))
theorem rpt_bad {t : ByteArray} (h0 : t.size ≤ 20) (h : goodR sAlts t (pExpr t (t.size + 1) 0 []) = false) : readPath t = none := by
  cases hE : (pExpr t (t.size + 1) 0 []).isSome with
  | false => exact rpt_no (pr_none hE)
  | true =>
    rw [rpt_at h0 hE]
    refine if_neg fun h1 => ?_
    unfold goodR at h
    rw [hE, h1.1, decide_eq_true (Nat.le_refl _)] at h
    simp at h
--@ct spec.ReadPath new specReadPath_ct _ ?_ | | obtain ⟨b#, c#, rfl, o#⟩ := o#
theorem specReadPath_ct (t : ByteArray) (hs : t.size ≤ 1152921504606846976) : Ct Tryz.prog 140 [.string t] [] (fun _ => True) (fun v A => ∃ b c, v = .tuple #[.agg ⟨[.slice b (rpPath t).pieces.length c]⟩, .bool (readPath t).isSome] ∧ (gSl 279 gPiece).ow [.slice b (rpPath t).pieces.length c] (rpPath t).pieces A) := by
  refine Ct.intro0 G_ok Tryz.func140 rfl rfl rfl fun E H hp => ?_
  refine VCnew.intro fun x0 => ?_
  refine VCsplit.intro (fun q1 => ?_) (fun q1 => ?_)
  ·
    simp at q1
    (obtain ⟨e1, e2⟩ := rpt_none (rpt_long (t := t) (by omega)); rw [e1, e2]; exact ⟨_, ⟨none, 0, rfl, sl_nil _ _ _⟩, (.le fun a => by (try simp only [setR, List.cons_append, List.nil_append]); simp [List.count_cons, Blk.ent, idOf]; try omega)⟩)
  ·
    simp at q1
    refine VCnew.intro fun x2 => ?_
    refine callR_blk 1 ([]) [H] rfl ?_ (sr_all t ?_ (t.size + 1) _ _ 0 [] _ _ _ rfl ⟨?_, ?_⟩ ?_ (sl_nil _ _ _)) trivial ?_
    · exact .refl _
    · omega
    · omega
    · omega
    · trivial
    rintro _ A3 ⟨kz, pz, sz, bdz, bz, cz, Az, rfl, rfl, oz, hgz, hz, hkz, hpz, hqz, hsz⟩
    refine ⟨_, _, [Az], rfl, perm1, ?_⟩
    refine VCnew.intro fun x4 => ?_
    refine VCsplit.intro (fun q5 => ?_) (fun q5 => ?_)
    ·
      (obtain rfl : bdz = true := q5)
      (obtain ⟨e1, e2⟩ := rpt_none (rpt_bad (t := t) (by omega) (by simpa using hgz)); rw [e1, e2]; exact ⟨[], ⟨none, 0, rfl, sl_nil _ _ _⟩, (.le fun a => by (try simp only [setR, List.cons_append, List.nil_append]); simp [List.count_cons, Blk.ent, idOf]; try omega)⟩)
    ·
      (obtain rfl : bdz = false := q5; have hgd : goodR sAlts t (pExpr t (t.size + 1) 0 []) = true := (by simpa using hgz); obtain ⟨e1, e2, e3⟩ := hz hgd; subst e1; subst e2; subst e3)
      refine VCsplit.intro (fun q6 => ?_) (fun q6 => ?_)
      ·
        simp at q6
        (obtain ⟨e1, e2⟩ := rpt_none ((rpt_at (by omega) (good_is hgd)).trans (if_neg (by omega))); rw [e1, e2]; exact ⟨[], ⟨none, 0, rfl, sl_nil _ _ _⟩, (.le fun a => by (try simp only [setR, List.cons_append, List.nil_append]); simp [List.count_cons, Blk.ent, idOf]; try omega)⟩)
      ·
        simp at q6
        have rP : gPath.rd Az [.slice bz (prS (pExpr t (t.size + 1) 0 [])).length cz] ⟨prS (pExpr t (t.size + 1) 0 [])⟩ := gPath_rd.2 ⟨bz, cz, rfl, Gt.owrd _ oz⟩
        refine call_val (specPathOk_ct _ ({ pieces := prS (pExpr t (t.size + (1 : Nat)) (0 : Nat) []) })) (Rp.mono _ (mem_at 0 rfl) rP) ?_
        rintro _ rfl
        refine VCsplit.intro (fun q8 => ?_) (fun q8 => ?_)
        ·
          simp at q8
          (obtain ⟨e1, e2⟩ := rpt_none ((rpt_at (by omega) (good_is hgd)).trans (if_neg (fun h => by (have h9 := ‹pathOk ⟨prS (pExpr t (t.size + 1) 0 [])⟩ = false›; rw [h.2] at h9; cases h9)))); rw [e1, e2]; exact ⟨[], ⟨none, 0, rfl, sl_nil _ _ _⟩, (.le fun a => by (try simp only [setR, List.cons_append, List.nil_append]); simp [List.count_cons, Blk.ent, idOf]; try omega)⟩)
        ·
          simp at q8
          (obtain ⟨e1, e2⟩ := rpt_some ((rpt_at (by omega) (good_is hgd)).trans (if_pos ⟨by omega, ‹pathOk ⟨prS (pExpr t (t.size + 1) 0 [])⟩ = true›⟩)); rw [e1, e2]; exact ⟨_, ⟨_, _, rfl, oz⟩, (.le fun a => by (try simp only [setR, List.cons_append, List.nil_append]); simp [List.count_cons, Blk.ent, idOf]; try omega)⟩)
end Go.Proofs.YtcnclhjhnjpeiaaGreatDoor

namespace Go.Proofs.YtcnclhjhnjpeiaaGreatDoor
open Go.SX Go.Proofs
set_option linter.unusedSimpArgs false
set_option linter.unusedVariables false
set_option maxHeartbeats 4000000
attribute [local irreducible] IntKind.wrap
theorem w64u (x : Int) : IntKind.u64.wrap x = x % 18446744073709551616 := by
  unfold IntKind.wrap; simp [IntKind.bits, IntKind.signed]
theorem bit_at {s k : Nat} (hs : s < 4294967296) (hk : k < 32) : IntKind.u32.wrap (((BitVec.ofInt IntKind.u32.bits (((s : Nat) : Int).fdiv (2 ^ min (IntKind.u64.wrap (k : Int)).toNat IntKind.u32.bits)) &&& BitVec.ofInt IntKind.u32.bits 1).toNat : Nat) : Int) = if s.testBit k = true then 1 else 0 := by
  have e1 : (IntKind.u64.wrap (k : Int)).toNat = k := by rw [w64u]; omega
  have e2 : (2 : Int) ^ min k IntKind.u32.bits = ((2 ^ k : Nat) : Int) := by
    rw [show min k IntKind.u32.bits = k from Nat.min_eq_left (by show k ≤ 32; omega)]; push_cast; rfl
  have e3 : ((s : Nat) : Int).fdiv ((2 ^ k : Nat) : Int) = ((s / 2 ^ k : Nat) : Int) := by
    rw [Int.fdiv_eq_ediv_of_nonneg _ (Int.natCast_nonneg _)]; rfl
  rw [e1, e2, e3, u32_wrap, Nat.testBit_eq_decide_div_mod_eq]
  have h1 : s / 2 ^ k ≤ s := Nat.div_le_self _ _
  generalize s / 2 ^ k = x at *
  show (((BitVec.ofInt 32 (x : Int) &&& BitVec.ofInt 32 ((1 : Nat) : Int)).toNat : Nat) : Int) % 4294967296 = _
  rw [show BitVec.ofInt 32 (x : Int) = BitVec.ofNat 32 x by simp, show BitVec.ofInt 32 ((1 : Nat) : Int) = BitVec.ofNat 32 1 by simp, BitVec.toNat_and, BitVec.toNat_ofNat, BitVec.toNat_ofNat, Nat.mod_eq_of_lt (show x < 2 ^ 32 by omega), show (1 : Nat) % 2 ^ 32 = 1 from rfl, Nat.and_one_is_mod]
  rcases Nat.mod_two_eq_zero_or_one x with h | h
  · rw [h]; simp
  rw [h]; simp
def bitsL (s : Nat) (n : Nat) : List Int := ((List.range n).filter fun i => s.testBit i).map fun i => ((i : Nat) : Int)
theorem bitsL_yes {s k : Nat} (h : s.testBit k = true) : bitsL s (k + 1) = bitsL s k ++ [((k : Nat) : Int)] := by
  unfold bitsL; rw [List.range_succ, List.filter_append, List.map_append, List.filter_cons_of_pos (by simpa using h)]; rfl
theorem bitsL_no {s k : Nat} (h : s.testBit k = false) : bitsL s (k + 1) = bitsL s k := by
  unfold bitsL; rw [List.range_succ, List.filter_append, List.map_append, List.filter_cons_of_neg (by simp [h])]; simp
theorem bitsL_len (s n : Nat) : (bitsL s n).length ≤ n := by
  unfold bitsL; rw [List.length_map]; exact Nat.le_trans (List.length_filter_le _ _) (by simp)
--@ct impl.bitsIn new bitsIn_ct _ ?_ | trivial | obtain ⟨b#, c#, rfl, o#⟩ := o#
theorem bitsIn_ct (s : Nat) (hs : s < 4294967296) : Ct Tryz.prog 213 [.int .u32 (s : Int)] [] (fun _ => True) (fun v A => ∃ b c, v = .slice b (bitsL s 32).length c ∧ (gSl 3 gI).ow [.slice b (bitsL s 32).length c] (bitsL s 32) A) := by
  refine Ct.intro0 G_ok Tryz.func213 rfl rfl rfl fun E H hp => ?_
  apply loop_mod (α := (Nat) × (Hp) × (Option Addr) × (Nat)) G_ok [6, 7, 4, 8, 9, 10, 11, 12, 13, 14, 15, 16, 17, 3, 18, 5] (fun z => [(5, .v (.int .i64 z.1)), (3, .v (.slice z.2.2.1 (bitsL s z.1).length z.2.2.2))]) (fun z => []) (fun z => [z.2.1, H]) (fun z => 32 - z.1) (fun z => z.1 ≤ 32 ∧ (gSl 3 gI).ow [.slice z.2.2.1 (bitsL s z.1).length z.2.2.2] (bitsL s z.1) z.2.1) ((0, [], none, 0))
  · repeat' (first | exact trivial | refine ⟨⟨_, rfl, by first | rfl | exact inc_eq _ (by omega) | (refine sl_eq ?_; simp; done) | (refine sl_eq ?_; rw [bitsL_yes (by assumption)]) | (refine sl_eq ?_; rw [bitsL_no (by assumption)]), by first | exact trivial | simp [SV.ok]⟩, ?_⟩)
  · exact trivial
  · try dsimp only
    exact ⟨by omega, sl_nil _ _ _⟩
  · exact .refl _
  rintro ⟨k, A, lb, lc⟩ hI
  obtain ⟨hk, oA⟩ : k ≤ 32 ∧ (gSl 3 gI).ow [.slice lb (bitsL s k).length lc] (bitsL s k) A := hI
  try dsimp only
  refine VCsplit.intro (fun q0 => ?_) (fun q0 => ?_)
  ·
    simp at q0
    refine VC.intro ?_ ?_
    · (rw [w64u]; omega)
    refine VCsplit.intro (fun q1 => ?_) (fun q1 => ?_)
    ·
      rw [bit_at hs (by omega)] at q1
      simp at q1
      refine VCnew.intro fun x2 => ?_
      refine gappend1 (g := gI) (T := (3 : TypeId)) G_ok A [] [H] ?_ oA (gI_ow ?_) (List.mem_of_getElem? (i := 0) rfl) rfl rfl rfl rfl rfl rfl rfl rfl ?_ fun b3 c3 A3 o3 => ?_
      · exact .tl
      · unfold okI; omega
      · (have := bitsL_len s k; omega)
      apply loop_stepA (k + 1, _, _, _)
      · exact .refl _
      · repeat' (first | exact trivial | refine ⟨⟨_, rfl, by first | rfl | exact inc_eq _ (by omega) | (refine sl_eq ?_; simp; done) | (refine sl_eq ?_; rw [bitsL_yes (by assumption)]) | (refine sl_eq ?_; rw [bitsL_no (by assumption)]), by first | exact trivial | simp [SV.ok]⟩, ?_⟩)
      · exact trivial
      · try dsimp only
        (rw [bitsL_yes (by assumption)]; exact ⟨by omega, by assumption⟩)
      try dsimp only
      omega
    ·
      rw [bit_at hs (by omega)] at q1
      simp at q1
      apply loop_stepA (k + 1, _, _, _)
      · exact .refl _
      · repeat' (first | exact trivial | refine ⟨⟨_, rfl, by first | rfl | exact inc_eq _ (by omega) | (refine sl_eq ?_; simp; done) | (refine sl_eq ?_; rw [bitsL_yes (by assumption)]) | (refine sl_eq ?_; rw [bitsL_no (by assumption)]), by first | exact trivial | simp [SV.ok]⟩, ?_⟩)
      · exact trivial
      · try dsimp only
        (rw [bitsL_no (by assumption)]; exact ⟨by omega, by assumption⟩)
      try dsimp only
      omega
  ·
    simp at q0
    (obtain rfl : k = 32 := (by omega); exact ⟨_, ⟨_, _, rfl, oA⟩, (.le fun a => by (try simp only [setR, List.cons_append, List.nil_append]); simp [List.count_cons, Blk.ent, idOf]; try omega)⟩)
end Go.Proofs.YtcnclhjhnjpeiaaGreatDoor

namespace Go.Proofs.YtcnclhjhnjpeiaaGreatDoor
open Go.SX Go.Proofs
set_option linter.unusedSimpArgs false
set_option linter.unusedVariables false
set_option maxHeartbeats 4000000
attribute [local irreducible] IntKind.wrap
def flU : Fl Nat := ⟨1, fun x => [.int .u32 (x : Int)], fun x => x < 4294967296, fun _ => rfl, fun _ => rfl, by omega⟩
def gU : Gt Nat := flU.gt fun _ => 0
theorem gU_ow {x : Nat} (h : x < 4294967296) : gU.ow [.int .u32 (x : Int)] x [] := ⟨rfl, h, rfl⟩
theorem gU_pl : ∀ l y A, gU.ow l y A → A = [] := fun _ _ _ h => h.2.2
theorem gU_st {z : Int} (h : 0 ≤ z ∧ z < 4294967296) : gU.ow [.int .u32 z] z.toNat [] := ⟨by rw [show flU.enc z.toNat = [.int .u32 ((z.toNat : Nat) : Int)] from rfl, Int.toNat_of_nonneg h.1], by show z.toNat < 4294967296; omega, rfl⟩
--@gt uint32 | gU | 0 | obtain ⟨rfl, hw#⟩ := hl#; simp only [flU] at hw# | 0 1 pr fldId | 1 | gU_ow (x := 0) ?_; gU_ow ?_
theorem or_u32 {a b : Nat} (ha : a < 4294967296) (hb : b < 4294967296) : IntKind.u32.wrap (((BitVec.ofInt IntKind.u32.bits ((a : Nat) : Int) ||| BitVec.ofInt IntKind.u32.bits ((b : Nat) : Int)).toNat : Nat) : Int) = ((a ||| b : Nat) : Int) := by
  rw [u32_wrap]
  show (((BitVec.ofInt 32 (a : Int) ||| BitVec.ofInt 32 (b : Int)).toNat : Nat) : Int) % 4294967296 = _
  rw [show BitVec.ofInt 32 (a : Int) = BitVec.ofNat 32 a by simp, show BitVec.ofInt 32 (b : Int) = BitVec.ofNat 32 b by simp, BitVec.toNat_or, BitVec.toNat_ofNat, BitVec.toNat_ofNat, Nat.mod_eq_of_lt (show a < 2 ^ 32 from ha), Nat.mod_eq_of_lt (show b < 2 ^ 32 from hb)]
  have := Nat.or_lt_two_pow (n := 32) (show a < 2 ^ 32 from ha) (show b < 2 ^ 32 from hb)
  omega
/-- the places of l may be followed by next -/
def orStep (next : Nat) (fo : List Nat) (i : Int) : List Nat := fo.set i.toNat ((fo[i.toNat]?.getD 0) ||| next)
def orL (fo : List Nat) (l : List Int) (next : Nat) : List Nat := l.foldl (orStep next) fo
def orAt (fo : List Nat) (last next : Nat) : List Nat := orL fo (bitsL last 32) next
theorem orL_len (next : Nat) : ∀ (l : List Int) (fo : List Nat), (orL fo l next).length = fo.length
  | [], _ => rfl
  | i :: l, fo => by
    show (orL (orStep next fo i) l next).length = _
    rw [orL_len next l, orStep, List.length_set]
theorem orL_next {fo : List Nat} {l : List Int} {next k : Nat} (hk : k < l.length) : orL fo (l.take (k + 1)) next = orStep next (orL fo (l.take k) next) (l[k]?.getD 0) := by
  unfold orL
  rw [← List.take_append_getElem hk, List.foldl_append, List.getElem?_eq_getElem hk]; rfl
theorem bitsL_at {s n : Nat} {i : Int} (h : i ∈ bitsL s n) : 0 ≤ i ∧ i < n ∧ s.testBit i.toNat = true := by
  unfold bitsL at h
  obtain ⟨j, hj, rfl⟩ := List.mem_map.1 h
  obtain ⟨h1, h2⟩ := List.mem_filter.1 hj
  have := List.mem_range.1 h1
  exact ⟨by omega, by omega, by simpa using h2⟩
theorem bit_lt {s n i : Nat} (hs : s < 2 ^ n) (h : s.testBit i = true) : i < n := by
  rcases Nat.lt_or_ge i n with h1 | h1
  · exact h1
  rw [Nat.testBit_lt_two_pow (Nat.lt_of_lt_of_le hs (Nat.pow_le_pow_right (by omega) h1))] at h; cases h
theorem bitsL_get {s n k : Nat} (hs : s < 2 ^ n) (hk : k < (bitsL s 32).length) : 0 ≤ ((bitsL s 32)[k]?.getD 0) ∧ ((bitsL s 32)[k]?.getD 0) < n := by
  rw [List.getElem?_eq_getElem hk]
  have h1 := bitsL_at (List.getElem_mem hk)
  have h2 := bit_lt hs h1.2.2
  simp only [Option.getD_some]
  omega
--@ct (*impl.positions).connect blk2s psConnect_ct _ _ _ _ _ _ _ _ _ !o ?_ ?_ ?_ |  | rintro _ A# ⟨bf, cf, Af, rfl, rfl, of'⟩ ;; refine ⟨_, _, [Af], rfl, perm1, ?_⟩
theorem psConnect_ct (q : Nat) (v0 v1 : Value) (b : Option Addr) (c : Nat) (fo : List Nat) (last next : Nat) (A : Hp) (hA : (gSl 301 gU).ow [.slice b fo.length c] fo A) (hn : next < 4294967296) (hl : last < 2 ^ fo.length) (hf : fo.length ≤ 32) :
    CtR Tryz.prog 227 [.pointer (some ⟨q, 0, none⟩), .int .u32 (last : Int), .int .u32 (next : Int)] ((q, Obj.cells ⟨[v0, v1, .slice b fo.length c]⟩ 300) :: A) (fun _ => True)
      (fun r D => ∃ b c A', r = .tuple #[] ∧ D = (q, Obj.cells ⟨[v0, v1, .slice b (orAt fo last next).length c]⟩ 300) :: A' ∧ (gSl 301 gU).ow [.slice b (orAt fo last next).length c] (orAt fo last next) A') := by
  have hl32 : last < 4294967296 := Nat.lt_of_lt_of_le hl (by have := Nat.pow_le_pow_right (n := 2) (by omega) hf; omega)
  refine CtR.introB G_ok [.p 0 0, .v (.int .u32 (last : Int)), .v (.int .u32 (next : Int))] [⟨q, [v0, v1, .slice b fo.length c], 300⟩] [A] Tryz.func227 rfl rfl rfl rfl (by simp [SV.ok]) (by simp [Blk.ent]) fun E H hp => ?_
  have hbl := bitsL_len last 32
  refine call_new (bitsIn_ct _ ?_) trivial ?_
  · trivial
  rintro v0 A0 o0
  obtain ⟨b0, c0, rfl, o0⟩ := o0
  apply loop_mod (α := (Nat) × (List Nat) × (Hp)) G_ok [12, 13, 14, 7, 15, 16, 17, 18, 19, 20, 21, 22, 23, 24, 25, 11] (fun z => [(11, .v (.int .i64 z.1))]) (fun z => [⟨q, [v0, v1, .slice b fo.length c], (300 : TypeId)⟩]) (fun z => [A0, z.2.2, H]) (fun z => (bitsL last 32).length - z.1) (fun z => z.1 ≤ (bitsL last 32).length ∧ z.2.1 = orL fo ((bitsL last 32).take z.1) next ∧ z.2.1.length = fo.length ∧ (gSl 301 gU).ow [.slice b fo.length c] z.2.1 z.2.2) ((0, fo, A))
  · repeat' (first | exact trivial | refine ⟨⟨_, rfl, by first | rfl | exact inc_eq _ (by omega) | (refine sl_eq ?_; simp; done), by first | exact trivial | simp [SV.ok]⟩, ?_⟩)
  · exact ⟨rfl, trivial⟩
  · try dsimp only
    exact ⟨Nat.zero_le _, rfl, rfl, hA⟩
  · exact .refl _
  rintro ⟨k, fs, A⟩ hI
  obtain ⟨hk, hfs, hfl, oA⟩ : k ≤ (bitsL last 32).length ∧ fs = orL fo ((bitsL last 32).take k) next ∧ fs.length = fo.length ∧ (gSl 301 gU).ow [.slice b fo.length c] fs A := hI
  try dsimp only
  refine VCsplit.intro (fun q1 => ?_) (fun q1 => ?_)
  ·
    simp at q1
    have hbg := bitsL_get hl (by omega : k < (bitsL last 32).length)
    refine idx_rd (Gt.owrd _ o0) ?_ ?_ fun b2 o2 hb2 => ?_
    · omega
    · omega
    refine load_allN 0 (k) rfl (Gt.owrd _ o0) ?_ ?_ hb2 rfl (mem_at 0 rfl) fun l3 hl3 => ?_
    · omega
    · omega
    obtain ⟨rfl, hw3⟩ := hl3; simp only [flStr, flInt, okI] at hw3
    refine idx_rd (Gt.owrd _ oA) ?_ ?_ fun b4 o4 hb4 => ?_
    · omega
    · omega
    refine load_all default (Gt.owrd _ oA) ?_ ?_ hb4 rfl (mem_at 1 rfl) fun l5 hl5 => ?_
    · omega
    · omega
    obtain ⟨rfl, hw5⟩ := hl5; simp only [flU] at hw5
    refine idx_rd (Gt.owrd _ oA) ?_ ?_ fun b6 o6 hb6 => ?_
    · omega
    · omega
    refine gstoreN (Fld.id _) default (Int.toNat ((bitsL last (32 : Nat))[k]?.getD (0 : Int))) 1 rfl (Int.toNat_of_nonneg ?_).symm oA ?_ ?_ hb6 rfl gU_pl _ (gU_st ?_) fun A7 o7 => ?_
    · omega
    · omega
    · omega
    · (rw [or_u32 (by omega) (by omega)]; have h9 := Nat.or_lt_two_pow (n := 32) (x := fs[((bitsL last 32)[k]?.getD 0).toNat]?.getD default) (y := next) (by omega) (by omega); omega)
    apply loop_stepA (k + 1, orStep next fs ((bitsL last 32)[k]?.getD 0), _)
    · exact .refl _
    · repeat' (first | exact trivial | refine ⟨⟨_, rfl, by first | rfl | exact inc_eq _ (by omega) | (refine sl_eq ?_; simp; done), by first | exact trivial | simp [SV.ok]⟩, ?_⟩)
    · exact ⟨rfl, trivial⟩
    · try dsimp only
      (have e9 := orL_next (fo := fo) (next := next) (k := k) (l := bitsL last 32) (by omega); exact ⟨by omega, by rw [e9, hfs], by unfold orStep; rw [List.length_set, hfl], by unfold orStep; rw [or_u32 (by omega) (by omega), Int.toNat_natCast] at *; assumption⟩)
    try dsimp only
    omega
  ·
    simp at q1
    (have hke : k = (bitsL last 32).length := (by omega); subst hke; rw [List.take_length] at hfs; have hle : (orAt fo last next).length = fo.length := orL_len _ _ _; rw [hle]; subst hfs; exact ⟨_, ⟨_, _, _, rfl, rfl, oA⟩, (.le fun a => by (try simp only [setR, List.cons_append, List.nil_append]); simp [List.count_cons, Blk.ent, idOf]; try omega)⟩)
end Go.Proofs.YtcnclhjhnjpeiaaGreatDoor

namespace Go.Proofs.YtcnclhjhnjpeiaaGreatDoor
open Go.SX Go.Proofs
set_option maxHeartbeats 1000000
structure Span where
  first : Nat
  last : Nat
  empty : Bool
deriving DecidableEq, Inhabited
/-- labels and what may follow -/
abbrev Pos := List UInt8 × List Nat
def rowStep (V : Nat → Pos → Pos × Span) (st : Pos × Span) (kid : Int) : Pos × Span :=
  (((V kid.toNat st.1).1.1, orAt (V kid.toNat st.1).1.2 st.2.last (V kid.toNat st.1).2.first), ⟨if st.2.empty = true then st.2.first ||| (V kid.toNat st.1).2.first else st.2.first, (if (V kid.toNat st.1).2.empty = true then st.2.last else 0) ||| (V kid.toNat st.1).2.last, st.2.empty && (V kid.toNat st.1).2.empty⟩)
def altStep (V : Nat → Pos → Pos × Span) (st : Pos × Span) (kid : Int) : Pos × Span :=
  ((V kid.toNat st.1).1, ⟨st.2.first ||| (V kid.toNat st.1).2.first, st.2.last ||| (V kid.toNat st.1).2.last, st.2.empty || (V kid.toNat st.1).2.empty⟩)
def oneStep (op : Int) (r : Pos × Span) : Pos × Span := ((r.1.1, if op = 6 then r.1.2 else orAt r.1.2 r.2.last r.2.first), ⟨r.2.first, r.2.last, r.2.empty || decide (op ≠ 5)⟩)
def visit (ps : List Piece) : Nat → Nat → Pos → Pos × Span
  | 0, _, s => (s, ⟨0, 0, false⟩)
  | n + 1, i, s =>
    if (ps[i]?.getD default).op = 1 then ((s.1 ++ [(ps[i]?.getD default).label], s.2 ++ [0]), ⟨2 ^ s.1.length, 2 ^ s.1.length, false⟩)
    else if (ps[i]?.getD default).op = 2 then (ps[i]?.getD default).kids.foldl (rowStep (visit ps n)) (s, ⟨0, 0, true⟩)
    else if (ps[i]?.getD default).op = 3 then (ps[i]?.getD default).kids.foldl (altStep (visit ps n)) (s, ⟨0, 0, false⟩)
    else oneStep (ps[i]?.getD default).op (visit ps n ((ps[i]?.getD default).kids[0]?.getD 0).toNat s)
def sumK (f : Nat → Nat) : List Int → Nat
  | [] => 0
  | k :: r => f k.toNat + sumK f r
/-- how many steps a piece has -/
def cntF (ps : List Piece) : Nat → Nat → Nat
  | 0, _ => 0
  | n + 1, i => if (ps[i]?.getD default).op = 1 then 1 else sumK (cntF ps n) (ps[i]?.getD default).kids
theorem sumK_take (f : Nat → Nat) : ∀ (l : List Int) (k : Nat), k < l.length → sumK f (l.take k) + f (l[k]?.getD 0).toNat ≤ sumK f l ∧ sumK f (l.take (k + 1)) = sumK f (l.take k) + f (l[k]?.getD 0).toNat
  | [], k, h => by simp at h
  | x :: l, 0, h => by simp [sumK]
  | x :: l, k + 1, h => by
    have ih := sumK_take f l k (by simpa using h)
    simp only [List.take_succ_cons, sumK, List.getElem?_cons_succ]
    omega
def Good (s : Pos) : Prop := s.1.length = s.2.length ∧ ∀ x ∈ s.2, x < 2 ^ s.1.length
/-- r has c more labels than s, and all is within them -/
def Fine (s : Pos) (c : Nat) (r : Pos × Span) : Prop := Good r.1 ∧ r.1.1.length = s.1.length + c ∧ r.2.first < 2 ^ r.1.1.length ∧ r.2.last < 2 ^ r.1.1.length
theorem pow_mono {a b : Nat} (h : a ≤ b) : 2 ^ a ≤ 2 ^ b := Nat.pow_le_pow_right (by omega) h
theorem orL_lt {next n : Nat} (hn : next < 2 ^ n) : ∀ (l : List Int) (fo : List Nat), (∀ x ∈ fo, x < 2 ^ n) → ∀ x ∈ orL fo l next, x < 2 ^ n
  | [], _, h => h
  | i :: l, fo, h => by
    show ∀ x ∈ orL (orStep next fo i) l next, x < 2 ^ n
    refine orL_lt hn l _ ?_
    intro x hx
    unfold orStep at hx
    rcases List.mem_or_eq_of_mem_set hx with h1 | h1
    · exact h x h1
    rw [h1]
    refine Nat.or_lt_two_pow ?_ hn
    rcases Nat.lt_or_ge i.toNat fo.length with h2 | h2
    · rw [List.getElem?_eq_getElem h2]; exact h _ (List.getElem_mem h2)
    rw [List.getElem?_eq_none h2]; exact Nat.two_pow_pos n
theorem orAt_good {lb : List UInt8} {fo : List Nat} {last next : Nat} (h : Good (lb, fo)) (hn : next < 2 ^ lb.length) : Good (lb, orAt fo last next) := by
  refine ⟨?_, orL_lt hn _ _ h.2⟩
  show lb.length = (orL fo _ next).length
  rw [orL_len]; exact h.1
theorem row_fine {s : Pos} {c d : Nat} {V : Nat → Pos → Pos × Span} {st : Pos × Span} {kid : Int} (h : Fine s c st) (hV : Fine st.1 d (V kid.toNat st.1)) : Fine s (c + d) (rowStep V st kid) := by
  obtain ⟨h1, h2, h3, h4⟩ := h
  obtain ⟨g1, g2, g3, g4⟩ := hV
  have hm := pow_mono (a := st.1.1.length) (b := (V kid.toNat st.1).1.1.length) (by omega)
  refine ⟨orAt_good g1 g3, by show (V kid.toNat st.1).1.1.length = _; omega, ?_, ?_⟩
  · show (if st.2.empty = true then _ else _) < 2 ^ (V kid.toNat st.1).1.1.length
    split
    · exact Nat.or_lt_two_pow (by omega) g3
    omega
  show (if (V kid.toNat st.1).2.empty = true then _ else _) ||| _ < 2 ^ (V kid.toNat st.1).1.1.length
  refine Nat.or_lt_two_pow ?_ g4
  split
  · omega
  exact Nat.two_pow_pos _
theorem alt_fine {s : Pos} {c d : Nat} {V : Nat → Pos → Pos × Span} {st : Pos × Span} {kid : Int} (h : Fine s c st) (hV : Fine st.1 d (V kid.toNat st.1)) : Fine s (c + d) (altStep V st kid) := by
  obtain ⟨h1, h2, h3, h4⟩ := h
  obtain ⟨g1, g2, g3, g4⟩ := hV
  have hm := pow_mono (a := st.1.1.length) (b := (V kid.toNat st.1).1.1.length) (by omega)
  refine ⟨g1, by show (V kid.toNat st.1).1.1.length = _; omega, ?_, ?_⟩
  · exact Nat.or_lt_two_pow (show st.2.first < 2 ^ (V kid.toNat st.1).1.1.length by omega) g3
  exact Nat.or_lt_two_pow (show st.2.last < 2 ^ (V kid.toNat st.1).1.1.length by omega) g4
theorem one_fine {s : Pos} {c : Nat} {op : Int} {r : Pos × Span} (h : Fine s c r) : Fine s c (oneStep op r) := by
  obtain ⟨h1, h2, h3, h4⟩ := h
  unfold oneStep
  refine ⟨?_, h2, h3, h4⟩
  split
  · exact h1
  exact orAt_good h1 h3
theorem fine_zero {s : Pos} {e : Bool} (h : Good s) : Fine s 0 (s, ⟨0, 0, e⟩) := ⟨h, by simp, Nat.two_pow_pos _, Nat.two_pow_pos _⟩
theorem good_step {s : Pos} {b : UInt8} (h : Good s) : Good (s.1 ++ [b], s.2 ++ [0]) := by
  refine ⟨by simp [h.1], ?_⟩
  intro x hx
  have hm := pow_mono (a := s.1.length) (b := s.1.length + 1) (by omega)
  show x < 2 ^ (s.1 ++ [b]).length
  rw [List.length_append, List.length_singleton]
  rcases List.mem_append.1 hx with h1 | h1
  · have := h.2 x h1; omega
  rw [List.mem_singleton.1 h1]; exact Nat.two_pow_pos _
/-- pieces whose kids are right -/
def PsOk (ps : List Piece) : Prop := ∀ i, i < ps.length → pieceOk (ps[i]?.getD default) i = true
theorem psOk_of {ps : List Piece} (h : pathOk ⟨ps⟩ = true) : PsOk ps := by
  unfold pathOk at h
  simp only [Bool.and_eq_true, decide_eq_true_iff] at h
  intro i hi
  exact allK_at h.2.2 i hi
theorem visit_fine (ps : List Piece) : ∀ (n i : Nat) (s : Pos), Good s → PsOk ps → i < ps.length → i < n → Fine s (cntF ps n i) (visit ps n i s)
  | 0, i, s, _, _, _, h => by omega
  | n + 1, i, s, hg, hp, hi, hn => by
    have hk := piece_iff.1 (hp i hi)
    have hkid : (ps[i]?.getD default).op ≠ 1 → ∀ k ∈ (ps[i]?.getD default).kids, k.toNat < i := by
      intro h1 k hk2
      have h3 : kidsOk (ps[i]?.getD default).kids i = true := by
        rcases hk with h | h | h
        · exact absurd h.1 h1
        · exact h.2.2.2
        exact h.2.2.2
      unfold kidsOk at h3
      have := inR_iff.1 (List.all_eq_true.1 h3 k hk2)
      omega
    have hfold : ∀ (S : Pos × Span → Int → Pos × Span), (∀ c st kid, kid.toNat < i → Fine s c st → Fine s (c + cntF ps n kid.toNat) (S st kid)) → ∀ (l : List Int), (∀ k ∈ l, k.toNat < i) → ∀ c st, Fine s c st → Fine s (c + sumK (cntF ps n) l) (l.foldl S st) := by
      intro S hS l
      induction l with
      | nil => intro _ c st h; exact h
      | cons k l ih =>
        intro hl c st h
        have := ih (fun k hk => hl k (List.mem_cons_of_mem _ hk)) (c + cntF ps n k.toNat) (S st k) (hS c st k (hl k (List.mem_cons_self ..)) h)
        rw [List.foldl_cons, show c + sumK (cntF ps n) (k :: l) = c + cntF ps n k.toNat + sumK (cntF ps n) l by simp only [sumK]; omega]
        exact this
    unfold visit cntF
    split
    · refine ⟨good_step hg, by simp, ?_, ?_⟩
      · show 2 ^ s.1.length < 2 ^ (s.1 ++ [_]).length
        rw [List.length_append, List.length_singleton]; exact Nat.pow_lt_pow_right (by omega) (by omega)
      show 2 ^ s.1.length < 2 ^ (s.1 ++ [_]).length
      rw [List.length_append, List.length_singleton]; exact Nat.pow_lt_pow_right (by omega) (by omega)
    rename_i h1
    split
    · have := hfold (rowStep (visit ps n)) (fun c st kid hk2 h => row_fine h (visit_fine ps n kid.toNat st.1 h.1 hp (by omega) (by omega))) _ (hkid h1) 0 _ (fine_zero (e := true) hg)
      rwa [Nat.zero_add] at this
    split
    · have := hfold (altStep (visit ps n)) (fun c st kid hk2 h => alt_fine h (visit_fine ps n kid.toNat st.1 h.1 hp (by omega) (by omega))) _ (hkid h1) 0 _ (fine_zero (e := false) hg)
      rwa [Nat.zero_add] at this
    rename_i h2 h3
    have h4 : (ps[i]?.getD default).kids.length = 1 := by
      rcases hk with h | h | h
      · exact absurd h.1 h1
      · omega
      exact h.2.2.1
    obtain ⟨k, hk1⟩ := List.length_eq_one_iff.1 h4
    have hlt := hkid h1 k (by rw [hk1]; exact List.mem_singleton.2 rfl)
    rw [hk1]
    show Fine s (cntF ps n k.toNat + 0) _
    exact one_fine (visit_fine ps n k.toNat s hg hp (by omega) (by omega))
end Go.Proofs.YtcnclhjhnjpeiaaGreatDoor

namespace Go.Proofs.YtcnclhjhnjpeiaaGreatDoor
open Go.SX Go.Proofs
set_option linter.unusedSimpArgs false
set_option linter.unusedVariables false
set_option maxHeartbeats 4000000
attribute [local irreducible] IntKind.wrap
theorem filtA_yes {α : Type} {p : α → Bool} {xs : List α} {k : Nat} (z : α) (h : k < xs.length) (hp : p (xs[k]?.getD z) = true) : (xs.take (k + 1)).filter p = (xs.take k).filter p ++ [xs[k]?.getD z] := by
  rw [List.getElem?_eq_getElem h] at hp ⊢
  rw [← List.take_append_getElem h, List.filter_append]
  simp only [Option.getD_some] at hp ⊢
  simp [hp]
theorem filtA_no {α : Type} {p : α → Bool} {xs : List α} {k : Nat} (z : α) (h : k < xs.length) (hp : p (xs[k]?.getD z) = false) : (xs.take (k + 1)).filter p = (xs.take k).filter p := by
  rw [List.getElem?_eq_getElem h] at hp
  rw [← List.take_append_getElem h, List.filter_append]
  simp only [Option.getD_some] at hp
  simp [hp]
def arcLess (a b : Arc) : Bool :=
  if a.from' = b.from' then (if a.label = b.label then decide (a.to < b.to) else decide ((a.label.toNat : Int) < (b.label.toNat : Int))) else decide (a.from' < b.from')
theorem arcLess_from {a b : Arc} (h : ¬ a.from' = b.from') : arcLess a b = decide (a.from' < b.from') := by unfold arcLess; rw [if_neg h]
theorem arcLess_label {a b : Arc} (h : a.from' = b.from') (h2 : ¬ a.label = b.label) : arcLess a b = decide ((a.label.toNat : Int) < (b.label.toNat : Int)) := by unfold arcLess; rw [if_pos h, if_neg h2]
theorem arcLess_to {a b : Arc} (h : a.from' = b.from') (h2 : a.label = b.label) : arcLess a b = decide (a.to < b.to) := by unfold arcLess; rw [if_pos h, if_pos h2]
/-- an arc put among arcs in order -/
def putA (xs : List Arc) (x : Arc) : List Arc := xs.filter (fun y => arcLess y x) ++ ([x] ++ xs.filter (fun y => arcLess x y))
--@ct spec.l07Less val l07Less_ct _ _ $1 $2 | ⟨%1, %2⟩
theorem l07Less_ct (l1 l2 : List Value) (a b : Arc) :
    Ct Tryz.prog 196 [.agg ⟨l1⟩, .agg ⟨l2⟩] [] (fun H => gArc.rd H l1 a ∧ gArc.rd H l2 b) (fun v A => v = .bool (arcLess a b) ∧ A = []) := by
  refine Ct.intro0 G_ok Tryz.func196 rfl rfl rfl fun E H hp => ?_
  obtain ⟨hp1, hp2⟩ := hp
  obtain ⟨rfl, w0p, w2p⟩ := gArc_rd.1 hp1
  obtain ⟨rfl, w0f, w2f⟩ := gArc_rd.1 hp2
  refine VCnew.intro fun x0 => ?_
  refine VCnew.intro fun x1 => ?_
  refine VCsplit.intro (fun q2 => ?_) (fun q2 => ?_)
  ·
    simp at q2
    exact ⟨[], ⟨by rw [arcLess_from ‹¬ a.from' = b.from'›], rfl⟩, (.le fun a => by (try simp only [setR, List.cons_append, List.nil_append]); simp only [List.flatten_append, List.flatten_cons, List.flatten_nil, List.count_append, List.count_nil, List.append_nil, List.nil_append]; omega)⟩
  ·
    simp at q2
    refine VCsplit.intro (fun q3 => ?_) (fun q3 => ?_)
    ·
      simp at q3
      simp only [str_inj, u8_inj, u8_wrap] at q3
      exact ⟨[], ⟨by rw [arcLess_label ‹a.from' = b.from'› ‹¬ a.label = b.label›], rfl⟩, (.le fun a => by (try simp only [setR, List.cons_append, List.nil_append]); simp only [List.flatten_append, List.flatten_cons, List.flatten_nil, List.count_append, List.count_nil, List.append_nil, List.nil_append]; omega)⟩
    ·
      simp at q3
      simp only [str_inj, u8_inj, u8_wrap] at q3
      exact ⟨[], ⟨by rw [arcLess_to ‹a.from' = b.from'› ‹a.label = b.label›], rfl⟩, (.le fun a => by (try simp only [setR, List.cons_append, List.nil_append]); simp only [List.flatten_append, List.flatten_cons, List.flatten_nil, List.count_append, List.count_nil, List.append_nil, List.nil_append]; omega)⟩
--@ct spec.l07Put new l07Put_ct _ _ _ _ $1 $2 ?_ | ⟨%1, %2⟩ | obtain ⟨b#, c#, rfl, o#⟩ := o#
theorem l07Put_ct (b : Option Addr) (m c : Nat) (l : List Value) (xs : List Arc) (e : Arc) (hm : xs.length ≤ 400000000) :
    Ct Tryz.prog 195 [.slice b m c, .agg ⟨l⟩] [] (fun H => (gSl 282 gArc).rd H [.slice b m c] xs ∧ gArc.rd H l e) (fun v A => ∃ b c, v = .slice b (putA xs e).length c ∧ (gSl 282 gArc).ow [.slice b (putA xs e).length c] (putA xs e) A) := by
  refine Ct.intro0 G_ok Tryz.func195 rfl rfl rfl fun E H hp => ?_
  obtain ⟨hp, hp2⟩ := hp
  obtain ⟨rfl, hcl, hl⟩ := sl_len hp
  obtain ⟨rfl, w0f, w2f⟩ := gArc_rd.1 hp2
  refine VCnew.intro fun x0 => ?_
  refine VCnew.intro fun x1 => ?_
  apply loop_mod (α := (Nat) × (List Arc) × (Hp) × (Option Addr) × (Nat)) G_ok [9, 10, 11, 12, 15, 16, 17, 18, 19, 20, 21, 22, 23, 24, 25, 26, 27, 5, 13, 14, 6] (fun z => [(6, .v (.int .i64 z.1)), (5, .v (.slice z.2.2.2.1 z.2.1.length z.2.2.2.2))]) (fun z => [{ id := x0, cs := [Value.int IntKind.i64 e.from', Value.int IntKind.u8 (↑e.label.toNat : Int), Value.int IntKind.i64 e.to], ty := (282 : Nat) }]) (fun z => [z.2.2.1, H]) (fun z => xs.length - z.1) (fun z => z.1 ≤ xs.length ∧ z.2.1 = (xs.take z.1).filter (fun x => arcLess x e) ∧ (gSl 282 gArc).ow [.slice z.2.2.2.1 z.2.1.length z.2.2.2.2] z.2.1 z.2.2.1) ((0, [], [], _, 0))
  · repeat' (first | exact trivial | refine ⟨⟨_, rfl, by first | rfl | exact inc_eq _ (by omega) | (refine sl_eq ?_; simp; done), by first | exact trivial | simp [SV.ok]⟩, ?_⟩)
  · exact ⟨rfl, trivial⟩
  · try dsimp only
    exact ⟨by omega, rfl, sl_nil _ _ _⟩
  · exact .tl
  rintro ⟨k, o, A, lb, lc⟩ hI
  obtain ⟨hk, ho, oA⟩ : k ≤ xs.length ∧ o = (xs.take k).filter (fun x => arcLess x e) ∧ (gSl 282 gArc).ow [.slice lb o.length lc] o A := hI
  try dsimp only
  refine VCsplit.intro (fun q2 => ?_) (fun q2 => ?_)
  ·
    simp at q2
    have hol : o.length ≤ k := by rw [ho]; exact Nat.le_trans (List.length_filter_le _ _) (by rw [List.length_take]; omega)
    refine draw G_ok mixed none (.q 0 (.q 1 (.q 2 (.q 3 (.q 4 (.f 5 (.nil))))))) (by decide +kernel) ?_
    refine idx_rd hp ?_ ?_ fun b3 o3 hb3 => ?_
    · omega
    · omega
    refine load_allN default (k) rfl hp ?_ ?_ hb3 rfl (mem_at 1 rfl) fun l4 hl4 => ?_
    · omega
    · omega
    obtain ⟨rfl, w0x4, w2x4⟩ := gArc_rd.1 hl4
    refine call_val (l07Less_ct _ _ (xs[k]?.getD default) (e)) ⟨(Rp.mono _ (mem_at 1 rfl) hl4), (Rp.mono _ (mem_at 1 rfl) hp2)⟩ ?_
    rintro _ rfl
    refine VC.intro ?_ ?_
    · exact fun _ h => h
    refine VCsplit.intro (fun q6 => ?_) (fun q6 => ?_)
    ·
      refine idx_rd hp ?_ ?_ fun b7 o7 hb7 => ?_
      · omega
      · omega
      refine load_allN default (k) rfl hp ?_ ?_ hb7 rfl (mem_at 1 rfl) fun l8 hl8 => ?_
      · omega
      · omega
      obtain ⟨rfl, w0x8, w2x8⟩ := gArc_rd.1 hl8
      refine VCnew.intro fun x9 => ?_
      refine gappend1 (g := gArc) (T := (282 : TypeId)) G_ok A _ [H] ?_ oA (gArc_own ‹_›) (List.mem_of_getElem? (i := 0) rfl) rfl rfl rfl rfl rfl rfl rfl rfl ?_ fun b10 c10 A10 o10 => ?_
      · exact .tl
      · omega
      apply loop_stepA (k + 1, _, _, _, _)
      · exact .refl _
      · repeat' (first | exact trivial | refine ⟨⟨_, rfl, by first | rfl | exact inc_eq _ (by omega) | (refine sl_eq ?_; simp; done), by first | exact trivial | simp [SV.ok]⟩, ?_⟩)
      · exact ⟨rfl, trivial⟩
      · try dsimp only
        exact ⟨by omega, by rw [ho, filtA_yes default (by omega) (by exact ‹arcLess _ _ = true›)], ‹_›⟩
      try dsimp only
      omega
    ·
      apply loop_stepA (k + 1, _, _, _, _)
      · exact .refl _
      · repeat' (first | exact trivial | refine ⟨⟨_, rfl, by first | rfl | exact inc_eq _ (by omega) | (refine sl_eq ?_; simp; done), by first | exact trivial | simp [SV.ok]⟩, ?_⟩)
      · exact ⟨rfl, trivial⟩
      · try dsimp only
        exact ⟨by omega, by rw [ho, filtA_no default (by omega) (by exact ‹arcLess _ _ = false›)], ‹_›⟩
      try dsimp only
      omega
  ·
    simp at q2
    obtain rfl : k = xs.length := by omega
    rw [List.take_length] at ho
    have hol : o.length ≤ xs.length := by rw [ho]; exact List.length_filter_le _ _
    refine VCnew.intro fun x11 => ?_
    refine gappend1 (g := gArc) (T := (282 : TypeId)) G_ok A _ [H] ?_ oA (gArc_own ‹_›) (List.mem_of_getElem? (i := 0) rfl) rfl rfl rfl rfl rfl rfl rfl rfl ?_ fun b12 c12 A12 o12 => ?_
    · exact .tl
    · omega
    apply loop_mod (α := (Nat) × (List Arc) × (Hp) × (Option Addr) × (Nat)) G_ok [32, 33, 34, 35, 38, 39, 40, 41, 42, 43, 44, 45, 46, 47, 48, 49, 50, 5, 36, 37, 7] (fun z => [(7, .v (.int .i64 z.1)), (5, .v (.slice z.2.2.2.1 z.2.1.length z.2.2.2.2))]) (fun z => [{ id := x0, cs := [Value.int IntKind.i64 e.from', Value.int IntKind.u8 (↑e.label.toNat : Int), Value.int IntKind.i64 e.to], ty := (282 : Nat) }]) (fun z => [z.2.2.1, H]) (fun z => xs.length - z.1) (fun z => z.1 ≤ xs.length ∧ z.2.1 = xs.filter (fun x => arcLess x e) ++ ([e] ++ (xs.take z.1).filter (fun x => arcLess e x)) ∧ (gSl 282 gArc).ow [.slice z.2.2.2.1 z.2.1.length z.2.2.2.2] z.2.1 z.2.2.1) ((0, _, _, _, _))
    · repeat' (first | exact trivial | refine ⟨⟨_, rfl, by first | rfl | exact inc_eq _ (by omega) | (refine sl_eq ?_; simp; done), by first | exact trivial | simp [SV.ok]⟩, ?_⟩)
    · exact ⟨rfl, trivial⟩
    · try dsimp only
      exact ⟨by omega, by rw [ho]; simp, ‹_›⟩
    · exact .refl _
    rintro ⟨k, o, A, lb, lc⟩ hI
    obtain ⟨hk, ho, oA⟩ : k ≤ xs.length ∧ o = xs.filter (fun x => arcLess x e) ++ ([e] ++ (xs.take k).filter (fun x => arcLess e x)) ∧ (gSl 282 gArc).ow [.slice lb o.length lc] o A := hI
    try dsimp only
    refine VCsplit.intro (fun q13 => ?_) (fun q13 => ?_)
    ·
      simp at q13
      have hol : o.length ≤ 2 * xs.length + 1 := by (rw [ho]; have h1 := List.length_filter_le (fun x => arcLess x e) xs; have h2 := List.length_filter_le (fun x => arcLess e x) (xs.take k); rw [List.length_take] at h2; simp only [List.length_append, List.length_cons, List.length_nil]; omega)
      refine draw G_ok mixed none (.q 0 (.q 1 (.q 2 (.q 3 (.q 4 (.f 5 (.nil))))))) (by decide +kernel) ?_
      refine idx_rd hp ?_ ?_ fun b14 o14 hb14 => ?_
      · omega
      · omega
      refine load_allN default (k) rfl hp ?_ ?_ hb14 rfl (mem_at 1 rfl) fun l15 hl15 => ?_
      · omega
      · omega
      obtain ⟨rfl, w0x15, w2x15⟩ := gArc_rd.1 hl15
      refine call_val (l07Less_ct _ _ (e) (xs[k]?.getD default)) ⟨(Rp.mono _ (mem_at 1 rfl) hp2), (Rp.mono _ (mem_at 1 rfl) hl15)⟩ ?_
      rintro _ rfl
      refine VC.intro ?_ ?_
      · exact fun _ h => h
      refine VCsplit.intro (fun q17 => ?_) (fun q17 => ?_)
      ·
        refine idx_rd hp ?_ ?_ fun b18 o18 hb18 => ?_
        · omega
        · omega
        refine load_allN default (k) rfl hp ?_ ?_ hb18 rfl (mem_at 1 rfl) fun l19 hl19 => ?_
        · omega
        · omega
        obtain ⟨rfl, w0x19, w2x19⟩ := gArc_rd.1 hl19
        refine VCnew.intro fun x20 => ?_
        refine gappend1 (g := gArc) (T := (282 : TypeId)) G_ok A _ [H] ?_ oA (gArc_own ‹_›) (List.mem_of_getElem? (i := 0) rfl) rfl rfl rfl rfl rfl rfl rfl rfl ?_ fun b21 c21 A21 o21 => ?_
        · exact .tl
        · omega
        apply loop_stepA (k + 1, _, _, _, _)
        · exact .refl _
        · repeat' (first | exact trivial | refine ⟨⟨_, rfl, by first | rfl | exact inc_eq _ (by omega) | (refine sl_eq ?_; simp; done), by first | exact trivial | simp [SV.ok]⟩, ?_⟩)
        · exact ⟨rfl, trivial⟩
        · try dsimp only
          exact ⟨by omega, by rw [ho, filtA_yes default (by omega) (by exact ‹arcLess _ _ = true›)]; simp, ‹_›⟩
        try dsimp only
        omega
      ·
        apply loop_stepA (k + 1, _, _, _, _)
        · exact .refl _
        · repeat' (first | exact trivial | refine ⟨⟨_, rfl, by first | rfl | exact inc_eq _ (by omega) | (refine sl_eq ?_; simp; done), by first | exact trivial | simp [SV.ok]⟩, ?_⟩)
        · exact ⟨rfl, trivial⟩
        · try dsimp only
          exact ⟨by omega, by rw [ho, filtA_no default (by omega) (by exact ‹arcLess _ _ = false›)], ‹_›⟩
        try dsimp only
        omega
    ·
      simp at q13
      (have hke : k = xs.length := (by omega); subst hke; rw [List.take_length] at ho; subst ho; exact ⟨_, ⟨_, _, rfl, by assumption⟩, (.le fun a => by (try simp only [setR, List.cons_append, List.nil_append]); simp [List.count_cons, Blk.ent, idOf]; try omega)⟩)
/-! valid automata -/
def arcOk (a : Nfa) (i : Nat) : Bool :=
  inR 0 (a.states - 1) (a.arcs[i]?.getD default).from' && (inR 0 (a.states - 1) (a.arcs[i]?.getD default).to && (labelOk (a.arcs[i]?.getD default).label && (decide (i = 0) || arcLess (a.arcs[i - 1]?.getD default) (a.arcs[i]?.getD default))))
def nfaOk (a : Nfa) : Bool := inR 1 24 a.states && (decide ((a.ends.length : Int) = a.states) && allK (arcOk a) a.arcs.length)
theorem nfaOk_no {a : Nfa} {k : Nat} (h1 : k < a.arcs.length) (h : arcOk a k = false) : nfaOk a = false := by unfold nfaOk; rw [allK_no h _ h1]; simp
theorem nfaOk_yes {a : Nfa} (h : 1 ≤ a.states ∧ a.states ≤ 24) (h1 : (a.ends.length : Int) = a.states) (h2 : allK (arcOk a) a.arcs.length = true) : nfaOk a = true := by unfold nfaOk; rw [inR_iff.2 h, decide_eq_true h1, h2]; rfl
theorem arcOk_no4 {a : Nfa} {i : Nat} (h0 : ¬ i = 0) (h : arcLess (a.arcs[i - 1]?.getD default) (a.arcs[i]?.getD default) = false) : arcOk a i = false := by unfold arcOk; rw [h, decide_eq_false h0]; simp
theorem arcOk_no3 {a : Nfa} {i : Nat} (h : ¬ (97 ≤ ((a.arcs[i]?.getD default).label.toNat : Int) ∧ ((a.arcs[i]?.getD default).label.toNat : Int) ≤ 100)) : arcOk a i = false := by
  unfold arcOk labelOk; rcases Classical.not_and_iff_not_or_not.1 h with h | h <;> (rw [decide_eq_false h]; simp)
theorem arcOk_no2 {a : Nfa} {i : Nat} (h : inR 0 (a.states - 1) (a.arcs[i]?.getD default).to = false) : arcOk a i = false := by unfold arcOk; rw [h]; simp
theorem arcOk_no1 {a : Nfa} {i : Nat} (h : inR 0 (a.states - 1) (a.arcs[i]?.getD default).from' = false) : arcOk a i = false := by unfold arcOk; rw [h]; simp
theorem arcOk_yes {a : Nfa} {i : Nat} (h1 : inR 0 (a.states - 1) (a.arcs[i]?.getD default).from' = true) (h2 : inR 0 (a.states - 1) (a.arcs[i]?.getD default).to = true) (h3 : 97 ≤ ((a.arcs[i]?.getD default).label.toNat : Int)) (h4 : ((a.arcs[i]?.getD default).label.toNat : Int) ≤ 100) (h5 : i = 0 ∨ arcLess (a.arcs[i - 1]?.getD default) (a.arcs[i]?.getD default) = true) : arcOk a i = true := by
  unfold arcOk labelOk; rw [h1, h2, decide_eq_true h3, decide_eq_true h4]
  rcases h5 with h | h
  · rw [decide_eq_true h]; rfl
  rw [h]; simp
--@ct spec.NfaOk val specNfaOk_ct _ $1 | %1
theorem specNfaOk_ct (l : List Value) (a : Nfa) : Ct Tryz.prog 177 [.agg ⟨l⟩] [] (fun H => gNfa.rd H l a) (fun v A => v = .bool (nfaOk a) ∧ A = []) := by
  refine Ct.intro0 G_ok Tryz.func177 rfl rfl rfl fun E H hp => ?_
  obtain ⟨b1p, c1p, b2p, c2p, rfl, w0p, h1p, h2p⟩ := gNfa_rd.1 hp
  have hl1 := (rd_len (xs := a.arcs) h1p).2
  refine VCnew.intro fun x0 => ?_
  refine call_val (l01In_ct _ _ _) trivial ?_
  rintro _ rfl
  refine VCsplit.intro (fun q2 => ?_) (fun q2 => ?_)
  ·
    simp at q2
    exact ⟨[], ⟨by unfold nfaOk; rw [‹inR 1 24 a.states = false›]; rfl, rfl⟩, (.le fun a => by (try simp only [setR, List.cons_append, List.nil_append]); simp only [List.flatten_append, List.flatten_cons, List.flatten_nil, List.count_append, List.count_nil, List.append_nil, List.nil_append]; omega)⟩
  ·
    simp at q2
    have iq2 := inR_iff.1 q2
    refine VCsplit.intro (fun q3 => ?_) (fun q3 => ?_)
    ·
      simp at q3
      exact ⟨[], ⟨by unfold nfaOk; rw [decide_eq_false (by omega : ¬ (a.ends.length : Int) = a.states)]; simp, rfl⟩, (.le fun a => by (try simp only [setR, List.cons_append, List.nil_append]); simp only [List.flatten_append, List.flatten_cons, List.flatten_nil, List.count_append, List.count_nil, List.append_nil, List.nil_append]; omega)⟩
    ·
      simp at q3
      apply loop_mod (α := (Nat)) G_ok [17, 18, 19, 20, 21, 24, 25, 26, 27, 28, 4, 29, 30, 31, 32, 33, 34, 35, 36, 37, 38, 39, 40, 41, 42, 43, 44, 45, 46, 47, 48, 49, 50, 51, 52, 53, 54, 55, 56, 57, 58, 59, 60, 61, 62, 63, 64, 65, 66, 67, 68, 69, 2, 22, 23, 3] (fun z => [(3, .v (.int .i64 z))]) (fun z => [{ id := x0, cs := [Value.int IntKind.i64 a.states, Value.slice b1p a.arcs.length c1p, Value.slice b2p a.ends.length c2p], ty := (212 : Nat) }]) (fun z => [H]) (fun z => a.arcs.length - z) (fun z => z ≤ a.arcs.length ∧ allK (arcOk a) z = true) (0)
      · repeat' (first | exact trivial | refine ⟨⟨_, rfl, by first | rfl | exact inc_eq _ (by omega) | (refine sl_eq ?_; simp; done), by first | exact trivial | simp [SV.ok]⟩, ?_⟩)
      · exact ⟨rfl, trivial⟩
      · exact ⟨by omega, rfl⟩
      · exact .refl _
      rintro k hI
      obtain ⟨hk, ha⟩ : k ≤ a.arcs.length ∧ allK (arcOk a) k = true := hI
      try dsimp only
      refine VCsplit.intro (fun q4 => ?_) (fun q4 => ?_)
      ·
        simp at q4
        refine idx_rd h1p ?_ ?_ fun b5 o5 hb5 => ?_
        · omega
        · omega
        refine load_allN default (k) rfl h1p ?_ ?_ hb5 rfl (mem_at 0 rfl) fun l6 hl6 => ?_
        · omega
        · omega
        obtain ⟨rfl, w0x6, w2x6⟩ := gArc_rd.1 hl6
        refine VCnew.intro fun x7 => ?_
        refine draw G_ok mixed none (.q 0 (.q 1 (.q 2 (.q 3 (.q 4 (.f 5 (.q 6 (.q 7 (.q 8 (.q 9 (.q 10 (.q 11 (.q 12 (.f 13 (.q 14 (.q 15 (.q 16 (.q 17 (.q 18 (.q 19 (.q 20 (.q 21 (.q 22 (.q 23 (.q 24 (.q 25 (.q 26 (.q 27 (.q 28 (.q 29 (.q 30 (.q 31 (.q 32 (.q 33 (.q 34 (.q 35 (.q 36 (.f 37 (.q 38 (.q 39 (.q 40 (.nil)))))))))))))))))))))))))))))))))))))))))) (by decide +kernel) ?_
        refine call_val (l01In_ct _ _ _) trivial ?_
        rintro _ rfl
        refine VC.intro ?_ ?_
        · exact fun _ h => h
        refine VCsplit.intro (fun q9 => ?_) (fun q9 => ?_)
        ·
          simp at q9
          simp (disch := omega) only [wrap_of] at q9
          exact ⟨[], ⟨by rw [nfaOk_no (k := k) (by omega) (arcOk_no1 (by assumption))], rfl⟩, (.le fun a => by (try simp only [setR, List.cons_append, List.nil_append]); simp only [List.flatten_append, List.flatten_cons, List.flatten_nil, List.count_append, List.count_nil, List.append_nil, List.nil_append]; omega)⟩
        ·
          simp at q9
          simp (disch := omega) only [wrap_of] at q9
          have iq9 := inR_iff.1 q9
          refine call_val (l01In_ct _ _ _) trivial ?_
          rintro _ rfl
          refine VC.intro ?_ ?_
          · exact fun _ h => h
          refine VCsplit.intro (fun q11 => ?_) (fun q11 => ?_)
          ·
            simp at q11
            simp (disch := omega) only [wrap_of] at q11
            exact ⟨[], ⟨by rw [nfaOk_no (k := k) (by omega) (arcOk_no2 (by assumption))], rfl⟩, (.le fun a => by (try simp only [setR, List.cons_append, List.nil_append]); simp only [List.flatten_append, List.flatten_cons, List.flatten_nil, List.count_append, List.count_nil, List.append_nil, List.nil_append]; omega)⟩
          ·
            simp at q11
            simp (disch := omega) only [wrap_of] at q11
            have iq11 := inR_iff.1 q11
            refine VCsplit.intro (fun q12 => ?_) (fun q12 => ?_)
            ·
              simp at q12
              exact ⟨[], ⟨by rw [nfaOk_no (k := k) (by omega) (arcOk_no3 (by omega))], rfl⟩, (.le fun a => by (try simp only [setR, List.cons_append, List.nil_append]); simp only [List.flatten_append, List.flatten_cons, List.flatten_nil, List.count_append, List.count_nil, List.append_nil, List.nil_append]; omega)⟩
            ·
              simp at q12
              refine VCsplit.intro (fun q13 => ?_) (fun q13 => ?_)
              ·
                simp at q13
                exact ⟨[], ⟨by rw [nfaOk_no (k := k) (by omega) (arcOk_no3 (by omega))], rfl⟩, (.le fun a => by (try simp only [setR, List.cons_append, List.nil_append]); simp only [List.flatten_append, List.flatten_cons, List.flatten_nil, List.count_append, List.count_nil, List.append_nil, List.nil_append]; omega)⟩
              ·
                simp at q13
                refine VCsplit.intro (fun q14 => ?_) (fun q14 => ?_)
                ·
                  simp at q14
                  refine idx_rd h1p ?_ ?_ fun b15 o15 hb15 => ?_
                  · (simp (disch := omega) only [wrap_of]; omega)
                  · (simp (disch := omega) only [wrap_of]; omega)
                  refine load_all default h1p ?_ ?_ hb15 rfl (mem_at 0 rfl) fun l16 hl16 => ?_
                  · (simp (disch := omega) only [wrap_of]; omega)
                  · (simp (disch := omega) only [wrap_of]; omega)
                  rw [show (IntKind.i64.wrap ((k : Int) - 1)).toNat = k - 1 by (simp (disch := omega) only [wrap_of]; omega)] at hl16
                  obtain ⟨rfl, w0x16, w2x16⟩ := gArc_rd.1 hl16
                  refine call_val (l07Less_ct _ _ (a.arcs[k - (1 : Nat)]?.getD default) (a.arcs[k]?.getD default)) ⟨(Rp.mono _ (mem_at 0 rfl) hl16), (Rp.mono _ (mem_at 0 rfl) hl6)⟩ ?_
                  rintro _ rfl
                  refine VC.intro ?_ ?_
                  · exact fun _ h => h
                  refine VCsplit.intro (fun q18 => ?_) (fun q18 => ?_)
                  ·
                    simp at q18
                    exact ⟨[], ⟨by rw [nfaOk_no (k := k) (by omega) (arcOk_no4 (by omega) (by assumption))], rfl⟩, (.le fun a => by (try simp only [setR, List.cons_append, List.nil_append]); simp only [List.flatten_append, List.flatten_cons, List.flatten_nil, List.count_append, List.count_nil, List.append_nil, List.nil_append]; omega)⟩
                  ·
                    simp at q18
                    apply loop_stepA (k + 1)
                    · exact .refl _
                    · repeat' (first | exact trivial | refine ⟨⟨_, rfl, by first | rfl | exact inc_eq _ (by omega) | (refine sl_eq ?_; simp; done), by first | exact trivial | simp [SV.ok]⟩, ?_⟩)
                    · exact ⟨rfl, trivial⟩
                    · exact ⟨by omega, allK_step ha (arcOk_yes (by assumption) (by assumption) (by omega) (by omega) (by first | exact .inr (by assumption) | exact .inl (by omega)))⟩
                    omega
                ·
                  simp at q14
                  apply loop_stepA (k + 1)
                  · exact .refl _
                  · repeat' (first | exact trivial | refine ⟨⟨_, rfl, by first | rfl | exact inc_eq _ (by omega) | (refine sl_eq ?_; simp; done), by first | exact trivial | simp [SV.ok]⟩, ?_⟩)
                  · exact ⟨rfl, trivial⟩
                  · exact ⟨by omega, allK_step ha (arcOk_yes (by assumption) (by assumption) (by omega) (by omega) (by first | exact .inr (by assumption) | exact .inl (by omega)))⟩
                  omega
      ·
        simp at q4
        (have hke : k = a.arcs.length := (by omega); subst hke; exact ⟨[], ⟨by rw [nfaOk_yes (by omega) (by omega) ha], rfl⟩, (.le fun a => by (try simp only [setR, List.cons_append, List.nil_append]); simp only [List.flatten_append, List.flatten_cons, List.flatten_nil, List.count_append, List.count_nil, List.append_nil, List.nil_append]; omega)⟩)
end Go.Proofs.YtcnclhjhnjpeiaaGreatDoor

namespace Go.Proofs.YtcnclhjhnjpeiaaGreatDoor
open Go.SX Go.Proofs
set_option linter.unusedSimpArgs false
set_option linter.unusedVariables false
set_option maxHeartbeats 4000000
attribute [local irreducible] IntKind.wrap
def codeA (a : Arc) : Nat := a.from'.toNat * 65536 + a.label.toNat * 256 + a.to.toNat
def rngA (a : Arc) : Prop := (0 ≤ a.from' ∧ a.from' ≤ 24) ∧ (0 ≤ a.to ∧ a.to ≤ 24)
theorem less_code {a b : Arc} (ha : rngA a) (hb : rngA b) : arcLess a b = true ↔ codeA a < codeA b := by
  obtain ⟨⟨a1, a2⟩, a3, a4⟩ := ha
  obtain ⟨⟨b1, b2⟩, b3, b4⟩ := hb
  have ha := a.label.toNat_lt
  have hb := b.label.toNat_lt
  unfold arcLess codeA
  split
  · rename_i h1
    split
    · rename_i h2; rw [h1, h2, decide_eq_true_iff]; omega
    rename_i h2
    have h3 : a.label.toNat ≠ b.label.toNat := fun e => h2 (UInt8.toNat_inj.1 e)
    rw [h1, decide_eq_true_iff]; omega
  rw [decide_eq_true_iff]; omega
/-- arcs in order, in range -/
def SortA (xs : List Arc) : Prop := xs.Pairwise (fun a b => codeA a < codeA b) ∧ ∀ x ∈ xs, rngA x
theorem incr_len : ∀ (xs : List Arc) (lo N : Nat), lo ≤ N → xs.Pairwise (fun a b => codeA a < codeA b) → (∀ x ∈ xs, lo ≤ codeA x) → (∀ x ∈ xs, codeA x < N) → lo + xs.length ≤ N
  | [], lo, N, h, _, _, _ => by simpa using h
  | x :: xs, lo, N, h, hp, h1, h2 => by
    obtain ⟨p1, p2⟩ := List.pairwise_cons.1 hp
    have hx := h1 x (List.mem_cons_self ..)
    have hN := h2 x (List.mem_cons_self ..)
    have := incr_len xs (codeA x + 1) N (by omega) p2 (fun y hy => p1 y hy) (fun y hy => h2 y (List.mem_cons_of_mem _ hy))
    rw [List.length_cons]; omega
theorem sortA_len {xs : List Arc} (h : SortA xs) : xs.length ≤ 2000000 := by
  have := incr_len xs 0 2000000 (by omega) h.1 (fun _ _ => Nat.zero_le _) (fun x hx => by
    obtain ⟨⟨a1, a2⟩, a3, a4⟩ := h.2 x hx
    have := x.label.toNat_lt
    unfold codeA; omega)
  omega
theorem putA_sort {xs : List Arc} {x : Arc} (h : SortA xs) (hx : rngA x) : SortA (putA xs x) := by
  have hl : ∀ y ∈ xs.filter (fun y => arcLess y x), codeA y < codeA x := fun y hy => (less_code (h.2 y (List.mem_filter.1 hy).1) hx).1 (List.mem_filter.1 hy).2
  have hr : ∀ y ∈ xs.filter (fun y => arcLess x y), codeA x < codeA y := fun y hy => (less_code hx (h.2 y (List.mem_filter.1 hy).1)).1 (List.mem_filter.1 hy).2
  unfold putA
  refine ⟨List.pairwise_append.2 ⟨h.1.filter _, List.pairwise_append.2 ⟨List.pairwise_singleton _ _, h.1.filter _, ?_⟩, ?_⟩, ?_⟩
  · intro a ha b hb; rw [List.mem_singleton.1 ha]; exact hr b hb
  · intro a ha b hb
    have h1 := hl a ha
    rcases List.mem_append.1 hb with hb | hb
    · rw [List.mem_singleton.1 hb]; exact h1
    exact Nat.lt_trans h1 (hr b hb)
  intro a ha
  rcases List.mem_append.1 ha with ha | ha
  · exact h.2 a (List.mem_filter.1 ha).1
  rcases List.mem_append.1 ha with ha | ha
  · rw [List.mem_singleton.1 ha]; exact hx
  exact h.2 a (List.mem_filter.1 ha).1
/-- the arc from one state to another -/
def arcOf (lb : List UInt8) (f t : Int) : Arc := ⟨f, lb[(t - 1).toNat]?.getD default, t⟩
def joinT (lb : List UInt8) (f : Int) (to : List Int) (xs : List Arc) : List Arc := to.foldl (fun acc t => putA acc (arcOf lb f t)) xs
def joinA (lb : List UInt8) (fr to : List Int) (xs : List Arc) : List Arc := fr.foldl (fun acc f => joinT lb f to acc) xs
theorem joinT_next {lb : List UInt8} {f : Int} {to : List Int} {xs : List Arc} {k : Nat} (h : k < to.length) : joinT lb f (to.take (k + 1)) xs = putA (joinT lb f (to.take k) xs) (arcOf lb f (to[k]?.getD 0)) := by
  unfold joinT; rw [← List.take_append_getElem h, List.foldl_append, List.getElem?_eq_getElem h]; rfl
theorem joinA_next {lb : List UInt8} {fr to : List Int} {xs : List Arc} {k : Nat} (h : k < fr.length) : joinA lb (fr.take (k + 1)) to xs = joinT lb (fr[k]?.getD 0) to (joinA lb (fr.take k) to xs) := by
  unfold joinA; rw [← List.take_append_getElem h, List.foldl_append, List.getElem?_eq_getElem h]; rfl
def FromOk (l : List Int) : Prop := ∀ x ∈ l, 0 ≤ x ∧ x ≤ 24
def ToOk (n : Nat) (l : List Int) : Prop := ∀ x ∈ l, 1 ≤ x ∧ x ≤ n
theorem get_all {P : Int → Prop} {l : List Int} {k : Nat} (h : ∀ x ∈ l, P x) (hk : k < l.length) : P (l[k]?.getD 0) := by
  rw [List.getElem?_eq_getElem hk]; exact h _ (List.getElem_mem hk)
theorem joinT_sort {lb : List UInt8} {f : Int} {n : Nat} (hf : 0 ≤ f ∧ f ≤ 24) (hn : n ≤ 24) : ∀ {to : List Int} {xs : List Arc}, ToOk n to → SortA xs → SortA (joinT lb f to xs)
  | [], _, _, h => h
  | t :: to, xs, ht, h => by
    have h1 := ht t (List.mem_cons_self ..)
    exact joinT_sort (to := to) hf hn (fun x hx => ht x (List.mem_cons_of_mem _ hx)) (putA_sort h ⟨hf, by show 0 ≤ t ∧ t ≤ 24; omega⟩)
theorem joinA_sort {lb : List UInt8} {n : Nat} {to : List Int} (hn : n ≤ 24) (ht : ToOk n to) : ∀ {fr : List Int} {xs : List Arc}, FromOk fr → SortA xs → SortA (joinA lb fr to xs)
  | [], _, _, h => h
  | f :: fr, xs, hf, h => joinA_sort (fr := fr) hn ht (fun x hx => hf x (List.mem_cons_of_mem _ hx)) (joinT_sort (hf f (List.mem_cons_self ..)) hn ht h)
theorem take_all {P : Int → Prop} {l : List Int} (h : ∀ x ∈ l, P x) (k : Nat) : ∀ x ∈ l.take k, P x := fun x hx => h x (List.mem_of_mem_take hx)
theorem arcOf_rd {H : Hp} {lb : List UInt8} {f t : Int} {n : Nat} (hf : 0 ≤ f ∧ f ≤ 24) (ht : 1 ≤ t ∧ t ≤ n) (hn : n ≤ 24) : gArc.rd H [.int .i64 f, .int .u8 ((lb[(t - 1).toNat]?.getD default).toNat : Nat), .int .i64 t] (arcOf lb f t) := by
  have h1 : okI f := by unfold okI; omega
  have h2 : okI t := by unfold okI; omega
  exact gArc_rd.2 ⟨rfl, h1, h2⟩
--@ct (*spec.l07Make).join blk2s mJoin_ct _ _ _ _ _ _ _ _ _ $c1 $2 $3 _ _ _ _ !o ?_ ?_ ?_ ?_ | ⟨%c1, %2, %3⟩ | rintro _ A# ⟨bj#, cj#, Aj#, rfl, rfl, oj#⟩ ;; refine ⟨_, _, [Aj#], rfl, perm1, ?_⟩
theorem mJoin_ct (q : Nat) (v0 v3 : Value) (bl bf bt : Option Addr) (cl cf ct : Nat) (lb : List UInt8) (fr to : List Int) (b : Option Addr) (c : Nat) (xs : List Arc) (A : Hp) (hA : (gSl 282 gArc).ow [.slice b xs.length c] xs A) (hs : SortA xs) (hf : FromOk fr) (ht : ToOk lb.length to) (hn : lb.length ≤ 24) :
    CtR Tryz.prog 176 [.pointer (some ⟨q, 0, none⟩), .slice bf fr.length cf, .slice bt to.length ct] ((q, Obj.cells ⟨[v0, .slice bl lb.length cl, .slice b xs.length c, v3]⟩ 249) :: A)
      (fun H => (gSl 5 gY).rd H [.slice bl lb.length cl] lb ∧ (gSl 3 gI).rd H [.slice bf fr.length cf] fr ∧ (gSl 3 gI).rd H [.slice bt to.length ct] to)
      (fun r D => ∃ b c A', r = .tuple #[] ∧ D = (q, Obj.cells ⟨[v0, .slice bl lb.length cl, .slice b (joinA lb fr to xs).length c, v3]⟩ 249) :: A' ∧ (gSl 282 gArc).ow [.slice b (joinA lb fr to xs).length c] (joinA lb fr to xs) A') := by
  refine CtR.introB G_ok [.p 0 0, .v (.slice bf fr.length cf), .v (.slice bt to.length ct)] [⟨q, [v0, .slice bl lb.length cl, .slice b xs.length c, v3], 249⟩] [A] Tryz.func176 rfl rfl rfl rfl (by simp [SV.ok]) (by simp [Blk.ent]) fun E H hp => ?_
  obtain ⟨hpl, hpf, hpt⟩ := hp
  obtain ⟨_, hcf, hlf⟩ := sl_len hpf
  obtain ⟨_, hct, hlt⟩ := sl_len hpt
  apply loop_mod (α := (Nat) × (Option Addr) × (Nat) × (Hp)) G_ok [8, 9, 10, 11, 7, 14, 15, 16, 17, 20, 21, 22, 23, 24, 25, 26, 27, 28, 29, 30, 31, 32, 33, 34, 35, 36, 37, 38, 39, 40, 41, 42, 43, 44, 45, 46, 47, 18, 19, 12, 13, 6] (fun z => [(6, .v (.int .i64 z.1))]) (fun z => [⟨q, [v0, Value.slice bl lb.length cl, .slice z.2.1 (joinA lb (fr.take z.1) to xs).length z.2.2.1, v3], (249 : TypeId)⟩]) (fun z => [z.2.2.2, H]) (fun z => fr.length - z.1) (fun z => z.1 ≤ fr.length ∧ (gSl 282 gArc).ow [.slice z.2.1 (joinA lb (fr.take z.1) to xs).length z.2.2.1] (joinA lb (fr.take z.1) to xs) z.2.2.2) ((0, b, c, A))
  · repeat' (first | exact trivial | refine ⟨⟨_, rfl, by first | rfl | exact inc_eq _ (by omega) | (refine sl_eq ?_; simp; done), by first | exact trivial | simp [SV.ok]⟩, ?_⟩)
  · exact ⟨rfl, trivial⟩
  · try dsimp only
    exact ⟨Nat.zero_le _, hA⟩
  · exact .refl _
  rintro ⟨i, b2, c2, B⟩ hI
  obtain ⟨hi, oB⟩ : i ≤ fr.length ∧ (gSl 282 gArc).ow [.slice b2 (joinA lb (fr.take i) to xs).length c2] (joinA lb (fr.take i) to xs) B := hI
  try dsimp only
  refine VCsplit.intro (fun q0 => ?_) (fun q0 => ?_)
  ·
    simp at q0
    have hfi := get_all hf (by omega : i < fr.length)
    have hsi := joinA_sort (lb := lb) hn ht (take_all hf i) hs
    apply loop_mod (α := (Nat) × (Option Addr) × (Nat) × (Hp)) G_ok [14, 15, 16, 17, 20, 21, 22, 23, 24, 25, 26, 27, 28, 29, 30, 31, 32, 33, 34, 35, 36, 37, 38, 39, 40, 41, 42, 43, 44, 45, 46, 47, 18, 19, 7] (fun z => [(7, .v (.int .i64 z.1))]) (fun z => [⟨q, [v0, Value.slice bl lb.length cl, .slice z.2.1 (joinT lb (fr[i]?.getD 0) (to.take z.1) (joinA lb (fr.take i) to xs)).length z.2.2.1, v3], (249 : TypeId)⟩]) (fun z => [z.2.2.2, H]) (fun z => to.length - z.1) (fun z => z.1 ≤ to.length ∧ (gSl 282 gArc).ow [.slice z.2.1 (joinT lb (fr[i]?.getD 0) (to.take z.1) (joinA lb (fr.take i) to xs)).length z.2.2.1] (joinT lb (fr[i]?.getD 0) (to.take z.1) (joinA lb (fr.take i) to xs)) z.2.2.2) ((0, b2, c2, B))
    · repeat' (first | exact trivial | refine ⟨⟨_, rfl, by first | rfl | exact inc_eq _ (by omega) | (refine sl_eq ?_; simp; done), by first | exact trivial | simp [SV.ok]⟩, ?_⟩)
    · exact ⟨rfl, trivial⟩
    · try dsimp only
      exact ⟨Nat.zero_le _, oB⟩
    · exact .refl _
    rintro ⟨k, b3, c3, C⟩ hI
    obtain ⟨hk, oC⟩ : k ≤ to.length ∧ (gSl 282 gArc).ow [.slice b3 (joinT lb (fr[i]?.getD 0) (to.take k) (joinA lb (fr.take i) to xs)).length c3] (joinT lb (fr[i]?.getD 0) (to.take k) (joinA lb (fr.take i) to xs)) C := hI
    try dsimp only
    refine VCsplit.intro (fun q1 => ?_) (fun q1 => ?_)
    ·
      simp at q1
      have hti := get_all ht (by omega : k < to.length)
      have hsk := sortA_len (joinT_sort (lb := lb) hfi hn (take_all ht k) hsi)
      refine draw G_ok mixed (some 28) (.q 0 (.q 1 (.q 2 (.q 3 (.q 4 (.q 5 (.q 6 (.q 7 (.q 8 (.q 9 (.q 10 (.q 11 (.q 12 (.q 13 (.q 14 (.q 15 (.q 16 (.q 17 (.q 18 (.q 19 (.q 20 (.q 21 (.q 22 (.q 23 (.q 24 (.f 25 (.q 26 (.q 27 (.tl 28 (.nil)))))))))))))))))))))))))))))) (by decide +kernel) ?_
      refine idx_rd hpf ?_ ?_ fun b2 o2 hb2 => ?_
      · omega
      · omega
      refine load_allN 0 (i) rfl hpf ?_ ?_ hb2 rfl (mem_at 1 rfl) fun l3 hl3 => ?_
      · omega
      · omega
      obtain ⟨rfl, hw3⟩ := hl3; simp only [flStr, flInt, okI] at hw3
      refine idx_rd hpt ?_ ?_ fun b4 o4 hb4 => ?_
      · omega
      · omega
      refine load_allN 0 (k) rfl hpt ?_ ?_ hb4 rfl (mem_at 1 rfl) fun l5 hl5 => ?_
      · omega
      · omega
      obtain ⟨rfl, hw5⟩ := hl5; simp only [flStr, flInt, okI] at hw5
      refine idx_rd hpl ?_ ?_ fun b6 o6 hb6 => ?_
      · (simp (disch := omega) only [wrap_of]; omega)
      · (simp (disch := omega) only [wrap_of]; omega)
      refine load_all 0 hpl ?_ ?_ hb6 rfl (mem_at 1 rfl) fun l7 hl7 => ?_
      · (simp (disch := omega) only [wrap_of]; omega)
      · (simp (disch := omega) only [wrap_of]; omega)
      rw [show (IntKind.i64.wrap ((to[k]?.getD 0) - 1)).toNat = ((to[k]?.getD 0) - 1).toNat by (simp (disch := omega) only [wrap_of])] at hl7
      obtain ⟨rfl, hw7⟩ := hl7
      refine idx_rd hpt ?_ ?_ fun b8 o8 hb8 => ?_
      · omega
      · omega
      refine load_allN 0 (k) rfl hpt ?_ ?_ hb8 rfl (mem_at 1 rfl) fun l9 hl9 => ?_
      · omega
      · omega
      obtain ⟨rfl, hw9⟩ := hl9; simp only [flStr, flInt, okI] at hw9
      refine call_new (l07Put_ct _ _ _ _ (joinT lb (fr[i]?.getD (0 : Int)) (List.take k to) (joinA lb (List.take i fr) to xs)) (arcOf lb (fr[i]?.getD 0) (to[k]?.getD 0)) ?_) ⟨(Rp.mono _ (mem_at 0 rfl) (Gt.owrd _ oC)), arcOf_rd hfi hti hn⟩ ?_
      · omega
      rintro v10 A10 o10
      obtain ⟨b10, c10, rfl, o10⟩ := o10
      refine VC.intro ?_ ?_
      · exact keep_new
      apply loop_stepA (k + 1, _, _, _)
      · exact .sub (by repeat (first | exact .slnil | apply List.Sublist.cons_cons | apply List.Sublist.cons))
      · repeat' (first | exact trivial | refine ⟨⟨_, rfl, by first | rfl | exact inc_eq _ (by omega) | (refine sl_eq ?_; simp; done), by first | exact trivial | simp [SV.ok]⟩, ?_⟩)
      · (simp only [joinT_next ‹k < to.length›]; repeat' (first | exact trivial | refine ⟨by first | rfl | simp [Blk.ent], ?_⟩))
      · try dsimp only
        (rw [joinT_next (by omega)]; exact ⟨by omega, by assumption⟩)
      try dsimp only
      omega
    ·
      simp at q1
      obtain rfl : k = to.length := by omega
      apply loop_stepA (i + 1, _, _, _)
      · exact .refl _
      · repeat' (first | exact trivial | refine ⟨⟨_, rfl, by first | rfl | exact inc_eq _ (by omega) | (refine sl_eq ?_; simp; done), by first | exact trivial | simp [SV.ok]⟩, ?_⟩)
      · (simp only [joinA_next ‹i < fr.length›, List.take_length]; repeat' (first | exact trivial | refine ⟨by first | rfl | simp [Blk.ent], ?_⟩))
      · try dsimp only
        (rw [List.take_length] at oC; rw [joinA_next (by omega)]; exact ⟨by omega, oC⟩)
      try dsimp only
      omega
  ·
    simp at q0
    (have hke : i = fr.length := (by omega); subst hke; rw [List.take_length] at oB; exact ⟨_, ⟨_, _, _, rfl, rfl, oB⟩, (.le fun a => by (try simp only [setR, List.cons_append, List.nil_append]); simp [List.count_cons, Blk.ent, idOf]; try omega)⟩)
end Go.Proofs.YtcnclhjhnjpeiaaGreatDoor

namespace Go.Proofs.YtcnclhjhnjpeiaaGreatDoor
open Go.SX Go.Proofs
set_option maxHeartbeats 1000000
structure Look where
  first : List Int
  last : List Int
  null : Bool
deriving Inhabited
/-- labels and arcs; the reference's bad is: 24 labels -/
abbrev MkS := List UInt8 × List Arc
def badM (s : MkS) : Bool := decide (24 ≤ s.1.length)
def lkRow (st r : MkS × Look) : MkS × Look :=
  ((r.1.1, joinA r.1.1 st.2.last r.2.first r.1.2), ⟨if st.2.null = true then st.2.first ++ r.2.first else st.2.first, if r.2.null = true then st.2.last ++ r.2.last else r.2.last, st.2.null && r.2.null⟩)
def lkAlt (st r : MkS × Look) : MkS × Look := (r.1, ⟨st.2.first ++ r.2.first, st.2.last ++ r.2.last, st.2.null || r.2.null⟩)
def lkOne (op : Int) (r : MkS × Look) : MkS × Look := ((r.1.1, if op = 6 then r.1.2 else joinA r.1.1 r.2.last r.2.first r.1.2), ⟨r.2.first, r.2.last, r.2.null || decide (op ≠ 5)⟩)
def lkStep (op : Int) (V : Nat → MkS → MkS × Look) (st : MkS × Look) (kid : Int) : MkS × Look :=
  if badM st.1 = true then st else if op = 2 then lkRow st (V kid.toNat st.1) else if op = 3 then lkAlt st (V kid.toNat st.1) else lkOne op (V kid.toNat st.1)
def look (ps : List Piece) : Nat → Nat → MkS → MkS × Look
  | 0, _, s => (s, ⟨[], [], false⟩)
  | n + 1, i, s =>
    if (ps[i]?.getD default).op = 1 then ((s.1 ++ [(ps[i]?.getD default).label], s.2), ⟨[((s.1.length + 1 : Nat) : Int)], [((s.1.length + 1 : Nat) : Int)], false⟩)
    else (ps[i]?.getD default).kids.foldl (lkStep (ps[i]?.getD default).op (look ps n)) (s, ⟨[], [], decide ((ps[i]?.getD default).op = 2)⟩)
theorem putA_all {P : Arc → Prop} {xs : List Arc} {x : Arc} (h : ∀ y ∈ xs, P y) (hx : P x) : ∀ y ∈ putA xs x, P y := by
  intro y hy
  unfold putA at hy
  rcases List.mem_append.1 hy with hy | hy
  · exact h y (List.mem_filter.1 hy).1
  rcases List.mem_append.1 hy with hy | hy
  · rw [List.mem_singleton.1 hy]; exact hx
  exact h y (List.mem_filter.1 hy).1
theorem joinT_all {P : Arc → Prop} {lb : List UInt8} {f : Int} : ∀ {to : List Int} {xs : List Arc}, (∀ y ∈ xs, P y) → (∀ t ∈ to, P (arcOf lb f t)) → ∀ y ∈ joinT lb f to xs, P y
  | [], _, h, _ => h
  | t :: to, _, h, ht => joinT_all (to := to) (putA_all h (ht t (List.mem_cons_self ..))) (fun x hx => ht x (List.mem_cons_of_mem _ hx))
theorem joinA_all {P : Arc → Prop} {lb : List UInt8} {to : List Int} : ∀ {fr : List Int} {xs : List Arc}, (∀ y ∈ xs, P y) → (∀ f ∈ fr, ∀ t ∈ to, P (arcOf lb f t)) → ∀ y ∈ joinA lb fr to xs, P y
  | [], _, h, _ => h
  | f :: fr, _, h, ht => joinA_all (fr := fr) (joinT_all h (ht f (List.mem_cons_self ..))) (fun x hx => ht x (List.mem_cons_of_mem _ hx))
def GoodM (s : MkS) : Prop := SortA s.2 ∧ (∀ b ∈ s.1, labelOk b = true) ∧ ∀ x ∈ s.2, labelOk x.label = true ∧ x.from' ≤ s.1.length ∧ x.to ≤ s.1.length
theorem join_good {lb : List UInt8} {fr to : List Int} {xs : List Arc} (h : GoodM (lb, xs)) (hn : lb.length ≤ 24) (hf : ∀ f ∈ fr, 0 ≤ f ∧ f ≤ (lb.length : Int)) (ht : ToOk lb.length to) : GoodM (lb, joinA lb fr to xs) := by
  refine ⟨joinA_sort hn ht (fun f h1 => ?_) h.1, h.2.1, joinA_all h.2.2 (fun f h1 t h2 => ?_)⟩
  · have := hf f h1; omega
  have a1 := hf f h1
  have a2 := ht t h2
  refine ⟨?_, a1.2, a2.2⟩
  show labelOk (lb[(t - 1).toNat]?.getD default) = true
  rw [List.getElem?_eq_getElem (by omega)]
  exact h.2.1 _ (List.getElem_mem _)
/-- what look makes of s -/
def LFine (s : MkS) (c : Nat) (r : MkS × Look) : Prop :=
  GoodM r.1 ∧ r.1.1.length = min 24 (s.1.length + c) ∧ ToOk r.1.1.length r.2.first ∧ ToOk r.1.1.length r.2.last ∧ r.2.first.length + s.1.length ≤ r.1.1.length ∧ r.2.last.length + s.1.length ≤ r.1.1.length
theorem toOk_mono {a b : Nat} {l : List Int} (h : ToOk a l) (hab : a ≤ b) : ToOk b l := fun x hx => by have := h x hx; omega
theorem toOk_app {n : Nat} {a b : List Int} (ha : ToOk n a) (hb : ToOk n b) : ToOk n (a ++ b) := fun x hx => (List.mem_append.1 hx).elim (ha x) (hb x)
theorem lkRow_fine {s : MkS} {c d : Nat} {st r : MkS × Look} (h : LFine s c st) (hr : LFine st.1 d r) : LFine s (c + d) (lkRow st r) := by
  obtain ⟨h1, h2, h3, h4, h5, h6⟩ := h
  obtain ⟨g1, g2, g3, g4, g5, g6⟩ := hr
  have hm : st.1.1.length ≤ r.1.1.length := by omega
  have hs : s.1.length ≤ st.1.1.length := by omega
  refine ⟨join_good g1 (by omega) (fun f hf => by have := h4 f hf; omega) g3, by show r.1.1.length = _; omega, ?_, ?_, ?_, ?_⟩
  · show ToOk r.1.1.length (if _ then _ else _)
    split
    · exact toOk_app (toOk_mono h3 hm) g3
    exact toOk_mono h3 hm
  · show ToOk r.1.1.length (if _ then _ else _)
    split
    · exact toOk_app (toOk_mono h4 hm) g4
    exact g4
  · show (if _ then _ else _ : List Int).length + s.1.length ≤ r.1.1.length
    split
    · rw [List.length_append]; omega
    omega
  show (if _ then _ else _ : List Int).length + s.1.length ≤ r.1.1.length
  split
  · rw [List.length_append]; omega
  omega
theorem lkAlt_fine {s : MkS} {c d : Nat} {st r : MkS × Look} (h : LFine s c st) (hr : LFine st.1 d r) : LFine s (c + d) (lkAlt st r) := by
  obtain ⟨h1, h2, h3, h4, h5, h6⟩ := h
  obtain ⟨g1, g2, g3, g4, g5, g6⟩ := hr
  have hm : st.1.1.length ≤ r.1.1.length := by omega
  refine ⟨g1, by show r.1.1.length = _; omega, toOk_app (toOk_mono h3 hm) g3, toOk_app (toOk_mono h4 hm) g4, ?_, ?_⟩
  · show (st.2.first ++ r.2.first).length + s.1.length ≤ r.1.1.length
    rw [List.length_append]; omega
  show (st.2.last ++ r.2.last).length + s.1.length ≤ r.1.1.length
  rw [List.length_append]; omega
theorem lkOne_fine {s : MkS} {c : Nat} {op : Int} {r : MkS × Look} (hr : LFine s c r) : LFine s c (lkOne op r) := by
  obtain ⟨g1, g2, g3, g4, g5, g6⟩ := hr
  refine ⟨?_, g2, g3, g4, g5, g6⟩
  unfold lkOne
  split
  · exact g1
  exact join_good g1 (by omega) (fun f hf => by have := g4 f hf; omega) g3
theorem lfine_zero {s : MkS} {e : Bool} (h : GoodM s) (hs : s.1.length ≤ 23) : LFine s 0 (s, ⟨[], [], e⟩) := ⟨h, by show s.1.length = _; omega, (fun _ h => by cases h), (fun _ h => by cases h), Nat.le_of_eq (Nat.zero_add _), Nat.le_of_eq (Nat.zero_add _)⟩
theorem good_label {s : MkS} {b : UInt8} (h : GoodM s) (hb : labelOk b = true) : GoodM (s.1 ++ [b], s.2) := by
  refine ⟨h.1, ?_, ?_⟩
  · intro x hx
    rcases List.mem_append.1 hx with hx | hx
    · exact h.2.1 x hx
    rw [List.mem_singleton.1 hx]; exact hb
  intro x hx
  have := h.2.2 x hx
  refine ⟨this.1, ?_, ?_⟩ <;> (show _ ≤ (((s.1 ++ [b]).length : Nat) : Int); rw [List.length_append, List.length_singleton]; omega)
theorem lfine_bad {s : MkS} {c d : Nat} {st : MkS × Look} (h : LFine s c st) (hb : badM st.1 = true) : LFine s (c + d) st := by
  obtain ⟨h1, h2, h3, h4, h5, h6⟩ := h
  have := of_decide_eq_true hb
  exact ⟨h1, by omega, h3, h4, h5, h6⟩
theorem bad_not {s : MkS} (h : ¬ badM s = true) : s.1.length ≤ 23 := by unfold badM at h; rw [decide_eq_true_iff] at h; omega
theorem piece_label {ps : List Piece} (hp : PsOk ps) {i : Nat} (hi : i < ps.length) (h : (ps[i]?.getD default).op = 1) : labelOk (ps[i]?.getD default).label = true := by
  rcases piece_iff.1 (hp i hi) with h1 | h1 | h1
  · unfold labelOk; rw [Bool.and_eq_true, decide_eq_true_iff, decide_eq_true_iff]; have := h1.2; omega
  · omega
  omega
theorem look_fine (ps : List Piece) : ∀ (n i : Nat) (s : MkS), GoodM s → s.1.length ≤ 23 → PsOk ps → i < ps.length → i < n → LFine s (cntF ps n i) (look ps n i s)
  | 0, i, s, _, _, _, _, h => by omega
  | n + 1, i, s, hg, hs, hp, hi, hn => by
    have hk := piece_iff.1 (hp i hi)
    have hkid : (ps[i]?.getD default).op ≠ 1 → ∀ k ∈ (ps[i]?.getD default).kids, k.toNat < i := by
      intro h1 k hk2
      have h3 : kidsOk (ps[i]?.getD default).kids i = true := by
        rcases hk with h | h | h
        · exact absurd h.1 h1
        · exact h.2.2.2
        exact h.2.2.2
      unfold kidsOk at h3
      have := inR_iff.1 (List.all_eq_true.1 h3 k hk2)
      omega
    have hfold : ∀ (S : MkS × Look → Int → MkS × Look), (∀ c st kid, kid.toNat < i → LFine s c st → LFine s (c + cntF ps n kid.toNat) (S st kid)) → ∀ (l : List Int), (∀ k ∈ l, k.toNat < i) → ∀ c st, LFine s c st → LFine s (c + sumK (cntF ps n) l) (l.foldl S st) := by
      intro S hS l
      induction l with
      | nil => intro _ c st h; exact h
      | cons k l ih =>
        intro hl c st h
        have := ih (fun k hk => hl k (List.mem_cons_of_mem _ hk)) (c + cntF ps n k.toNat) (S st k) (hS c st k (hl k (List.mem_cons_self ..)) h)
        rw [List.foldl_cons, show c + sumK (cntF ps n) (k :: l) = c + cntF ps n k.toNat + sumK (cntF ps n) l by simp only [sumK]; omega]
        exact this
    unfold look cntF
    split
    · rename_i h1
      have e : (s.1 ++ [(ps[i]?.getD default).label]).length = s.1.length + 1 := by rw [List.length_append, List.length_singleton]
      refine ⟨good_label hg (piece_label hp hi h1), by show (s.1 ++ [_]).length = _; omega, ?_, ?_, ?_, ?_⟩
      · intro x hx; rw [List.mem_singleton.1 hx]; show (1 : Int) ≤ ((s.1.length + 1 : Nat) : Int) ∧ ((s.1.length + 1 : Nat) : Int) ≤ (((s.1 ++ [_]).length : Nat) : Int); omega
      · intro x hx; rw [List.mem_singleton.1 hx]; show (1 : Int) ≤ ((s.1.length + 1 : Nat) : Int) ∧ ((s.1.length + 1 : Nat) : Int) ≤ (((s.1 ++ [_]).length : Nat) : Int); omega
      · show 1 + s.1.length ≤ (s.1 ++ [_]).length; omega
      show 1 + s.1.length ≤ (s.1 ++ [_]).length; omega
    rename_i h1
    by_cases h23 : (ps[i]?.getD default).op = 2 ∨ (ps[i]?.getD default).op = 3
    · have := hfold (lkStep (ps[i]?.getD default).op (look ps n)) (fun c st kid hk2 h => by
        unfold lkStep
        split
        · rename_i hb; exact lfine_bad h hb
        rename_i hb
        have hv := look_fine ps n kid.toNat st.1 h.1 (bad_not hb) hp (by omega) (by omega)
        split
        · exact lkRow_fine h hv
        rw [if_pos (by omega)]; exact lkAlt_fine h hv) _ (hkid h1) 0 _ (lfine_zero (e := decide ((ps[i]?.getD default).op = 2)) hg hs)
      rwa [Nat.zero_add] at this
    have h4 : (ps[i]?.getD default).kids.length = 1 := by
      rcases hk with h | h | h
      · exact absurd h.1 h1
      · omega
      exact h.2.2.1
    obtain ⟨k, hk1⟩ := List.length_eq_one_iff.1 h4
    have hlt := hkid h1 k (by rw [hk1]; exact List.mem_singleton.2 rfl)
    rw [hk1]
    show LFine s (cntF ps n k.toNat + 0) (lkStep _ _ _ _)
    unfold lkStep
    have hnb : ¬ badM s = true := by unfold badM; rw [decide_eq_true_iff]; omega
    rw [if_neg hnb, if_neg (by omega), if_neg (by omega)]
    exact lkOne_fine (look_fine ps n k.toNat s hg hs hp (by omega) (by omega))
end Go.Proofs.YtcnclhjhnjpeiaaGreatDoor

namespace Go.Proofs.YtcnclhjhnjpeiaaGreatDoor
open Go.SX Go.Proofs
set_option linter.unusedSimpArgs false
set_option linter.unusedVariables false
set_option maxHeartbeats 4000000
attribute [local irreducible] IntKind.wrap
def VisCt (ps : List Piece) (n : Nat) : Prop :=
  ∀ (q : Nat) (ki : Int) (i : Nat) (lb : List UInt8) (fo : List Nat) (bp bl bf : Option Addr) (cp cl cf : Nat) (AL AF : Hp), ki = i → i < ps.length → i < n → Good (lb, fo) → lb.length + cntF ps n i ≤ 23 →
    (gSl 5 gY).ow [.slice bl lb.length cl] lb AL → (gSl 301 gU).ow [.slice bf fo.length cf] fo AF →
    CtR Tryz.prog 211 [.pointer (some ⟨q, 0, none⟩), .int .i64 ki] ((q, Obj.cells ⟨[.slice bp ps.length cp, .slice bl lb.length cl, .slice bf fo.length cf]⟩ 300) :: (AL ++ AF)) (fun H => (gSl 279 gPiece).rd H [.slice bp ps.length cp] ps)
      (fun v D => ∃ bl' cl' bf' cf' AL' AF', v = .agg ⟨[.int .u32 ((visit ps n i (lb, fo)).2.first : Nat), .int .u32 ((visit ps n i (lb, fo)).2.last : Nat), .bool (visit ps n i (lb, fo)).2.empty]⟩ ∧
        D = (q, Obj.cells ⟨[.slice bp ps.length cp, .slice bl' (visit ps n i (lb, fo)).1.1.length cl', .slice bf' (visit ps n i (lb, fo)).1.2.length cf']⟩ 300) :: (AL' ++ AF') ∧
        (gSl 5 gY).ow [.slice bl' (visit ps n i (lb, fo)).1.1.length cl'] (visit ps n i (lb, fo)).1.1 AL' ∧ (gSl 301 gU).ow [.slice bf' (visit ps n i (lb, fo)).1.2.length cf'] (visit ps n i (lb, fo)).1.2 AF')
theorem shl_one {L : Nat} (h : L < 32) : IntKind.u32.wrap (1 * 2 ^ min (IntKind.u64.wrap (IntKind.i64.wrap (((L + 1 : Nat) : Int) - 1))).toNat IntKind.u32.bits) = ((2 ^ L : Nat) : Int) := by
  have e1 : IntKind.i64.wrap (((L + 1 : Nat) : Int) - 1) = (L : Int) := by rw [wrap_of (by omega) (by omega)]; omega
  have e2 : (IntKind.u64.wrap (L : Int)).toNat = L := by rw [w64u]; omega
  have h2 := pow_mono (a := L) (b := 31) (by omega)
  rw [e1, e2, show min L IntKind.u32.bits = L from Nat.min_eq_left (by show L ≤ 32; omega), u32_wrap, Int.one_mul]
  have h3 : ((2 ^ L : Nat) : Int) = (2 : Int) ^ L := by push_cast; rfl
  rw [← h3]
  generalize 2 ^ L = x at h2 ⊢
  omega
theorem shl_app {lb : List UInt8} {x : UInt8} (h : lb.length < 32) : IntKind.u32.wrap (1 * 2 ^ min (IntKind.u64.wrap (IntKind.i64.wrap ((((lb ++ [x]).length : Nat) : Int) - 1))).toNat IntKind.u32.bits) = ((2 ^ lb.length : Nat) : Int) := by
  rw [List.length_append, List.length_singleton]; exact shl_one h
theorem u32_of {x a : Nat} (h : x < 2 ^ a) (ha : a ≤ 32) : x < 4294967296 := Nat.lt_of_lt_of_le h (pow_mono ha)
theorem zor_u32 {b : Nat} (hb : b < 4294967296) : IntKind.u32.wrap (((BitVec.ofInt IntKind.u32.bits 0 ||| BitVec.ofInt IntKind.u32.bits ((b : Nat) : Int)).toNat : Nat) : Int) = ((b : Nat) : Int) := by
  have := or_u32 (a := 0) (b := b) (by omega) hb
  rw [Nat.zero_or] at this; exact this
theorem perm2 {e : Nat × Obj} {A B : Hp} : (e :: (A ++ B)).Perm (e :: [A, B].flatten) := by simp
theorem visit_step {ps : List Piece} {n i : Nat} {s : Pos} (h : (ps[i]?.getD default).op = 1) : visit ps (n + 1) i s = ((s.1 ++ [(ps[i]?.getD default).label], s.2 ++ [0]), ⟨2 ^ s.1.length, 2 ^ s.1.length, false⟩) := by unfold visit; rw [if_pos h]
def rowK (ps : List Piece) (n : Nat) (s : Pos) (l : List Int) : Pos × Span := l.foldl (rowStep (visit ps n)) (s, ⟨0, 0, true⟩)
def altK (ps : List Piece) (n : Nat) (s : Pos) (l : List Int) : Pos × Span := l.foldl (altStep (visit ps n)) (s, ⟨0, 0, false⟩)
theorem visit_row {ps : List Piece} {n i : Nat} {s : Pos} (h : (ps[i]?.getD default).op = 2) : visit ps (n + 1) i s = rowK ps n s (ps[i]?.getD default).kids := by unfold visit; rw [if_neg (by omega), if_pos h]; rfl
theorem visit_alt {ps : List Piece} {n i : Nat} {s : Pos} (h : (ps[i]?.getD default).op = 3) : visit ps (n + 1) i s = altK ps n s (ps[i]?.getD default).kids := by unfold visit; rw [if_neg (by omega), if_neg (by omega), if_pos h]; rfl
theorem visit_one {ps : List Piece} {n i : Nat} {s : Pos} (h : ¬ (ps[i]?.getD default).op = 1) (h2 : ¬ (ps[i]?.getD default).op = 2) (h3 : ¬ (ps[i]?.getD default).op = 3) : visit ps (n + 1) i s = oneStep (ps[i]?.getD default).op (visit ps n ((ps[i]?.getD default).kids[0]?.getD 0).toNat s) := by
  conv => lhs; unfold visit
  rw [if_neg h, if_neg h2, if_neg h3]
theorem rowK_next {ps : List Piece} {n : Nat} {s : Pos} {l : List Int} {j : Nat} (hj : j < l.length) : rowK ps n s (l.take (j + 1)) = rowStep (visit ps n) (rowK ps n s (l.take j)) (l[j]?.getD 0) := by
  unfold rowK; rw [← List.take_append_getElem hj, List.foldl_append, List.getElem?_eq_getElem hj]; rfl
theorem altK_next {ps : List Piece} {n : Nat} {s : Pos} {l : List Int} {j : Nat} (hj : j < l.length) : altK ps n s (l.take (j + 1)) = altStep (visit ps n) (altK ps n s (l.take j)) (l[j]?.getD 0) := by
  unfold altK; rw [← List.take_append_getElem hj, List.foldl_append, List.getElem?_eq_getElem hj]; rfl
theorem rowK_nil {ps : List Piece} {n : Nat} {s : Pos} : rowK ps n s [] = (s, ⟨0, 0, true⟩) := rfl
theorem altK_nil {ps : List Piece} {n : Nat} {s : Pos} : altK ps n s [] = (s, ⟨0, 0, false⟩) := rfl
def rowOf (st v : Pos × Span) : Pos × Span := ((v.1.1, orAt v.1.2 st.2.last v.2.first), ⟨if st.2.empty = true then st.2.first ||| v.2.first else st.2.first, (if v.2.empty = true then st.2.last else 0) ||| v.2.last, st.2.empty && v.2.empty⟩)
def altOf (st v : Pos × Span) : Pos × Span := (v.1, ⟨st.2.first ||| v.2.first, st.2.last ||| v.2.last, st.2.empty || v.2.empty⟩)
theorem kid_rng {ps : List Piece} (hps : PsOk ps) {i j : Nat} (hi : i < ps.length) (h : ¬ (ps[i]?.getD default).op = 1) (hj : j < (ps[i]?.getD default).kids.length) : 0 ≤ ((ps[i]?.getD default).kids[j]?.getD 0) ∧ ((ps[i]?.getD default).kids[j]?.getD 0) < i := by
  have h3 : kidsOk (ps[i]?.getD default).kids i = true := by
    rcases piece_iff.1 (hps i hi) with h1 | h1 | h1
    · exact absurd h1.1 h
    · exact h1.2.2.2
    exact h1.2.2.2
  unfold kidsOk at h3
  rw [List.getElem?_eq_getElem hj]
  have := inR_iff.1 (List.all_eq_true.1 h3 _ (List.getElem_mem hj))
  simp only [Option.getD_some]; omega
theorem ne_dec (x : Int) : (x != 5) = decide (x ≠ 5) := by by_cases h : x = 5 <;> simp [h]
theorem ne_emp {b : Bool} (h : b = false) (x : Int) : (x != 5) = (b || decide (x ≠ 5)) := by subst h; rw [Bool.false_or]; exact ne_dec x
theorem kids_one {ps : List Piece} (hps : PsOk ps) {i : Nat} (hi : i < ps.length) (h : ¬ (ps[i]?.getD default).op = 1) (h2 : ¬ (ps[i]?.getD default).op = 2) (h3 : ¬ (ps[i]?.getD default).op = 3) : (ps[i]?.getD default).kids.length = 1 := by
  rcases piece_iff.1 (hps i hi) with h1 | h1 | h1
  · exact absurd h1.1 h
  · omega
  exact h1.2.2.1
theorem sum_one {f : Nat → Nat} {l : List Int} (h : l.length = 1) : sumK f l = f (l[0]?.getD 0).toNat := by
  obtain ⟨k, rfl⟩ := List.length_eq_one_iff.1 h
  rfl
theorem cnt_kids {ps : List Piece} {n i : Nat} (h : ¬ (ps[i]?.getD default).op = 1) : cntF ps (n + 1) i = sumK (cntF ps n) (ps[i]?.getD default).kids := by
  conv => lhs; unfold cntF
  rw [if_neg h]
theorem rowK_fine {ps : List Piece} (hps : PsOk ps) {n i : Nat} (hi : i < ps.length) (hin : i < n + 1) {s : Pos} (hg : Good s) (h : ¬ (ps[i]?.getD default).op = 1) : ∀ j, Fine s (sumK (cntF ps n) ((ps[i]?.getD default).kids.take j)) (rowK ps n s ((ps[i]?.getD default).kids.take j))
  | 0 => fine_zero hg
  | j + 1 => by
    have ih := rowK_fine hps hi hin hg h j
    rcases Nat.lt_or_ge j (ps[i]?.getD default).kids.length with hj | hj
    · rw [rowK_next hj, (sumK_take _ _ j hj).2]
      have hk := kid_rng hps hi h hj
      exact row_fine ih (visit_fine ps n _ _ ih.1 hps (by omega) (by omega))
    rw [List.take_of_length_le (by omega)] at ih ⊢; exact ih
theorem altK_fine {ps : List Piece} (hps : PsOk ps) {n i : Nat} (hi : i < ps.length) (hin : i < n + 1) {s : Pos} (hg : Good s) (h : ¬ (ps[i]?.getD default).op = 1) : ∀ j, Fine s (sumK (cntF ps n) ((ps[i]?.getD default).kids.take j)) (altK ps n s ((ps[i]?.getD default).kids.take j))
  | 0 => fine_zero hg
  | j + 1 => by
    have ih := altK_fine hps hi hin hg h j
    rcases Nat.lt_or_ge j (ps[i]?.getD default).kids.length with hj | hj
    · rw [altK_next hj, (sumK_take _ _ j hj).2]
      have hk := kid_rng hps hi h hj
      exact alt_fine ih (visit_fine ps n _ _ ih.1 hps (by omega) (by omega))
    rw [List.take_of_length_le (by omega)] at ih ⊢; exact ih
attribute [local irreducible] visit rowK altK cntF sumK orAt
theorem psVisit_ct (ps : List Piece) (n : Nat) (hps : PsOk ps) (hlen : ps.length ≤ 60) (hI : VisCt ps n) : VisCt ps (n + 1) := by
  intro q ki i lb fo bp bl bf cp cl cf AL AF hki hi hin hg hcnt hL hF
  subst hki
  refine CtR.introB G_ok [.p 0 0, .v (.int .i64 (i : Int))] [⟨q, [.slice bp ps.length cp, .slice bl lb.length cl, .slice bf fo.length cf], 300⟩] [AL, AF] Tryz.func211 rfl rfl rfl rfl (by simp [SV.ok]) (by simp [Blk.ent]) fun E H hp => ?_
  have hfl : lb.length = fo.length := hg.1
  have hpk := piece_iff.1 (hps i hi)
  refine VCnew.intro fun x0 => ?_
  refine idx_rd hp ?_ ?_ fun b1 o1 hb1 => ?_
  · omega
  · omega
  refine load_allN default (i) rfl hp ?_ ?_ hb1 rfl (mem_at 2 rfl) fun l2 hl2 => ?_
  · omega
  · omega
  obtain ⟨b2x2, c2x2, rfl, w0x2, h2x2⟩ := gPiece_rd.1 hl2
  refine VCnew.intro fun x3 => ?_
  refine VCsplit.intro (fun q4 => ?_) (fun q4 => ?_)
  ·
    simp at q4
    refine draw G_ok mixed (some 8) (.q 0 (.q 1 (.q 2 (.q 3 (.q 4 (.q 5 (.q 6 (.f 7 (.tl 8 (.f 9 (.f 10 (.f 11 (.nil))))))))))))) (by decide +kernel) ?_
    refine VCnew.intro fun x5 => ?_
    refine VC.intro ?_ ?_
    · exact keep_new
    refine gappend1 (g := gY) (T := (5 : TypeId)) G_ok AL [] [AF, H] ?_ hL ( gY_ow trivial) (List.mem_of_getElem? (i := 0) rfl) rfl rfl rfl rfl rfl rfl rfl rfl ?_ fun b6 c6 A6 o6 => ?_
    · exact .tl
    · omega
    refine VCnew.intro fun x7 => ?_
    refine gappend1 (g := gU) (T := (301 : TypeId)) G_ok AF [] [A6, H] ?_ hF (gU_ow (x := 0) ?_) (List.mem_of_getElem? (i := 0) rfl) rfl rfl rfl rfl rfl rfl rfl rfl ?_ fun b8 c8 A8 o8 => ?_
    · exact .le fun a => by (try simp only [setR, List.cons_append, List.nil_append]); simp only [List.flatten_append, List.flatten_cons, List.flatten_nil, List.count_append, List.count_nil, List.append_nil, List.nil_append]; omega
    · trivial
    · omega
    refine VC.intro ?_ ?_
    · (rw [w64u]; omega)
    (rw [visit_step ‹(ps[i]?.getD default).op = 1›, shl_app (by omega)]; exact ⟨_, ⟨_, _, _, _, _, _, rfl, rfl, by assumption, by assumption⟩, (.le fun a => by (try simp only [setR, List.cons_append, List.nil_append]); simp [List.count_cons, Blk.ent, idOf]; try omega)⟩)
  ·
    simp at q4
    refine VCsplit.intro (fun q9 => ?_) (fun q9 => ?_)
    ·
      simp at q9
      refine VCnew.intro fun x10 => ?_
      apply loop_mod (α := (Nat) × (Hp) × (Option Addr) × (Nat) × (Hp) × (Option Addr) × (Nat)) G_ok [66, 67, 68, 9, 69, 70, 71, 10, 72, 73, 74, 75, 76, 77, 78, 79, 80, 81, 82, 83, 84, 85, 86, 87, 88, 89, 90, 91, 92, 93, 94, 95, 96, 97, 98, 99, 100, 101, 102, 103, 65] (fun z => [(65, .v (.int .i64 z.1))]) (fun z => [⟨q, [Value.slice bp ps.length cp, .slice z.2.2.1 (rowK ps n (lb, fo) ((ps[i]?.getD default).kids.take z.1)).1.1.length z.2.2.2.1, .slice z.2.2.2.2.2.1 (rowK ps n (lb, fo) ((ps[i]?.getD default).kids.take z.1)).1.2.length z.2.2.2.2.2.2], (300 : TypeId)⟩, ⟨x0, [Value.int IntKind.u32 (0 : Int), Value.int IntKind.u32 (0 : Int), Value.bool false], (303 : Nat)⟩, ⟨x3, [Value.int IntKind.i64 (ps[i]?.getD default).op, Value.int IntKind.u8 (↑(ps[i]?.getD default).label.toNat : Int), Value.slice b2x2 (ps[i]?.getD default).kids.length c2x2], (279 : Nat)⟩, ⟨x10, [.int .u32 ((rowK ps n (lb, fo) ((ps[i]?.getD default).kids.take z.1)).2.first : Nat), .int .u32 ((rowK ps n (lb, fo) ((ps[i]?.getD default).kids.take z.1)).2.last : Nat), .bool (rowK ps n (lb, fo) ((ps[i]?.getD default).kids.take z.1)).2.empty], (303 : Nat)⟩]) (fun z => [z.2.1, z.2.2.2.2.1, H]) (fun z => (ps[i]?.getD default).kids.length - z.1) (fun z => z.1 ≤ (ps[i]?.getD default).kids.length ∧ (gSl 5 gY).ow [.slice z.2.2.1 (rowK ps n (lb, fo) ((ps[i]?.getD default).kids.take z.1)).1.1.length z.2.2.2.1] (rowK ps n (lb, fo) ((ps[i]?.getD default).kids.take z.1)).1.1 z.2.1 ∧ (gSl 301 gU).ow [.slice z.2.2.2.2.2.1 (rowK ps n (lb, fo) ((ps[i]?.getD default).kids.take z.1)).1.2.length z.2.2.2.2.2.2] (rowK ps n (lb, fo) ((ps[i]?.getD default).kids.take z.1)).1.2 z.2.2.2.2.1) ((0, AL, bl, cl, AF, bf, cf))
      · repeat' (first | exact trivial | refine ⟨⟨_, rfl, by first | rfl | exact inc_eq _ (by omega) | (refine sl_eq ?_; simp; done), by first | exact trivial | simp [SV.ok]⟩, ?_⟩)
      · (simp only [List.take_zero, rowK_nil, altK_nil]; repeat' (first | exact trivial | refine ⟨by first | rfl | simp [Blk.ent], ?_⟩))
      · try dsimp only
        (simp only [List.take_zero, rowK_nil, altK_nil]; exact ⟨Nat.zero_le _, hL, hF⟩)
      · exact .refl _
      rintro ⟨j, L, bl2, cl2, F, bf2, cf2⟩ hI
      obtain ⟨hj, oL, oF⟩ : j ≤ (ps[i]?.getD default).kids.length ∧ (gSl 5 gY).ow [.slice bl2 (rowK ps n (lb, fo) ((ps[i]?.getD default).kids.take j)).1.1.length cl2] (rowK ps n (lb, fo) ((ps[i]?.getD default).kids.take j)).1.1 L ∧ (gSl 301 gU).ow [.slice bf2 (rowK ps n (lb, fo) ((ps[i]?.getD default).kids.take j)).1.2.length cf2] (rowK ps n (lb, fo) ((ps[i]?.getD default).kids.take j)).1.2 F := hI
      try dsimp only
      refine VCsplit.intro (fun q11 => ?_) (fun q11 => ?_)
      ·
        simp at q11
        have hsum := sumK_take (cntF ps n) (ps[i]?.getD default).kids j (by omega)
        have hkd := kid_rng hps hi (by assumption) (by omega : j < (ps[i]?.getD default).kids.length)
        have hfine := rowK_fine hps hi hin hg (by assumption) j
        have hfl2 : (rowK ps n (lb, fo) ((ps[i]?.getD default).kids.take j)).1.1.length = lb.length + sumK (cntF ps n) ((ps[i]?.getD default).kids.take j) := hfine.2.1
        have hck := cnt_kids (ps := ps) (n := n) (i := i) (by assumption)
        have hV := visit_fine ps n ((ps[i]?.getD default).kids[j]?.getD 0).toNat ((rowK ps n (lb, fo) ((ps[i]?.getD default).kids.take j)).1.1, (rowK ps n (lb, fo) ((ps[i]?.getD default).kids.take j)).1.2) hfine.1 hps (by omega) (by omega)
        have hv1 : (visit ps n ((ps[i]?.getD default).kids[j]?.getD 0).toNat ((rowK ps n (lb, fo) ((ps[i]?.getD default).kids.take j)).1.1, (rowK ps n (lb, fo) ((ps[i]?.getD default).kids.take j)).1.2)).1.1.length = (rowK ps n (lb, fo) ((ps[i]?.getD default).kids.take j)).1.1.length + cntF ps n ((ps[i]?.getD default).kids[j]?.getD 0).toNat := hV.2.1
        have hv2 : (visit ps n ((ps[i]?.getD default).kids[j]?.getD 0).toNat ((rowK ps n (lb, fo) ((ps[i]?.getD default).kids.take j)).1.1, (rowK ps n (lb, fo) ((ps[i]?.getD default).kids.take j)).1.2)).1.1.length = (visit ps n ((ps[i]?.getD default).kids[j]?.getD 0).toNat ((rowK ps n (lb, fo) ((ps[i]?.getD default).kids.take j)).1.1, (rowK ps n (lb, fo) ((ps[i]?.getD default).kids.take j)).1.2)).1.2.length := hV.1.1
        have hb1 : (visit ps n ((ps[i]?.getD default).kids[j]?.getD 0).toNat ((rowK ps n (lb, fo) ((ps[i]?.getD default).kids.take j)).1.1, (rowK ps n (lb, fo) ((ps[i]?.getD default).kids.take j)).1.2)).2.first < 4294967296 := u32_of hV.2.2.1 (by omega)
        have hb2 : (visit ps n ((ps[i]?.getD default).kids[j]?.getD 0).toNat ((rowK ps n (lb, fo) ((ps[i]?.getD default).kids.take j)).1.1, (rowK ps n (lb, fo) ((ps[i]?.getD default).kids.take j)).1.2)).2.last < 4294967296 := u32_of hV.2.2.2 (by omega)
        have hb3 : (rowK ps n (lb, fo) ((ps[i]?.getD default).kids.take j)).2.first < 4294967296 := u32_of hfine.2.2.1 (by omega)
        have hb4 : (rowK ps n (lb, fo) ((ps[i]?.getD default).kids.take j)).2.last < 4294967296 := u32_of hfine.2.2.2 (by omega)
        have hb5 : (rowK ps n (lb, fo) ((ps[i]?.getD default).kids.take j)).2.last < 2 ^ (visit ps n ((ps[i]?.getD default).kids[j]?.getD 0).toNat ((rowK ps n (lb, fo) ((ps[i]?.getD default).kids.take j)).1.1, (rowK ps n (lb, fo) ((ps[i]?.getD default).kids.take j)).1.2)).1.2.length := Nat.lt_of_lt_of_le hfine.2.2.2 (pow_mono (by omega))
        have hkl := (rd_len (xs := (ps[i]?.getD default).kids) (by assumption)).2
        have hnx : rowK ps n (lb, fo) ((ps[i]?.getD default).kids.take (j + 1)) = rowOf (rowK ps n (lb, fo) ((ps[i]?.getD default).kids.take j)) (visit ps n ((ps[i]?.getD default).kids[j]?.getD 0).toNat ((rowK ps n (lb, fo) ((ps[i]?.getD default).kids.take j)).1.1, (rowK ps n (lb, fo) ((ps[i]?.getD default).kids.take j)).1.2)) := rowK_next (ps := ps) (n := n) (s := (lb, fo)) (by omega : j < (ps[i]?.getD default).kids.length)
        refine idx_rd h2x2 ?_ ?_ fun b12 o12 hb12 => ?_
        · omega
        · omega
        refine load_allN 0 (j) rfl h2x2 ?_ ?_ hb12 rfl (mem_at 2 rfl) fun l13 hl13 => ?_
        · omega
        · omega
        obtain ⟨rfl, hw13⟩ := hl13; simp only [flStr, flInt, okI] at hw13
        refine callR_blk 0 (L ++ F) [H] rfl ?_ (hI _ _ _ _ _ _ _ _ _ _ _ _ _ (Int.toNat_of_nonneg ?_).symm ?_ ?_ ?_ ?_ oL oF) (Rp.mono _ (mem_at 0 rfl) hp) ?_
        · exact .le fun a => by (try simp only [setR, List.cons_append, List.nil_append]); simp only [List.flatten_append, List.flatten_cons, List.flatten_nil, List.count_append, List.count_nil, List.append_nil, List.nil_append]; omega
        · omega
        · omega
        · omega
        · exact hfine.1
        · omega
        rintro _ A14 ⟨bl1, cl1, bf1, cf1, AL1, AF1, rfl, rfl, oL1, oF1⟩
        refine ⟨_, _, [AL1, AF1], rfl, perm2, ?_⟩
        refine VCnew.intro fun x15 => ?_
        refine callR_blk 0 (AF1) [AL1, H] rfl ?_ (psConnect_ct _ _ _ _ _ _ _ _ _ oF1 ?_ ?_ ?_) trivial ?_
        · exact .le fun a => by (try simp only [setR, List.cons_append, List.nil_append]); simp only [List.flatten_append, List.flatten_cons, List.flatten_nil, List.count_append, List.count_nil, List.append_nil, List.nil_append]; omega
        · trivial
        · trivial
        · omega
        rintro _ A16 ⟨bf, cf, Af, rfl, rfl, of'⟩
        refine ⟨_, _, [Af], rfl, perm1, ?_⟩
        refine VCsplit.intro (fun q17 => ?_) (fun q17 => ?_)
        ·
          (have hRt : (rowK ps n (lb, fo) ((ps[i]?.getD default).kids.take j)).2.empty = true := q17)
          refine VCsplit.intro (fun q18 => ?_) (fun q18 => ?_)
          ·
            simp at q18
            (have hVf : (visit ps n ((ps[i]?.getD default).kids[j]?.getD 0).toNat ((rowK ps n (lb, fo) ((ps[i]?.getD default).kids.take j)).1.1, (rowK ps n (lb, fo) ((ps[i]?.getD default).kids.take j)).1.2)).2.empty = false := q18)
            refine VCsplit.intro (fun q19 => ?_) (fun q19 => ?_)
            ·
              (have hRt : (rowK ps n (lb, fo) ((ps[i]?.getD default).kids.take j)).2.empty = true := q19)
              apply loop_stepI (j + 1, AL1, bl1, cl1, Af, bf, cf)
              · repeat' (first | exact trivial | refine ⟨⟨_, rfl, by first | rfl | exact inc_eq _ (by omega) | (refine sl_eq ?_; simp; done), by first | exact trivial | simp [SV.ok]⟩, ?_⟩)
              · (simp only [hnx, rowOf, hRt, hVf, or_u32 hb3 hb1, or_u32 hb4 hb2, zor_u32 hb2, zor_u32 hb1, if_true, if_false, Bool.false_eq_true, Bool.true_and, Bool.and_true, Bool.false_and, Bool.and_false, Bool.true_or, Bool.false_or, Bool.or_true, Bool.or_false, Nat.zero_or, reduceIte]; repeat' (first | exact trivial | refine ⟨by first | rfl | simp [Blk.ent], ?_⟩))
              · try dsimp only
                (rw [hnx]; exact ⟨by omega, oL1, of'⟩)
              · exact .le fun a => by (try simp only [setR, List.cons_append, List.nil_append]); simp only [List.flatten_append, List.flatten_cons, List.flatten_nil, List.count_append, List.count_nil, List.append_nil, List.nil_append]; omega
              try dsimp only
              omega
            ·
              exact absurd (hRt.symm.trans q19) (by decide)
          ·
            simp at q18
            (have hVt : (visit ps n ((ps[i]?.getD default).kids[j]?.getD 0).toNat ((rowK ps n (lb, fo) ((ps[i]?.getD default).kids.take j)).1.1, (rowK ps n (lb, fo) ((ps[i]?.getD default).kids.take j)).1.2)).2.empty = true := q18)
            refine VCsplit.intro (fun q20 => ?_) (fun q20 => ?_)
            ·
              (have hRt : (rowK ps n (lb, fo) ((ps[i]?.getD default).kids.take j)).2.empty = true := q20)
              apply loop_stepI (j + 1, AL1, bl1, cl1, Af, bf, cf)
              · repeat' (first | exact trivial | refine ⟨⟨_, rfl, by first | rfl | exact inc_eq _ (by omega) | (refine sl_eq ?_; simp; done), by first | exact trivial | simp [SV.ok]⟩, ?_⟩)
              · (simp only [hnx, rowOf, hRt, hVt, or_u32 hb3 hb1, or_u32 hb4 hb2, zor_u32 hb2, zor_u32 hb1, if_true, if_false, Bool.false_eq_true, Bool.true_and, Bool.and_true, Bool.false_and, Bool.and_false, Bool.true_or, Bool.false_or, Bool.or_true, Bool.or_false, Nat.zero_or, reduceIte]; repeat' (first | exact trivial | refine ⟨by first | rfl | simp [Blk.ent], ?_⟩))
              · try dsimp only
                (rw [hnx]; exact ⟨by omega, oL1, of'⟩)
              · exact .le fun a => by (try simp only [setR, List.cons_append, List.nil_append]); simp only [List.flatten_append, List.flatten_cons, List.flatten_nil, List.count_append, List.count_nil, List.append_nil, List.nil_append]; omega
              try dsimp only
              omega
            ·
              exact absurd (hRt.symm.trans q20) (by decide)
        ·
          (have hRf : (rowK ps n (lb, fo) ((ps[i]?.getD default).kids.take j)).2.empty = false := q17)
          refine VCsplit.intro (fun q21 => ?_) (fun q21 => ?_)
          ·
            simp at q21
            (have hVf : (visit ps n ((ps[i]?.getD default).kids[j]?.getD 0).toNat ((rowK ps n (lb, fo) ((ps[i]?.getD default).kids.take j)).1.1, (rowK ps n (lb, fo) ((ps[i]?.getD default).kids.take j)).1.2)).2.empty = false := q21)
            refine VCsplit.intro (fun q22 => ?_) (fun q22 => ?_)
            ·
              exact absurd (hRf.symm.trans q22) (by decide)
            ·
              (have hRf : (rowK ps n (lb, fo) ((ps[i]?.getD default).kids.take j)).2.empty = false := q22)
              apply loop_stepI (j + 1, AL1, bl1, cl1, Af, bf, cf)
              · repeat' (first | exact trivial | refine ⟨⟨_, rfl, by first | rfl | exact inc_eq _ (by omega) | (refine sl_eq ?_; simp; done), by first | exact trivial | simp [SV.ok]⟩, ?_⟩)
              · (simp only [hnx, rowOf, hRf, hVf, or_u32 hb3 hb1, or_u32 hb4 hb2, zor_u32 hb2, zor_u32 hb1, if_true, if_false, Bool.false_eq_true, Bool.true_and, Bool.and_true, Bool.false_and, Bool.and_false, Bool.true_or, Bool.false_or, Bool.or_true, Bool.or_false, Nat.zero_or, reduceIte]; repeat' (first | exact trivial | refine ⟨by first | rfl | simp [Blk.ent], ?_⟩))
              · try dsimp only
                (rw [hnx]; exact ⟨by omega, oL1, of'⟩)
              · exact .le fun a => by (try simp only [setR, List.cons_append, List.nil_append]); simp only [List.flatten_append, List.flatten_cons, List.flatten_nil, List.count_append, List.count_nil, List.append_nil, List.nil_append]; omega
              try dsimp only
              omega
          ·
            simp at q21
            (have hVt : (visit ps n ((ps[i]?.getD default).kids[j]?.getD 0).toNat ((rowK ps n (lb, fo) ((ps[i]?.getD default).kids.take j)).1.1, (rowK ps n (lb, fo) ((ps[i]?.getD default).kids.take j)).1.2)).2.empty = true := q21)
            refine VCsplit.intro (fun q23 => ?_) (fun q23 => ?_)
            ·
              exact absurd (hRf.symm.trans q23) (by decide)
            ·
              (have hRf : (rowK ps n (lb, fo) ((ps[i]?.getD default).kids.take j)).2.empty = false := q23)
              apply loop_stepI (j + 1, AL1, bl1, cl1, Af, bf, cf)
              · repeat' (first | exact trivial | refine ⟨⟨_, rfl, by first | rfl | exact inc_eq _ (by omega) | (refine sl_eq ?_; simp; done), by first | exact trivial | simp [SV.ok]⟩, ?_⟩)
              · (simp only [hnx, rowOf, hRf, hVt, or_u32 hb3 hb1, or_u32 hb4 hb2, zor_u32 hb2, zor_u32 hb1, if_true, if_false, Bool.false_eq_true, Bool.true_and, Bool.and_true, Bool.false_and, Bool.and_false, Bool.true_or, Bool.false_or, Bool.or_true, Bool.or_false, Nat.zero_or, reduceIte]; repeat' (first | exact trivial | refine ⟨by first | rfl | simp [Blk.ent], ?_⟩))
              · try dsimp only
                (rw [hnx]; exact ⟨by omega, oL1, of'⟩)
              · exact .le fun a => by (try simp only [setR, List.cons_append, List.nil_append]); simp only [List.flatten_append, List.flatten_cons, List.flatten_nil, List.count_append, List.count_nil, List.append_nil, List.nil_append]; omega
              try dsimp only
              omega
      ·
        simp at q11
        (have hje : j = (ps[i]?.getD default).kids.length := (by omega); subst hje; rw [List.take_length] at oL oF ⊢; rw [visit_row ‹(ps[i]?.getD default).op = 2›]; exact ⟨_, ⟨_, _, _, _, _, _, rfl, rfl, oL, oF⟩, (.le fun a => by (try simp only [setR, List.cons_append, List.nil_append]); simp [List.count_cons, Blk.ent, idOf]; try omega)⟩)
    ·
      simp at q9
      refine VCsplit.intro (fun q24 => ?_) (fun q24 => ?_)
      ·
        simp at q24
        refine VCnew.intro fun x25 => ?_
        apply loop_mod (α := (Nat) × (Hp) × (Option Addr) × (Nat) × (Hp) × (Option Addr) × (Nat)) G_ok [111, 112, 113, 13, 114, 115, 116, 14, 117, 118, 119, 120, 121, 122, 123, 124, 125, 126, 127, 128, 129, 130, 131, 132, 133, 134, 110] (fun z => [(110, .v (.int .i64 z.1))]) (fun z => [⟨q, [Value.slice bp ps.length cp, .slice z.2.2.1 (altK ps n (lb, fo) ((ps[i]?.getD default).kids.take z.1)).1.1.length z.2.2.2.1, .slice z.2.2.2.2.2.1 (altK ps n (lb, fo) ((ps[i]?.getD default).kids.take z.1)).1.2.length z.2.2.2.2.2.2], (300 : TypeId)⟩, ⟨x0, [Value.int IntKind.u32 (0 : Int), Value.int IntKind.u32 (0 : Int), Value.bool false], (303 : Nat)⟩, ⟨x3, [Value.int IntKind.i64 (ps[i]?.getD default).op, Value.int IntKind.u8 (↑(ps[i]?.getD default).label.toNat : Int), Value.slice b2x2 (ps[i]?.getD default).kids.length c2x2], (279 : Nat)⟩, ⟨x25, [.int .u32 ((altK ps n (lb, fo) ((ps[i]?.getD default).kids.take z.1)).2.first : Nat), .int .u32 ((altK ps n (lb, fo) ((ps[i]?.getD default).kids.take z.1)).2.last : Nat), .bool (altK ps n (lb, fo) ((ps[i]?.getD default).kids.take z.1)).2.empty], (303 : Nat)⟩]) (fun z => [z.2.1, z.2.2.2.2.1, H]) (fun z => (ps[i]?.getD default).kids.length - z.1) (fun z => z.1 ≤ (ps[i]?.getD default).kids.length ∧ (gSl 5 gY).ow [.slice z.2.2.1 (altK ps n (lb, fo) ((ps[i]?.getD default).kids.take z.1)).1.1.length z.2.2.2.1] (altK ps n (lb, fo) ((ps[i]?.getD default).kids.take z.1)).1.1 z.2.1 ∧ (gSl 301 gU).ow [.slice z.2.2.2.2.2.1 (altK ps n (lb, fo) ((ps[i]?.getD default).kids.take z.1)).1.2.length z.2.2.2.2.2.2] (altK ps n (lb, fo) ((ps[i]?.getD default).kids.take z.1)).1.2 z.2.2.2.2.1) ((0, AL, bl, cl, AF, bf, cf))
        · repeat' (first | exact trivial | refine ⟨⟨_, rfl, by first | rfl | exact inc_eq _ (by omega) | (refine sl_eq ?_; simp; done), by first | exact trivial | simp [SV.ok]⟩, ?_⟩)
        · (simp only [List.take_zero, rowK_nil, altK_nil]; repeat' (first | exact trivial | refine ⟨by first | rfl | simp [Blk.ent], ?_⟩))
        · try dsimp only
          (simp only [List.take_zero, rowK_nil, altK_nil]; exact ⟨Nat.zero_le _, hL, hF⟩)
        · exact .refl _
        rintro ⟨j, L, bl2, cl2, F, bf2, cf2⟩ hI
        obtain ⟨hj, oL, oF⟩ : j ≤ (ps[i]?.getD default).kids.length ∧ (gSl 5 gY).ow [.slice bl2 (altK ps n (lb, fo) ((ps[i]?.getD default).kids.take j)).1.1.length cl2] (altK ps n (lb, fo) ((ps[i]?.getD default).kids.take j)).1.1 L ∧ (gSl 301 gU).ow [.slice bf2 (altK ps n (lb, fo) ((ps[i]?.getD default).kids.take j)).1.2.length cf2] (altK ps n (lb, fo) ((ps[i]?.getD default).kids.take j)).1.2 F := hI
        try dsimp only
        refine VCsplit.intro (fun q26 => ?_) (fun q26 => ?_)
        ·
          simp at q26
          have hsum := sumK_take (cntF ps n) (ps[i]?.getD default).kids j (by omega)
          have hkd := kid_rng hps hi (by assumption) (by omega : j < (ps[i]?.getD default).kids.length)
          have hfine := altK_fine hps hi hin hg (by assumption) j
          have hfl2 : (altK ps n (lb, fo) ((ps[i]?.getD default).kids.take j)).1.1.length = lb.length + sumK (cntF ps n) ((ps[i]?.getD default).kids.take j) := hfine.2.1
          have hck := cnt_kids (ps := ps) (n := n) (i := i) (by assumption)
          have hV := visit_fine ps n ((ps[i]?.getD default).kids[j]?.getD 0).toNat ((altK ps n (lb, fo) ((ps[i]?.getD default).kids.take j)).1.1, (altK ps n (lb, fo) ((ps[i]?.getD default).kids.take j)).1.2) hfine.1 hps (by omega) (by omega)
          have hv1 : (visit ps n ((ps[i]?.getD default).kids[j]?.getD 0).toNat ((altK ps n (lb, fo) ((ps[i]?.getD default).kids.take j)).1.1, (altK ps n (lb, fo) ((ps[i]?.getD default).kids.take j)).1.2)).1.1.length = (altK ps n (lb, fo) ((ps[i]?.getD default).kids.take j)).1.1.length + cntF ps n ((ps[i]?.getD default).kids[j]?.getD 0).toNat := hV.2.1
          have hv2 : (visit ps n ((ps[i]?.getD default).kids[j]?.getD 0).toNat ((altK ps n (lb, fo) ((ps[i]?.getD default).kids.take j)).1.1, (altK ps n (lb, fo) ((ps[i]?.getD default).kids.take j)).1.2)).1.1.length = (visit ps n ((ps[i]?.getD default).kids[j]?.getD 0).toNat ((altK ps n (lb, fo) ((ps[i]?.getD default).kids.take j)).1.1, (altK ps n (lb, fo) ((ps[i]?.getD default).kids.take j)).1.2)).1.2.length := hV.1.1
          have hb1 : (visit ps n ((ps[i]?.getD default).kids[j]?.getD 0).toNat ((altK ps n (lb, fo) ((ps[i]?.getD default).kids.take j)).1.1, (altK ps n (lb, fo) ((ps[i]?.getD default).kids.take j)).1.2)).2.first < 4294967296 := u32_of hV.2.2.1 (by omega)
          have hb2 : (visit ps n ((ps[i]?.getD default).kids[j]?.getD 0).toNat ((altK ps n (lb, fo) ((ps[i]?.getD default).kids.take j)).1.1, (altK ps n (lb, fo) ((ps[i]?.getD default).kids.take j)).1.2)).2.last < 4294967296 := u32_of hV.2.2.2 (by omega)
          have hb3 : (altK ps n (lb, fo) ((ps[i]?.getD default).kids.take j)).2.first < 4294967296 := u32_of hfine.2.2.1 (by omega)
          have hb4 : (altK ps n (lb, fo) ((ps[i]?.getD default).kids.take j)).2.last < 4294967296 := u32_of hfine.2.2.2 (by omega)
          have hb5 : (altK ps n (lb, fo) ((ps[i]?.getD default).kids.take j)).2.last < 2 ^ (visit ps n ((ps[i]?.getD default).kids[j]?.getD 0).toNat ((altK ps n (lb, fo) ((ps[i]?.getD default).kids.take j)).1.1, (altK ps n (lb, fo) ((ps[i]?.getD default).kids.take j)).1.2)).1.2.length := Nat.lt_of_lt_of_le hfine.2.2.2 (pow_mono (by omega))
          have hkl := (rd_len (xs := (ps[i]?.getD default).kids) (by assumption)).2
          have hnx : altK ps n (lb, fo) ((ps[i]?.getD default).kids.take (j + 1)) = altOf (altK ps n (lb, fo) ((ps[i]?.getD default).kids.take j)) (visit ps n ((ps[i]?.getD default).kids[j]?.getD 0).toNat ((altK ps n (lb, fo) ((ps[i]?.getD default).kids.take j)).1.1, (altK ps n (lb, fo) ((ps[i]?.getD default).kids.take j)).1.2)) := altK_next (ps := ps) (n := n) (s := (lb, fo)) (by omega : j < (ps[i]?.getD default).kids.length)
          refine idx_rd h2x2 ?_ ?_ fun b27 o27 hb27 => ?_
          · omega
          · omega
          refine load_allN 0 (j) rfl h2x2 ?_ ?_ hb27 rfl (mem_at 2 rfl) fun l28 hl28 => ?_
          · omega
          · omega
          obtain ⟨rfl, hw28⟩ := hl28; simp only [flStr, flInt, okI] at hw28
          refine callR_blk 0 (L ++ F) [H] rfl ?_ (hI _ _ _ _ _ _ _ _ _ _ _ _ _ (Int.toNat_of_nonneg ?_).symm ?_ ?_ ?_ ?_ oL oF) (Rp.mono _ (mem_at 0 rfl) hp) ?_
          · exact .le fun a => by (try simp only [setR, List.cons_append, List.nil_append]); simp only [List.flatten_append, List.flatten_cons, List.flatten_nil, List.count_append, List.count_nil, List.append_nil, List.nil_append]; omega
          · omega
          · omega
          · omega
          · exact hfine.1
          · omega
          rintro _ A29 ⟨bl1, cl1, bf1, cf1, AL1, AF1, rfl, rfl, oL1, oF1⟩
          refine ⟨_, _, [AL1, AF1], rfl, perm2, ?_⟩
          refine VCnew.intro fun x30 => ?_
          refine VCsplit.intro (fun q31 => ?_) (fun q31 => ?_)
          ·
            (have hRt : (altK ps n (lb, fo) ((ps[i]?.getD default).kids.take j)).2.empty = true := q31)
            apply loop_stepA (j + 1, AL1, bl1, cl1, AF1, bf1, cf1)
            · exact .refl _
            · repeat' (first | exact trivial | refine ⟨⟨_, rfl, by first | rfl | exact inc_eq _ (by omega) | (refine sl_eq ?_; simp; done), by first | exact trivial | simp [SV.ok]⟩, ?_⟩)
            · (simp only [hnx, altOf, hRt, or_u32 hb3 hb1, or_u32 hb4 hb2, if_true, if_false, Bool.false_eq_true, Bool.true_and, Bool.and_true, Bool.false_and, Bool.and_false, Bool.true_or, Bool.false_or, Bool.or_true, Bool.or_false, Nat.zero_or, reduceIte]; repeat' (first | exact trivial | refine ⟨by first | rfl | simp [Blk.ent], ?_⟩))
            · try dsimp only
              (rw [hnx]; exact ⟨by omega, oL1, oF1⟩)
            try dsimp only
            omega
          ·
            (have hRf : (altK ps n (lb, fo) ((ps[i]?.getD default).kids.take j)).2.empty = false := q31)
            apply loop_stepA (j + 1, AL1, bl1, cl1, AF1, bf1, cf1)
            · exact .refl _
            · repeat' (first | exact trivial | refine ⟨⟨_, rfl, by first | rfl | exact inc_eq _ (by omega) | (refine sl_eq ?_; simp; done), by first | exact trivial | simp [SV.ok]⟩, ?_⟩)
            · (simp only [hnx, altOf, hRf, or_u32 hb3 hb1, or_u32 hb4 hb2, if_true, if_false, Bool.false_eq_true, Bool.true_and, Bool.and_true, Bool.false_and, Bool.and_false, Bool.true_or, Bool.false_or, Bool.or_true, Bool.or_false, Nat.zero_or, reduceIte]; repeat' (first | exact trivial | refine ⟨by first | rfl | simp [Blk.ent], ?_⟩))
            · try dsimp only
              (rw [hnx]; exact ⟨by omega, oL1, oF1⟩)
            try dsimp only
            omega
        ·
          simp at q26
          (have hje : j = (ps[i]?.getD default).kids.length := (by omega); subst hje; rw [List.take_length] at oL oF ⊢; rw [visit_alt ‹(ps[i]?.getD default).op = 3›]; exact ⟨_, ⟨_, _, _, _, _, _, rfl, rfl, oL, oF⟩, (.le fun a => by (try simp only [setR, List.cons_append, List.nil_append]); simp [List.count_cons, Blk.ent, idOf]; try omega)⟩)
      ·
        simp at q24
        have hkl1 := kids_one hps hi (by assumption) (by assumption) (by assumption)
        have hkd := kid_rng hps hi (by assumption) (by omega : 0 < (ps[i]?.getD default).kids.length)
        have hck := cnt_kids (ps := ps) (n := n) (i := i) (by assumption)
        have hs1 := sum_one (f := cntF ps n) hkl1
        have hV := visit_fine ps n ((ps[i]?.getD default).kids[0]?.getD 0).toNat (lb, fo) hg hps (by omega) (by omega)
        have hv1 : (visit ps n ((ps[i]?.getD default).kids[0]?.getD 0).toNat (lb, fo)).1.1.length = lb.length + cntF ps n ((ps[i]?.getD default).kids[0]?.getD 0).toNat := hV.2.1
        have hv2 : (visit ps n ((ps[i]?.getD default).kids[0]?.getD 0).toNat (lb, fo)).1.1.length = (visit ps n ((ps[i]?.getD default).kids[0]?.getD 0).toNat (lb, fo)).1.2.length := hV.1.1
        have hb1 : (visit ps n ((ps[i]?.getD default).kids[0]?.getD 0).toNat (lb, fo)).2.first < 4294967296 := u32_of hV.2.2.1 (by omega)
        have hb2 : (visit ps n ((ps[i]?.getD default).kids[0]?.getD 0).toNat (lb, fo)).2.last < 4294967296 := u32_of hV.2.2.2 (by omega)
        have hb5 : (visit ps n ((ps[i]?.getD default).kids[0]?.getD 0).toNat (lb, fo)).2.last < 2 ^ (visit ps n ((ps[i]?.getD default).kids[0]?.getD 0).toNat (lb, fo)).1.2.length := Nat.lt_of_lt_of_le hV.2.2.2 (pow_mono (by omega))
        have hvo := visit_one (ps := ps) (n := n) (i := i) (s := (lb, fo)) (by assumption) (by assumption) (by assumption)
        refine idx_rd h2x2 ?_ ?_ fun b32 o32 hb32 => ?_
        · trivial
        · omega
        refine load_allN 0 (0) rfl h2x2 ?_ ?_ hb32 rfl (mem_at 2 rfl) fun l33 hl33 => ?_
        · trivial
        · omega
        obtain ⟨rfl, hw33⟩ := hl33; simp only [flStr, flInt, okI] at hw33
        refine callR_blk 0 (AL ++ AF) [H] rfl ?_ (hI _ _ _ _ _ _ _ _ _ _ _ _ _ (Int.toNat_of_nonneg ?_).symm ?_ ?_ ?_ ?_ hL hF) (Rp.mono _ (mem_at 0 rfl) hp) ?_
        · exact .le fun a => by (try simp only [setR, List.cons_append, List.nil_append]); simp only [List.flatten_append, List.flatten_cons, List.flatten_nil, List.count_append, List.count_nil, List.append_nil, List.nil_append]; omega
        · omega
        · omega
        · omega
        · trivial
        · omega
        rintro _ A34 ⟨bl1, cl1, bf1, cf1, AL1, AF1, rfl, rfl, oL1, oF1⟩
        refine ⟨_, _, [AL1, AF1], rfl, perm2, ?_⟩
        refine VCnew.intro fun x35 => ?_
        refine VCsplit.intro (fun q36 => ?_) (fun q36 => ?_)
        ·
          simp at q36
          refine callR_blk 0 (AF1) [AL1, H] rfl ?_ (psConnect_ct _ _ _ _ _ _ _ _ _ oF1 ?_ ?_ ?_) trivial ?_
          · exact .le fun a => by (try simp only [setR, List.cons_append, List.nil_append]); simp only [List.flatten_append, List.flatten_cons, List.flatten_nil, List.count_append, List.count_nil, List.append_nil, List.nil_append]; omega
          · trivial
          · trivial
          · omega
          rintro _ A37 ⟨bf, cf, Af, rfl, rfl, of'⟩
          refine ⟨_, _, [Af], rfl, perm1, ?_⟩
          refine VCsplit.intro (fun q38 => ?_) (fun q38 => ?_)
          ·
            (rw [hvo]; unfold oneStep; rw [if_neg (by assumption)]; exact ⟨_, ⟨_, _, _, _, _, _, by simp_all, rfl, oL1, of'⟩, (.le fun a => by (try simp only [setR, List.cons_append, List.nil_append]); simp [List.count_cons, Blk.ent, idOf]; try omega)⟩)
          ·
            (have h9 := ‹(visit ps n ((ps[i]?.getD default).kids[0]?.getD 0).toNat (lb, fo)).2.empty = false›; have e5 := ne_emp h9 (ps[i]?.getD default).op; rw [hvo]; unfold oneStep; rw [if_neg ‹¬ (ps[i]?.getD default).op = 6›]; exact ⟨_, ⟨_, _, _, _, _, _, congrArg (fun x => Value.agg ⟨[.int .u32 ((visit ps n ((ps[i]?.getD default).kids[0]?.getD 0).toNat (lb, fo)).2.first : Nat), .int .u32 ((visit ps n ((ps[i]?.getD default).kids[0]?.getD 0).toNat (lb, fo)).2.last : Nat), .bool x]⟩) e5, rfl, oL1, of'⟩, (.le fun a => by (try simp only [setR, List.cons_append, List.nil_append]); simp [List.count_cons, Blk.ent, idOf]; try omega)⟩)
        ·
          simp at q36
          refine VCsplit.intro (fun q39 => ?_) (fun q39 => ?_)
          ·
            (rw [hvo]; unfold oneStep; simp only [‹(ps[i]?.getD default).op = 6›, if_true]; exact ⟨_, ⟨_, _, _, _, _, _, by simp_all, rfl, oL1, oF1⟩, (.le fun a => by (try simp only [setR, List.cons_append, List.nil_append]); simp [List.count_cons, Blk.ent, idOf]; try omega)⟩)
          ·
            (rw [hvo]; unfold oneStep; simp only [‹(ps[i]?.getD default).op = 6›, if_true]; exact ⟨_, ⟨_, _, _, _, _, _, by simp_all, rfl, oL1, oF1⟩, (.le fun a => by (try simp only [setR, List.cons_append, List.nil_append]); simp [List.count_cons, Blk.ent, idOf]; try omega)⟩)
theorem vis_all (ps : List Piece) (hps : PsOk ps) (hlen : ps.length ≤ 60) : ∀ n, VisCt ps n
  | 0 => by intro q ki i lb fo bp bl bf cp cl cf AL AF _ _ h; omega
  | n + 1 => psVisit_ct ps n hps hlen (vis_all ps hps hlen n)
end Go.Proofs.YtcnclhjhnjpeiaaGreatDoor

--@dev import Derived.Test.YtcnclhjhnjpeiaaGreatDoorSxWalk
namespace Go.Proofs.YtcnclhjhnjpeiaaGreatDoor
open Go.SX Go.Proofs
set_option maxHeartbeats 4000000
attribute [local irreducible] IntKind.wrap
def LookCt (ps : List Piece) (n : Nat) : Prop :=
  ∀ (q : Nat) (ki : Int) (i : Nat) (lb : List UInt8) (xs : List Arc) (bp bl ba : Option Addr) (cp cl ca : Nat) (AL AX : Hp) (bd : Bool), ki = i → i < ps.length → i < n → bd = false → GoodM (lb, xs) → lb.length ≤ 23 →
    (gSl 5 gY).ow [.slice bl lb.length cl] lb AL → (gSl 282 gArc).ow [.slice ba xs.length ca] xs AX →
    CtR Tryz.prog 175 [.pointer (some ⟨q, 0, none⟩), .int .i64 ki] ((q, Obj.cells ⟨[.slice bp ps.length cp, .slice bl lb.length cl, .slice ba xs.length ca, .bool bd]⟩ 249) :: (AL ++ AX)) (fun H => (gSl 279 gPiece).rd H [.slice bp ps.length cp] ps)
      (fun v D => ∃ bl' cl' ba' ca' AL' AX' b1 c1 A1 b2 c2 A2, v = .agg ⟨[.slice b1 (look ps n i (lb, xs)).2.first.length c1, .slice b2 (look ps n i (lb, xs)).2.last.length c2, .bool (look ps n i (lb, xs)).2.null]⟩ ∧
        D = (q, Obj.cells ⟨[.slice bp ps.length cp, .slice bl' (look ps n i (lb, xs)).1.1.length cl', .slice ba' (look ps n i (lb, xs)).1.2.length ca', .bool (badM (look ps n i (lb, xs)).1)]⟩ 249) :: (AL' ++ (AX' ++ (A1 ++ A2))) ∧
        (gSl 5 gY).ow [.slice bl' (look ps n i (lb, xs)).1.1.length cl'] (look ps n i (lb, xs)).1.1 AL' ∧ (gSl 282 gArc).ow [.slice ba' (look ps n i (lb, xs)).1.2.length ca'] (look ps n i (lb, xs)).1.2 AX' ∧
        (gSl 3 gI).ow [.slice b1 (look ps n i (lb, xs)).2.first.length c1] (look ps n i (lb, xs)).2.first A1 ∧ (gSl 3 gI).ow [.slice b2 (look ps n i (lb, xs)).2.last.length c2] (look ps n i (lb, xs)).2.last A2)
theorem perm4 {e : Nat × Obj} {A B C D : Hp} : (e :: (A ++ (B ++ (C ++ D)))).Perm (e :: [A, B, C, D].flatten) := by simp
theorem look_step {ps : List Piece} {n i : Nat} {s : MkS} (h : (ps[i]?.getD default).op = 1) : look ps (n + 1) i s = ((s.1 ++ [(ps[i]?.getD default).label], s.2), ⟨[((s.1.length + 1 : Nat) : Int)], [((s.1.length + 1 : Nat) : Int)], false⟩) := by unfold look; rw [if_pos h]
/-- the kids so far -/
def lkK (ps : List Piece) (n : Nat) (op : Int) (s : MkS) (l : List Int) : MkS × Look := l.foldl (lkStep op (look ps n)) (s, ⟨[], [], decide (op = 2)⟩)
theorem look_kids {ps : List Piece} {n i : Nat} {s : MkS} (h : ¬ (ps[i]?.getD default).op = 1) : look ps (n + 1) i s = lkK ps n (ps[i]?.getD default).op s (ps[i]?.getD default).kids := by
  conv => lhs; unfold look
  rw [if_neg h]; rfl
theorem lkK_nil {ps : List Piece} {n : Nat} {op : Int} {s : MkS} : lkK ps n op s [] = (s, ⟨[], [], decide (op = 2)⟩) := rfl
theorem lkK_next {ps : List Piece} {n : Nat} {op : Int} {s : MkS} {l : List Int} {j : Nat} (hj : j < l.length) : lkK ps n op s (l.take (j + 1)) = lkStep op (look ps n) (lkK ps n op s (l.take j)) (l[j]?.getD 0) := by
  unfold lkK; rw [← List.take_append_getElem hj, List.foldl_append, List.getElem?_eq_getElem hj]; rfl
theorem foldl_bad {op : Int} {V : Nat → MkS → MkS × Look} {st : MkS × Look} (h : badM st.1 = true) : ∀ l : List Int, l.foldl (lkStep op V) st = st
  | [] => rfl
  | k :: l => by
    have e : lkStep op V st k = st := by unfold lkStep; rw [if_pos h]
    rw [List.foldl_cons, e]; exact foldl_bad h l
/-- once 24 labels are seen, no more kids are looked at -/
theorem lkK_bad {ps : List Piece} {n : Nat} {op : Int} {s : MkS} {l : List Int} {j : Nat} (h : badM (lkK ps n op s (l.take j)).1 = true) : lkK ps n op s l = lkK ps n op s (l.take j) := by
  conv => lhs; rw [← List.take_append_drop j l]
  unfold lkK at h ⊢
  rw [List.foldl_append]; exact foldl_bad h _
theorem lkK_fine {ps : List Piece} (hps : PsOk ps) {n i : Nat} (hi : i < ps.length) (hin : i < n + 1) {s : MkS} (hg : GoodM s) (hs : s.1.length ≤ 23) (h : ¬ (ps[i]?.getD default).op = 1) : ∀ j, (2 ≤ (ps[i]?.getD default).op ∧ (ps[i]?.getD default).op ≤ 3 ∨ j ≤ 1) → LFine s (sumK (cntF ps n) ((ps[i]?.getD default).kids.take j)) (lkK ps n (ps[i]?.getD default).op s ((ps[i]?.getD default).kids.take j))
  | 0, _ => lfine_zero hg hs
  | j + 1, hj1 => by
    have ih := lkK_fine hps hi hin hg hs h j (by omega)
    rcases Nat.lt_or_ge j (ps[i]?.getD default).kids.length with hj | hj
    · rw [lkK_next hj, (sumK_take _ _ j hj).2]
      have hk := kid_rng hps hi h hj
      unfold lkStep
      split
      · rename_i hb; exact lfine_bad ih hb
      rename_i hb
      have hv := look_fine ps n _ _ ih.1 (bad_not hb) hps (by omega : ((ps[i]?.getD default).kids[j]?.getD 0).toNat < ps.length) (by omega)
      split
      · exact lkRow_fine ih hv
      split
      · exact lkAlt_fine ih hv
      obtain rfl : j = 0 := by omega
      have e : sumK (cntF ps n) ((ps[i]?.getD default).kids.take 0) = 0 := rfl
      rw [e, Nat.zero_add]; exact lkOne_fine hv
    rw [List.take_of_length_le (by omega)] at ih ⊢; exact ih
end Go.Proofs.YtcnclhjhnjpeiaaGreatDoor
