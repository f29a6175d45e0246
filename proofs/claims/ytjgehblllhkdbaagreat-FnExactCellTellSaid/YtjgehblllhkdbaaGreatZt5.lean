/-
 Parts of the law, put together. Conditions: none.
-/
import Derived.Test.YtjgehblllhkdbaaGreatZt4
set_option maxHeartbeats 8000000
set_option linter.unusedSimpArgs false
set_option linter.unusedVariables false
namespace Go.Proofs.YtjgehblllhkdbaaGreat
open Go.SX Go.Proofs
open Tryz
section
theorem allK_all {p : Nat → Bool} : ∀ {n : Nat}, (∀ i, i < n → p i = true) → allK p n = true
 | 0, _ => rfl
 | n + 1, h => allK_step (allK_all fun i hi => h i (by omega)) (h n (by omega))
theorem nfaOk_of {n : Nat} {lb : List UInt8} {xs : List Arc} {ends : List Bool} (hg : GoodM (lb, xs)) (hl : lb.length = n) (hn : n ≤ 23) (he : ends.length = n + 1) : nfaOk ⟨((n + 1 : Nat) : Int), xs, ends⟩ = true := by
 obtain ⟨⟨g1, g2⟩, g3, g4⟩ := hg
 refine nfaOk_yes (by show (1 : Int) ≤ ((n + 1 : Nat) : Int) ∧ ((n + 1 : Nat) : Int) ≤ 24; omega) (by show ((ends.length : Nat) : Int) = ((n + 1 : Nat) : Int); rw [he]) (allK_all fun i hi => ?_)
 have hi : i < xs.length := hi
 have e1 : (xs[i]?.getD default) = xs[i] := by rw [List.getElem?_eq_getElem hi]; rfl
 have hm := List.getElem_mem hi
 have r := g2 _ hm
 have q := g4 _ hm
 unfold rngA at r
 have q2 : xs[i].from' ≤ (n : Int) ∧ xs[i].to ≤ (n : Int) := by
  have := q.2; rw [show (lb, xs).1.length = n from hl] at this; exact this
 unfold arcOk
 show (inR 0 (((n + 1 : Nat) : Int) - 1) (xs[i]?.getD default).from' && (inR 0 (((n + 1 : Nat) : Int) - 1) (xs[i]?.getD default).to && (labelOk (xs[i]?.getD default).label && (decide (i = 0) || arcLess (xs[i - 1]?.getD default) (xs[i]?.getD default))))) = true
 rw [e1, inR_iff.2 (by omega), inR_iff.2 (by omega), q.1, Bool.true_and, Bool.true_and, Bool.true_and]
 rcases Nat.eq_zero_or_pos i with h0 | h0
 ·rw [decide_eq_true h0]; rfl
 have hi1 : i - 1 < xs.length := by omega
 have e2 : (xs[i - 1]?.getD default) = xs[i - 1] := by rw [List.getElem?_eq_getElem hi1]; rfl
 rw [e2, Bool.or_eq_true]
 exact .inr ((less_code (g2 _ (List.getElem_mem hi1)) (g2 _ hm)).2 (List.pairwise_iff_getElem.1 g1 (i - 1) i hi1 hi (by omega)))
def endF (l : List Int) (e : List Bool) : List Bool := l.foldl (fun e i => e.set i.toNat true) e
theorem endF_len : ∀ (l : List Int) (e : List Bool), (endF l e).length = e.length
 | [], _ => rfl
 | i :: l, e => (endF_len l (e.set i.toNat true)).trans List.length_set
theorem endF_step {l : List Int} {e : List Bool} {k : Nat} (h : k < l.length) : endF (l.take (k + 1)) e = (endF (l.take k) e).set (l[k]?.getD 0).toNat true := by
 unfold endF
 rw [← List.take_append_getElem h, List.foldl_append, List.getElem?_eq_getElem h]; rfl
theorem endF_get : ∀ (l : List Int) (e : List Bool) (k : Nat), k < e.length → (endF l e)[k]? = if (∃ i ∈ l, i.toNat = k) then some true else e[k]?
 | [], e, k, _ => by rw [if_neg (by rintro ⟨i, h, _⟩; cases h)]; rfl
 | i :: l, e, k, hk => by
  show (endF l (e.set i.toNat true))[k]? = _
  rw [endF_get l _ k (by rw [List.length_set]; exact hk)]
  by_cases h1 : ∃ j ∈ l, j.toNat = k
  ·rw [if_pos h1, if_pos]
   obtain ⟨j, h2, h3⟩ := h1
   exact ⟨j, List.mem_cons_of_mem _ h2, h3⟩
  rw [if_neg h1]
  by_cases h2 : i.toNat = k
  ·rw [if_pos ⟨i, List.mem_cons_self .., h2⟩, h2, List.getElem?_set, if_pos rfl, if_pos hk]
  rw [if_neg, List.getElem?_set, if_neg h2]
  rintro ⟨j, h3, h4⟩
  rcases List.mem_cons.1 h3 with rfl | h3
  ·exact h2 h4
  exact h1 ⟨j, h3, h4⟩
theorem ends_done {n : Nat} {l : List Int} {e : Bool} (h : ToOk n l) : endF l (e :: List.replicate n false) = endsS e l n := by
 apply List.ext_getElem?
 intro k
 unfold endsS
 rcases Nat.lt_or_ge k (n + 1) with hk | hk
 ·rw [endF_get _ _ _ (by simpa using hk)]
  cases k with
  | zero =>
   rw [if_neg]
   ·rfl
   rintro ⟨i, h1, h2⟩
   have := h i h1
   omega
  | succ k =>
   have e1 : (List.replicate n false)[k]? = some false := by rw [List.getElem?_replicate, if_pos (by omega)]
   rw [List.getElem?_cons_succ, List.getElem?_cons_succ, e1, List.getElem?_map, List.getElem?_range (by omega)]
   show _ = some (decide (((k : Int) + 1) ∈ l))
   by_cases h1 : ((k : Int) + 1) ∈ l
   ·rw [decide_eq_true h1]; exact if_pos ⟨_, h1, by omega⟩
   rw [decide_eq_false h1]
   refine if_neg ?_
   rintro ⟨i, h2, h3⟩
   have := h i h2
   exact h1 (by rw [show (k : Int) + 1 = i by omega]; exact h2)
 rw [List.getElem?_eq_none (by rw [endF_len]; simpa using hk), List.getElem?_eq_none (by simpa using hk)]
theorem look_all (ps : List Piece) (hps : PsOk ps) (hlen : ps.length ≤ 60) : ∀ n, LookCt ps n
 | 0 => by intro q ki i lb xs bp bl ba cp cl ca AL AX bd _ _ h; omega
 | n + 1 => look_ct ps n hps hlen (look_all ps hps hlen n)
attribute [local irreducible] IntKind.wrap topV topL nfaOf cntF arcsK joinA endF
theorem topLook_ct (ps : List Piece) (hps : PsOk ps) (hlen : ps.length ≤ 60) (h1 : 1 ≤ ps.length) (q : Nat) (ki : Int) (bp bl ba : Option Addr) (cp cl ca : Nat) (hk : ki = ((ps.length - 1 : Nat) : Int)) (hL : (gSl 5 gY).ow [.slice bl 0 cl] [] []) (hX : (gSl 276 gArc).ow [.slice ba 0 ca] [] []) :
  CtR prog 272 [.pointer (some ⟨q, 0, none⟩), .int .i64 ki] [(q, Obj.cells ⟨[.slice bp ps.length cp, .slice bl 0 cl, .slice ba 0 ca, .bool false]⟩ 351)] (fun H => (gSl 417 gPiece).rd H [.slice bp ps.length cp] ps)
   (fun v D => ∃ bl' cl' ba' ca' AL' AX' b1 c1 A1 b2 c2 A2, v = .agg ⟨[.slice b1 (topL ps).2.first.length c1, .slice b2 (topL ps).2.last.length c2, .bool (topL ps).2.null]⟩ ∧
    D = (q, Obj.cells ⟨[.slice bp ps.length cp, .slice bl' (topL ps).1.1.length cl', .slice ba' (topL ps).1.2.length ca', .bool (badM (topL ps).1)]⟩ 351) :: (AL' ++ (AX' ++ (A1 ++ A2))) ∧
    (gSl 5 gY).ow [.slice bl' (topL ps).1.1.length cl'] (topL ps).1.1 AL' ∧ (gSl 276 gArc).ow [.slice ba' (topL ps).1.2.length ca'] (topL ps).1.2 AX' ∧
    (gSl 3 gI).ow [.slice b1 (topL ps).2.first.length c1] (topL ps).2.first A1 ∧ (gSl 3 gI).ow [.slice b2 (topL ps).2.last.length c2] (topL ps).2.last A2) := by
 unfold topL
 exact look_all ps hps hlen ps.length q ki (ps.length - 1) [] [] bp bl ba cp cl ca [] [] false hk (by omega) (by omega) rfl goodM_nil (by show 0 ≤ 23; omega) hL hX
theorem top_bad {ps : List Piece} (hps : PsOk ps) (h : 1 ≤ ps.length) (hb : badM (topL ps).1 = true) : nfaGo ps = false := by
 have hf := (topL_fine hps h).2.1
 have h1 := of_decide_eq_true hb
 have hf : (topL ps).1.1.length = min 24 (0 + cntF ps ps.length (ps.length - 1)) := hf
 exact decide_eq_false (by omega)
theorem top_good {ps : List Piece} (hps : PsOk ps) (h : 1 ≤ ps.length) (hb : badM (topL ps).1 = false) : nfaGo ps = true ∧ (topL ps).1.1.length ≤ 23 ∧ GoodM (topL ps).1 ∧ ToOk (topL ps).1.1.length (topL ps).2.first ∧ ToOk (topL ps).1.1.length (topL ps).2.last ∧ (topL ps).2.first.length ≤ 23 ∧ (topL ps).2.last.length ≤ 23 := by
 obtain ⟨f1, f2, f3, f4, f5, f6⟩ := topL_fine hps h
 have h1 := of_decide_eq_false hb
 have f2 : (topL ps).1.1.length = min 24 (0 + cntF ps ps.length (ps.length - 1)) := f2
 have f5 : (topL ps).2.first.length + 0 ≤ (topL ps).1.1.length := f5
 have f6 : (topL ps).2.last.length + 0 ≤ (topL ps).1.1.length := f6
 exact ⟨decide_eq_true (by omega), by omega, f1, f3, f4, by omega, by omega⟩
theorem nfa_spec {ps : List Piece} (h : ToOk (topL ps).1.1.length (topL ps).2.last) : nfaOf ps = ⟨((topL ps).1.1.length + 1 : Nat), joinA (topL ps).1.1 [0] (topL ps).2.first (topL ps).1.2, endF (topL ps).2.last ((topL ps).2.null :: List.replicate (topL ps).1.1.length false)⟩ := by
 rw [ends_done h]; unfold nfaOf; rfl
theorem nfa_spec_ok {ps : List Piece} (hl : (topL ps).1.1.length ≤ 23) (hg : GoodM (topL ps).1) (hf : ToOk (topL ps).1.1.length (topL ps).2.first) : nfaOk ⟨((topL ps).1.1.length + 1 : Nat), joinA (topL ps).1.1 [0] (topL ps).2.first (topL ps).1.2, endF (topL ps).2.last ((topL ps).2.null :: List.replicate (topL ps).1.1.length false)⟩ = true :=
 nfaOk_of (lb := (topL ps).1.1) (join_good (xs := (topL ps).1.2) hg (by omega) (fun f h => by rw [List.mem_singleton.1 h]; omega) hf) rfl hl (by rw [endF_len]; simp)
theorem rep_set {n m : Nat} {e : Bool} (h : n = m + 1) : (List.replicate n false).set 0 e = endF [] (e :: List.replicate m false) := by
 subst h; unfold endF; rfl
theorem spec_nn {ps : List Piece} (hl : (topL ps).1.1.length ≤ 23) : (IntKind.i64.wrap (((topL ps).1.1.length : Int) + 1)).toNat = (topL ps).1.1.length + 1 := by rw [wrap_of (by omega) (by omega)]; omega
theorem spec_el {ps : List Piece} {l : List Int} : (endF l ((topL ps).2.null :: List.replicate (topL ps).1.1.length false)).length = (topL ps).1.1.length + 1 := by rw [endF_len]; simp
theorem spec_cells {ps : List Piece} {bj bz : Option Addr} {cj : Nat} (hl : (topL ps).1.1.length ≤ 23) : [Value.int .i64 (IntKind.i64.wrap (((topL ps).1.1.length : Int) + 1)), .slice bj (joinA (topL ps).1.1 [0] (topL ps).2.first (topL ps).1.2).length cj, .slice bz (IntKind.i64.wrap (((topL ps).1.1.length : Int) + 1)).toNat (IntKind.i64.wrap (((topL ps).1.1.length : Int) + 1)).toNat] = [Value.int .i64 (((topL ps).1.1.length + 1 : Nat) : Int), .slice bj (joinA (topL ps).1.1 [0] (topL ps).2.first (topL ps).1.2).length cj, .slice bz (endF (topL ps).2.last ((topL ps).2.null :: List.replicate (topL ps).1.1.length false)).length (IntKind.i64.wrap (((topL ps).1.1.length : Int) + 1)).toNat] := by
 have e1 : IntKind.i64.wrap (((topL ps).1.1.length : Int) + 1) = (((topL ps).1.1.length + 1 : Nat) : Int) := by rw [wrap_of (by omega) (by omega)]; omega
 rw [spec_el, spec_nn hl, e1]
theorem spec_nfa {ps : List Piece} {bj bz : Option Addr} {cj : Nat} {AX V : Hp} (hl : (topL ps).1.1.length ≤ 23) (oX : (gSl 276 gArc).ow [.slice bj (joinA (topL ps).1.1 [0] (topL ps).2.first (topL ps).1.2).length cj] (joinA (topL ps).1.1 [0] (topL ps).2.first (topL ps).1.2) AX) (oV : (gSl 4 gB).ow [.slice bz (IntKind.i64.wrap (((topL ps).1.1.length : Int) + 1)).toNat (IntKind.i64.wrap (((topL ps).1.1.length : Int) + 1)).toNat] (endF (topL ps).2.last ((topL ps).2.null :: List.replicate (topL ps).1.1.length false)) V) :
  gNfa.ow [Value.int .i64 (IntKind.i64.wrap (((topL ps).1.1.length : Int) + 1)), .slice bj (joinA (topL ps).1.1 [0] (topL ps).2.first (topL ps).1.2).length cj, .slice bz (IntKind.i64.wrap (((topL ps).1.1.length : Int) + 1)).toNat (IntKind.i64.wrap (((topL ps).1.1.length : Int) + 1)).toNat] ⟨(((topL ps).1.1.length + 1 : Nat) : Int), (joinA (topL ps).1.1 [0] (topL ps).2.first (topL ps).1.2), (endF (topL ps).2.last ((topL ps).2.null :: List.replicate (topL ps).1.1.length false))⟩ (AX ++ V) :=
 gNfa_ow.2 ⟨bj, cj, AX, bz, (IntKind.i64.wrap (((topL ps).1.1.length : Int) + 1)).toNat, V, spec_cells hl, .refl _, by unfold okI; dsimp only; omega, oX, by
  show (gSl 4 gB).ow [.slice bz (endF (topL ps).2.last ((topL ps).2.null :: List.replicate (topL ps).1.1.length false)).length (IntKind.i64.wrap (((topL ps).1.1.length : Int) + 1)).toNat] (endF (topL ps).2.last ((topL ps).2.null :: List.replicate (topL ps).1.1.length false)) V
  rw [spec_el, ← spec_nn hl]; exact oV⟩
theorem sub_hall2 {A B : Hp} {R : List Hp} {bl : List Blk} {fr : Fr} (h1 : A ∈ R) (h2 : B ∈ R) : ∀ p ∈ A ++ B, p ∈ St.hall ⟨fr, bl, R⟩ := fun p hp => (List.mem_append.1 hp).elim (sub_hall h1 p) (sub_hall h2 p)
theorem specNfaOf_ct (l : List Value) (x : Path) :
  Ct prog 191 [.agg ⟨l⟩] [] (fun H => gPath.rd H l x) (fun v A => ∃ b c b2 c2, v = .tuple #[.agg ⟨[.int .i64 (nfaR x).1.states, .slice b (nfaR x).1.arcs.length c, .slice b2 (nfaR x).1.ends.length c2]⟩, .bool (nfaR x).2] ∧ gNfa.ow [.int .i64 (nfaR x).1.states, .slice b (nfaR x).1.arcs.length c, .slice b2 (nfaR x).1.ends.length c2] (nfaR x).1 A) := by
 refine Ct.intro0 G_ok func191 rfl rfl rfl fun E H hp => ?_
 obtain ⟨b0p, c0p, rfl, h0p⟩ := gPath_rd.1 hp
 refine ⟨fun x0 => ?_⟩
 refine ⟨fun x1 => ?_⟩
 refine call_val (specPathOk_ct _ (x)) (Rp.mono _ (mem_at 0 rfl) hp) ?_
 rintro _ rfl
 refine ⟨fun q3 => ?_, fun q3 => ?_⟩
 ·simp at q3
  (rw [nfaR_no1 (by assumption)]; exact ⟨[], ⟨none, 0, none, 0, rfl, zNfa_ow⟩, .mem (by simp)⟩)
 ·simp at q3
  have hpo3 := path_all q3
  refine ⟨fun x4 => ?_⟩
  refine callR_blk 2 ([]) [H] rfl ?_ (topLook_ct x.pieces (path_all ‹pathOk x = true›).2.2 (path_all ‹pathOk x = true›).2.1 (path_all ‹pathOk x = true›).1 _ _ _ _ _ _ _ _ ?_ (sl_nil _ _ _) (sl_nil _ _ _)) (Rp.mono _ (mem_at 0 rfl) h0p) ?_
  ·exact .refl _
  ·(simp (disch := omega) only [wrap_of]; omega)
  rintro _ A5 ⟨bl1, cl1, ba1, ca1, AL1, AX1, b11, c11, A11, b21, c21, A21, rfl, rfl, oL1, oX1, oF1, oT1⟩
  have rF1 := Gt.owrd _ oF1
  have rT1 := Gt.owrd _ oT1
  refine ⟨_, _, [AL1, AX1, A11, A21], rfl, perm4, ?_⟩
  refine ⟨fun x6 => ?_⟩
  refine ⟨fun q7 => ?_, fun q7 => ?_⟩
  ·(rw [nfaR_no2 (top_bad (path_all ‹pathOk x = true›).2.2 (path_all ‹pathOk x = true›).1 (by assumption))]; exact ⟨[], ⟨none, 0, none, 0, rfl, zNfa_ow⟩, .mem (by simp)⟩)
  ·obtain ⟨hgo, ht1, hG, hF9, hL9, ht6, ht7⟩ := top_good (path_all ‹pathOk x = true›).2.2 (path_all ‹pathOk x = true›).1 ‹badM (topL x.pieces).1 = false›
   refine ⟨fun x8 => ?_⟩
   refine callR_blk 2 (AX1) [[(x8, Obj.cells { toList := Value.int IntKind.i64 (0 : Int) :: [].append (zeros (nat_lit 0) [Value.int IntKind.i64 (0 : Int)]) } (3 : TypeId))], AL1, A11, A21, H] rfl ?_ (mJoin_ct _ _ _ _ _ _ _ _ _ ((topL x.pieces).fst.fst) ([(0 : Int)]) ((topL x.pieces).snd.first) _ _ _ _ oX1 ?_ ?_ ?_ ?_) ⟨(Rp.mono _ (mem_at 1 rfl) (Gt.owrd _ oL1)), (Rp.mono _ (mem_at 0 rfl) (Ow.rd (Ow.lit (f := flInt) (T := (3 : TypeId)) (b := x8) (xs := [(0 : Int)]) (by first | (simp [flInt, okI]; done) | (simp only [List.forall_mem_cons]; simp_all [flInt, okI])) (by simp)))), (Rp.mono _ (mem_at 2 rfl) rF1)⟩ ?_
   ·exact rlA
   ·exact hG.1
   ·exact (fun x hx => by rw [List.mem_singleton.1 hx]; omega)
   ·trivial
   ·omega
   rintro _ A9 ⟨bj9, cj9, Aj9, rfl, rfl, oj9⟩
   refine ⟨_, _, [Aj9], rfl, perm1, ?_⟩
   refine draw_joinK (α := (Nat) × (Nat) × (Hp)) [31, 32, 33, 34, 35, 36, 37, 38, 39, 40, 41, 42, 43, 44, 45, 46, 47, 48, 6] (fun z => [(6, .p 4 0)]) (fun z => [⟨x0, [.slice b0p x.pieces.length c0p], 269⟩, ⟨x1, [.int .i64 0, .slice none 0 0, .slice none 0 0], 169⟩, ⟨x4, [.slice b0p x.pieces.length c0p, .slice bl1 (topL x.pieces).1.1.length cl1, .slice bj9 (joinA (topL x.pieces).1.1 [0] (topL x.pieces).2.first (topL x.pieces).1.2).length cj9, .bool (badM (topL x.pieces).1)], 351⟩, ⟨x6, [.slice b11 (topL x.pieces).2.first.length c11, .slice b21 (topL x.pieces).2.last.length c21, .bool (topL x.pieces).2.null], 353⟩, ⟨z.1, [.int .i64 (IntKind.i64.wrap (((topL x.pieces).1.1.length : Int) + 1)), .slice bj9 (joinA (topL x.pieces).1.1 [0] (topL x.pieces).2.first (topL x.pieces).1.2).length cj9, .slice (some ⟨z.2.1, 0, none⟩) (IntKind.i64.wrap (((topL x.pieces).1.1.length : Int) + 1)).toNat (IntKind.i64.wrap (((topL x.pieces).1.1.length : Int) + 1)).toNat], 169⟩]) (fun z => [z.2.2, Aj9, AL1, A11, A21, H]) (fun z => (gSl 4 gB).ow [.slice (some ⟨z.2.1, 0, none⟩) (IntKind.i64.wrap (((topL x.pieces).1.1.length : Int) + 1)).toNat (IntKind.i64.wrap (((topL x.pieces).1.1.length : Int) + 1)).toNat] (List.replicate (IntKind.i64.wrap (((topL x.pieces).1.1.length : Int) + 1)).toNat false) z.2.2) ?_ ?_
   ·refine draw G_ok mixed (some 19) (.q 0 (.q 1 (.q 2 (.q 3 (.q 4 (.q 5 (.q 6 (.q 7 (.q 8 (.q 9 (.q 10 (.q 11 (.q 12 (.q 13 (.q 14 (.q 15 (.hd (.alt 16 (.q 17 (.f 18 (.tl 19 (.nil)))) (.alt 18 (.f 16 (.q 17 (.tl 19 (.nil)))) (.nil)))))))))))))))))))) (by decide +kernel) ?_
    refine VC.intro ?_ ?_
    ·refine VCmake.intro ?_ ?_ ?_ ?_ fun x10 => ?_
     ·(simp (disch := omega) only [wrap_of]; omega)
     ·(simp (disch := omega) only [wrap_of]; omega)
     ·(simp (disch := omega) only [wrap_of]; omega)
     ·(simp (disch := omega) only [wrap_of]; omega)
     refine VC.intro ?_ ?_
     ·exact keep_new
     refine ⟨fun x11 => ?_⟩
     refine VC.intro ?_ ?_
     ·exact keep_sub (by simp) (by simp)
     apply join_stepA (_, _, _)
     ·exact .sub (by repeat (first | exact .slnil | apply List.Sublist.cons_cons | apply List.Sublist.cons))
     ·exact frI
     ·repeat' (first | exact trivial | refine ⟨by first | rfl | simp [Blk.ent], ?_⟩)
     try dsimp only
     exact gmake (gB_ow (x := false) trivial) (Nat.le_refl _) (by rw [wrap_of (by omega) (by omega)]; omega)
    ·refine VC.intro ?_ ?_
     ·refine ⟨fun x12 => ?_⟩
      refine VC.intro ?_ ?_
      ·exact keep_sub (by simp) (by simp)
      refine VCmake.intro ?_ ?_ ?_ ?_ fun x13 => ?_
      ·(simp (disch := omega) only [wrap_of]; omega)
      ·(simp (disch := omega) only [wrap_of]; omega)
      ·(simp (disch := omega) only [wrap_of]; omega)
      ·(simp (disch := omega) only [wrap_of]; omega)
      refine VC.intro ?_ ?_
      ·exact keep_sub (by simp) (by simp)
      apply join_stepA (_, _, _)
      ·exact .sub (by repeat (first | exact .slnil | apply List.Sublist.cons_cons | apply List.Sublist.cons))
      ·exact frI
      ·repeat' (first | exact trivial | refine ⟨by first | rfl | simp [Blk.ent], ?_⟩)
      try dsimp only
      exact gmake (gB_ow (x := false) trivial) (Nat.le_refl _) (by rw [wrap_of (by omega) (by omega)]; omega)
     ·exact trivial
   rintro ⟨y, zb, W⟩ hI
   try dsimp only at hI
   obtain oW := hI
   try dsimp only
   have hn9 := spec_nn ht1
   refine idx_rd (Gt.owrd _ hI) ?_ ?_ fun b14 o14 hb14 => ?_
   ·trivial
   ·simp; omega
   refine gstoreN (Fld.id _) false (0) 0 rfl rfl hI ?_ ?_ hb14 rfl gB_pl _ (gB_ow trivial) fun A15 o15 => ?_
   ·trivial
   ·simp; omega
   apply loop_mod (α := (Nat) × (Hp)) G_ok [54, 55, 56, 57, 58, 61, 62, 63, 64, 65, 66, 67, 68, 59, 60, 7] (fun z => [(7, .v (.int .i64 z.1))]) (fun z => [{ id := x0, cs := [Value.slice b0p x.pieces.length c0p], ty := (269 : TypeId) }, { id := x1, cs := [Value.int IntKind.i64 (0 : Int), Value.slice none (0 : Nat) (0 : Nat), Value.slice none (0 : Nat) (0 : Nat)], ty := (169 : TypeId) }, { id := x4, cs := [Value.slice b0p x.pieces.length c0p, Value.slice bl1 (topL x.pieces).fst.fst.length cl1, Value.slice bj9 (joinA (topL x.pieces).fst.fst [(0 : Int)] (topL x.pieces).snd.first (topL x.pieces).fst.snd).length cj9, Value.bool (badM (topL x.pieces).fst)], ty := (351 : TypeId) }, { id := x6, cs := [Value.slice b11 (topL x.pieces).snd.first.length c11, Value.slice b21 (topL x.pieces).snd.last.length c21, Value.bool (topL x.pieces).snd.null], ty := (353 : TypeId) }, { id := y, cs := [Value.int IntKind.i64 (IntKind.i64.wrap ((↑(topL x.pieces).fst.fst.length : Int) + (1 : Int))), Value.slice bj9 (joinA (topL x.pieces).fst.fst [(0 : Int)] (topL x.pieces).snd.first (topL x.pieces).fst.snd).length cj9, Value.slice (some { block := zb, off := (0 : Nat) }) (IntKind.i64.wrap ((↑(topL x.pieces).fst.fst.length : Int) + (1 : Int))).toNat (IntKind.i64.wrap ((↑(topL x.pieces).fst.fst.length : Int) + (1 : Int))).toNat], ty := (169 : TypeId) }]) (fun z => [z.2, Aj9, AL1, A11, A21, H]) (fun z => (topL x.pieces).2.last.length - z.1) (fun z => z.1 ≤ (topL x.pieces).2.last.length ∧ (gSl 4 gB).ow [.slice (some ⟨zb, 0, none⟩) (IntKind.i64.wrap (((topL x.pieces).1.1.length : Int) + 1)).toNat (IntKind.i64.wrap (((topL x.pieces).1.1.length : Int) + 1)).toNat] (endF ((topL x.pieces).2.last.take z.1) ((topL x.pieces).2.null :: List.replicate (topL x.pieces).1.1.length false)) z.2) ((0, _))
   ·exact frI
   ·repeat' (first | exact trivial | refine ⟨by first | rfl | simp [Blk.ent], ?_⟩)
   ·try dsimp only
    exact ⟨Nat.zero_le _, by rw [List.take_zero, ← rep_set hn9]; assumption⟩
   ·exact .refl _
   rintro ⟨k, V⟩ hI
   try dsimp only at hI
   obtain ⟨hk, oV⟩ := hI
   try dsimp only
   refine ⟨fun q16 => ?_, fun q16 => ?_⟩
   ·simp at q16
    have hlk := get_all hL9 (by omega : k < (topL x.pieces).2.last.length)
    have hel := spec_el (ps := x.pieces) (l := (topL x.pieces).2.last.take k)
    refine draw G_ok mixed (some 8) (.q 0 (.q 1 (.q 2 (.q 3 (.q 4 (.q 5 (.q 6 (.q 7 (.tl 8 (.nil)))))))))) (by decide +kernel) ?_
    refine idx_rd rT1 ?_ ?_ fun b17 o17 hb17 => ?_
    ·omega
    ·omega
    refine load_allN 0 (k) rfl rT1 ?_ ?_ hb17 rfl (mem_at 4 rfl) fun l18 hl18 => ?_
    ·omega
    ·omega
    obtain ⟨rfl, hw18⟩ := hl18; simp only [flStr, flInt, okI] at hw18
    refine idx_rd (Gt.owrd _ oV) ?_ ?_ fun b19 o19 hb19 => ?_
    ·omega
    ·omega
    refine gstoreN (Fld.id _) false (Int.toNat ((topL x.pieces).snd.last[k]?.getD (0 : Int))) 0 rfl (Int.toNat_of_nonneg ?_).symm oV ?_ ?_ hb19 rfl gB_pl _ (gB_ow trivial) fun A20 o20 => ?_
    ·omega
    ·omega
    ·omega
    apply loop_stepA (k + 1, _)
    ·exact .refl _
    ·exact frI
    ·repeat' (first | exact trivial | refine ⟨by first | rfl | simp [Blk.ent], ?_⟩)
    ·try dsimp only
     exact ⟨by omega, by rw [endF_step (by omega)]; assumption⟩
    try dsimp only
    omega
   ·simp at q16
    have hke : k = (topL x.pieces).2.last.length := (by omega)
    subst hke
    rw [List.take_length] at oV
    refine call_val (specNfaOk_ct _ _) (gNfa.mono (sub_hall2 (by simp) (by simp)) (gNfa.owrd (spec_nfa ht1 oj9 oV))) ?_
    rintro _ rfl
    refine ⟨fun q22 => ?_, fun q22 => ?_⟩
    ·simp at q22
     exact absurd (q22.symm.trans (nfa_spec_ok ht1 hG hF9)) (by decide)
    ·simp at q22
     (rw [nfaR_yes ‹pathOk x = true› hgo, nfa_spec hL9]; exact ⟨_, ⟨bj9, cj9, some ⟨zb, 0, none⟩, (IntKind.i64.wrap (((topL x.pieces).1.1.length : Int) + 1)).toNat, congrArg (fun l => Value.tuple #[.agg ⟨l⟩, .bool true]) (spec_cells ht1), by rw [← spec_cells ht1]; exact spec_nfa ht1 oj9 oV⟩, rlB⟩)
end
section
attribute [local irreducible] IntKind.wrap nfaR readPath rpPath
def tnR (t : ByteArray) : Nfa × Bool := if (readPath t).isSome = true then nfaR (rpPath t) else (zNfa, false)
theorem tnR_no {t : ByteArray} (h : (readPath t).isSome = false) : tnR t = (zNfa, false) := if_neg (by rw [h]; decide)
theorem tnR_yes {t : ByteArray} (h : (readPath t).isSome = true) : tnR t = nfaR (rpPath t) := if_pos h
theorem nfaOfText_ct (t : ByteArray) (ht : t.size ≤ 1152921504606846976) :
  Ct prog 204 [.string t] [] (fun _ => True) (fun v A => ∃ b c b2 c2, v = .tuple #[.agg ⟨[.int .i64 (tnR t).1.states, .slice b (tnR t).1.arcs.length c, .slice b2 (tnR t).1.ends.length c2]⟩, .bool (tnR t).2] ∧ gNfa.ow [.int .i64 (tnR t).1.states, .slice b (tnR t).1.arcs.length c, .slice b2 (tnR t).1.ends.length c2] (tnR t).1 A) := by
 refine Ct.intro0 G_ok func204 rfl rfl rfl fun E H hp => ?_
 refine ⟨fun x0 => ?_⟩
 refine call_new (implReadPath_ct _ ?_) trivial ?_
 ·trivial
 rintro v1 A1 o1
 obtain ⟨bP, cP, rfl, oP⟩ := o1
 refine ⟨fun x2 => ?_⟩
 refine ⟨fun q3 => ?_, fun q3 => ?_⟩
 ·simp at q3
  (rw [tnR_no (by rw [‹readPath _ = none›]; rfl)]; exact ⟨[], ⟨none, 0, none, 0, rfl, zNfa_ow⟩, .mem (by simp)⟩)
 ·simp at q3
  refine call_new (implNfaOf_ct _ (rpPath t)) (gPath_rd.2 ⟨_, _, rfl, Rp.mono _ (sub_hall (by simp)) (Gt.owrd _ oP)⟩) ?_
  rintro v4 A4 o4
  obtain ⟨bN, cN, bbN, ccN, rfl, oN⟩ := o4
  (rw [tnR_yes (by assumption)]; exact ⟨_, ⟨_, _, _, _, rfl, oN⟩, rlB⟩)
def atomM (a : Atom) : Bool := nameOk a.from' && (nameOk a.to && (tnR a.path).2)
theorem atom_no1 {a : Atom} (h : nameOk a.from' = false) : atomM a = false := by unfold atomM; rw [h]; rfl
theorem atom_no2 {a : Atom} (h : nameOk a.to = false) : atomM a = false := by unfold atomM; rw [h]; simp
theorem atom_no3 {a : Atom} (h : (tnR a.path).2 = false) : atomM a = false := by unfold atomM; rw [h]; simp
theorem atom_yes {a : Atom} (h : nameOk a.from' = true) (h1 : nameOk a.to = true) : atomM a = (tnR a.path).2 := by unfold atomM; rw [h, h1]; rfl
theorem atomOk_ct (l : List Value) (a : Atom) (ht : a.path.size ≤ 1152921504606846976) : Ct prog 200 [.agg ⟨l⟩] [] (fun H => gAtom.rd H l a) (fun v A => v = .bool (atomM a) ∧ A = []) := by
 refine Ct.intro0 G_ok func200 rfl rfl rfl fun E H hp => ?_
 obtain ⟨rfl, w0p, w1p, w2p⟩ := gAtom_rd.1 hp
 refine ⟨fun x0 => ?_⟩
 refine call_val (implQueryName_ct _ ?_) trivial ?_
 ·trivial
 rintro _ rfl
 refine ⟨fun q2 => ?_, fun q2 => ?_⟩
 ·simp at q2
  exact ⟨[], ⟨by rw [atom_no1 (by assumption)], rfl⟩, .mem (by simp)⟩
 ·simp at q2
  refine call_val (implQueryName_ct _ ?_) trivial ?_
  ·trivial
  rintro _ rfl
  refine ⟨fun q4 => ?_, fun q4 => ?_⟩
  ·simp at q4
   exact ⟨[], ⟨by rw [atom_no2 (by assumption)], rfl⟩, .mem (by simp)⟩
  ·simp at q4
   refine call_new (nfaOfText_ct _ ?_) trivial ?_
   ·trivial
   rintro v5 A5 o5
   obtain ⟨b5, c5, bb5, cc5, rfl, o5⟩ := o5
   refine ⟨fun x6 => ?_⟩
   exact ⟨[], ⟨by rw [atom_yes (by assumption) (by assumption)], rfl⟩, .mem (by simp)⟩
theorem l08Atom_ct (l : List Value) (a : Atom) (ht : a.path.size ≤ 1152921504606846976) : Ct prog 189 [.agg ⟨l⟩] [] (fun H => gAtom.rd H l a) (fun v A => v = .bool (atomM a) ∧ A = []) := by
 refine Ct.intro0 G_ok func189 rfl rfl rfl fun E H hp => ?_
 obtain ⟨rfl, w0p, w1p, w2p⟩ := gAtom_rd.1 hp
 refine ⟨fun x0 => ?_⟩
 refine call_new (specReadPath_ct _ ?_) trivial ?_
 ·trivial
 rintro v1 A1 o1
 obtain ⟨bP, cP, rfl, oP⟩ := o1
 refine ⟨fun x2 => ?_⟩
 refine ⟨fun q3 => ?_, fun q3 => ?_⟩
 ·simp at q3
  exact ⟨[], ⟨by rw [atom_no3 (by rw [tnR_no (by rw [‹readPath _ = none›]; rfl)])], rfl⟩, .mem (by simp)⟩
 ·simp at q3
  refine call_val (specQueryName_ct _ ?_) trivial ?_
  ·trivial
  rintro _ rfl
  refine ⟨fun q5 => ?_, fun q5 => ?_⟩
  ·simp at q5
   exact ⟨[], ⟨by rw [atom_no1 (by assumption)], rfl⟩, .mem (by simp)⟩
  ·simp at q5
   refine call_val (specQueryName_ct _ ?_) trivial ?_
   ·trivial
   rintro _ rfl
   refine ⟨fun q7 => ?_, fun q7 => ?_⟩
   ·simp at q7
    exact ⟨[], ⟨by rw [atom_no2 (by assumption)], rfl⟩, .mem (by simp)⟩
   ·simp at q7
    refine call_new (specNfaOf_ct _ (rpPath a.path)) (gPath_rd.2 ⟨_, _, rfl, Rp.mono _ (sub_hall (by simp)) (Gt.owrd _ oP)⟩) ?_
    rintro v8 A8 o8
    obtain ⟨bN, cN, bbN, ccN, rfl, oN⟩ := o8
    refine ⟨fun x9 => ?_⟩
    exact ⟨[], ⟨by rw [atom_yes (by assumption) (by assumption), tnR_yes (by assumption)], rfl⟩, .mem (by simp)⟩
def addN (l : List ByteArray) (s : ByteArray) : List ByteArray := if hasS l s = true then l else l ++ [s]
theorem addN_yes {l : List ByteArray} {s : ByteArray} (h : hasS l s = true) : addN l s = l := if_pos h
theorem addN_no {l : List ByteArray} {s : ByteArray} (h : hasS l s = false) : addN l s = l ++ [s] := if_neg (by rw [h]; decide)
def namesM (ats : List Atom) : List ByteArray := ats.foldl (fun l a => addN (addN l a.from') a.to) []
theorem namesM_step {ats : List Atom} {k : Nat} (h : k < ats.length) : namesM (ats.take (k + 1)) = addN (addN (namesM (ats.take k)) (ats[k]?.getD default).from') (ats[k]?.getD default).to := by
 unfold namesM
 rw [← List.take_append_getElem h, List.foldl_append, List.getElem?_eq_getElem h]; rfl
theorem addN_len (l : List ByteArray) (s : ByteArray) : (addN l s).length ≤ l.length + 1 := by
 unfold addN; split
 ·omega
 rw [List.length_append]; exact Nat.le_refl _
theorem namesM_len : ∀ (ats : List Atom) (k : Nat), k ≤ ats.length → (namesM (ats.take k)).length ≤ 2 * k
 | ats, 0, _ => Nat.le_refl _
 | ats, k + 1, h => by
  have h1 := namesM_len ats k (by omega)
  rw [namesM_step (by omega)]
  have h2 := addN_len (namesM (ats.take k)) (ats[k]?.getD default).from'
  have h3 := addN_len (addN (namesM (ats.take k)) (ats[k]?.getD default).from') (ats[k]?.getD default).to
  omega
theorem specNamesOf_ct (l : List Value) (x : Query) (hx : x.atoms.length ≤ 1048576) : Ct prog 63 [.agg ⟨l⟩] [] (fun H => gQuery.rd H l x) (fun v A => ∃ b c, v = .slice b (namesM x.atoms).length c ∧ (gSl 9 gS).ow [.slice b (namesM x.atoms).length c] (namesM x.atoms) A) := by
 refine Ct.intro0 G_ok func63 rfl rfl rfl fun E H hp => ?_
 obtain ⟨b1p, c1p, b2p, c2p, b3p, c3p, rfl, h1p, h2p, h3p⟩ := gQuery_rd.1 hp
 refine ⟨fun x0 => ?_⟩
 refine ⟨fun x1 => ?_⟩
 apply loop_mod (α := (Nat) × (List ByteArray) × (Hp) × (Option Addr) × (Nat)) G_ok [6, 7, 8, 9, 10, 13, 14, 15, 16, 17, 18, 19, 20, 21, 22, 23, 24, 25, 26, 27, 28, 29, 30, 3, 31, 32, 33, 34, 35, 36, 37, 38, 39, 40, 41, 42, 43, 44, 45, 46, 47, 48, 11, 12, 4] (fun z => [(4, .v (.int .i64 z.1)), (3, .v (.slice z.2.2.2.1 z.2.1.length z.2.2.2.2))]) (fun z => [{ id := x0, cs := [Value.bool x.each, Value.slice b1p x.out.length c1p, Value.slice b2p x.atoms.length c2p, Value.slice b3p x.filters.length c3p], ty := (39 : Nat) }]) (fun z => [z.2.2.1, H]) (fun z => x.atoms.length - z.1) (fun z => z.1 ≤ x.atoms.length ∧ z.2.1 = namesM (x.atoms.take z.1) ∧ (gSl 9 gS).ow [.slice z.2.2.2.1 z.2.1.length z.2.2.2.2] z.2.1 z.2.2.1) ((0, [], [], _, 0))
 ·exact frI
 ·exact ⟨rfl, trivial⟩
 ·try dsimp only
  exact ⟨Nat.zero_le _, rfl, sl_nil _ _ _⟩
 ·exact .tl
 rintro ⟨k, o, A, lb, lc⟩ hI
 try dsimp only at hI
 obtain ⟨hk, ho, oA⟩ := hI
 try dsimp only
 refine ⟨fun q2 => ?_, fun q2 => ?_⟩
 ·simp at q2
  have hlen := namesM_len x.atoms k (by omega)
  have hol : o.length ≤ 2 * k := (by rw [ho]; exact hlen)
  refine idx_rd h2p ?_ ?_ fun b3 o3 hb3 => ?_
  ·omega
  ·omega
  refine load_partN default (k) 0 rfl h2p ?_ ?_ hb3 rfl (by decide) (mem_at 1 rfl) fun l4 hl4 => ?_
  ·omega
  ·omega
  obtain ⟨rfl, w0x4, w1x4, w2x4⟩ := gAtom_rd.1 hl4
  refine call_val (l08In_ct _ _ _ (o) _) (Rp.mono _ (mem_at 0 rfl) (Gt.owrd _ oA)) ?_
  rintro _ rfl
  refine ⟨fun q6 => ?_, fun q6 => ?_⟩
  ·simp at q6
   refine idx_rd h2p ?_ ?_ fun b7 o7 hb7 => ?_
   ·omega
   ·omega
   refine load_partN default (k) 0 rfl h2p ?_ ?_ hb7 rfl (by decide) (mem_at 1 rfl) fun l8 hl8 => ?_
   ·omega
   ·omega
   obtain ⟨rfl, w0x8, w1x8, w2x8⟩ := gAtom_rd.1 hl8
   refine ⟨fun x9 => ?_⟩
   refine gappend1 (g := gS) (T := (9 : TypeId)) G_ok A [] [H] ?_ oA (gS_ow ?_) (List.mem_of_getElem? (i := 0) rfl) rfl rfl rfl rfl rfl rfl rfl rfl ?_ fun b10 c10 A10 o10 => ?_
   ·exact .tl
   ·trivial
   ·omega
   refine idx_rd h2p ?_ ?_ fun b11 o11 hb11 => ?_
   ·omega
   ·omega
   refine load_partN default (k) 2 rfl h2p ?_ ?_ hb11 rfl (by decide) (mem_at 1 rfl) fun l12 hl12 => ?_
   ·omega
   ·omega
   obtain ⟨rfl, w0x12, w1x12, w2x12⟩ := gAtom_rd.1 hl12
   refine call_val (l08In_ct _ _ _ (o ++ [(x.atoms[k]?.getD default).from']) _) (Rp.mono _ (mem_at 0 rfl) (Gt.owrd _ o10)) ?_
   rintro _ rfl
   refine ⟨fun q14 => ?_, fun q14 => ?_⟩
   ·simp at q14
    refine idx_rd h2p ?_ ?_ fun b15 o15 hb15 => ?_
    ·omega
    ·omega
    refine load_partN default (k) 2 rfl h2p ?_ ?_ hb15 rfl (by decide) (mem_at 1 rfl) fun l16 hl16 => ?_
    ·omega
    ·omega
    obtain ⟨rfl, w0x16, w1x16, w2x16⟩ := gAtom_rd.1 hl16
    refine ⟨fun x17 => ?_⟩
    refine gappend1 (g := gS) (T := (9 : TypeId)) G_ok A10 [] [H] ?_ o10 (gS_ow ?_) (List.mem_of_getElem? (i := 0) rfl) rfl rfl rfl rfl rfl rfl rfl rfl ?_ fun b18 c18 A18 o18 => ?_
    ·exact .tl
    ·trivial
    ·simp; omega
    apply loop_stepA (k + 1, _, _, _, _)
    ·exact .refl _
    ·exact frI
    ·exact ⟨rfl, trivial⟩
    ·try dsimp only
     exact ⟨by omega, by rw [namesM_step (by omega), ← ho, addN_no (l := o) (s := (x.atoms[k]?.getD default).from') (by assumption), addN_no (by assumption)], by assumption⟩
    try dsimp only
    omega
   ·simp at q14
    apply loop_stepA (k + 1, _, _, _, _)
    ·exact .refl _
    ·exact frI
    ·exact ⟨rfl, trivial⟩
    ·try dsimp only
     exact ⟨by omega, by rw [namesM_step (by omega), ← ho, addN_no (l := o) (s := (x.atoms[k]?.getD default).from') (by assumption), addN_yes (by assumption)], by assumption⟩
    try dsimp only
    omega
  ·simp at q6
   refine idx_rd h2p ?_ ?_ fun b19 o19 hb19 => ?_
   ·omega
   ·omega
   refine load_partN default (k) 2 rfl h2p ?_ ?_ hb19 rfl (by decide) (mem_at 1 rfl) fun l20 hl20 => ?_
   ·omega
   ·omega
   obtain ⟨rfl, w0x20, w1x20, w2x20⟩ := gAtom_rd.1 hl20
   refine call_val (l08In_ct _ _ _ (o) _) (Rp.mono _ (mem_at 0 rfl) (Gt.owrd _ oA)) ?_
   rintro _ rfl
   refine ⟨fun q22 => ?_, fun q22 => ?_⟩
   ·simp at q22
    refine idx_rd h2p ?_ ?_ fun b23 o23 hb23 => ?_
    ·omega
    ·omega
    refine load_partN default (k) 2 rfl h2p ?_ ?_ hb23 rfl (by decide) (mem_at 1 rfl) fun l24 hl24 => ?_
    ·omega
    ·omega
    obtain ⟨rfl, w0x24, w1x24, w2x24⟩ := gAtom_rd.1 hl24
    refine ⟨fun x25 => ?_⟩
    refine gappend1 (g := gS) (T := (9 : TypeId)) G_ok A [] [H] ?_ oA (gS_ow ?_) (List.mem_of_getElem? (i := 0) rfl) rfl rfl rfl rfl rfl rfl rfl rfl ?_ fun b26 c26 A26 o26 => ?_
    ·exact .tl
    ·trivial
    ·omega
    apply loop_stepA (k + 1, _, _, _, _)
    ·exact .refl _
    ·exact frI
    ·exact ⟨rfl, trivial⟩
    ·try dsimp only
     exact ⟨by omega, by rw [namesM_step (by omega), ← ho, addN_yes (l := o) (s := (x.atoms[k]?.getD default).from') (by assumption), addN_no (by assumption)], by assumption⟩
    try dsimp only
    omega
   ·simp at q22
    apply loop_stepA (k + 1, _, _, _, _)
    ·exact .refl _
    ·exact frI
    ·exact ⟨rfl, trivial⟩
    ·try dsimp only
     exact ⟨by omega, by rw [namesM_step (by omega), ← ho, addN_yes (l := o) (s := (x.atoms[k]?.getD default).from') (by assumption), addN_yes (by assumption)], by assumption⟩
    try dsimp only
    omega
 ·simp at q2
  (have hke : k = x.atoms.length := (by omega); subst hke; rw [List.take_length] at ho; subst ho; exact ⟨_, ⟨_, _, rfl, by assumption⟩, rlB⟩)
end
section
attribute [local irreducible] IntKind.wrap atomM
theorem toL_nil8 {s : ByteArray} : s.toList = [] ↔ s.size = 0 := by
 have e : (ByteArray.empty).toList = [] := by simp
 constructor
 ·intro h
  have h2 : s = ByteArray.empty := str_inj.1 (h.trans e.symm)
  rw [h2]; rfl
 intro h
 have h2 := by_size s
 rw [h] at h2
 have h3 : s = ByteArray.empty := by_inj.1 (by rw [List.length_eq_zero_iff.1 h2]; rfl)
 rw [h3, e]
theorem lit2_ow {x : Nat} {a b : ByteArray} (h1 : a.size ≤ 9223372036854775807) (h2 : b.size ≤ 9223372036854775807) : (gSl 9 gS).ow [.slice (some ⟨x, 0, none⟩) 2 2] [a, b] [(x, Obj.cells ⟨[.string a, .string b]⟩ 9)] :=
 ow_fl (Ow.lit (f := flStr) (T := 9) (b := x) (xs := [a, b]) (fun y hy => (List.mem_cons.1 hy).elim (fun e => by rw [e]; exact h1) (fun hy => by rw [List.mem_singleton.1 hy]; exact h2)) (by simp))
def twoN (o : List ByteArray) (a b : ByteArray) : Nat → List ByteArray
 | 0 => o
 | 1 => addN o a
 | _ + 2 => addN (addN o a) b
theorem twoN_step {o : List ByteArray} {a b : ByteArray} {j : Nat} (h : j < 2) : twoN o a b (j + 1) = addN (twoN o a b j) ([a, b][j]?.getD ByteArray.empty) := by
 rcases (by omega : j = 0 ∨ j = 1) with rfl | rfl <;> rfl
theorem twoN_len (o : List ByteArray) (a b : ByteArray) {j : Nat} (h : j ≤ 2) : (twoN o a b j).length ≤ o.length + j := by
 rcases (by omega : j = 0 ∨ j = 1 ∨ j = 2) with rfl | rfl | rfl
 ·exact Nat.le_refl _
 ·exact addN_len o a
 have h1 := addN_len o a
 have h2 := addN_len (addN o a) b
 show (addN (addN o a) b).length ≤ _; omega
theorem implNamesOf_ct (l : List Value) (x : Query) (hx : x.atoms.length ≤ 1048576) : Ct prog 158 [.agg ⟨l⟩] [] (fun H => gQuery.rd H l x) (fun v A => ∃ b c, v = .slice b (namesM x.atoms).length c ∧ (gSl 9 gS).ow [.slice b (namesM x.atoms).length c] (namesM x.atoms) A) := by
 refine Ct.intro0 G_ok func158 rfl rfl rfl fun E H hp => ?_
 obtain ⟨b1p, c1p, b2p, c2p, b3p, c3p, rfl, h1p, h2p, h3p⟩ := gQuery_rd.1 hp
 refine ⟨fun x0 => ?_⟩
 apply loop_mod (α := (Nat) × (List ByteArray) × (Hp) × (Option Addr) × (Nat)) G_ok [12, 13, 14, 5, 15, 16, 17, 18, 19, 20, 21, 22, 23, 24, 7, 25, 26, 27, 28, 29, 30, 31, 32, 3, 33, 34, 11] (fun z => [(11, .v (.int .i64 z.1)), (3, .v (.slice z.2.2.2.1 z.2.1.length z.2.2.2.2))]) (fun z => [{ id := x0, cs := [Value.bool x.each, Value.slice b1p x.out.length c1p, Value.slice b2p x.atoms.length c2p, Value.slice b3p x.filters.length c3p], ty := (39 : Nat) }]) (fun z => [z.2.2.1, H]) (fun z => x.atoms.length - z.1) (fun z => z.1 ≤ x.atoms.length ∧ z.2.1 = namesM (x.atoms.take z.1) ∧ (gSl 9 gS).ow [.slice z.2.2.2.1 z.2.1.length z.2.2.2.2] z.2.1 z.2.2.1) ((0, [], [], _, 0))
 ·exact frI
 ·exact ⟨rfl, trivial⟩
 ·try dsimp only
  exact ⟨Nat.zero_le _, rfl, sl_nil _ _ _⟩
 ·exact .refl _
 rintro ⟨k, o, A, lb, lc⟩ hI
 try dsimp only at hI
 obtain ⟨hk, ho, oA⟩ := hI
 try dsimp only
 refine ⟨fun q1 => ?_, fun q1 => ?_⟩
 ·simp at q1
  have hlen := namesM_len x.atoms k (by omega)
  have hol : o.length ≤ 2 * k := (by rw [ho]; exact hlen)
  refine idx_rd h2p ?_ ?_ fun b2 o2 hb2 => ?_
  ·omega
  ·omega
  refine load_allN default (k) rfl h2p ?_ ?_ hb2 rfl (mem_at 1 rfl) fun l3 hl3 => ?_
  ·omega
  ·omega
  obtain ⟨rfl, w0x3, w1x3, w2x3⟩ := gAtom_rd.1 hl3
  refine ⟨fun x4 => ?_⟩
  refine ⟨fun x5 => ?_⟩
  apply loop_mod (α := (Nat) × (List ByteArray) × (Hp) × (Option Addr) × (Nat)) G_ok [22, 23, 24, 7, 25, 26, 27, 28, 29, 30, 31, 32, 3, 33, 21] (fun z => [(21, .v (.int .i64 z.1)), (3, .v (.slice z.2.2.2.1 z.2.1.length z.2.2.2.2))]) (fun z => [{ id := x0, cs := [Value.bool x.each, Value.slice b1p x.out.length c1p, Value.slice b2p x.atoms.length c2p, Value.slice b3p x.filters.length c3p], ty := (39 : Nat) }, { id := x4, cs := [Value.string (x.atoms[k]?.getD default).from', Value.string (x.atoms[k]?.getD default).path, Value.string (x.atoms[k]?.getD default).to], ty := (118 : Nat) }]) (fun z => [z.2.2.1, [(x5, Obj.cells ⟨[.string (x.atoms[k]?.getD default).from', .string (x.atoms[k]?.getD default).to]⟩ 9)], H]) (fun z => 2 - z.1) (fun z => z.1 ≤ 2 ∧ z.2.1 = twoN o (x.atoms[k]?.getD default).from' (x.atoms[k]?.getD default).to z.1 ∧ (gSl 9 gS).ow [.slice z.2.2.2.1 z.2.1.length z.2.2.2.2] z.2.1 z.2.2.1) ((0, o, A, lb, lc))
  ·exact frI
  ·exact ⟨rfl, rfl, trivial⟩
  ·try dsimp only
   exact ⟨Nat.zero_le _, rfl, oA⟩
  ·exact .le fun a => by simp [List.count_cons, List.count_append, Blk.ent, St.hall, setR, zeros, List.append]; omega
  rintro ⟨j, o2, A2, lb2, lc2⟩ hI
  try dsimp only at hI
  obtain ⟨hj, ho2, oA2⟩ := hI
  try dsimp only
  refine ⟨fun q6 => ?_, fun q6 => ?_⟩
  ·simp at q6
   have hlit := lit2_ow (x := x5) (a := (x.atoms[k]?.getD default).from') (b := (x.atoms[k]?.getD default).to) (by assumption) (by assumption)
   have hlen2 : o2.length ≤ 2 * k + 2 := (by have := twoN_len o (x.atoms[k]?.getD default).from' (x.atoms[k]?.getD default).to (j := j) (by omega); rw [ho2]; omega)
   refine idx_rd (Gt.owrd _ hlit) ?_ ?_ fun b7 o7 hb7 => ?_
   ·omega
   ·trivial
   refine load_allN ByteArray.empty (j) rfl (Gt.owrd _ hlit) ?_ ?_ hb7 rfl (mem_at 1 rfl) fun l8 hl8 => ?_
   ·omega
   ·trivial
   obtain ⟨rfl, hw8⟩ := hl8; simp only [flStr, flInt, okI] at hw8
   refine call_val (sContainsS_ct _ _ _ (o2) _) (Rp.mono _ (mem_at 0 rfl) (Gt.owrd _ oA2)) ?_
   rintro _ rfl
   refine ⟨fun q10 => ?_, fun q10 => ?_⟩
   ·simp at q10
    refine ⟨fun x11 => ?_⟩
    refine gappend1 (g := gS) (T := (9 : TypeId)) G_ok A2 [] [[(x5, Obj.cells { toList := [Value.string (x.atoms[k]?.getD default).from', Value.string (x.atoms[k]?.getD default).to] } (9 : TypeId))], H] ?_ oA2 (gS_ow ?_) (List.mem_of_getElem? (i := 0) rfl) rfl rfl rfl rfl rfl rfl rfl rfl ?_ fun b12 c12 A12 o12 => ?_
    ·exact .tl
    ·trivial
    ·omega
    apply loop_stepA (j + 1, _, _, _, _)
    ·exact .refl _
    ·exact frI
    ·exact ⟨rfl, rfl, trivial⟩
    ·try dsimp only
     exact ⟨by omega, by rw [twoN_step (by omega), ← ho2, addN_no (by assumption)], by assumption⟩
    try dsimp only
    omega
   ·simp at q10
    apply loop_stepA (j + 1, _, _, _, _)
    ·exact .refl _
    ·exact frI
    ·exact ⟨rfl, rfl, trivial⟩
    ·try dsimp only
     exact ⟨by omega, by rw [twoN_step (by omega), ← ho2, addN_yes (by assumption)], by assumption⟩
    try dsimp only
    omega
  ·simp at q6
   apply loop_stepA (k + 1, _, _, _, _)
   ·exact .sub (by repeat (first | exact .slnil | apply List.Sublist.cons_cons | apply List.Sublist.cons))
   ·exact frI
   ·exact ⟨rfl, trivial⟩
   ·try dsimp only
    (have hje : j = 2 := (by omega); subst hje; exact ⟨by omega, by rw [ho2, ho, namesM_step (by omega)]; rfl, by assumption⟩)
   try dsimp only
   omega
 ·simp at q1
  (have hke : k = x.atoms.length := (by omega); subst hke; rw [List.take_length] at ho; subst ho; exact ⟨_, ⟨_, _, rfl, by assumption⟩, rlB⟩)
def distM (l : List ByteArray) : Bool := allK (fun i => !hasS (l.take i) (l[i]?.getD ByteArray.empty)) l.length
theorem dist_no {l : List ByteArray} {k : Nat} (hk : k < l.length) (h : hasS (l.take k) (l[k]?.getD ByteArray.empty) = true) : distM l = false := by
 unfold distM; rw [allK_no (p := fun i => !hasS (l.take i) (l[i]?.getD ByteArray.empty)) (k := k) (by simp [h]) _ hk]
theorem dist_no2 {l : List ByteArray} {k : Nat} (hk : k < l.length) (h : hasS ((l.take ((k : Nat) : Int).toNat).drop 0) (l[k]?.getD ByteArray.empty) = true) : distM l = false := dist_no hk h
theorem dist_step {l : List ByteArray} {k : Nat} (h : hasS ((l.take ((k : Nat) : Int).toNat).drop 0) (l[k]?.getD ByteArray.empty) = false) : (!hasS (l.take k) (l[k]?.getD ByteArray.empty)) = true := by
 have h : hasS (l.take k) (l[k]?.getD ByteArray.empty) = false := h
 rw [h]; rfl
theorem areDistinct_ct (b : Option Addr) (m c : Nat) (xs : List ByteArray) : Ct prog 201 [.slice b m c] [] (fun H => (gSl 9 gS).rd H [.slice b m c] xs) (fun v A => v = .bool (distM xs) ∧ A = []) := by
 refine Ct.intro0 G_ok func201 rfl rfl rfl fun E H hp => ?_
 obtain ⟨rfl, hcl, hl⟩ := sl_len hp
 apply loop_mod (α := (Nat)) G_ok [8, 9, 10, 11, 3, 4, 12, 13, 14, 15, 16, 2, 17, 7] (fun z => [(7, .v (.int .i64 z))]) (fun z => []) (fun z => [H]) (fun z => xs.length - z) (fun z => z ≤ xs.length ∧ allK (fun i => !hasS (xs.take i) (xs[i]?.getD ByteArray.empty)) z = true) ((0))
 ·exact frI
 ·exact trivial
 ·exact ⟨Nat.zero_le _, rfl⟩
 ·exact .refl _
 rintro k hI
 try dsimp only at hI
 obtain ⟨hk, ha⟩ := hI
 try dsimp only
 refine ⟨fun q0 => ?_, fun q0 => ?_⟩
 ·simp at q0
  refine idx_rd hp ?_ ?_ fun b1 o1 hb1 => ?_
  ·omega
  ·omega
  refine load_allN ByteArray.empty (k) rfl hp ?_ ?_ hb1 rfl (mem_at 0 rfl) fun l2 hl2 => ?_
  ·omega
  ·omega
  obtain ⟨rfl, hw2⟩ := hl2; simp only [flStr, flInt, okI] at hw2
  refine VC.intro ?_ ?_
  ·omega
  refine call_val (sContainsS_ct _ _ _ ((xs.take ((k : Nat) : Int).toNat).drop 0) _) (Rp.mono _ (mem_at 0 rfl) (rd_sub (r := gS.toRp) (l := 0) (h := ((k : Nat) : Int).toNat) hp (by omega) (by omega))) ?_
  rintro _ rfl
  refine ⟨fun q4 => ?_, fun q4 => ?_⟩
  ·simp at q4
   exact ⟨[], ⟨by rw [dist_no2 (k := k) (by omega) (by assumption)], rfl⟩, .mem (by simp)⟩
  ·simp at q4
   apply loop_stepA (k + 1)
   ·exact .refl _
   ·exact frI
   ·exact trivial
   ·exact ⟨by omega, allK_step ha (dist_step (by assumption))⟩
   omega
 ·simp at q0
  (have hke : k = xs.length := (by omega); subst hke; exact ⟨[], ⟨congrArg Value.bool ha.symm, rfl⟩, .mem (by simp)⟩)
def inAll (l s : List ByteArray) : Bool := allK (fun i => hasS l (s[i]?.getD ByteArray.empty)) s.length
theorem inAll_no {l s : List ByteArray} {k : Nat} (hk : k < s.length) (h : hasS l (s[k]?.getD ByteArray.empty) = false) : inAll l s = false := by
 unfold inAll; rw [allK_no (p := fun i => hasS l (s[i]?.getD ByteArray.empty)) (k := k) h _ hk]
theorem containsAll_ct (b : Option Addr) (m c : Nat) (b2 : Option Addr) (m2 c2 : Nat) (xs ys : List ByteArray) : Ct prog 202 [.slice b m c, .slice b2 m2 c2] [] (fun H => (gSl 9 gS).rd H [.slice b m c] xs ∧ (gSl 9 gS).rd H [.slice b2 m2 c2] ys) (fun v A => v = .bool (inAll xs ys) ∧ A = []) := by
 refine Ct.intro0 G_ok func202 rfl rfl rfl fun E H hp => ?_
 obtain ⟨hp, hq⟩ := hp
 obtain ⟨rfl, hcl, hl⟩ := sl_len hp
 obtain ⟨rfl, hcl2, hl2⟩ := sl_len hq
 apply loop_mod (α := (Nat)) G_ok [10, 11, 12, 6, 13, 14, 15, 16, 4, 17, 9] (fun z => [(9, .v (.int .i64 z))]) (fun z => []) (fun z => [H]) (fun z => ys.length - z) (fun z => z ≤ ys.length ∧ allK (fun i => hasS xs (ys[i]?.getD ByteArray.empty)) z = true) ((0))
 ·exact frI
 ·exact trivial
 ·exact ⟨Nat.zero_le _, rfl⟩
 ·exact .refl _
 rintro k hI
 try dsimp only at hI
 obtain ⟨hk, ha⟩ := hI
 try dsimp only
 refine ⟨fun q0 => ?_, fun q0 => ?_⟩
 ·simp at q0
  refine idx_rd hq ?_ ?_ fun b1 o1 hb1 => ?_
  ·omega
  ·omega
  refine load_allN ByteArray.empty (k) rfl hq ?_ ?_ hb1 rfl (mem_at 0 rfl) fun l2 hl2 => ?_
  ·omega
  ·omega
  obtain ⟨rfl, hw2⟩ := hl2; simp only [flStr, flInt, okI] at hw2
  refine call_val (sContainsS_ct _ _ _ (xs) _) (Rp.mono _ (mem_at 0 rfl) hp) ?_
  rintro _ rfl
  refine ⟨fun q4 => ?_, fun q4 => ?_⟩
  ·simp at q4
   exact ⟨[], ⟨by rw [inAll_no (k := k) (by omega) (by assumption)], rfl⟩, .mem (by simp)⟩
  ·simp at q4
   apply loop_stepA (k + 1)
   ·exact .refl _
   ·exact frI
   ·exact trivial
   ·exact ⟨by omega, allK_step ha (by assumption)⟩
   omega
 ·simp at q0
  (have hke : k = ys.length := (by omega); subst hke; exact ⟨[], ⟨congrArg Value.bool ha.symm, rfl⟩, .mem (by simp)⟩)
theorem isOp_ct (n : Int) : Ct prog 282 [.int .i64 n] [] (fun _ => True) (fun v A => v = .bool (inR 1 2 n) ∧ A = []) := by
 refine Ct.intro0 G_ok func282 rfl rfl rfl fun E H hp => ?_
 refine ⟨fun q0 => ?_, fun q0 => ?_⟩
 ·simp at q0
  exact ⟨[], ⟨congrArg Value.bool (by unfold inR; rw [Bool.eq_iff_iff]; simp; omega), rfl⟩, .mem (by simp)⟩
 ·simp at q0
  exact ⟨[], ⟨congrArg Value.bool (by unfold inR; rw [Bool.eq_iff_iff]; simp; omega), rfl⟩, .mem (by simp)⟩
def filterM (ns : List ByteArray) (f : Filter) : Bool := hasS ns f.left && (inR 1 2 f.op && (if f.right.size = 0 then inR 0 99 f.num else decide (f.num = 0) && hasS ns f.right))
theorem filterOk_ct (l : List Value) (b : Option Addr) (m c : Nat) (f : Filter) (ns : List ByteArray) : Ct prog 203 [.agg ⟨l⟩, .slice b m c] [] (fun H => gFilter.rd H l f ∧ (gSl 9 gS).rd H [.slice b m c] ns) (fun v A => v = .bool (filterM ns f) ∧ A = []) := by
 refine Ct.intro0 G_ok func203 rfl rfl rfl fun E H hp => ?_
 obtain ⟨hp, hq⟩ := hp
 obtain ⟨rfl, w0p, w1p, w2p, w3p⟩ := gFilter_rd.1 hp
 refine ⟨fun x0 => ?_⟩
 refine call_val (sContainsS_ct _ _ _ (ns) _) (Rp.mono _ (mem_at 0 rfl) hq) ?_
 rintro _ rfl
 refine ⟨fun q2 => ?_, fun q2 => ?_⟩
 ·simp at q2
  exact ⟨[], ⟨congrArg Value.bool (by unfold filterM; rw [‹hasS ns f.left = false›]; rfl), rfl⟩, .mem (by simp)⟩
 ·simp at q2
  refine call_val (isOp_ct _) trivial ?_
  rintro _ rfl
  refine ⟨fun q4 => ?_, fun q4 => ?_⟩
  ·simp at q4
   exact ⟨[], ⟨congrArg Value.bool (by unfold filterM; rw [‹inR 1 2 f.op = false›]; simp), rfl⟩, .mem (by simp)⟩
  ·simp at q4
   refine ⟨fun q5 => ?_, fun q5 => ?_⟩
   ·simp at q5
    have iq5 := toL_nil8.1 q5
    refine ⟨fun q6 => ?_, fun q6 => ?_⟩
    ·simp at q6
     exact ⟨[], ⟨congrArg Value.bool (by unfold filterM; rw [‹hasS ns f.left = true›, ‹inR 1 2 f.op = true›, if_pos (by assumption)]; unfold inR; rw [Bool.eq_iff_iff]; simp; omega), rfl⟩, .mem (by simp)⟩
    ·simp at q6
     exact ⟨[], ⟨congrArg Value.bool (by unfold filterM; rw [‹hasS ns f.left = true›, ‹inR 1 2 f.op = true›, if_pos (by assumption)]; unfold inR; rw [Bool.eq_iff_iff]; simp; omega), rfl⟩, .mem (by simp)⟩
   ·simp at q5
    have iq5 := mt toL_nil8.2 q5
    refine ⟨fun q7 => ?_, fun q7 => ?_⟩
    ·simp at q7
     refine call_val (sContainsS_ct _ _ _ (ns) _) (Rp.mono _ (mem_at 0 rfl) hq) ?_
     rintro _ rfl
     exact ⟨[], ⟨congrArg Value.bool (by unfold filterM; rw [‹hasS ns f.left = true›, ‹inR 1 2 f.op = true›, if_neg (by assumption), decide_eq_true (by assumption)]; rfl), rfl⟩, .mem (by simp)⟩
    ·simp at q7
     exact ⟨[], ⟨congrArg Value.bool (by unfold filterM; rw [‹hasS ns f.left = true›, ‹inR 1 2 f.op = true›, if_neg (by assumption), decide_eq_false (by assumption)]; rfl), rfl⟩, .mem (by simp)⟩
end
section
attribute [local irreducible] IntKind.wrap atomM namesM
def queryP (x : Query) : Prop := (1 ≤ x.atoms.length ∧ x.atoms.length ≤ 4 ∧ x.filters.length ≤ 3 ∧ 1 ≤ x.out.length ∧ x.out.length ≤ 4 ∧ (namesM x.atoms).length ≤ 4) ∧
 (∀ k, k < x.atoms.length → atomM (x.atoms[k]?.getD default) = true) ∧ distM x.out = true ∧ inAll (namesM x.atoms) x.out = true ∧ ∀ k, k < x.filters.length → filterM (namesM x.atoms) (x.filters[k]?.getD default) = true
open Classical in
noncomputable def queryM (x : Query) : Bool := decide (queryP x)
open Classical in
theorem q_no {x : Query} (h : ¬ queryP x) : queryM x = false := by unfold queryM; exact decide_eq_false h
open Classical in
theorem q_yes {x : Query} (h : queryP x) : queryM x = true := by unfold queryM; exact decide_eq_true h
theorem sz_at8 {α : Type} (g : Gt α) (z : α) : ∀ (xs : List α) (k : Nat), k < xs.length → g.sz (xs[k]?.getD z) + 1 ≤ szL g xs
 | [], k, h => absurd h (by simp)
 | x :: r, 0, _ => by rw [show szL g (x :: r) = 1 + g.sz x + szL g r from rfl]; show g.sz x + 1 ≤ _; omega
 | x :: r, k + 1, h => by
  have := sz_at8 g z r k (by simpa using h)
  rw [show szL g (x :: r) = 1 + g.sz x + szL g r from rfl]
  show g.sz (r[k]?.getD z) + 1 ≤ _; omega
theorem atoms_path {x : Query} (h : gQuery.sz x ≤ 1048576) {k : Nat} (hk : k < x.atoms.length) : (x.atoms[k]?.getD default).path.size ≤ 1048576 := by
 have h1 := gQuery_sz x
 have h2 := sz_at8 gAtom default x.atoms k hk
 have h3 := gAtom_sz (x.atoms[k]?.getD default)
 omega
theorem ff {b : Bool} (h1 : b = true) (h2 : b = false) : False := by rw [h1] at h2; cases h2
theorem implQueryOk_ct (l : List Value) (x : Query) (hx : gQuery.sz x ≤ 1048576) : Ct prog 115 [.agg ⟨l⟩] [] (fun H => gQuery.rd H l x) (fun v A => v = .bool (queryM x) ∧ A = []) := by
 refine Ct.intro0 G_ok func115 rfl rfl rfl fun E H hp => ?_
 obtain ⟨b1p, c1p, b2p, c2p, b3p, c3p, rfl, h1p, h2p, h3p⟩ := gQuery_rd.1 hp
 have ez := gQuery_sz x
 have en1 := len_szL gS x.out
 have en2 := len_szL gAtom x.atoms
 have en3 := len_szL gFilter x.filters
 refine ⟨fun x0 => ?_⟩
 refine ⟨fun q1 => ?_, fun q1 => ?_⟩
 ·simp at q1
  exact ⟨[], ⟨by rw [q_no fun h => by (have := h.1; omega)], rfl⟩, .mem (by simp)⟩
 ·simp at q1
  refine ⟨fun q2 => ?_, fun q2 => ?_⟩
  ·simp at q2
   exact ⟨[], ⟨by rw [q_no fun h => by (have := h.1; omega)], rfl⟩, .mem (by simp)⟩
  ·simp at q2
   refine ⟨fun q3 => ?_, fun q3 => ?_⟩
   ·simp at q3
    exact ⟨[], ⟨by rw [q_no fun h => by (have := h.1; omega)], rfl⟩, .mem (by simp)⟩
   ·simp at q3
    apply loop_mod (α := (Nat)) G_ok [28, 29, 30, 4, 31, 32, 33, 2, 34, 27] (fun z => [(27, .v (.int .i64 z))]) (fun z => [{ id := x0, cs := [Value.bool x.each, Value.slice b1p x.out.length c1p, Value.slice b2p x.atoms.length c2p, Value.slice b3p x.filters.length c3p], ty := (39 : Nat) }]) (fun z => [H]) (fun z => x.atoms.length - z) (fun z => z ≤ x.atoms.length ∧ allK (fun i => atomM (x.atoms[i]?.getD default)) z = true) ((0))
    ·exact frI
    ·exact ⟨rfl, trivial⟩
    ·exact ⟨Nat.zero_le _, rfl⟩
    ·exact .refl _
    rintro k hI
    try dsimp only at hI
    obtain ⟨hk, ha⟩ := hI
    try dsimp only
    refine ⟨fun q4 => ?_, fun q4 => ?_⟩
    ·simp at q4
     refine idx_rd h2p ?_ ?_ fun b5 o5 hb5 => ?_
     ·omega
     ·omega
     refine load_allN default (k) rfl h2p ?_ ?_ hb5 rfl (mem_at 0 rfl) fun l6 hl6 => ?_
     ·omega
     ·omega
     obtain ⟨rfl, w0x6, w1x6, w2x6⟩ := gAtom_rd.1 hl6
     refine ⟨fun x7 => ?_⟩
     refine call_val (atomOk_ct _ (x.atoms[k]?.getD default) ?_) (Rp.mono _ (mem_at 0 rfl) hl6) ?_
     ·exact Nat.le_trans (atoms_path hx (by omega)) (by decide)
     rintro _ rfl
     refine ⟨fun q9 => ?_, fun q9 => ?_⟩
     ·simp at q9
      exact ⟨[], ⟨by rw [q_no fun h => ff (h.2.1 k (by omega)) (by assumption)], rfl⟩, .mem (by simp)⟩
     ·simp at q9
      apply loop_stepA (k + 1)
      ·exact .refl _
      ·exact frI
      ·exact ⟨rfl, trivial⟩
      ·exact ⟨by omega, allK_step ha (by assumption)⟩
      omega
    ·simp at q4
     refine call_new (implNamesOf_ct _ x ?_) (Rp.mono _ (mem_at 0 rfl) hp) ?_
     ·omega
     rintro v10 A10 o10
     obtain ⟨bN, cN, rfl, oN⟩ := o10
     have rN := Gt.owrd _ oN
     refine ⟨fun q11 => ?_, fun q11 => ?_⟩
     ·simp at q11
      exact ⟨[], ⟨by rw [q_no fun h => by (have := h.1; omega)], rfl⟩, .mem (by simp)⟩
     ·simp at q11
      refine ⟨fun q12 => ?_, fun q12 => ?_⟩
      ·simp at q12
       exact ⟨[], ⟨by rw [q_no fun h => by (have := h.1; omega)], rfl⟩, .mem (by simp)⟩
      ·simp at q12
       refine ⟨fun q13 => ?_, fun q13 => ?_⟩
       ·simp at q13
        exact ⟨[], ⟨by rw [q_no fun h => by (have := h.1; omega)], rfl⟩, .mem (by simp)⟩
       ·simp at q13
        refine call_val (areDistinct_ct _ _ _ (x.out)) (Rp.mono _ (mem_at 1 rfl) h1p) ?_
        rintro _ rfl
        refine ⟨fun q15 => ?_, fun q15 => ?_⟩
        ·simp at q15
         exact ⟨[], ⟨by rw [q_no fun h => ff h.2.2.1 (by assumption)], rfl⟩, .mem (by simp)⟩
        ·simp at q15
         refine call_val (containsAll_ct _ _ _ _ _ _ (namesM x.atoms) (x.out)) ⟨(Rp.mono _ (mem_at 0 rfl) rN), (Rp.mono _ (mem_at 1 rfl) h1p)⟩ ?_
         rintro _ rfl
         refine ⟨fun q17 => ?_, fun q17 => ?_⟩
         ·simp at q17
          exact ⟨[], ⟨by rw [q_no fun h => ff h.2.2.2.1 (by assumption)], rfl⟩, .mem (by simp)⟩
         ·simp at q17
          apply loop_mod (α := (Nat)) G_ok [67, 68, 69, 7, 70, 71, 72, 73, 2, 74, 66] (fun z => [(66, .v (.int .i64 z))]) (fun z => [{ id := x0, cs := [Value.bool x.each, Value.slice b1p x.out.length c1p, Value.slice b2p x.atoms.length c2p, Value.slice b3p x.filters.length c3p], ty := (39 : Nat) }]) (fun z => [A10, H]) (fun z => x.filters.length - z) (fun z => z ≤ x.filters.length ∧ allK (fun i => filterM (namesM x.atoms) (x.filters[i]?.getD default)) z = true) ((0))
          ·exact frI
          ·exact ⟨rfl, trivial⟩
          ·exact ⟨Nat.zero_le _, rfl⟩
          ·exact .refl _
          rintro j hI
          try dsimp only at hI
          obtain ⟨hj, hf⟩ := hI
          try dsimp only
          refine ⟨fun q18 => ?_, fun q18 => ?_⟩
          ·simp at q18
           refine idx_rd h3p ?_ ?_ fun b19 o19 hb19 => ?_
           ·omega
           ·omega
           refine load_allN default (j) rfl h3p ?_ ?_ hb19 rfl (mem_at 1 rfl) fun l20 hl20 => ?_
           ·omega
           ·omega
           obtain ⟨rfl, w0x20, w1x20, w2x20, w3x20⟩ := gFilter_rd.1 hl20
           refine ⟨fun x21 => ?_⟩
           refine call_val (filterOk_ct _ _ _ _ (x.filters[j]?.getD default) (namesM x.atoms)) ⟨(Rp.mono _ (mem_at 1 rfl) hl20), (Rp.mono _ (mem_at 0 rfl) rN)⟩ ?_
           rintro _ rfl
           refine ⟨fun q23 => ?_, fun q23 => ?_⟩
           ·simp at q23
            exact ⟨[], ⟨by rw [q_no fun h => ff (h.2.2.2.2 j (by omega)) (by assumption)], rfl⟩, .mem (by simp)⟩
           ·simp at q23
            apply loop_stepA (j + 1)
            ·exact .refl _
            ·exact frI
            ·exact ⟨rfl, trivial⟩
            ·exact ⟨by omega, allK_step hf (by assumption)⟩
            omega
          ·simp at q18
           (have hke : k = x.atoms.length := (by omega); have hje : j = x.filters.length := (by omega); rw [hke] at ha; rw [hje] at hf; exact ⟨[], ⟨by rw [q_yes ⟨by omega, fun i hi => allK_at ha i hi, by assumption, by assumption, fun i hi => allK_at hf i hi⟩], rfl⟩, .mem (by simp)⟩)
theorem q_last {x : Query} (h1 : 1 ≤ x.atoms.length ∧ x.atoms.length ≤ 4 ∧ x.filters.length ≤ 3 ∧ 1 ≤ x.out.length ∧ x.out.length ≤ 4) (h2 : allK (fun i => atomM (x.atoms[i]?.getD default)) x.atoms.length = true) (h3 : allK (fun i => hasS (namesM x.atoms) (x.out[i]?.getD ByteArray.empty)) x.out.length = true) (h4 : allK (fun i => !hasS (x.out.take i) (x.out[i]?.getD ByteArray.empty)) x.out.length = true) (h5 : allK (fun i => filterM (namesM x.atoms) (x.filters[i]?.getD default)) x.filters.length = true) : queryM x = decide (((namesM x.atoms).length : Int) ≤ 4) := by
 by_cases h : (namesM x.atoms).length ≤ 4
 ·rw [q_yes ⟨by omega, fun i hi => allK_at h2 i hi, h4, h3, fun i hi => allK_at h5 i hi⟩, decide_eq_true (by omega)]
 rw [q_no fun e => h e.1.2.2.2.2.2, decide_eq_false (by omega)]
theorem f_no1 {ns : List ByteArray} {f : Filter} (h : hasS ns f.left = false) : filterM ns f = false := by unfold filterM; rw [h]; rfl
theorem f_no2 {ns : List ByteArray} {f : Filter} (h : inR 1 2 f.op = false) : filterM ns f = false := by unfold filterM; rw [h]; simp
theorem f_no3 {ns : List ByteArray} {f : Filter} (h0 : ¬ f.right.size = 0) (h : hasS ns f.right = false) : filterM ns f = false := by unfold filterM; rw [if_neg h0, h]; simp
theorem f_no4 {ns : List ByteArray} {f : Filter} (h0 : ¬ f.right.size = 0) (h : ¬ f.num = 0) : filterM ns f = false := by unfold filterM; rw [if_neg h0, decide_eq_false h]; simp
theorem f_no5 {ns : List ByteArray} {f : Filter} (h : inR 0 99 f.num = false) : filterM ns f = false := by
 unfold filterM
 have h1 : ¬ f.num = 0 := fun e => by rw [e] at h; exact absurd h (by decide)
 rw [h, decide_eq_false h1]; simp
theorem f_yes1 {ns : List ByteArray} {f : Filter} (h1 : hasS ns f.left = true) (h2 : inR 1 2 f.op = true) (h0 : f.right.size = 0) (h : inR 0 99 f.num = true) : filterM ns f = true := by unfold filterM; rw [h1, h2, if_pos h0, h]; rfl
theorem f_yes2 {ns : List ByteArray} {f : Filter} (h1 : hasS ns f.left = true) (h2 : inR 1 2 f.op = true) (h0 : ¬ f.right.size = 0) (h : hasS ns f.right = true) (h3 : f.num = 0) : filterM ns f = true := by unfold filterM; rw [h1, h2, if_neg h0, h, decide_eq_true h3]; rfl
theorem specQueryOk_ct (l : List Value) (x : Query) (hx : gQuery.sz x ≤ 1048576) : Ct prog 105 [.agg ⟨l⟩] [] (fun H => gQuery.rd H l x) (fun v A => v = .bool (queryM x) ∧ A = []) := by
 refine Ct.intro0 G_ok func105 rfl rfl rfl fun E H hp => ?_
 obtain ⟨b1p, c1p, b2p, c2p, b3p, c3p, rfl, h1p, h2p, h3p⟩ := gQuery_rd.1 hp
 have ez := gQuery_sz x
 have en1 := len_szL gS x.out
 have en2 := len_szL gAtom x.atoms
 have en3 := len_szL gFilter x.filters
 have hco := (sl_len h1p).2.1
 refine ⟨fun x0 => ?_⟩
 refine call_val (l01In_ct _ _ _) trivial ?_
 rintro _ rfl
 refine ⟨fun q2 => ?_, fun q2 => ?_⟩
 ·simp at q2
  have iq2 := mt inR_iff.2 (Bool.eq_false_iff.1 q2)
  exact ⟨[], ⟨by rw [q_no fun h => by (have := h.1; omega)], rfl⟩, .mem (by simp)⟩
 ·simp at q2
  have iq2 := inR_iff.1 q2
  refine ⟨fun q3 => ?_, fun q3 => ?_⟩
  ·simp at q3
   exact ⟨[], ⟨by rw [q_no fun h => by (have := h.1; omega)], rfl⟩, .mem (by simp)⟩
  ·simp at q3
   refine call_val (l01In_ct _ _ _) trivial ?_
   rintro _ rfl
   refine ⟨fun q5 => ?_, fun q5 => ?_⟩
   ·simp at q5
    have iq5 := mt inR_iff.2 (Bool.eq_false_iff.1 q5)
    exact ⟨[], ⟨by rw [q_no fun h => by (have := h.1; omega)], rfl⟩, .mem (by simp)⟩
   ·simp at q5
    have iq5 := inR_iff.1 q5
    apply loop_mod (α := (Nat)) G_ok [26, 27, 28, 29, 30, 33, 34, 35, 36, 37, 38, 39, 2, 31, 32, 3] (fun z => [(3, .v (.int .i64 z))]) (fun z => [{ id := x0, cs := [Value.bool x.each, Value.slice b1p x.out.length c1p, Value.slice b2p x.atoms.length c2p, Value.slice b3p x.filters.length c3p], ty := (39 : Nat) }]) (fun z => [H]) (fun z => x.atoms.length - z) (fun z => z ≤ x.atoms.length ∧ allK (fun i => atomM (x.atoms[i]?.getD default)) z = true) ((0))
    ·exact frI
    ·exact ⟨rfl, trivial⟩
    ·exact ⟨Nat.zero_le _, rfl⟩
    ·exact .refl _
    rintro k hI
    try dsimp only at hI
    obtain ⟨hk, ha⟩ := hI
    try dsimp only
    refine ⟨fun q6 => ?_, fun q6 => ?_⟩
    ·simp at q6
     refine idx_rd h2p ?_ ?_ fun b7 o7 hb7 => ?_
     ·omega
     ·omega
     refine load_allN default (k) rfl h2p ?_ ?_ hb7 rfl (mem_at 0 rfl) fun l8 hl8 => ?_
     ·omega
     ·omega
     obtain ⟨rfl, w0x8, w1x8, w2x8⟩ := gAtom_rd.1 hl8
     refine call_val (l08Atom_ct _ (x.atoms[k]?.getD default) ?_) (Rp.mono _ (mem_at 0 rfl) hl8) ?_
     ·exact Nat.le_trans (atoms_path hx (by omega)) (by decide)
     rintro _ rfl
     refine ⟨fun q10 => ?_, fun q10 => ?_⟩
     ·simp at q10
      exact ⟨[], ⟨by rw [q_no fun h => ff (h.2.1 k (by omega)) (by assumption)], rfl⟩, .mem (by simp)⟩
     ·simp at q10
      apply loop_stepA (k + 1)
      ·exact .refl _
      ·exact frI
      ·exact ⟨rfl, trivial⟩
      ·exact ⟨by omega, allK_step ha (by assumption)⟩
      omega
    ·simp at q6
     refine call_new (specNamesOf_ct _ x ?_) (Rp.mono _ (mem_at 0 rfl) hp) ?_
     ·omega
     rintro v11 A11 o11
     obtain ⟨bN, cN, rfl, oN⟩ := o11
     have rN := Gt.owrd _ oN
     apply loop_mod (α := (Nat)) G_ok [42, 43, 44, 45, 46, 49, 50, 51, 52, 53, 54, 55, 56, 57, 58, 59, 60, 61, 62, 63, 64, 65, 66, 67, 68, 2, 47, 48, 5] (fun z => [(5, .v (.int .i64 z))]) (fun z => [{ id := x0, cs := [Value.bool x.each, Value.slice b1p x.out.length c1p, Value.slice b2p x.atoms.length c2p, Value.slice b3p x.filters.length c3p], ty := (39 : Nat) }]) (fun z => [A11, H]) (fun z => x.out.length - z) (fun z => z ≤ x.out.length ∧ allK (fun i => hasS (namesM x.atoms) (x.out[i]?.getD ByteArray.empty)) z = true ∧ allK (fun i => !hasS (x.out.take i) (x.out[i]?.getD ByteArray.empty)) z = true) ((0))
     ·exact frI
     ·exact ⟨rfl, trivial⟩
     ·exact ⟨Nat.zero_le _, rfl, rfl⟩
     ·exact .refl _
     rintro i hI
     try dsimp only at hI
     obtain ⟨hi, hb, hc⟩ := hI
     try dsimp only
     refine ⟨fun q12 => ?_, fun q12 => ?_⟩
     ·simp at q12
      refine draw G_ok mixed none (.q 0 (.q 1 (.q 2 (.q 3 (.q 4 (.q 5 (.f 6 (.q 7 (.q 8 (.q 9 (.q 10 (.q 11 (.q 12 (.q 13 (.q 14 (.q 15 (.q 16 (.q 17 (.f 18 (.q 19 (.nil))))))))))))))))))))) (by decide +kernel) ?_
      refine idx_rd h1p ?_ ?_ fun b13 o13 hb13 => ?_
      ·omega
      ·omega
      refine load_allN ByteArray.empty (i) rfl h1p ?_ ?_ hb13 rfl (mem_at 1 rfl) fun l14 hl14 => ?_
      ·omega
      ·omega
      obtain ⟨rfl, hw14⟩ := hl14; simp only [flStr, flInt, okI] at hw14
      refine call_val (l08In_ct _ _ _ (namesM x.atoms) _) (Rp.mono _ (mem_at 0 rfl) rN) ?_
      rintro _ rfl
      refine VC.intro ?_ ?_
      ·exact fun _ h => h
      refine ⟨fun q16 => ?_, fun q16 => ?_⟩
      ·simp at q16
       exact ⟨[], ⟨by rw [q_no fun h => ff h.2.2.2.1 (inAll_no (k := i) (by omega) (by assumption))], rfl⟩, .mem (by simp)⟩
      ·simp at q16
       have hsub : (gSl 9 gS).rd H [.slice (subBase c1p 0 b1p ty9.size) (((i : Nat) : Int).toNat - 0) (c1p - 0)] ((x.out.take ((i : Nat) : Int).toNat).drop 0) := rd_sub (r := gS.toRp) (l := 0) (h := ((i : Nat) : Int).toNat) h1p (by omega) (by omega)
       refine VC.intro ?_ ?_
       ·omega
       refine idx_rd h1p ?_ ?_ fun b17 o17 hb17 => ?_
       ·omega
       ·omega
       refine load_allN ByteArray.empty (i) rfl h1p ?_ ?_ hb17 rfl (mem_at 1 rfl) fun l18 hl18 => ?_
       ·omega
       ·omega
       obtain ⟨rfl, hw18⟩ := hl18; simp only [flStr, flInt, okI] at hw18
       refine call_val (l08In_ct _ _ _ (List.drop (0 : Nat) (List.take (↑i : Int).toNat x.out)) _) (Rp.mono _ (mem_at 1 rfl) hsub) ?_
       rintro _ rfl
       refine VC.intro ?_ ?_
       ·exact fun _ h => h
       refine ⟨fun q20 => ?_, fun q20 => ?_⟩
       ·simp at q20
        exact ⟨[], ⟨by rw [q_no fun h => ff h.2.2.1 (dist_no2 (k := i) (by omega) (by assumption))], rfl⟩, .mem (by simp)⟩
       ·simp at q20
        apply loop_stepA (i + 1)
        ·exact .refl _
        ·exact frI
        ·exact ⟨rfl, trivial⟩
        ·exact ⟨by omega, allK_step hb (by assumption), allK_step hc (dist_step (by assumption))⟩
        omega
     ·simp at q12
      apply loop_mod (α := (Nat)) G_ok [69, 70, 71, 72, 73, 76, 77, 78, 79, 80, 7, 81, 82, 83, 84, 85, 86, 87, 88, 89, 90, 91, 92, 93, 94, 95, 96, 97, 98, 99, 100, 101, 102, 103, 104, 105, 106, 107, 108, 109, 110, 111, 112, 113, 114, 2, 74, 75, 6] (fun z => [(6, .v (.int .i64 z))]) (fun z => [{ id := x0, cs := [Value.bool x.each, Value.slice b1p x.out.length c1p, Value.slice b2p x.atoms.length c2p, Value.slice b3p x.filters.length c3p], ty := (39 : Nat) }]) (fun z => [A11, H]) (fun z => x.filters.length - z) (fun z => z ≤ x.filters.length ∧ allK (fun i => filterM (namesM x.atoms) (x.filters[i]?.getD default)) z = true) ((0))
      ·exact frI
      ·exact ⟨rfl, trivial⟩
      ·exact ⟨Nat.zero_le _, rfl⟩
      ·exact .refl _
      rintro j hI
      try dsimp only at hI
      obtain ⟨hj, hf⟩ := hI
      try dsimp only
      refine ⟨fun q21 => ?_, fun q21 => ?_⟩
      ·simp at q21
       refine idx_rd h3p ?_ ?_ fun b22 o22 hb22 => ?_
       ·omega
       ·omega
       refine load_allN default (j) rfl h3p ?_ ?_ hb22 rfl (mem_at 1 rfl) fun l23 hl23 => ?_
       ·omega
       ·omega
       obtain ⟨rfl, w0x23, w1x23, w2x23, w3x23⟩ := gFilter_rd.1 hl23
       refine ⟨fun x24 => ?_⟩
       refine call_val (l08In_ct _ _ _ (namesM x.atoms) _) (Rp.mono _ (mem_at 0 rfl) rN) ?_
       rintro _ rfl
       refine ⟨fun q26 => ?_, fun q26 => ?_⟩
       ·simp at q26
        exact ⟨[], ⟨by rw [q_no fun h => ff (h.2.2.2.2 j (by omega)) (f_no1 (by assumption))], rfl⟩, .mem (by simp)⟩
       ·simp at q26
        refine call_val (l01In_ct _ _ _) trivial ?_
        rintro _ rfl
        refine ⟨fun q28 => ?_, fun q28 => ?_⟩
        ·simp at q28
         have iq28 := mt inR_iff.2 (Bool.eq_false_iff.1 q28)
         exact ⟨[], ⟨by rw [q_no fun h => ff (h.2.2.2.2 j (by omega)) (f_no2 (by assumption))], rfl⟩, .mem (by simp)⟩
        ·simp at q28
         have iq28 := inR_iff.1 q28
         refine ⟨fun q29 => ?_, fun q29 => ?_⟩
         ·simp at q29
          have iq29 := mt toL_nil8.2 q29
          refine call_val (l08In_ct _ _ _ (namesM x.atoms) _) (Rp.mono _ (mem_at 0 rfl) rN) ?_
          rintro _ rfl
          refine ⟨fun q31 => ?_, fun q31 => ?_⟩
          ·simp at q31
           exact ⟨[], ⟨by rw [q_no fun h => ff (h.2.2.2.2 j (by omega)) (f_no3 (by assumption) (by assumption))], rfl⟩, .mem (by simp)⟩
          ·simp at q31
           refine ⟨fun q32 => ?_, fun q32 => ?_⟩
           ·simp at q32
            exact ⟨[], ⟨by rw [q_no fun h => ff (h.2.2.2.2 j (by omega)) (f_no4 (by assumption) (by assumption))], rfl⟩, .mem (by simp)⟩
           ·simp at q32
            refine call_val (l01In_ct _ _ _) trivial ?_
            rintro _ rfl
            refine ⟨fun q34 => ?_, fun q34 => ?_⟩
            ·simp at q34
             have iq34 := mt inR_iff.2 (Bool.eq_false_iff.1 q34)
             exfalso; omega
            ·simp at q34
             have iq34 := inR_iff.1 q34
             apply loop_stepA (j + 1)
             ·exact .refl _
             ·exact frI
             ·exact ⟨rfl, trivial⟩
             ·exact ⟨by omega, allK_step hf (f_yes2 (by assumption) (by assumption) (by assumption) (by assumption) (by assumption))⟩
             omega
         ·simp at q29
          have iq29 := toL_nil8.1 q29
          refine call_val (l01In_ct _ _ _) trivial ?_
          rintro _ rfl
          refine ⟨fun q36 => ?_, fun q36 => ?_⟩
          ·simp at q36
           have iq36 := mt inR_iff.2 (Bool.eq_false_iff.1 q36)
           exact ⟨[], ⟨by rw [q_no fun h => ff (h.2.2.2.2 j (by omega)) (f_no5 (by assumption))], rfl⟩, .mem (by simp)⟩
          ·simp at q36
           have iq36 := inR_iff.1 q36
           apply loop_stepA (j + 1)
           ·exact .refl _
           ·exact frI
           ·exact ⟨rfl, trivial⟩
           ·exact ⟨by omega, allK_step hf (f_yes1 (by assumption) (by assumption) (by assumption) (by assumption))⟩
           omega
      ·simp at q21
       (have hke : k = x.atoms.length := (by omega); have hie : i = x.out.length := (by omega); have hje : j = x.filters.length := (by omega); rw [hke] at ha; rw [hie] at hb hc; rw [hje] at hf; exact ⟨[], ⟨by rw [q_last (by omega) ha hb hc hf], rfl⟩, .mem (by simp)⟩)
end
section
attribute [local irreducible] IntKind.wrap namesM queryM
def shK (s : List Int) (k : Nat) : Bool := allK (fun i => inR 1 8 (s[i]?.getD 0)) k
def prodK (s : List Int) : Nat → Int
 | 0 => 1
 | k + 1 => prodK s k * (s[k]?.getD 0)
theorem prod_rng {s : List Int} : ∀ {k : Nat}, shK s k = true → 1 ≤ prodK s k ∧ prodK s k ≤ 8 ^ k
 | 0, _ => by show (1 : Int) ≤ 1 ∧ (1 : Int) ≤ 8 ^ 0; decide
 | k + 1, h => by
  have h1 : shK s k = true := by
   unfold shK at h ⊢; unfold allK at h; rw [Bool.and_eq_true] at h; exact h.1
  have h2 := inR_iff.1 (allK_at h k (by omega))
  have ih := prod_rng h1
  show 1 ≤ prodK s k * (s[k]?.getD 0) ∧ prodK s k * (s[k]?.getD 0) ≤ 8 ^ (k + 1)
  rw [Int.pow_succ]
  exact ⟨Int.le_trans (by decide : (1 : Int) ≤ 1 * 1) (Int.mul_le_mul ih.1 h2.1 (by decide) (by omega)), Int.mul_le_mul ih.2 h2.2 (by omega) (Int.le_trans (by decide) (Int.le_trans ih.1 ih.2))⟩
theorem prod_4 {s : List Int} {k : Nat} (h : shK s k = true) (hk : k ≤ 4) : 1 ≤ prodK s k ∧ prodK s k ≤ 4096 := by
 have h1 := prod_rng h
 rcases (by omega : k = 0 ∨ k = 1 ∨ k = 2 ∨ k = 3 ∨ k = 4) with rfl | rfl | rfl | rfl | rfl <;> (refine ⟨h1.1, Int.le_trans h1.2 (by decide)⟩)
theorem prod_mono {s : List Int} {j : Nat} : ∀ {k : Nat}, shK s k = true → j ≤ k → prodK s j ≤ prodK s k
 | 0, _, hj => by rw [show j = 0 by omega]; exact Int.le_refl _
 | k + 1, h, hj => by
  have h1 : shK s k = true := by
   unfold shK at h ⊢; unfold allK at h; rw [Bool.and_eq_true] at h; exact h.1
  have h2 := inR_iff.1 (allK_at h k (by omega))
  have ih := prod_rng h1
  have h3 : prodK s k ≤ prodK s (k + 1) := by
   show prodK s k ≤ prodK s k * (s[k]?.getD 0)
   have := Int.mul_le_mul_of_nonneg_left h2.1 (by omega : (0 : Int) ≤ prodK s k)
   rw [Int.mul_one] at this; exact this
  rcases (by omega : j ≤ k ∨ j = k + 1) with h4 | rfl
  ·exact Int.le_trans (prod_mono h1 h4) h3
  exact Int.le_refl _
theorem prod_step {p v : Int} (h1 : 1 ≤ p ∧ p ≤ 8 ^ 8) (h2 : 1 ≤ v ∧ v ≤ 8) : 1 ≤ p * v ∧ p * v ≤ 8 ^ 9 :=
 ⟨Int.le_trans (by decide : (1 : Int) ≤ 1 * 1) (Int.mul_le_mul h1.1 h2.1 (by decide) (by omega)), Int.le_trans (Int.mul_le_mul h1.2 h2.2 (by omega) (by decide)) (by decide)⟩
def shOk (s : List Int) : Bool := shK s s.length && decide (prodK s s.length ≤ 8)
theorem shOk_no1 {s : List Int} {k : Nat} (hk : k < s.length) (h : ¬ (1 ≤ (s[k]?.getD 0) ∧ (s[k]?.getD 0) ≤ 8)) : shOk s = false := by
 unfold shOk shK
 rw [allK_no (p := fun i => inR 1 8 (s[i]?.getD 0)) (k := k) (by rw [Bool.eq_false_iff, Ne, inR_iff]; exact h) _ hk]; rfl
theorem shOk_no2 {s : List Int} {k : Nat} (hk : k ≤ s.length) (h : ¬ prodK s k ≤ 8) : shOk s = false := by
 cases e : shOk s with
 | false => rfl
 | true =>
  unfold shOk at e
  rw [Bool.and_eq_true, decide_eq_true_iff] at e
  exact absurd (Int.le_trans (prod_mono e.1 hk) e.2) h
theorem shOk_yes {s : List Int} (h : shK s s.length = true) (h1 : prodK s s.length ≤ 8) : shOk s = true := by unfold shOk; rw [h, decide_eq_true h1]; rfl
theorem shK_step {s : List Int} {k : Nat} (h : shK s k = true) (h1 : 1 ≤ (s[k]?.getD 0) ∧ (s[k]?.getD 0) ≤ 8) : shK s (k + 1) = true := allK_step h (inR_iff.2 h1)
theorem shK_all {s : List Int} (h : shOk s = true) : shK s s.length = true := by unfold shOk at h; rw [Bool.and_eq_true] at h; exact h.1
theorem shK_le {s : List Int} {n k : Nat} (h : shK s n = true) (hk : k ≤ n) : shK s k = true := by
 induction n with
 | zero => rw [show k = 0 by omega]; rfl
 | succ n ih =>
  rcases (by omega : k ≤ n ∨ k = n + 1) with h1 | rfl
  ·exact ih (by unfold shK at h ⊢; unfold allK at h; rw [Bool.and_eq_true] at h; exact h.1) h1
  exact h
def cellsM (s : List Int) : Int := if 1 ≤ s.length ∧ s.length ≤ 4 ∧ shOk s = true then prodK s s.length else 0
theorem cells_no1 {s : List Int} (h : ¬ (1 ≤ s.length ∧ s.length ≤ 4)) : cellsM s = 0 := if_neg fun e => h ⟨e.1, e.2.1⟩
theorem cells_no2 {s : List Int} (h : shOk s = false) : cellsM s = 0 := if_neg fun e => by rw [h] at e; cases e.2.2
theorem cells_yes {s : List Int} (h1 : 1 ≤ s.length ∧ s.length ≤ 4) (h : shOk s = true) : cellsM s = prodK s s.length := if_pos ⟨h1.1, h1.2, h⟩
theorem cells_rng (s : List Int) : 0 ≤ cellsM s ∧ cellsM s ≤ 8 := by
 unfold cellsM
 split
 ·rename_i h
  have h2 := h.2.2
  unfold shOk at h2
  rw [Bool.and_eq_true, decide_eq_true_iff] at h2
  have := prod_rng h2.1
  omega
 omega
theorem implCellsOf_ct (b : Option Addr) (m c : Nat) (xs : List Int) : Ct prog 159 [.slice b m c] [] (fun H => (gSl 3 gI).rd H [.slice b m c] xs) (fun v A => v = .int .i64 (cellsM xs) ∧ A = []) := by
 refine Ct.intro0 G_ok func159 rfl rfl rfl fun E H hp => ?_
 obtain ⟨rfl, hcl, hl⟩ := sl_len hp
 refine ⟨fun q0 => ?_, fun q0 => ?_⟩
 ·simp at q0
  exact ⟨[], ⟨by rw [cells_no1 (by omega)], rfl⟩, .mem (by simp)⟩
 ·simp at q0
  refine ⟨fun q1 => ?_, fun q1 => ?_⟩
  ·simp at q1
   exact ⟨[], ⟨by rw [cells_no1 (by omega)], rfl⟩, .mem (by simp)⟩
  ·simp at q1
   apply loop_mod (α := (Nat) × (Int)) G_ok [17, 18, 19, 5, 20, 21, 22, 23, 24, 25, 2, 26, 27, 28, 3, 29, 16] (fun z => [(16, .v (.int .i64 z.1)), (3, .v (.int .i64 z.2))]) (fun z => []) (fun z => [H]) (fun z => xs.length - z.1) (fun z => z.1 ≤ xs.length ∧ shK xs z.1 = true ∧ z.2 = prodK xs z.1) ((0, 1))
   ·repeat' (first | exact trivial | refine ⟨⟨_, rfl, by first | rfl | exact inc_eq _ (by omega) | (refine sl_eq ?_; simp; done) | rw [wrap_of (x := p * (xs[k]?.getD 0)) (by omega) (by omega)], by first | exact trivial | simp [SV.ok]⟩, ?_⟩)
   ·exact trivial
   ·try dsimp only
    exact ⟨Nat.zero_le _, rfl, rfl⟩
   ·exact .refl _
   rintro ⟨k, p⟩ hI
   obtain ⟨hk, ha, hpp⟩ : k ≤ xs.length ∧ shK xs k = true ∧ p = prodK xs k := hI
   try dsimp only
   refine ⟨fun q2 => ?_, fun q2 => ?_⟩
   ·simp at q2
    have hpr := prod_4 ha (by omega)
    rw [← hpp] at hpr
    refine idx_rd hp ?_ ?_ fun b3 o3 hb3 => ?_
    ·omega
    ·omega
    refine load_allN 0 (k) rfl hp ?_ ?_ hb3 rfl (mem_at 0 rfl) fun l4 hl4 => ?_
    ·omega
    ·omega
    obtain ⟨rfl, hw4⟩ := hl4; simp only [flStr, flInt, okI] at hw4
    refine ⟨fun q5 => ?_, fun q5 => ?_⟩
    ·simp at q5
     exact ⟨[], ⟨by rw [cells_no2 (shOk_no1 (k := k) (by omega) (by omega))], rfl⟩, .mem (by simp)⟩
    ·simp at q5
     refine ⟨fun q6 => ?_, fun q6 => ?_⟩
     ·simp at q6
      exact ⟨[], ⟨by rw [cells_no2 (shOk_no1 (k := k) (by omega) (by omega))], rfl⟩, .mem (by simp)⟩
     ·simp at q6
      have hps := prod_step (p := p) (v := xs[k]?.getD 0) ⟨hpr.1, by omega⟩ (by omega)
      apply loop_stepA (k + 1, p * (xs[k]?.getD 0))
      ·exact .refl _
      ·repeat' (first | exact trivial | refine ⟨⟨_, rfl, by first | rfl | exact inc_eq _ (by omega) | (refine sl_eq ?_; simp; done) | rw [wrap_of (x := p * (xs[k]?.getD 0)) (by omega) (by omega)], by first | exact trivial | simp [SV.ok]⟩, ?_⟩)
      ·exact trivial
      ·try dsimp only
       exact ⟨by omega, shK_step ha (by omega), by rw [hpp]; rfl⟩
      try dsimp only
      omega
   ·simp at q2
    have hpr := prod_4 ha (by omega)
    rw [← hpp] at hpr
    refine ⟨fun q7 => ?_, fun q7 => ?_⟩
    ·simp at q7
     exact ⟨[], ⟨by rw [cells_no2 (shOk_no2 (k := k) (by omega) (by rw [← hpp]; omega))], rfl⟩, .mem (by simp)⟩
    ·simp at q7
     (have hke : k = xs.length := (by omega); subst hke; exact ⟨[], ⟨by rw [cells_yes (by omega) (shOk_yes ha (by rw [← hpp]; omega)), ← hpp], rfl⟩, .mem (by simp)⟩)
theorem beq_dec {a b : Int} : (a == b) = decide (a = b) := by rw [Bool.eq_iff_iff, beq_iff_eq, decide_eq_true_iff]
theorem l13Number_ct (b : Option Addr) (m c : Nat) (xs : List Int) (n : Int) : Ct prog 151 [.slice b m c, .int .i64 n] [] (fun H => (gSl 3 gI).rd H [.slice b m c] xs) (fun v A => v = .bool (shOk xs && decide ((xs.length : Int) = n)) ∧ A = []) := by
 refine Ct.intro0 G_ok func151 rfl rfl rfl fun E H hp => ?_
 obtain ⟨rfl, hcl, hl⟩ := sl_len hp
 apply loop_mod (α := (Nat) × (Int)) G_ok [7, 8, 9, 10, 13, 14, 15, 16, 17, 18, 4, 19, 20, 21, 22, 23, 24, 5, 25, 26, 11, 12, 6] (fun z => [(6, .v (.int .i64 z.1)), (5, .v (.int .i64 z.2))]) (fun z => []) (fun z => [H]) (fun z => xs.length - z.1) (fun z => z.1 ≤ xs.length ∧ shK xs z.1 = true ∧ z.2 = prodK xs z.1 ∧ 1 ≤ z.2 ∧ z.2 ≤ 8) ((0, 1))
 ·repeat' (first | exact trivial | refine ⟨⟨_, rfl, by first | rfl | exact inc_eq _ (by omega) | (refine sl_eq ?_; simp; done) | rw [wrap_of (x := p * (xs[k]?.getD 0)) (by omega) (by omega)], by first | exact trivial | simp [SV.ok]⟩, ?_⟩)
 ·exact trivial
 ·try dsimp only
  exact ⟨Nat.zero_le _, rfl, rfl, by decide, by decide⟩
 ·exact .refl _
 rintro ⟨k, p⟩ hI
 try dsimp only at hI
 obtain ⟨hk, ha, hpp, hp1, hp8⟩ := hI
 try dsimp only
 refine ⟨fun q0 => ?_, fun q0 => ?_⟩
 ·simp at q0
  refine idx_rd hp ?_ ?_ fun b1 o1 hb1 => ?_
  ·omega
  ·omega
  refine load_allN 0 (k) rfl hp ?_ ?_ hb1 rfl (mem_at 0 rfl) fun l2 hl2 => ?_
  ·omega
  ·omega
  obtain ⟨rfl, hw2⟩ := hl2; simp only [flStr, flInt, okI] at hw2
  refine call_val (l01In_ct _ _ _) trivial ?_
  rintro _ rfl
  refine ⟨fun q4 => ?_, fun q4 => ?_⟩
  ·simp at q4
   have iq4 := mt inR_iff.2 (Bool.eq_false_iff.1 q4)
   exact ⟨[], ⟨by rw [shOk_no1 (k := k) (by omega) (by omega)]; rfl, rfl⟩, .mem (by simp)⟩
  ·simp at q4
   have iq4 := inR_iff.1 q4
   have hps := prod_step (p := p) (v := xs[k]?.getD 0) ⟨hp1, by omega⟩ (by omega)
   refine idx_rd hp ?_ ?_ fun b5 o5 hb5 => ?_
   ·omega
   ·omega
   refine load_allN 0 (k) rfl hp ?_ ?_ hb5 rfl (mem_at 0 rfl) fun l6 hl6 => ?_
   ·omega
   ·omega
   obtain ⟨rfl, hw6⟩ := hl6; simp only [flStr, flInt, okI] at hw6
   refine ⟨fun q7 => ?_, fun q7 => ?_⟩
   ·simp at q7
    simp (disch := omega) only [wrap_of] at q7
    exact ⟨[], ⟨by rw [shOk_no2 (s := xs) (k := k + 1) (by omega) (by show ¬ prodK xs k * (xs[k]?.getD 0) ≤ 8; rw [← hpp]; omega)]; rfl, rfl⟩, .mem (by simp)⟩
   ·simp at q7
    simp (disch := omega) only [wrap_of] at q7
    apply loop_stepA (k + 1, p * (xs[k]?.getD 0))
    ·exact .refl _
    ·repeat' (first | exact trivial | refine ⟨⟨_, rfl, by first | rfl | exact inc_eq _ (by omega) | (refine sl_eq ?_; simp; done) | rw [wrap_of (x := p * (xs[k]?.getD 0)) (by omega) (by omega)], by first | exact trivial | simp [SV.ok]⟩, ?_⟩)
    ·exact trivial
    ·try dsimp only
     exact ⟨by omega, shK_step ha (by omega), by rw [hpp]; rfl, by omega, by omega⟩
    try dsimp only
    omega
 ·simp at q0
  (have hke : k = xs.length := (by omega); subst hke; exact ⟨[], ⟨by rw [shOk_yes ha (by rw [← hpp]; omega), Bool.true_and]; first | rfl | (rw [beq_dec]), rfl⟩, .mem (by simp)⟩)
end
section
attribute [local irreducible] IntKind.wrap queryM
theorem specCellsOf_ct (b : Option Addr) (m c : Nat) (xs : List Int) : Ct prog 62 [.slice b m c] [] (fun H => (gSl 3 gI).rd H [.slice b m c] xs) (fun v A => v = .int .i64 (cellsM xs) ∧ A = []) := by
 refine Ct.intro0 G_ok func62 rfl rfl rfl fun E H hp => ?_
 obtain ⟨rfl, hcl, hl⟩ := sl_len hp
 refine call_val (l01In_ct _ _ _) trivial ?_
 rintro _ rfl
 refine ⟨fun q1 => ?_, fun q1 => ?_⟩
 ·simp at q1
  have iq1 := mt inR_iff.2 (Bool.eq_false_iff.1 q1)
  exact ⟨[], ⟨by rw [cells_no1 (by omega)], rfl⟩, .mem (by simp)⟩
 ·simp at q1
  have iq1 := inR_iff.1 q1
  refine call_val (l13Number_ct _ _ _ (xs) _) (Rp.mono _ (mem_at 0 rfl) hp) ?_
  rintro _ rfl
  refine ⟨fun q3 => ?_, fun q3 => ?_⟩
  ·simp at q3
   exact ⟨[], ⟨by rw [cells_no2 (by assumption)], rfl⟩, .mem (by simp)⟩
  ·simp at q3
   apply loop_mod (α := (Nat) × (Int)) G_ok [16, 17, 18, 19, 22, 23, 24, 25, 26, 27, 3, 20, 21, 4] (fun z => [(4, .v (.int .i64 z.1)), (3, .v (.int .i64 z.2))]) (fun z => []) (fun z => [H]) (fun z => xs.length - z.1) (fun z => z.1 ≤ xs.length ∧ z.2 = prodK xs z.1) ((0, 1))
   ·repeat' (first | exact trivial | refine ⟨⟨_, rfl, by first | rfl | exact inc_eq _ (by omega) | (refine sl_eq ?_; simp; done) | rw [wrap_of (x := p * (xs[k]?.getD 0)) (by omega) (by omega)], by first | exact trivial | simp [SV.ok]⟩, ?_⟩)
   ·exact trivial
   ·try dsimp only
    exact ⟨Nat.zero_le _, rfl⟩
   ·exact .refl _
   rintro ⟨k, p⟩ hI
   obtain ⟨hk, hpp⟩ : k ≤ xs.length ∧ p = prodK xs k := hI
   try dsimp only
   refine ⟨fun q4 => ?_, fun q4 => ?_⟩
   ·simp at q4
    have hyes : shOk xs = true := (by assumption)
    have hsk := shK_all hyes
    have hpr := prod_4 (k := k) (shK_le hsk (by omega)) (by omega)
    rw [← hpp] at hpr
    have hvk := inR_iff.1 (allK_at hsk k (by omega))
    have hps := prod_step (p := p) (v := xs[k]?.getD 0) ⟨hpr.1, by omega⟩ (by omega)
    refine idx_rd hp ?_ ?_ fun b5 o5 hb5 => ?_
    ·omega
    ·omega
    refine load_allN 0 (k) rfl hp ?_ ?_ hb5 rfl (mem_at 0 rfl) fun l6 hl6 => ?_
    ·omega
    ·omega
    obtain ⟨rfl, hw6⟩ := hl6; simp only [flStr, flInt, okI] at hw6
    apply loop_stepA (k + 1, p * (xs[k]?.getD 0))
    ·exact .refl _
    ·repeat' (first | exact trivial | refine ⟨⟨_, rfl, by first | rfl | exact inc_eq _ (by omega) | (refine sl_eq ?_; simp; done) | rw [wrap_of (x := p * (xs[k]?.getD 0)) (by omega) (by omega)], by first | exact trivial | simp [SV.ok]⟩, ?_⟩)
    ·exact trivial
    ·try dsimp only
     exact ⟨by omega, by rw [hpp]; rfl⟩
    try dsimp only
    omega
   ·simp at q4
    (have hke : k = xs.length := (by omega); subst hke; exact ⟨[], ⟨by rw [cells_yes (by omega) (by assumption), ← hpp], rfl⟩, .mem (by simp)⟩)
theorem addN_pos (l : List ByteArray) (s : ByteArray) : 1 ≤ (addN l s).length := by
 unfold addN
 split
 ·rename_i h
  cases l with
  | nil => exact absurd h (by show ¬ (false = true); decide)
  | cons a r => simp
 simp
theorem names_pos {ats : List Atom} (h : 1 ≤ ats.length) : 1 ≤ (namesM ats).length := by
 have e := namesM_step (ats := ats) (k := ats.length - 1) (by omega)
 rw [show ats.length - 1 + 1 = ats.length by omega, List.take_length] at e
 rw [e]; exact addN_pos _ _
theorem query_names {x : Query} (h : queryM x = true) : 1 ≤ (namesM x.atoms).length ∧ (namesM x.atoms).length ≤ 4 := by
 have h1 : queryP x := by
  apply Classical.byContradiction
  intro e
  rw [q_no e] at h; cases h
 exact ⟨names_pos h1.1.1, h1.1.2.2.2.2.2⟩
attribute [local irreducible] namesM
noncomputable def sharesM (x : Query) (s : List Int) : Bool := queryM x && (shOk s && decide (s.length = (namesM x.atoms).length))
theorem shares_no1 {x : Query} {s : List Int} (h : queryM x = false) : sharesM x s = false := by unfold sharesM; rw [h]; rfl
theorem shares_no2 {x : Query} {s : List Int} (h : ¬ s.length = (namesM x.atoms).length) : sharesM x s = false := by unfold sharesM; rw [decide_eq_false h]; simp
theorem shares_val {x : Query} {s : List Int} (h : queryM x = true) (h1 : s.length = (namesM x.atoms).length) : sharesM x s = decide (0 < cellsM s) := by
 have hn := query_names h
 unfold sharesM
 rw [h, decide_eq_true h1, Bool.true_and, Bool.and_true]
 cases e : shOk s with
 | false => rw [cells_no2 e]; rfl
 | true =>
  rw [cells_yes (by omega) e]
  have := prod_rng (shK_all e)
  rw [decide_eq_true (by omega)]
theorem atoms_len {x : Query} (h : gQuery.sz x ≤ 1048576) : x.atoms.length ≤ 1048576 := by
 have h1 := gQuery_sz x
 have h2 := len_szL gAtom x.atoms
 omega
theorem implSharesOk_ct (l : List Value) (b : Option Addr) (m c : Nat) (x : Query) (s : List Int) (hx : gQuery.sz x ≤ 1048576) : Ct prog 72 [.agg ⟨l⟩, .slice b m c] [] (fun H => gQuery.rd H l x ∧ (gSl 3 gI).rd H [.slice b m c] s) (fun v A => v = .bool (sharesM x s) ∧ A = []) := by
 refine Ct.intro0 G_ok func72 rfl rfl rfl fun E H hp => ?_
 obtain ⟨hp, hq⟩ := hp
 obtain ⟨rfl, hcl, hl⟩ := sl_len hq
 obtain ⟨b1p, c1p, b2p, c2p, b3p, c3p, rfl, h1p, h2p, h3p⟩ := gQuery_rd.1 hp
 have hal := atoms_len hx
 refine ⟨fun x0 => ?_⟩
 refine call_val (implQueryOk_ct _ (x) ?_) (Rp.mono _ (mem_at 0 rfl) hp) ?_
 ·trivial
 rintro _ rfl
 refine ⟨fun q2 => ?_, fun q2 => ?_⟩
 ·refine call_new (implNamesOf_ct _ (x) ?_) (Rp.mono _ (mem_at 0 rfl) hp) ?_
  ·trivial
  rintro v3 A3 o3
  obtain ⟨b3, c3, rfl, o3⟩ := o3
  refine ⟨fun q4 => ?_, fun q4 => ?_⟩
  ·simp at q4
   refine call_val (implCellsOf_ct _ _ _ (s)) (Rp.mono _ (mem_at 1 rfl) hq) ?_
   rintro _ rfl
   exact ⟨[], ⟨congrArg Value.bool (shares_val (by assumption) (by omega)).symm, rfl⟩, .mem (by simp)⟩
  ·simp at q4
   exact ⟨[], ⟨by rw [shares_no2 (by omega)], rfl⟩, .mem (by simp)⟩
 ·exact ⟨[], ⟨by rw [shares_no1 (by assumption)], rfl⟩, .mem (by simp)⟩
theorem specSharesOk_ct (l : List Value) (b : Option Addr) (m c : Nat) (x : Query) (s : List Int) (hx : gQuery.sz x ≤ 1048576) : Ct prog 60 [.agg ⟨l⟩, .slice b m c] [] (fun H => gQuery.rd H l x ∧ (gSl 3 gI).rd H [.slice b m c] s) (fun v A => v = .bool (sharesM x s) ∧ A = []) := by
 refine Ct.intro0 G_ok func60 rfl rfl rfl fun E H hp => ?_
 obtain ⟨hp, hq⟩ := hp
 obtain ⟨rfl, hcl, hl⟩ := sl_len hq
 obtain ⟨b1p, c1p, b2p, c2p, b3p, c3p, rfl, h1p, h2p, h3p⟩ := gQuery_rd.1 hp
 have hal := atoms_len hx
 refine ⟨fun x0 => ?_⟩
 refine call_val (specQueryOk_ct _ (x) ?_) (Rp.mono _ (mem_at 0 rfl) hp) ?_
 ·trivial
 rintro _ rfl
 refine ⟨fun q2 => ?_, fun q2 => ?_⟩
 ·refine call_new (specNamesOf_ct _ (x) ?_) (Rp.mono _ (mem_at 0 rfl) hp) ?_
  ·trivial
  rintro v3 A3 o3
  obtain ⟨b3, c3, rfl, o3⟩ := o3
  refine call_val (l13Number_ct _ _ _ (s) _) (Rp.mono _ (mem_at 1 rfl) hq) ?_
  rintro _ rfl
  exact ⟨[], ⟨congrArg Value.bool (by unfold sharesM; rw [‹queryM x = true›, Bool.true_and]; congr 1; rw [decide_eq_decide]; omega), rfl⟩, .mem (by simp)⟩
 ·exact ⟨[], ⟨by rw [shares_no1 (by assumption)], rfl⟩, .mem (by simp)⟩
theorem isCell_ct (b : Option Addr) (m c : Nat) (s : List Int) (n : Int) : Ct prog 74 [.slice b m c, .int .i64 n] [] (fun H => (gSl 3 gI).rd H [.slice b m c] s) (fun v A => v = .bool (inR 0 (cellsM s - 1) n) ∧ A = []) := by
 refine Ct.intro0 G_ok func74 rfl rfl rfl fun E H hp => ?_
 obtain ⟨rfl, hcl, hl⟩ := sl_len hp
 refine ⟨fun q0 => ?_, fun q0 => ?_⟩
 ·simp at q0
  refine call_val (implCellsOf_ct _ _ _ (s)) (Rp.mono _ (mem_at 0 rfl) hp) ?_
  rintro _ rfl
  exact ⟨[], ⟨congrArg Value.bool (by unfold inR; rw [Bool.eq_iff_iff]; simp; omega), rfl⟩, .mem (by simp)⟩
 ·simp at q0
  exact ⟨[], ⟨congrArg Value.bool (by unfold inR; rw [Bool.eq_iff_iff]; simp; omega), rfl⟩, .mem (by simp)⟩
end
section
attribute [local irreducible] IntKind.wrap
def ownerOk (v n : Int) : Bool := inR 1 8 n && inR 0 11 v
def ownerOf (v n : Int) : Int := if ownerOk v n then sumOf (varText v) % n else 0
theorem ownerOf_no {v n : Int} (h : ownerOk v n = false) : ownerOf v n = 0 := by unfold ownerOf; rw [h]; rfl
theorem ownerOf_val {v n : Int} (h1 : 1 ≤ n) (h2 : n ≤ 8) (h3 : 0 ≤ v) (h4 : v ≤ 11) : Value.int .i64 (IntKind.i64.wrap ((sumOf (varText v)).tmod (IntKind.u32.wrap n))) = Value.int .i64 (ownerOf v n) := by
 have h5 := sumOf_rng (varText v)
 have h6 : IntKind.u32.wrap n = n := by rw [u32_wrap]; omega
 have h7 : 0 ≤ sumOf (varText v) % n := Int.emod_nonneg _ (by omega)
 have h8 : sumOf (varText v) % n < n := Int.emod_lt_of_pos _ (by omega)
 have h9 : ownerOk v n = true := by unfold ownerOk inR; simp; omega
 unfold ownerOf
 rw [h6, Int.tmod_eq_emod_of_nonneg h5.1, wrap_of (by omega) (by omega), h9]; rfl
theorem implOwnerOf_ct (v n : Int) : Ct prog 163 [.int .i64 v, .int .i64 n] [] (fun _ => True) (fun r A => r = .int .i64 (ownerOf v n) ∧ A = []) := by
 refine Ct.intro0 G_ok func163 rfl rfl rfl fun E H hp => ?_
 have h1 := varText_size v
 have h3 := sumOf_rng (varText v)
 refine ⟨fun q0 => ?_, fun q0 => ?_⟩
 ·simp at q0
  exact ⟨[], ⟨by rw [ownerOf_no (by unfold ownerOk inR; simp; omega)], rfl⟩, .mem (by simp)⟩
 ·simp at q0
  refine ⟨fun q1 => ?_, fun q1 => ?_⟩
  ·simp at q1
   exact ⟨[], ⟨by rw [ownerOf_no (by unfold ownerOk inR; simp; omega)], rfl⟩, .mem (by simp)⟩
  ·simp at q1
   refine ⟨fun q2 => ?_, fun q2 => ?_⟩
   ·simp at q2
    exact ⟨[], ⟨by rw [ownerOf_no (by unfold ownerOk inR; simp; omega)], rfl⟩, .mem (by simp)⟩
   ·simp at q2
    refine ⟨fun q3 => ?_, fun q3 => ?_⟩
    ·simp at q3
     exact ⟨[], ⟨by rw [ownerOf_no (by unfold ownerOk inR; simp; omega)], rfl⟩, .mem (by simp)⟩
    ·simp at q3
     refine call_val (varText_ct _ ?_ ?_) trivial ?_
     ·trivial
     ·omega
     rintro _ rfl
     refine call_val (implSumOf_ct _ ?_) trivial ?_
     ·omega
     rintro _ rfl
     refine VC.intro ?_ ?_
     ·(rw [u32_wrap]; omega)
     exact ⟨[], ⟨ownerOf_val (by omega) (by omega) (by omega) (by omega), rfl⟩, .mem (by simp)⟩
theorem specOwnerOf_ct (v n : Int) : Ct prog 108 [.int .i64 v, .int .i64 n] [] (fun _ => True) (fun r A => r = .int .i64 (ownerOf v n) ∧ A = []) := by
 refine Ct.intro0 G_ok func108 rfl rfl rfl fun E H hp => ?_
 have h1 := varText_size v
 have h3 := sumOf_rng (varText v)
 refine call_val (l01In_ct _ _ _) trivial ?_
 rintro _ rfl
 refine ⟨fun q1 => ?_, fun q1 => ?_⟩
 ·simp at q1
  exact ⟨[], ⟨by rw [ownerOf_no (by unfold ownerOk; simp_all)], rfl⟩, .mem (by simp)⟩
 ·simp at q1
  have iq1 := inR_iff.1 q1
  refine call_val (l01In_ct _ _ _) trivial ?_
  rintro _ rfl
  refine ⟨fun q3 => ?_, fun q3 => ?_⟩
  ·simp at q3
   exact ⟨[], ⟨by rw [ownerOf_no (by unfold ownerOk; simp_all)], rfl⟩, .mem (by simp)⟩
  ·simp at q3
   have iq3 := inR_iff.1 q3
   refine call_val (l01Var_ct _ ?_ ?_) trivial ?_
   ·omega
   ·omega
   rintro _ rfl
   refine call_val (specSumOf_ct _ ?_) trivial ?_
   ·omega
   rintro _ rfl
   refine VC.intro ?_ ?_
   ·(rw [u32_wrap]; omega)
   exact ⟨[], ⟨ownerOf_val (by omega) (by omega) (by omega) (by omega), rfl⟩, .mem (by simp)⟩
end
section
attribute [local irreducible] IntKind.wrap
def colsM (a : Atom) : List ByteArray := if a.from' = a.to then [a.from'] else [a.from', a.to]
theorem cols_1 {a : Atom} (h : a.from' = a.to) : colsM a = [a.from'] := if_pos h
theorem cols_2 {a : Atom} (h : ¬ a.from' = a.to) : colsM a = [a.from', a.to] := if_neg h
theorem lit1_ow {x : Nat} {a : ByteArray} (h1 : a.size ≤ 9223372036854775807) : (gSl 9 gS).ow [.slice (some ⟨x, 0, none⟩) 1 1] [a] [(x, Obj.cells ⟨[.string a]⟩ 9)] :=
 ow_fl (Ow.lit (f := flStr) (T := 9) (b := x) (xs := [a]) (fun y hy => by rw [List.mem_singleton.1 hy]; exact h1) (by simp))
theorem implColsOf_ct (l : List Value) (a : Atom) : Ct prog 131 [.agg ⟨l⟩] [] (fun H => gAtom.rd H l a) (fun v A => ∃ b c, v = .slice b (colsM a).length c ∧ (gSl 9 gS).ow [.slice b (colsM a).length c] (colsM a) A) := by
 refine Ct.intro0 G_ok func131 rfl rfl rfl fun E H hp => ?_
 obtain ⟨rfl, w0p, w1p, w2p⟩ := gAtom_rd.1 hp
 refine ⟨fun x0 => ?_⟩
 refine ⟨fun q1 => ?_, fun q1 => ?_⟩
 ·simp at q1
  simp only [str_inj, u8_inj, u8_wrap] at q1
  refine ⟨fun x2 => ?_⟩
  try dsimp only
  (have hz : List.append ([] : List Value) (zeros 0 [Value.string ByteArray.empty]) = [] := rfl; simp only [hz]; rw [cols_1 (by assumption)]; exact ⟨_, ⟨_, _, rfl, lit1_ow (by assumption)⟩, rlB⟩)
 ·simp at q1
  simp only [str_inj, u8_inj, u8_wrap] at q1
  refine ⟨fun x3 => ?_⟩
  try dsimp only
  (have hz : List.append ([] : List Value) (zeros 0 [Value.string ByteArray.empty]) = [] := rfl; simp only [hz]; rw [cols_2 (by assumption)]; exact ⟨_, ⟨_, _, rfl, lit2_ow (by assumption) (by assumption)⟩, rlB⟩)
theorem specColsOf_ct (l : List Value) (a : Atom) : Ct prog 64 [.agg ⟨l⟩] [] (fun H => gAtom.rd H l a) (fun v A => ∃ b c, v = .slice b (colsM a).length c ∧ (gSl 9 gS).ow [.slice b (colsM a).length c] (colsM a) A) := by
 refine Ct.intro0 G_ok func64 rfl rfl rfl fun E H hp => ?_
 obtain ⟨rfl, w0p, w1p, w2p⟩ := gAtom_rd.1 hp
 refine ⟨fun x0 => ?_⟩
 refine ⟨fun q1 => ?_, fun q1 => ?_⟩
 ·simp at q1
  simp only [str_inj, u8_inj, u8_wrap] at q1
  refine ⟨fun x2 => ?_⟩
  try dsimp only
  (have hz : List.append ([] : List Value) (zeros 0 [Value.string ByteArray.empty]) = [] := rfl; simp only [hz]; rw [cols_1 (by assumption)]; exact ⟨_, ⟨_, _, rfl, lit1_ow (by assumption)⟩, rlB⟩)
 ·simp at q1
  simp only [str_inj, u8_inj, u8_wrap] at q1
  refine ⟨fun x3 => ?_⟩
  try dsimp only
  (have hz : List.append ([] : List Value) (zeros 0 [Value.string ByteArray.empty]) = [] := rfl; simp only [hz]; rw [cols_2 (by assumption)]; exact ⟨_, ⟨_, _, rfl, lit2_ow (by assumption) (by assumption)⟩, rlB⟩)
def idxS (l : List ByteArray) (s : ByteArray) : Int := if hasS l s = true then (l.findIdx fun x => decide (x = s) : Nat) else -1
theorem allK_of9 {p : Nat → Bool} : ∀ {n : Nat}, (∀ i, i < n → p i = true) → allK p n = true
 | 0, _ => rfl
 | n + 1, h => allK_step (allK_of9 fun i hi => h i (by omega)) (h n (by omega))
theorem idx_at {l : List ByteArray} {s : ByteArray} {k : Nat} (hk : k < l.length) (h : (l[k]?.getD ByteArray.empty) = s) (ha : allK (fun i => !decide ((l[i]?.getD ByteArray.empty).toList = s.toList)) k = true) : idxS l s = k := by
 unfold idxS
 rw [if_pos (hasS_at hk (congrArg ByteArray.toList h))]
 congr 1
 refine (List.findIdx_eq hk).2 ⟨?_, fun j hj => ?_⟩
 ·rw [List.getElem?_eq_getElem hk] at h
  exact decide_eq_true h
 have h1 := allK_at ha j hj
 rw [List.getElem?_eq_getElem (by omega), Bool.not_eq_true', decide_eq_false_iff_not, str_inj] at h1
 exact decide_eq_false h1
theorem idx_none {l : List ByteArray} {s : ByteArray} (h : allK (fun i => !decide ((l[i]?.getD ByteArray.empty).toList = s.toList)) l.length = true) : idxS l s = -1 := by
 unfold idxS; rw [hasS_none h]; rfl
theorem idx_rng {l : List ByteArray} {s : ByteArray} (h : hasS l s = true) : 0 ≤ idxS l s ∧ idxS l s < l.length := by
 unfold idxS
 rw [if_pos h]
 refine ⟨by omega, ?_⟩
 have h1 : l.findIdx (fun x => decide (x = s)) < l.length := by
  rw [List.findIdx_lt_length]
  apply Classical.byContradiction
  intro hn
  have : hasS l s = false := hasS_none (allK_of9 fun i hi => by
   rw [Bool.not_eq_true', decide_eq_false_iff_not, str_inj]
   intro e
   refine hn ⟨l[i], List.getElem_mem hi, ?_⟩
   rw [List.getElem?_eq_getElem hi] at e
   exact decide_eq_true e)
  rw [h] at this; cases this
 omega
theorem sIndexS2_ct (b : Option Addr) (m c : Nat) (xs : List ByteArray) (v : ByteArray) :
  Ct prog 252 [.slice b m c, .string v] [] (fun H => (gSl 9 gS).rd H [.slice b m c] xs)
   (fun w A => w = .int .i64 (idxS xs v) ∧ A = []) := by
 refine Ct.intro0 G_ok func252 rfl rfl rfl fun E H hp => ?_
 obtain ⟨rfl, hcl, hl⟩ := sl_len hp
 apply loop_mod (α := (Nat) × (Int)) G_ok [9, 10, 5, 11, 12, 13, 14, 15, 16, 17, 4, 18, 8] (fun z => [(8, .v (.int .i64 z.1)), (4, .v (.int .i64 z.2))]) (fun z => []) (fun z => [H]) (fun z => xs.length - z.1) (fun z => z.1 ≤ xs.length ∧ allK (fun i => !decide ((xs[i]?.getD ByteArray.empty).toList = v.toList)) z.1 = true) ((0, 0))
 ·exact frI
 ·exact trivial
 ·try dsimp only
  exact ⟨Nat.zero_le _, rfl⟩
 ·exact .refl _
 rintro ⟨k, j⟩ hI
 try dsimp only at hI
 obtain ⟨hk, ha⟩ := hI
 try dsimp only
 refine ⟨fun q0 => ?_, fun q0 => ?_⟩
 ·simp at q0
  refine idx_rd hp ?_ ?_ fun b1 o1 hb1 => ?_
  ·omega
  ·omega
  refine load_allN ByteArray.empty (k) rfl hp ?_ ?_ hb1 rfl (mem_at 0 rfl) fun l2 hl2 => ?_
  ·omega
  ·omega
  obtain ⟨rfl, hw2⟩ := hl2; simp only [flStr, flInt, okI] at hw2
  refine ⟨fun q3 => ?_, fun q3 => ?_⟩
  ·simp at q3
   simp only [str_inj, u8_inj, u8_wrap] at q3
   exact ⟨[], ⟨by rw [idx_at (k := k) (by omega) (by first | assumption | exact Eq.symm (by assumption)) ha], rfl⟩, .refl _⟩
  ·simp at q3
   simp only [str_inj, u8_inj, u8_wrap] at q3
   apply loop_stepA (k + 1, _)
   ·exact .refl _
   ·exact frI
   ·exact trivial
   ·try dsimp only
    exact ⟨by omega, allK_step ha (not_in (by first | assumption | exact fun e => absurd e.symm (by assumption)))⟩
   try dsimp only
   omega
 ·simp at q0
  (have hke : k = xs.length := (by omega); subst hke; exact ⟨[], ⟨by rw [idx_none ha], rfl⟩, .refl _⟩)
theorem l09Place_ct (b : Option Addr) (m c : Nat) (xs : List ByteArray) (v : ByteArray) :
  Ct prog 153 [.slice b m c, .string v] [] (fun H => (gSl 9 gS).rd H [.slice b m c] xs)
   (fun w A => w = .int .i64 (idxS xs v) ∧ A = []) := by
 refine Ct.intro0 G_ok func153 rfl rfl rfl fun E H hp => ?_
 obtain ⟨rfl, hcl, hl⟩ := sl_len hp
 apply loop_mod (α := (Nat)) G_ok [6, 7, 8, 9, 12, 13, 14, 15, 16, 17, 18, 4, 10, 11, 5] (fun z => [(5, .v (.int .i64 z))]) (fun z => []) (fun z => [H]) (fun z => xs.length - z) (fun z => z ≤ xs.length ∧ allK (fun i => !decide ((xs[i]?.getD ByteArray.empty).toList = v.toList)) z = true) ((0))
 ·exact frI
 ·exact trivial
 ·exact ⟨Nat.zero_le _, rfl⟩
 ·exact .refl _
 rintro k hI
 try dsimp only at hI
 obtain ⟨hk, ha⟩ := hI
 try dsimp only
 refine ⟨fun q0 => ?_, fun q0 => ?_⟩
 ·simp at q0
  refine idx_rd hp ?_ ?_ fun b1 o1 hb1 => ?_
  ·omega
  ·omega
  refine load_allN ByteArray.empty (k) rfl hp ?_ ?_ hb1 rfl (mem_at 0 rfl) fun l2 hl2 => ?_
  ·omega
  ·omega
  obtain ⟨rfl, hw2⟩ := hl2; simp only [flStr, flInt, okI] at hw2
  refine ⟨fun q3 => ?_, fun q3 => ?_⟩
  ·simp at q3
   simp only [str_inj, u8_inj, u8_wrap] at q3
   exact ⟨[], ⟨by rw [idx_at (k := k) (by omega) (by first | assumption | exact Eq.symm (by assumption)) ha], rfl⟩, .refl _⟩
  ·simp at q3
   simp only [str_inj, u8_inj, u8_wrap] at q3
   apply loop_stepA (k + 1)
   ·exact .refl _
   ·exact frI
   ·exact trivial
   ·exact ⟨by omega, allK_step ha (not_in (by first | assumption | exact fun e => absurd e.symm (by assumption)))⟩
   omega
 ·simp at q0
  (have hke : k = xs.length := (by omega); subst hke; exact ⟨[], ⟨by rw [idx_none ha], rfl⟩, .refl _⟩)
end
end Go.Proofs.YtjgehblllhkdbaaGreat
namespace Go.SX
section
variable {P : Program} {E : World} {Γ : Ty} {n : Nat} {α : Type} {f : Fl α}
theorem allOne_flat (f : Fl α) : ∀ l : List α, allOne (l.flatMap f.enc) = true := by
 intro l
 induction l with
 | nil => rfl
 | cons x r ih =>
  rw [List.flatMap_cons]
  exact allOne_append _ _ (f.one x) ih
theorem rd_pre {H : Hp} {b : Option Addr} {k c : Nat} {ys : List α} (h : (rpSl f.rp).rd H [.slice b k c] ys) (q : Nat) (hq : q ≤ k) : (rpSl f.rp).rd H [.slice b q c] (ys.take q) := by
 obtain ⟨b', c', e, h1, h2⟩ := h
 cases e
 refine ⟨b, c, by rw [List.length_take, Nat.min_eq_left hq], ⟨by rw [List.length_take]; omega, by rw [List.length_take]; omega⟩, fun i hi => ?_⟩
 rw [List.length_take] at hi
 obtain ⟨b', o, l', h3, h4, h5⟩ := h2 i (by omega)
 exact ⟨b', o, l', h3, h4, by rw [List.getElem_take]; exact h5⟩
theorem first_len {size q : Nat} {b : Option Addr} {k k' c c' : Nat} : Builtin.firstCells size q (.slice b k c) = Builtin.firstCells size q (.slice b k' c') := by cases b <;> rfl
theorem copy_ow (hΓ : TyOk P Γ) {dst : Option Nat} {d s : Operand} {dT sT e ty : TypeId} {pos : String} {after : Array Edge} {guard : Option (Nat × Bool)} {fr : Fr} {bl : List Blk} {R : List Hp} {K : St → Prop} {ti : TI}
  (i : Nat) {A : Hp} {base b2 : Option Addr} {m cap l dl dc k c2 : Nat} {xs ys : List α} (hi : nthR R i = some A) (ho : Ow f e (.slice base m cap) xs A)
  (hd1 : getK fr d fun sv => sv = .v (.slice (subBase cap l base f.size) dl dc)) (hs1 : getK fr s fun sv => sv = .v (.slice b2 k c2))
  (hr2 : (rpSl f.rp).rd (St.hall ⟨[], bl, R⟩) [.slice b2 k c2] ys) (hy : ∀ y ∈ ys, f.wf y) (hl : l + dl ≤ m)
  (hsT : undOf Γ dT = some (.slice e)) (ht : tyOf Γ e = some ti) (hsz : ti.size = f.size)
  (hk : ∀ A', Ow f e (.slice base m cap) (xs.take l ++ (ys.take (min k dl) ++ xs.drop (l + min k dl))) A' → putK n fr dst (.v (.int .i64 ((min k dl : Nat) : Int))) fun fr => K ⟨fr, bl, setR R i A'⟩) :
  VCraw P E n ⟨dst, .call ⟨.builtin .copy, #[d, s], #[dT, sT]⟩, ty, pos, after, guard⟩ ⟨fr, bl, R⟩ K := by
 refine ⟨fun a w hr Q => ?_⟩
 obtain ⟨sv, g1, _, rfl⟩ := getK_sound hr hd1
 obtain ⟨sv, g2, _, rfl⟩ := getK_sound hr hs1
 obtain ⟨pre, post, e1, e2'⟩ := nthR_split hi
 have perm : ∀ C : Hp, (St.hall ⟨[], bl, pre ++ C :: post⟩).Perm (C ++ St.hall ⟨[], bl, pre ++ post⟩) := by
  intro C
  simp only [St.hall, List.flatten_append, List.flatten_cons]
  have := List.perm_append_comm (l₁ := List.map Blk.ent bl ++ pre.flatten) (l₂ := C)
  have := this.append_right post.flatten
  simpa only [List.append_assoc] using this
 have hk2 : k = ys.length := by obtain ⟨_, _, e, _⟩ := hr2; cases e; rfl
 have hpre := rd_pre hr2 (min k dl) (Nat.min_le_left _ _)
 have hrow := (rd_row (f := f) hpre (P := P) hr.sat).2
 subst e1
 have hsat : Sat E (A ++ St.hall ⟨[], bl, pre ++ post⟩) w := hr.sat.perm (perm A)
 have key : ∃ A' w', (Builtin.copy_ #[dT, sT] ty #[.slice (if cap = l then base else base.map (·.add (l * f.size))) dl dc, .slice b2 k c2]).run P w = .ok (.int .i64 ((min k dl : Nat) : Int)) w' ∧ Ow f e (.slice base m cap) (xs.take l ++ (ys.take (min k dl) ++ xs.drop (l + min k dl))) A' ∧ Sat E (A' ++ St.hall ⟨[], bl, pre ++ post⟩) w' := by
  have hu := undOf_ok hΓ hsT
  obtain ⟨hw, hlen, base0, cap0, e0, h2⟩ := ho
  cases e0
  have hwf : ∀ x ∈ xs.take l ++ (ys.take (min k dl) ++ xs.drop (l + min k dl)), f.wf x := by
   intro x hx
   rcases List.mem_append.1 hx with hx | hx
   ·exact hw x (List.mem_of_mem_take hx)
   rcases List.mem_append.1 hx with hx | hx
   ·exact hy x (List.mem_of_mem_take hx)
   exact hw x (List.mem_of_mem_drop hx)
  have hln : (xs.take l ++ (ys.take (min k dl) ++ xs.drop (l + min k dl))).length = xs.length := by
   simp only [List.length_append, List.length_take, List.length_drop]; omega
  unfold Builtin.copy_
  simp only [List.getElem?_toArray, List.getElem?_cons_zero, List.getElem?_cons_succ, Sem.run_bind, run_underlying hu, Result.andThen_ok, ty_size hΓ ht, hsz, Sem.run_pure, Builtin.lenOf]
  rw [show Nat.min k dl = min k dl from rfl]
  rw [first_len (k' := min k dl) (c' := c2), hrow]
  simp only [Result.andThen_ok]
  rcases h2 with ⟨rfl, rfl, rfl⟩ | ⟨b, sp, rfl, rfl, h3, h4⟩
  ·have h0 : min k dl = 0 := by simp at hl; omega
   have hl0 : l = 0 := by simp at hl; omega
   refine ⟨[], w, ?_, ?_, hsat⟩
   ·rw [h0, hl0]
    cases base with
    | none => rfl
    | some a => rfl
   rw [h0, hl0]
   exact ⟨fun x hx => (by simp at hx), by simp, base, 0, rfl, .inl ⟨rfl, rfl, rfl⟩⟩
  by_cases h0 : min k dl = 0
  ·refine ⟨_, w, ?_, ?_, hsat⟩
   ·rw [h0]
    generalize (if cap = l then some (Addr.mk b 0 none) else (some (Addr.mk b 0 none)).map (·.add (l * f.size))) = q
    cases q <;> rfl
   rw [h0]
   simp only [List.take_zero, List.nil_append, Nat.add_zero, List.take_append_drop]
   exact ⟨hw, hlen, _, _, rfl, .inr ⟨b, sp, rfl, rfl, h3, h4⟩⟩
  have hfl := flat_length f xs
  have hfy := flat_length f (ys.take (min k dl))
  rw [List.length_take, Nat.min_eq_left (show min k dl ≤ ys.length by omega)] at hfy
  have hm1 := Nat.mul_le_mul_right f.size (show l + min k dl ≤ xs.length by omega)
  have hm2 : (l + min k dl) * f.size = l * f.size + min k dl * f.size := Nat.add_mul _ _ _
  have hbound : l * f.size + ((ys.take (min k dl)).flatMap f.enc).length ≤ (xs.flatMap f.enc ++ sp).length := by
   rw [List.length_append, hfl, hfy]; omega
  obtain ⟨w', h5, h6⟩ := run_storeCells_wr (P := P) (A := []) (o := l * f.size) (l := (ys.take (min k dl)).flatMap f.enc) hsat hbound (allOne_flat f _)
  refine ⟨[(b, Obj.cells ⟨setAt (xs.flatMap f.enc ++ sp) (l * f.size) ((ys.take (min k dl)).flatMap f.enc)⟩ e)], w', ?_, ?_, h6⟩
  ·rw [if_neg (by omega)]
   simp only [Option.map_some, addr_add, Nat.zero_add, Sem.run_bind, h5, Result.andThen_ok, Sem.run_pure]
   rfl
  refine ⟨hwf, by rw [hln]; exact hlen, some ⟨b, 0, none⟩, cap, by rw [hln], .inr ⟨b, sp, rfl, ?_, by rw [hln]; exact h3, by rw [hln]; exact h4⟩⟩
  have e3 : setAt (xs.flatMap f.enc ++ sp) (l * f.size) ((ys.take (min k dl)).flatMap f.enc) = (xs.take l ++ (ys.take (min k dl) ++ xs.drop (l + min k dl))).flatMap f.enc ++ sp := by
   have hx : xs = xs.take l ++ ((xs.drop l).take (min k dl) ++ xs.drop (l + min k dl)) := by
    rw [← List.drop_drop, List.take_append_drop, List.take_append_drop]
   have h7 := flat_length f (xs.take l)
   rw [List.length_take, show min l xs.length = l by omega] at h7
   have h8 := flat_length f ((xs.drop l).take (min k dl))
   rw [List.length_take, List.length_drop, show min (min k dl) (xs.length - l) = min k dl by omega] at h8
   rw [setAt_eq _ _ _ hbound, hfy]
   conv => lhs; rw [hx]
   simp only [List.flatMap_append, List.append_assoc]
   have e9 : ∀ (A B C : List Value), List.drop (A ++ B).length (A ++ (B ++ C)) = C := fun A B C => by rw [← List.append_assoc, List.drop_left]
   rw [← h7, List.take_left, ← h8, ← List.length_append, e9]
  rw [← e3]
 obtain ⟨A', w', h1, h2, h3⟩ := key
 have hr' : Rel E n ⟨fr, bl, setR (pre ++ A :: post) i A'⟩ a w' := by
  rw [e2']
  exact hr.ids rfl (h3.perm (perm A').symm)
 refine wp_value (s := .v _) (v := .int .i64 ((min k dl : Nat) : Int)) ?_ hr' rfl trivial (hk A' h2)
 simp only [execOp, resolve, invoke, builtin, Sem.run_bind, Sem.run_pure, Result.andThen_ok]
 rw [show (#[d, s] : Array Operand).map a.eval = #[a.eval d, a.eval s] from by simp, g1, g2]
 simp only [SV.den, subBase_eq]
 rw [h1]; rfl
theorem copy_end (hΓ : TyOk P Γ) {dst : Option Nat} {d s : Operand} {dT sT e ty : TypeId} {pos : String} {after : Array Edge} {guard : Option (Nat × Bool)} {fr : Fr} {bl : List Blk} {R : List Hp} {K : St → Prop} {ti : TI}
  (i : Nat) {A : Hp} {base b2 : Option Addr} {m cap l dl dc k c2 q : Nat} {xs ys : List α} (hi : nthR R i = some A) (ho : Ow f e (.slice base m cap) xs A)
  (hd1 : getK fr d fun sv => sv = .v (.slice (subBase cap l base f.size) dl dc)) (hs1 : getK fr s fun sv => sv = .v (.slice b2 k c2))
  (hr2 : (rpSl f.rp).rd (St.hall ⟨[], bl, R⟩) [.slice b2 q c2] ys) (hq : q = min k dl) (hy : ∀ y ∈ ys, f.wf y) (hl : l ≤ m) (hlc : l + q ≤ cap) (hmq : m ≤ l + q) (hq0 : 0 < q) (hlen2 : l + q ≤ 9223372036854775807)
  (hsT : undOf Γ dT = some (.slice e)) (ht : tyOf Γ e = some ti) (hsz : ti.size = f.size)
  (hk : ∀ A', Ow f e (.slice base (l + q) cap) (xs.take l ++ ys) A' → putK n fr dst (.v (.int .i64 ((min k dl : Nat) : Int))) fun fr => K ⟨fr, bl, setR R i A'⟩) :
  VCraw P E n ⟨dst, .call ⟨.builtin .copy, #[d, s], #[dT, sT]⟩, ty, pos, after, guard⟩ ⟨fr, bl, R⟩ K := by
 refine ⟨fun a w hr Q => ?_⟩
 obtain ⟨sv, g1, _, rfl⟩ := getK_sound hr hd1
 obtain ⟨sv, g2, _, rfl⟩ := getK_sound hr hs1
 obtain ⟨pre, post, e1, e2'⟩ := nthR_split hi
 have perm : ∀ C : Hp, (St.hall ⟨[], bl, pre ++ C :: post⟩).Perm (C ++ St.hall ⟨[], bl, pre ++ post⟩) := by
  intro C
  simp only [St.hall, List.flatten_append, List.flatten_cons]
  have := List.perm_append_comm (l₁ := List.map Blk.ent bl ++ pre.flatten) (l₂ := C)
  have := this.append_right post.flatten
  simpa only [List.append_assoc] using this
 obtain ⟨hk2, hrow⟩ := rd_row (f := f) hr2 (P := P) hr.sat
 subst hk2
 subst e1
 have hsat : Sat E (A ++ St.hall ⟨[], bl, pre ++ post⟩) w := hr.sat.perm (perm A)
 have key : ∃ A' w', (Builtin.copy_ #[dT, sT] ty #[.slice (if cap = l then base else base.map (·.add (l * f.size))) dl dc, .slice b2 k c2]).run P w = .ok (.int .i64 ((min k dl : Nat) : Int)) w' ∧ Ow f e (.slice base (l + ys.length) cap) (xs.take l ++ ys) A' ∧ Sat E (A' ++ St.hall ⟨[], bl, pre ++ post⟩) w' := by
  have hu := undOf_ok hΓ hsT
  obtain ⟨hw, hlen, base0, cap0, e0, h2⟩ := ho
  cases e0
  have hwf : ∀ x ∈ xs.take l ++ ys, f.wf x := by
   intro x hx
   rcases List.mem_append.1 hx with hx | hx
   ·exact hw x (List.mem_of_mem_take hx)
   exact hy x hx
  have hln : (xs.take l ++ ys).length = l + ys.length := by
   simp only [List.length_append, List.length_take]; omega
  unfold Builtin.copy_
  simp only [List.getElem?_toArray, List.getElem?_cons_zero, List.getElem?_cons_succ, Sem.run_bind, run_underlying hu, Result.andThen_ok, ty_size hΓ ht, hsz, Sem.run_pure, Builtin.lenOf]
  rw [show Nat.min k dl = min k dl from rfl, ← hq]
  rw [first_len (k' := ys.length) (c' := c2), hrow]
  simp only [Result.andThen_ok]
  rcases h2 with ⟨rfl, rfl, rfl⟩ | ⟨b, sp, rfl, rfl, h3, h4⟩
  ·omega
  have hfl := flat_length f xs
  have hfy := flat_length f ys
  have hfx := flat_length f (xs.take l)
  rw [List.length_take, show min l xs.length = l by omega] at hfx
  have hm1 := Nat.mul_le_mul_right f.size (show l + ys.length ≤ cap by omega)
  have hm2 : (l + ys.length) * f.size = l * f.size + ys.length * f.size := Nat.add_mul _ _ _
  have hm4 : xs.length * f.size + (cap - xs.length) * f.size = cap * f.size := by rw [← Nat.add_mul]; congr 1; omega
  have hm5 := Nat.mul_le_mul_right f.size (show xs.length ≤ l + ys.length by omega)
  have hm6 := Nat.mul_le_mul_right f.size (show l ≤ xs.length by omega)
  have hbound : l * f.size + (ys.flatMap f.enc).length ≤ (xs.flatMap f.enc ++ sp).length := by
   rw [List.length_append, hfl, hfy]; omega
  obtain ⟨w', h5, h6⟩ := run_storeCells_wr (P := P) (A := []) (o := l * f.size) (l := ys.flatMap f.enc) hsat hbound (allOne_flat f _)
  refine ⟨[(b, Obj.cells ⟨setAt (xs.flatMap f.enc ++ sp) (l * f.size) (ys.flatMap f.enc)⟩ e)], w', ?_, ?_, h6⟩
  ·rw [if_neg (by omega)]
   simp only [Option.map_some, addr_add, Nat.zero_add, Sem.run_bind, h5, Result.andThen_ok, Sem.run_pure]
   rfl
  refine ⟨hwf, by rw [hln]; exact hlen2, some ⟨b, 0, none⟩, cap, by rw [hln], .inr ⟨b, (xs.flatMap f.enc ++ sp).drop (l * f.size + ys.length * f.size), rfl, ?_, by rw [hln]; omega, ?_⟩⟩
  ·have e3 : setAt (xs.flatMap f.enc ++ sp) (l * f.size) (ys.flatMap f.enc) = (xs.take l ++ ys).flatMap f.enc ++ (xs.flatMap f.enc ++ sp).drop (l * f.size + ys.length * f.size) := by
    rw [setAt_eq _ _ _ hbound, hfy, List.flatMap_append]
    congr 2
    have : xs.flatMap f.enc = (xs.take l).flatMap f.enc ++ (xs.drop l).flatMap f.enc := by rw [← List.flatMap_append, List.take_append_drop]
    rw [this, List.append_assoc, ← hfx, List.take_left]
   rw [← e3]
  have hm7 : (cap - (l + ys.length)) * f.size = cap * f.size - (l + ys.length) * f.size := Nat.sub_mul _ _ _
  rw [hln, List.length_drop, List.length_append, hfl]
  omega
 obtain ⟨A', w', h1, h2, h3⟩ := key
 have hr' : Rel E n ⟨fr, bl, setR (pre ++ A :: post) i A'⟩ a w' := by
  rw [e2']
  exact hr.ids rfl (h3.perm (perm A').symm)
 refine wp_value (s := .v _) (v := .int .i64 ((min k dl : Nat) : Int)) ?_ hr' rfl trivial (hk A' h2)
 simp only [execOp, resolve, invoke, builtin, Sem.run_bind, Sem.run_pure, Result.andThen_ok]
 rw [show (#[d, s] : Array Operand).map a.eval = #[a.eval d, a.eval s] from by simp, g1, g2]
 simp only [SV.den, subBase_eq]
 rw [h1]; rfl
end
end Go.SX
namespace Go.SX
section
variable {P : Program} {E : World} {Γ : Ty} {n : Nat} {α : Type} {f : Fl α}
theorem run_append_zeros (hΓ : TyOk P Γ) {sT xT e ty : TypeId} {ti : TI} {kn : IntKind} (hsT : P.underlying sT = some (.slice e)) (hxT : P.underlying xT = some (.int kn)) (ht : tyOf Γ e = some ti) (hsz : ti.size = f.size)
  {z : α} (hz : ti.zero.cells.toList = f.enc z) (hzw : f.wf z)
  {H : Hp} {w : World} {base : Option Addr} {m cap k : Nat} {xs : List α} (hs : Sat E H w) (hx : (rpSl f.rp).rd H [.slice base m cap] xs) (hw : ∀ x ∈ xs, f.wf x)
  (hk : 0 < k) (hfit : cap < m + k) (hlen : m + k ≤ 1073741824) (hby : ti.bytes ≤ 65536) :
  ∃ base' cap' A' w', (Builtin.append_ #[sT, xT] ty #[.slice base m cap, .int .i64 (k : Int)]).run P w = .ok (.slice base' (xs ++ List.replicate k z).length cap') w' ∧ Ow f e (.slice base' (xs ++ List.replicate k z).length cap') (xs ++ List.replicate k z) A' ∧ Sat E (A' ++ H) w' := by
 obtain ⟨hmx, hrow⟩ := rd_row (f := f) hx (P := P) hs
 subst hmx
 obtain ⟨i, hi, hib, _, _⟩ := ty_bytes hΓ ht
 have hwr : IntKind.i64.wrap (k : Int) = (k : Int) := wrap_ok (by unfold okI; omega)
 have hkb : k * ti.bytes ≤ 1073741824 * 65536 := Nat.mul_le_mul (by omega) hby
 have hcap : Builtin.nextslicecap (xs.length + k) cap * ti.bytes ≤ 281474976710656 := by
  have h7 := nextcap_le (xs.length + k) cap (by omega)
  have h8 := Nat.mul_le_mul h7 hby
  omega
 have hdrew : ∀ {H : Hp}, Sat E H w → Sat E H { w with drawn := w.drawn + 1 } := fun h => ⟨h.os, h.out, h.tape, h.mem, h.nodup, Nat.le_trans h.dr (Nat.le_succ _)⟩
 have hrow' := (rd_row (f := f) hx (P := P) (hdrew hs)).2
 have hmax : IntKind.i64.max = 9223372036854775807 := rfl
 have hkb' : ¬ ((k : Int) * (ti.bytes : Int) > 2 ^ 48) := by
  rw [← Int.natCast_mul]; omega
 have hneg : ¬ ((k : Int) < 0) := by omega
 have hns : ¬ (k * f.size = 0) := Nat.mul_ne_zero (by omega) (by have := f.pos; omega)
 have hfit' : ¬ (xs.length + k ≤ cap) := by omega
 have hif : ¬ (Builtin.nextslicecap (xs.length + k) cap * ti.bytes > 2 ^ 48) := by omega
 unfold Builtin.append_
 simp only [List.getElem?_toArray, List.getElem?_cons_zero, List.getElem?_cons_succ, Sem.run_bind, run_underlying hsT, run_underlying hxT, Result.andThen_ok, ty_size hΓ ht, hsz, Sem.run_pure, if_true, asInt, asIntOf, hwr, hneg, if_false, typeInfo, run_program, hi, hib, hkb', Int.toNat_natCast, hfit', Bool.not_true, Bool.false_eq_true, hns]
 rw [if_neg (by rw [hmax]; rintro ⟨h10, _⟩; omega)]
 simp only [Sem.run_bind, run_program, Result.andThen_ok, hi, Sem.run_pure, hib]
 rw [if_neg hif]
 simp only [Sem.run_bind, run_program, Result.andThen_ok, hi, Sem.run_pure, run_choose, Question.forced, Bool.false_eq_true, if_false, run_askRoom, hrow', ty_zero hΓ ht, newRow, run_newObj]
 have hq : xs.length + k ≤ (Question.appendCap (xs.length + k) cap e).cut (w.tape w.drawn (.appendCap (xs.length + k) cap e)) := by
  simp only [Question.cut]; omega
 generalize (Question.appendCap (xs.length + k) cap e).cut (w.tape w.drawn (.appendCap (xs.length + k) cap e)) = c at hq
 rw [zeroCells_eq, zeroCells_eq]
 have hlenz : (xs ++ List.replicate k z).length = xs.length + k := by simp
 have hzz : ∀ j, zeros j ti.zero.cells.toList = (List.replicate j z).flatMap f.enc := by
  intro j
  induction j with
  | zero => rfl
  | succ j ih => rw [zeros, ih, List.replicate_succ, List.flatMap_cons, hz]
 refine ⟨some ⟨w.heap.size, 0, none⟩, c, [(w.heap.size, Obj.cells ⟨(xs ++ List.replicate k z).flatMap f.enc ++ zeros (c - (xs.length + k)) ti.zero.cells.toList⟩ e)], _, by rw [hlenz], ?_, ?_⟩
 ·refine ⟨?_, by rw [hlenz]; omega, some ⟨w.heap.size, 0, none⟩, c, rfl, .inr ⟨w.heap.size, _, rfl, rfl, by rw [hlenz]; exact hq, ?_⟩⟩
  ·intro x hx
   rcases List.mem_append.1 hx with hx | hx
   ·exact hw x hx
   rw [List.eq_of_mem_replicate hx]; exact hzw
  rw [zeros_length, hz, hlenz]
  refine Nat.le_of_eq (Eq.symm ?_)
  congr 1
  have := flat_length f [z]
  simpa using this
 have h11 := (hdrew hs).push (Obj.cells ⟨(xs ++ List.replicate k z).flatMap f.enc ++ zeros (c - (xs.length + k)) ti.zero.cells.toList⟩ e)
 have e1 : ((⟨xs.flatMap f.enc⟩ : Array Value) ++ (⟨zeros k ti.zero.cells.toList⟩ : Array Value) ++ (⟨zeros (c - (xs.length + k)) ti.zero.cells.toList⟩ : Array Value)) = ⟨(xs ++ List.replicate k z).flatMap f.enc ++ zeros (c - (xs.length + k)) ti.zero.cells.toList⟩ := by
  apply Array.ext'
  simp [hzz]
 rw [e1]
 exact h11
theorem append_zeros (hΓ : TyOk P Γ) {dst : Option Nat} {s x : Operand} {sT xT e ty : TypeId} {pos : String} {after : Array Edge} {guard : Option (Nat × Bool)} {fr : Fr} {bl : List Blk} {R : List Hp} {K : St → Prop} {ti : TI} {kn : IntKind}
  {z : α} {base : Option Addr} {m cap k : Nat} {xs : List α}
  (hs1 : getK fr s fun sv => sv = .v (.slice base m cap)) (hx1 : getK fr x fun sv => sv = .v (.int .i64 (k : Int)))
  (hr2 : (rpSl f.rp).rd (St.hall ⟨[], bl, R⟩) [.slice base m cap] xs) (hw : ∀ x ∈ xs, f.wf x)
  (hsT : undOf Γ sT = some (.slice e)) (hxT : undOf Γ xT = some (.int kn)) (ht : tyOf Γ e = some ti) (hsz : ti.size = f.size) (hz : ti.zero.cells.toList = f.enc z) (hzw : f.wf z)
  (hby : Nat.ble ti.bytes 65536 = true) (hk0 : 0 < k) (hfit : cap < m + k) (hlen : m + k ≤ 1073741824)
  (hk : ∀ base' cap' A', Ow f e (.slice base' (xs ++ List.replicate k z).length cap') (xs ++ List.replicate k z) A' → putK n fr dst (.v (.slice base' (xs ++ List.replicate k z).length cap')) fun fr => K ⟨fr, bl, A' :: R⟩) :
  VCraw P E n ⟨dst, .call ⟨.builtin .append, #[s, x], #[sT, xT]⟩, ty, pos, after, guard⟩ ⟨fr, bl, R⟩ K := by
 refine ⟨fun a w hr Q => ?_⟩
 obtain ⟨sv, g1, _, rfl⟩ := getK_sound hr hs1
 obtain ⟨sv, g2, _, rfl⟩ := getK_sound hr hx1
 obtain ⟨base', cap', A', w', h1, h2, h3⟩ := run_append_zeros (E := E) (ty := ty) hΓ (undOf_ok hΓ hsT) (undOf_ok hΓ hxT) ht hsz hz hzw hr.sat hr2 hw hk0 hfit hlen (Nat.le_of_ble_eq_true hby)
 have hr' : Rel E n ⟨fr, bl, A' :: R⟩ a w' := by
  refine hr.ids rfl (h3.perm ?_)
  simp only [St.hall, List.flatten_cons]
  rw [← List.append_assoc, ← List.append_assoc]
  exact List.perm_append_comm.append_right _
 refine wp_value (s := .v _) (v := .slice base' (xs ++ List.replicate k z).length cap') ?_ hr' rfl trivial (hk _ _ A' h2)
 simp only [execOp, resolve, invoke, builtin, Sem.run_bind, Sem.run_pure, Result.andThen_ok]
 rw [show (#[s, x] : Array Operand).map a.eval = #[a.eval s, a.eval x] from by simp, g1, g2]
 simp only [SV.den]
 rw [h1]; rfl
theorem call_overlaps {fi : FuncId} {fn : Func} {tS tR e : TypeId} {size : Nat} {bl : List Blk} {R : List Hp} {K : Value → List Blk → List Hp → Prop}
  (hf : P.funcs[fi]? = some fn) (hname : (fn.name == "runtime.NumGoroutine") = false) (hb : fn.body.isNone = true) (hn : Extern.findNext fn = none) (he : Extern.find fn = some (Extern.SlicesOverlaps.overlaps #[tS, tS] #[tR]))
  (ht : P.underlying tS = some (.slice e)) (hz : ∀ w, (Go.sizeOf e).run P w = .ok size w) {a b : Addr} {la ca lb cb : Nat} {c1 c2 : Array Value} {t1 t2 : TypeId} {H : Hp}
  (hsp : (St.hall ⟨[], bl, R⟩).Perm ((b.block, Obj.cells c2 t2) :: H)) (m1 : (a.block, Obj.cells c1 t1) ∈ H) (h0 : c2.size ≠ 0) (hk : K (.bool false) bl R) :
  VCcall P E fi [.slice (some a) la ca, .slice (some b) lb cb] ⟨[], bl, R⟩ K := by
 refine .ext fun w hs => ⟨.bool false, w, bl, R, ?_, hs, rfl, hk⟩
 have hs2 := hs.perm hsp
 have e1 := hs2.mem _ _ (List.mem_cons_of_mem _ m1)
 have e2 := hs2.mem _ _ (List.mem_cons_self ..)
 have hne : a.block ≠ b.block := by
  have h1 := hs2.nodup
  rw [List.map_cons, List.nodup_cons] at h1
  intro e
  exact h1.1 (List.mem_map.2 ⟨_, m1, e⟩)
 rw [run_callFunc_extern hf hname hb hn he, show (⟨[.slice (some a) la ca, .slice (some b) lb cb]⟩ : Array Value) = #[.slice (some a) la ca, .slice (some b) lb cb] from rfl,
  Lib.run_overlaps_apart w tS tR e ht size hz a b la ca lb cb hne t1 t2 c1.size c2.size (by simp [World.shape?, e1]) (by simp [World.shape?, e2]) h0 (by simp [World.frozen?, e1]) (by simp [World.frozen?, e1])]
 rfl
end
end Go.SX
namespace Go.Proofs.YtjgehblllhkdbaaGreat
open Go.SX Go.Proofs
open Tryz
section
theorem ins_grow {α : Type} {ls : List α} {y z : α} {i L k m1 m2 : Nat} (hi : i < ls.length) (hk : k = ls.length + 1 - i) (hm1 : m1 = 1) (hL : L = i + 1) (hm2 : m2 = ls.length - i) :
  ((ls.take i ++ List.replicate k z).take i ++ ([y].take m1 ++ (ls.take i ++ List.replicate k z).drop (i + m1))).take L ++ (((ls.take ls.length).drop i).take m2 ++ ((ls.take i ++ List.replicate k z).take i ++ ([y].take m1 ++ (ls.take i ++ List.replicate k z).drop (i + m1))).drop (L + m2)) = ls.take i ++ ([y] ++ ls.drop i) := by
 subst hk hm1 hL hm2
 have h1 : (ls.take i).length = i := by rw [List.length_take]; omega
 have e1 : (ls.take i ++ List.replicate (ls.length + 1 - i) z).take i = ls.take i := by
  conv => lhs; arg 1; rw [← h1]
  rw [List.take_left]
 rw [e1, List.take_length, show [y].take 1 = [y] from rfl]
 rw [List.take_of_length_le (show (ls.drop i).length ≤ ls.length - i by rw [List.length_drop]; omega)]
 have e2 : (ls.take i ++ ([y] ++ (ls.take i ++ List.replicate (ls.length + 1 - i) z).drop (i + 1))).take (i + 1) = ls.take i ++ [y] := by
  rw [← List.append_assoc, show i + 1 = (ls.take i ++ [y]).length by rw [List.length_append, h1]; rfl, List.take_left]
 have e3 : (ls.take i ++ ([y] ++ (ls.take i ++ List.replicate (ls.length + 1 - i) z).drop (i + 1))).drop (i + 1 + (ls.length - i)) = [] :=
  List.drop_eq_nil_of_le (by simp only [List.length_append, h1, List.length_drop, List.length_replicate, List.length_cons, List.length_nil]; omega)
 rw [e2, e3, List.append_nil, List.append_assoc]
theorem ins_room {α : Type} {ls : List α} {y : α} {i L m1 : Nat} (hi : i < ls.length) (hm1 : m1 = 1) (hL : L = i + 1) :
  (ls.take L ++ (ls.take ls.length).drop i).take i ++ ([y].take m1 ++ (ls.take L ++ (ls.take ls.length).drop i).drop (i + m1)) = ls.take i ++ ([y] ++ ls.drop i) := by
 subst hm1 hL
 have h1 : (ls.take (i + 1)).length = i + 1 := by rw [List.length_take]; omega
 rw [List.take_append_of_le_length (by omega), List.take_take, Nat.min_eq_left (by omega), List.take_length, show [y].take 1 = [y] from rfl]
 congr 2
 conv => lhs; arg 1; rw [← h1]
 rw [List.drop_left]
theorem ow_some {α : Type} {f : Fl α} {T : TypeId} {b : Option Addr} {m c : Nat} {xs : List α} {A : Hp} (h : Ow f T (.slice b m c) xs A) (h0 : 0 < xs.length) : ∃ bb cs, b = some ⟨bb, 0, none⟩ ∧ A = [(bb, Obj.cells ⟨cs⟩ T)] ∧ cs.length ≠ 0 := by
 obtain ⟨_, _, b0, c0, e, h2⟩ := h
 cases e
 rcases h2 with ⟨rfl, rfl, rfl⟩ | ⟨bb, sp, rfl, rfl, _, _⟩
 ·exact absurd h0 (Nat.lt_irrefl 0)
 refine ⟨bb, _, rfl, rfl, ?_⟩
 rw [List.length_append, flat_length]
 have h3 : 0 < f.size := f.pos
 have := Nat.mul_le_mul h0 h3
 simp at this; omega
theorem sb_two {c l bb sz : Nat} (h : l < c) : subBase (c - 0) l (subBase c 0 (some ⟨bb, 0, none⟩) sz) sz = some ⟨bb, 0 + l * sz, none⟩ := by
 have h0 : subBase c 0 (some ⟨bb, 0, none⟩) sz = some ⟨bb, 0, none⟩ := by
  rw [subBase_eq]; split
  ·rfl
  rw [Option.map_some, addr_add]; simp
 rw [h0, subBase_eq, if_neg (by omega), Option.map_some, addr_add]
end
section
attribute [local irreducible] IntKind.wrap
theorem ovItem {E : World} {bl : List Blk} {R : List Hp} {K : Value → List Blk → List Hp → Prop} {a b : Addr} {la ca lb cb : Nat} {c1 c2 : Array Value} {t1 t2 : TypeId} {H : Hp}
  (hsp : (St.hall ⟨[], bl, R⟩).Perm ((b.block, Obj.cells c2 t2) :: H)) (m1 : (a.block, Obj.cells c1 t1) ∈ H) (h0 : c2.size ≠ 0) (hk : K (.bool false) bl R) :
  VCcall prog E 257 [.slice (some a) la ca, .slice (some b) lb cb] ⟨[], bl, R⟩ K :=
 call_overlaps (tS := 31) (tR := 4) func257 (by kernel_rfl) (by kernel_rfl) (by kernel_rfl) (by kernel_rfl) underlying31 Tryz.sizeOf218 hsp m1 h0 hk
theorem ovItem2 {E : World} {bl : List Blk} {R : List Hp} {K : Value → List Blk → List Hp → Prop} {x bb c l sz la ca lb cb : Nat} {c1 c2 : Array Value} {t1 t2 : TypeId} {H : Hp} (hl : l < c)
  (hsp : (St.hall ⟨[], bl, R⟩).Perm ((bb, Obj.cells c2 t2) :: H)) (m1 : (x, Obj.cells c1 t1) ∈ H) (h0 : c2.size ≠ 0) (hk : K (.bool false) bl R) :
  VCcall prog E 257 [.slice (some ⟨x, 0, none⟩) la ca, .slice (subBase (c - 0) l (subBase c 0 (some ⟨bb, 0, none⟩) sz) sz) lb cb] ⟨[], bl, R⟩ K := by
 rw [sb_two hl]
 exact ovItem (b := ⟨bb, 0 + l * sz, none⟩) (a := ⟨x, 0, none⟩) hsp m1 h0 hk
theorem insRawItem_ct (b : Option Addr) (m c i x : Nat) (ls : List (RawC gItem.size)) (y : RawC gItem.size) (A : Hp) (hA : Ow (flRaw gItem.size gItem.pos) 218 (.slice b m c) ls A) (hi : i ≤ m) (hm : m ≤ 1000000) :
  CtR prog 167 [.slice b m c, .int .i64 (i : Int), .slice (some ⟨x, 0, none⟩) 1 1] A (fun H => (rpSl (flRaw gItem.size gItem.pos).rp).rd H [.slice (some ⟨x, 0, none⟩) 1 1] [y] ∧ (x, Obj.cells ⟨y.1⟩ 218) ∈ H)
   (fun v A => ∃ b c, v = .slice b (m + 1) c ∧ Ow (flRaw gItem.size gItem.pos) 218 (.slice b (m + 1) c) (ls.take i ++ ([y] ++ ls.drop i)) A) := by
 refine CtR.intro G_ok [A] func167 rfl rfl rfl (by simp) fun E H hp => ?_
 obtain ⟨hp, hmem⟩ := hp
 obtain ⟨rfl, hlm⟩ := rd_len hA.rd
 have hcl := rd_cap hA.rd
 have hwA : IntKind.i64.wrap (IntKind.i64.wrap ((ls.length : Int) + ((1 : Nat) : Int)) - (i : Int)) = ((ls.length + 1 - i : Nat) : Int) := by
  have e1 : IntKind.i64.wrap ((ls.length : Int) + ((1 : Nat) : Int)) = (ls.length : Int) + 1 := wrap_of (by omega) (by omega)
  rw [e1, wrap_of (by omega) (by omega)]; omega
 have hwB : (IntKind.i64.wrap ((i : Int) + ((1 : Nat) : Int))).toNat = i + 1 := by
  have e1 : IntKind.i64.wrap ((i : Int) + ((1 : Nat) : Int)) = (i : Int) + 1 := wrap_of (by omega) (by omega)
  rw [e1]; exact Int.toNat_natCast (i + 1)
 have hwC : (IntKind.i64.wrap ((ls.length : Int) + ((1 : Nat) : Int))).toNat = ls.length + 1 := by
  have e1 : IntKind.i64.wrap ((ls.length : Int) + ((1 : Nat) : Int)) = (ls.length : Int) + 1 := wrap_of (by omega) (by omega)
  rw [e1]; exact Int.toNat_natCast (ls.length + 1)
 refine VC.intro ?_ ?_
 ·omega
 refine ⟨fun q0 => ?_, fun q0 => ?_⟩
 ·simp at q0
 ·simp at q0
  refine ⟨fun q1 => ?_, fun q1 => ?_⟩
  ·simp at q1
   refine append_ow (f := flRaw gItem.size gItem.pos) G_ok 0 rfl hA (Rp.mono _ (mem_at 1 rfl) hp) (fun _ _ => trivial) rfl rfl rfl rfl rfl rfl rfl rfl ?_ fun b' c' A' o' hc' => ?_
   ·simp; omega
   (have hi0 : i = ls.length := (by omega); subst hi0; rw [show ls.take ls.length ++ ([y] ++ ls.drop ls.length) = ls ++ [y] by simp]; exact ⟨_, ⟨_, _, rfl, o'⟩, rlA⟩)
  ·simp at q1
   refine ⟨fun q2 => ?_, fun q2 => ?_⟩
   ·simp at q2
    simp (disch := omega) only [wrap_of] at q2
    refine VC.intro ?_ ?_
    ·omega
    refine append_zeros (f := flRaw gItem.size gItem.pos) (z := (⟨_, raw_of (gItem.owrd zItem_ow)⟩ : RawC gItem.size)) (xs := ls.take i) (base := b) (m := i) (cap := c) (k := ls.length + 1 - i) G_ok rfl (congrArg (fun v => SV.v (Value.int .i64 v)) hwA) (rd_pre (Rp.mono _ (mem_at 0 rfl) (Ow.rd hA)) i hi) (fun _ _ => trivial) rfl rfl rfl rfl rfl trivial rfl ?_ ?_ ?_ fun b' c' A' o' => ?_
    ·omega
    ·omega
    ·omega
    refine VC.intro ?_ ?_
    ·simp; omega
    refine copy_ow (f := flRaw gItem.size gItem.pos) (l := i) G_ok 0 rfl o' rfl rfl (Rp.mono _ (mem_at 2 rfl) hp) (fun _ _ => trivial) ?_ rfl rfl rfl fun A2 o2 => ?_
    ·simp; omega
    refine draw G_ok mixed (some 8) (.q 0 (.q 1 (.q 2 (.q 3 (.q 4 (.q 5 (.q 6 (.q 7 (.tl 8 (.nil)))))))))) (by decide +kernel) ?_
    refine VC.intro ?_ ?_
    ·simp_all; omega
    refine VC.intro ?_ ?_
    ·omega
    refine copy_ow (f := flRaw gItem.size gItem.pos) G_ok 0 rfl o2 rfl rfl (rd_sub (l := i) (h := ls.length) (Rp.mono _ (mem_at 1 rfl) (Ow.rd hA)) hi (Nat.le_refl _)) (fun _ _ => trivial) ?_ rfl rfl rfl fun A3 o3 => ?_
    ·simp_all; omega
    (have hlz : (ls.take i ++ List.replicate (ls.length + 1 - i) (⟨_, raw_of (gItem.owrd zItem_ow)⟩ : RawC gItem.size)).length = ls.length + 1 := (by simp only [List.length_append, List.length_take, List.length_replicate]; omega); rw [ins_grow (by omega) rfl (by simp only [List.length_append, List.length_take, List.length_replicate]; omega) hwB (by simp only [hwB, List.length_append, List.length_take, List.length_replicate, List.length_drop, List.length_cons, List.length_nil]; omega)] at o3; rw [hlz] at o3 ⊢; exact ⟨_, ⟨_, _, rfl, o3⟩, rlA⟩)
   ·simp at q2
    simp (disch := omega) only [wrap_of] at q2
    obtain ⟨bb, cs, rfl, rfl, hcs⟩ := ow_some hA (by omega)
    refine VC.intro ?_ ?_
    ·(simp (disch := omega) only [wrap_of]; omega)
    refine VC.intro ?_ ?_
    ·(simp (disch := omega) only [wrap_of]; omega)
    refine ovItem2 (H := H ++ []) ?_ (.refl _) (List.mem_append_left _ hmem) (by simpa using hcs) ?_
    ·(simp (disch := omega) only [wrap_of]; omega)
    refine ⟨fun q4 => ?_, fun q4 => ?_⟩
    ·simp at q4
     refine draw G_ok mixed (some 8) (.q 0 (.q 1 (.q 2 (.q 3 (.q 4 (.q 5 (.q 6 (.q 7 (.tl 8 (.nil)))))))))) (by decide +kernel) ?_
     refine VC.intro ?_ ?_
     ·(simp (disch := omega) only [wrap_of]; omega)
     refine VC.intro ?_ ?_
     ·(simp (disch := omega) only [wrap_of]; omega)
     refine copy_end (f := flRaw gItem.size gItem.pos) (l := (IntKind.i64.wrap ((i : Int) + ((1 : Nat) : Int))).toNat) (q := ls.length - i) (ys := (ls.take ls.length).drop i) G_ok 0 rfl hA rfl rfl (rd_sub (l := i) (h := ls.length) (Rp.mono _ (mem_at 0 rfl) (Ow.rd hA)) hi (Nat.le_refl _)) ?_ (fun _ _ => trivial) ?_ ?_ ?_ ?_ ?_ rfl rfl rfl fun A2 o2 => ?_
     ·(simp (disch := omega) only [wrap_of]; omega)
     ·(simp (disch := omega) only [wrap_of]; omega)
     ·(simp (disch := omega) only [wrap_of]; omega)
     ·(simp (disch := omega) only [wrap_of]; omega)
     ·omega
     ·(simp (disch := omega) only [wrap_of]; omega)
     refine VC.intro ?_ ?_
     ·(simp (disch := omega) only [wrap_of]; omega)
     refine copy_ow (f := flRaw gItem.size gItem.pos) (l := i) G_ok 0 rfl o2 rfl rfl (Rp.mono _ (mem_at 1 rfl) hp) (fun _ _ => trivial) ?_ rfl rfl rfl fun A3 o3 => ?_
     ·(simp (disch := omega) only [wrap_of]; omega)
     (have hlz : (IntKind.i64.wrap ((i : Int) + ((1 : Nat) : Int))).toNat + (ls.length - i) = ls.length + 1 := (by rw [hwB]; omega); rw [ins_room (by omega) (by simp only [hwC]; omega) hwB] at o3; rw [hlz] at o3; rw [hwC]; exact ⟨_, ⟨_, _, rfl, o3⟩, rlA⟩)
    ·simp at q4
theorem OwL_dropI {α : Type} {g : Gt α} {ls : List (RawC g.size)} {xs : List α} {As : List Hp} (h : OwL g ls xs As) : ∀ i : Nat, OwL g (ls.drop i) (xs.drop i) (As.drop i) := by
 induction h with
 | nil => intro i; simp; exact .nil
 | cons h hr ih =>
  intro i
  cases i with
  | zero => exact .cons h hr
  | succ i => exact ih i
theorem insItem_ct (b : Option Addr) (m c i x : Nat) (xs : List Item) (e : Item) (l : List Value) (A B : Hp) (hA : (gSl 218 gItem).ow [.slice b m c] xs A) (hl : gItem.ow l e B) (hi : i ≤ m) (hm : m ≤ 1000000) :
  CtR prog 167 [.slice b m c, .int .i64 (i : Int), .slice (some ⟨x, 0, none⟩) 1 1] (A ++ B) (fun H => (x, Obj.cells ⟨l⟩ 218) ∈ H)
   (fun v A => ∃ b c, v = .slice b (xs.take i ++ ([e] ++ xs.drop i)).length c ∧ (gSl 218 gItem).ow [.slice b (xs.take i ++ ([e] ++ xs.drop i)).length c] (xs.take i ++ ([e] ++ xs.drop i)) A) := by
 obtain ⟨v, ls, A0, As, ev, ho, hp, hL⟩ := hA
 cases ev
 have hlen := hL.len
 have hm0 : m = ls.length := by obtain ⟨_, _, _, _, e0, _⟩ := ho; cases e0; rfl
 have hr := insRawItem_ct b m c i x ls ⟨l, raw_of (gItem.owrd hl)⟩ A0 ho hi hm
 refine ⟨hr.1, fun E H w hs hpre => ?_⟩
 have hs' : Sat E (A0 ++ (As.flatten ++ (B ++ H))) w := by
  refine hs.perm ?_
  have := hp.append_right (B ++ H)
  simpa [List.append_assoc] using this
 refine (hr.2 E (As.flatten ++ (B ++ H)) w hs' ⟨?_, List.mem_append_right _ (List.mem_append_right _ hpre)⟩).mono ?_
 ·exact lit_rd (f := flRaw gItem.size gItem.pos) (List.mem_append_right _ (List.mem_append_right _ hpre)) rfl trivial
 rintro e' w' ⟨v, A1, h1, ⟨b', c', h2, h3⟩, h4⟩
 have hlx : (xs.take i ++ ([e] ++ xs.drop i)).length = m + 1 := by
  simp only [List.length_append, List.length_take, List.length_drop, List.length_cons, List.length_nil]; omega
 refine ⟨v, A1 ++ (As.flatten ++ B), h1, ⟨b', c', by rw [hlx]; exact h2, ?_⟩, by simpa [List.append_assoc] using h4⟩
 rw [hlx]
 refine ⟨_, _, A1, As.take i ++ ([B] ++ As.drop i), rfl, h3, ?_, (hL.take i).append (OwL.append (.cons hl .nil) (OwL_dropI hL i))⟩
 refine List.Perm.append_left _ ?_
 conv => lhs; arg 1; rw [← List.take_append_drop i As]
 simp only [List.flatten_append, List.flatten_cons, List.flatten_nil, List.append_nil, List.append_assoc]
 refine List.Perm.append_left _ ?_
 exact List.perm_append_comm
end
section
attribute [local irreducible] IntKind.wrap
theorem lookupOf_ct (b1 b2 : Option Addr) (m1 c1 m2 c2 : Nat) (ns : List ByteArray) (vs : List Int) (v : ByteArray) (hh : hasS ns v = true) (hl : ns.length ≤ vs.length) :
  Ct prog 164 [.agg ⟨[.slice b1 m1 c1, .slice b2 m2 c2]⟩, .string v] [] (fun H => (gSl 9 gS).rd H [.slice b1 m1 c1] ns ∧ (gSl 3 gI).rd H [.slice b2 m2 c2] vs) (fun w A => w = .int .i64 (vs[(idxS ns v).toNat]?.getD 0) ∧ A = []) := by
 refine Ct.intro0 G_ok func164 rfl rfl rfl fun E H hp => ?_
 obtain ⟨hp, hq⟩ := hp
 obtain ⟨rfl, hcl, hl1⟩ := sl_len hp
 obtain ⟨rfl, hcl2, hl2⟩ := sl_len hq
 have hi := idx_rng hh
 refine ⟨fun x0 => ?_⟩
 refine draw G_ok mixed none (.q 0 (.q 1 (.q 2 (.q 3 (.q 4 (.f 5 (.q 6 (.q 7 (.q 8 (.nil)))))))))) (by decide +kernel) ?_
 refine call_val (sIndexS2_ct _ _ _ (ns) _) (Rp.mono _ (mem_at 0 rfl) hp) ?_
 rintro _ rfl
 refine VC.intro ?_ ?_
 ·exact fun _ h => h
 refine idx_rd hq ?_ ?_ fun b2 o2 hb2 => ?_
 ·omega
 ·omega
 refine load_all 0 hq ?_ ?_ hb2 rfl (mem_at 0 rfl) fun l3 hl3 => ?_
 ·omega
 ·omega
 obtain ⟨rfl, hw3⟩ := hl3; simp only [flStr, flInt, okI] at hw3
 exact ⟨[], ⟨rfl, rfl⟩, .mem (by simp)⟩
end
section
theorem idx_neg {l : List ByteArray} {s : ByteArray} (h : idxS l s < 0) : hasS l s = false := by
 cases e : hasS l s with
 | false => rfl
 | true => have := idx_rng e; omega
theorem idx_pos {l : List ByteArray} {s : ByteArray} (h : ¬ idxS l s < 0) : hasS l s = true := by
 cases e : hasS l s with
 | true => rfl
 | false => unfold idxS at h; rw [e] at h; exact absurd (by show (-1 : Int) < 0; decide) h
attribute [local irreducible] IntKind.wrap namesM queryM sharesM ownerOf idxS
end
section
attribute [local irreducible] IntKind.wrap
theorem rows_eq {a b : List Int} (h : a.length = b.length) (ha : allK (fun i => decide ((a[i]?.getD 0) = (b[i]?.getD 0))) a.length = true) : a = b := by
 apply List.ext_getElem h
 intro i h1 h2
 have := of_decide_eq_true (allK_at ha i h1)
 rw [List.getElem?_eq_getElem h1, List.getElem?_eq_getElem h2] at this
 exact this
theorem l03Same_ct (b1 : Option Addr) (m1 c1 : Nat) (b2 : Option Addr) (m2 c2 : Nat) (a b : List Int) : Ct prog 154 [.slice b1 m1 c1, .slice b2 m2 c2] [] (fun H => (gSl 3 gI).rd H [.slice b1 m1 c1] a ∧ (gSl 3 gI).rd H [.slice b2 m2 c2] b) (fun v A => v = .bool (decide (a = b)) ∧ A = []) := by
 refine Ct.intro0 G_ok func154 rfl rfl rfl fun E H hp => ?_
 obtain ⟨hp, hq⟩ := hp
 obtain ⟨rfl, hc1, hl1⟩ := sl_len hp
 obtain ⟨rfl, hc2, hl2⟩ := sl_len hq
 refine ⟨fun q0 => ?_, fun q0 => ?_⟩
 ·simp at q0
  exact ⟨[], ⟨by rw [decide_eq_false (fun e => by subst e; exact absurd rfl (by assumption))], rfl⟩, .refl _⟩
 ·simp at q0
  apply loop_mod (α := (Nat)) G_ok [11, 12, 13, 14, 17, 18, 19, 20, 21, 22, 23, 24, 25, 4, 15, 16, 5] (fun z => [(5, .v (.int .i64 z))]) (fun z => []) (fun z => [H]) (fun z => a.length - z) (fun z => z ≤ a.length ∧ allK (fun i => decide ((a[i]?.getD 0) = (b[i]?.getD 0))) z = true) ((0))
  ·exact frI
  ·exact trivial
  ·exact ⟨Nat.zero_le _, rfl⟩
  ·exact .refl _
  rintro k hI
  try dsimp only at hI
  obtain ⟨hk, ha⟩ := hI
  try dsimp only
  refine ⟨fun q1 => ?_, fun q1 => ?_⟩
  ·simp at q1
   refine draw G_ok mixed none (.q 0 (.q 1 (.q 2 (.q 3 (.q 4 (.q 5 (.q 6 (.q 7 (.q 8 (.nil)))))))))) (by decide +kernel) ?_
   refine idx_rd hp ?_ ?_ fun b2 o2 hb2 => ?_
   ·omega
   ·omega
   refine load_allN 0 (k) rfl hp ?_ ?_ hb2 rfl (mem_at 0 rfl) fun l3 hl3 => ?_
   ·omega
   ·omega
   obtain ⟨rfl, hw3⟩ := hl3; simp only [flStr, flInt, okI] at hw3
   refine idx_rd hq ?_ ?_ fun b4 o4 hb4 => ?_
   ·omega
   ·omega
   refine load_allN 0 (k) rfl hq ?_ ?_ hb4 rfl (mem_at 0 rfl) fun l5 hl5 => ?_
   ·omega
   ·omega
   obtain ⟨rfl, hw5⟩ := hl5; simp only [flStr, flInt, okI] at hw5
   refine ⟨fun q6 => ?_, fun q6 => ?_⟩
   ·simp at q6
    exact ⟨[], ⟨by rw [decide_eq_false (fun e => by subst e; exact absurd rfl (by assumption))], rfl⟩, .refl _⟩
   ·simp at q6
    apply loop_stepA (k + 1)
    ·exact .refl _
    ·exact frI
    ·exact trivial
    ·exact ⟨by omega, allK_step ha (decide_eq_true (by assumption))⟩
    omega
  ·simp at q1
   (have hke : k = a.length := (by omega); subst hke; exact ⟨[], ⟨by rw [decide_eq_true (rows_eq (by omega) ha)], rfl⟩, .refl _⟩)
end
section
theorem u64_wrap (x : Int) : IntKind.u64.wrap x = x % 18446744073709551616 := by
 unfold IntKind.wrap; simp [IntKind.bits, IntKind.signed]
theorem half_64 (B : Int) : B.fdiv (2 ^ min (Int.toNat 1) IntKind.u64.bits) = B / 2 := by
 have : (2 : Int) ^ min (Int.toNat 1) IntKind.u64.bits = 2 := by decide
 rw [this, Int.fdiv_eq_ediv_of_nonneg _ (by decide)]
theorem mid_eq (i j : Nat) (h : i + j ≤ 1000000000) : IntKind.i64.wrap ((IntKind.u64.wrap (IntKind.i64.wrap ((i : Int) + (j : Int)))).fdiv (2 ^ min (Int.toNat 1) IntKind.u64.bits)) = (((i + j) / 2 : Nat) : Int) := by
 have e1 : IntKind.i64.wrap ((i : Int) + (j : Int)) = (i : Int) + (j : Int) := wrap_of (by omega) (by omega)
 rw [e1, u64_wrap, half_64, wrap_of (by omega) (by omega)]
 omega
end
section
theorem cmpL_zero : ∀ {a b : List Int}, cmpL a b = 0 ↔ a = b
 | [], [] => by simp [cmpL]
 | [], _ :: _ => by simp [cmpL]
 | _ :: _, [] => by simp [cmpL]
 | a :: r, b :: s => by
  have ih := cmpL_zero (a := r) (b := s)
  simp only [cmpL]
  by_cases h1 : a < b
  ·rw [if_pos h1]; constructor
   ·intro h; exact absurd h (by decide)
   intro h; cases h; omega
  rw [if_neg h1]
  by_cases h2 : b < a
  ·rw [if_pos h2]; constructor
   ·intro h; exact absurd h (by decide)
   intro h; cases h; omega
  rw [if_neg h2, ih]
  obtain rfl : a = b := by omega
  constructor
  ·rintro rfl; rfl
  intro h; cases h; rfl
theorem cmpL_tr : ∀ {a b c : List Int}, cmpL a b < 0 → cmpL b c < 0 → cmpL a c < 0
 | [], [], c, h, _ => by simp [cmpL] at h
 | [], b :: s, [], _, h => by simp [cmpL] at h
 | [], b :: s, c :: t, _, _ => by simp [cmpL]
 | a :: r, [], c, h, _ => by simp [cmpL] at h
 | a :: r, b :: s, [], _, h => by simp [cmpL] at h
 | a :: r, b :: s, c :: t, h1, h2 => by
  simp only [cmpL] at h1 h2 ⊢
  split at h1
  ·split at h2
   ·rw [if_pos (by omega)]; decide
   split at h2
   ·exact absurd h2 (by decide)
   rw [if_pos (by omega)]; decide
  split at h1
  ·exact absurd h1 (by decide)
  split at h2
  ·rw [if_pos (by omega)]; decide
  split at h2
  ·exact absurd h2 (by decide)
  rw [if_neg (by omega), if_neg (by omega)]
  exact cmpL_tr h1 h2
theorem cmpL_sw : ∀ {a b : List Int}, cmpL a b < 0 ↔ 0 < cmpL b a
 | [], [] => by simp [cmpL]
 | [], _ :: _ => by simp [cmpL]
 | _ :: _, [] => by simp [cmpL]
 | a :: r, b :: s => by
  have ih := cmpL_sw (a := r) (b := s)
  simp only [cmpL]
  by_cases h1 : a < b
  ·rw [if_pos h1, if_neg (by omega), if_pos h1]; decide
  rw [if_neg h1]
  by_cases h2 : b < a
  ·rw [if_pos h2, if_pos h2]; decide
  rw [if_neg h2, if_neg h2, if_neg h1]; exact ih
def rowI (xs : List Item) (i : Nat) : List Int := (xs[i]?.getD default).row
def sortedR (xs : List Item) : Prop := ∀ i j, i < j → j < xs.length → cmpL (rowI xs i) (rowI xs j) < 0
def atR (xs : List Item) (r : List Int) (k : Nat) : Prop := k ≤ xs.length ∧ (∀ q, q < k → cmpL (rowI xs q) r < 0) ∧ (∀ q, k ≤ q → q < xs.length → ¬ cmpL (rowI xs q) r < 0)
theorem belowR {xs : List Item} {r : List Int} {m : Nat} (hs : sortedR xs) (hm : m < xs.length) (h : cmpL (rowI xs m) r < 0) (q : Nat) (hq : q < m + 1) : cmpL (rowI xs q) r < 0 := by
 rcases Nat.lt_or_ge q m with h1 | h1
 ·exact cmpL_tr (hs q m h1 hm) h
 rw [show q = m by omega]; exact h
theorem aboveR {xs : List Item} {r : List Int} {m : Nat} (hs : sortedR xs) (h : ¬ cmpL (rowI xs m) r < 0) (q : Nat) (h1 : m ≤ q) (hq : q < xs.length) : ¬ cmpL (rowI xs q) r < 0 := by
 rcases Nat.lt_or_ge m q with h2 | h2
 ·intro h3; exact h (cmpL_tr (hs m q h2 hq) h3)
 rw [show q = m by omega]; exact h
attribute [local irreducible] IntKind.wrap
theorem placeCmp_ct (l : List Value) (b : Option Addr) (m c : Nat) (x : Item) (r : List Int) : Ct prog 256 [.agg ⟨l⟩, .slice b m c] [] (fun H => gItem.rd H l x ∧ (gSl 3 gI).rd H [.slice b m c] r) (fun v A => v = .int .i64 (cmpL x.row r) ∧ A = []) := by
 refine Ct.intro0 G_ok func256 rfl rfl rfl fun E H hp => ?_
 obtain ⟨hp, hq⟩ := hp
 obtain ⟨b0p, c0p, rfl, h0p, w1p⟩ := gItem_rd.1 hp
 refine ⟨fun x0 => ?_⟩
 refine call_val (sCompare_ct _ _ _ _ _ _ (x.row) (r)) ⟨(Rp.mono _ (mem_at 0 rfl) h0p), (Rp.mono _ (mem_at 0 rfl) hq)⟩ ?_
 rintro _ rfl
 exact ⟨[], ⟨rfl, rfl⟩, .mem (by simp)⟩
theorem bsItem_ct (b : Option Addr) (m c : Nat) (b2 : Option Addr) (m2 c2 : Nat) (xs : List Item) (r : List Int) (hs : sortedR xs) (hm : xs.length ≤ 1000000) :
  Ct prog 255 [.slice b m c, .slice b2 m2 c2, .func (.func 256) ⟨[]⟩ ⟨[]⟩] [] (fun H => (gSl 218 gItem).rd H [.slice b m c] xs ∧ (gSl 3 gI).rd H [.slice b2 m2 c2] r)
   (fun v A => (∃ k : Nat, atR xs r k ∧ v = .tuple #[.int .i64 (k : Int), .bool (decide (k < xs.length ∧ rowI xs k = r))]) ∧ A = []) := by
 refine Ct.intro0 G_ok func255 rfl rfl rfl fun E H hp => ?_
 obtain ⟨hp, hp2⟩ := hp
 obtain ⟨rfl, hcl, hl⟩ := sl_len hp
 obtain ⟨rfl, hcl2, hl2⟩ := sl_len hp2
 apply loop_mod (α := (Nat) × (Nat)) G_ok [15, 16, 17, 18, 19, 20, 21, 22, 23, 11, 24, 25, 26, 27, 28, 29, 30, 31, 32, 33, 9, 34, 10] (fun z => [(9, .v (.int .i64 z.1)), (10, .v (.int .i64 z.2))]) (fun z => []) (fun z => [H]) (fun z => z.2 - z.1) (fun z => z.1 ≤ z.2 ∧ z.2 ≤ xs.length ∧ (∀ q, q < z.1 → cmpL (rowI xs q) r < 0) ∧ (∀ q, z.2 ≤ q → q < xs.length → ¬ cmpL (rowI xs q) r < 0)) ((0, xs.length))
 ·repeat' (first | exact trivial | refine ⟨⟨_, rfl, by first | rfl | exact inc_eq _ (by omega) | (refine sl_eq ?_; simp; done) | (rw [hh]; exact inc_eq _ (by omega)) | (rw [hh]), by first | exact trivial | simp [SV.ok]⟩, ?_⟩)
 ·exact trivial
 ·try dsimp only
  exact ⟨by omega, by omega, fun q hq => absurd hq (by omega), fun q hq hq2 => absurd hq2 (by omega)⟩
 ·exact .refl _
 rintro ⟨i, j⟩ hI
 try dsimp only at hI
 obtain ⟨hij, hj, h1, h2⟩ := hI
 try dsimp only
 refine ⟨fun q0 => ?_, fun q0 => ?_⟩
 ·simp at q0
  have hh := mid_eq i j (by omega)
  refine VC.intro ?_ ?_
  ·trivial
  refine idx_rd hp ?_ ?_ fun b1 o1 hb1 => ?_
  ·omega
  ·omega
  refine load_all default hp ?_ ?_ hb1 rfl (mem_at 0 rfl) fun l2 hl2 => ?_
  ·omega
  ·omega
  obtain ⟨b0x2, c0x2, rfl, h0x2, w1x2⟩ := gItem_rd.1 hl2
  refine call_val (placeCmp_ct _ _ _ _ (xs[(IntKind.i64.wrap ((IntKind.u64.wrap (IntKind.i64.wrap ((↑i : Int) + (↑j : Int)))).fdiv ((2 : Int) ^ min (Int.toNat (1 : Int)) IntKind.u64.bits))).toNat]?.getD default) (r)) ⟨(Rp.mono _ (mem_at 0 rfl) hl2), (Rp.mono _ (mem_at 0 rfl) hp2)⟩ ?_
  rintro _ rfl
  refine ⟨fun q4 => ?_, fun q4 => ?_⟩
  ·rw [hh, Int.toNat_natCast] at q4
   simp at q4
   apply loop_stepA ((i + j) / 2 + 1, j)
   ·exact .refl _
   ·repeat' (first | exact trivial | refine ⟨⟨_, rfl, by first | rfl | exact inc_eq _ (by omega) | (refine sl_eq ?_; simp; done) | (rw [hh]; exact inc_eq _ (by omega)) | (rw [hh]), by first | exact trivial | simp [SV.ok]⟩, ?_⟩)
   ·exact trivial
   ·try dsimp only
    exact ⟨by omega, by omega, belowR hs (by omega) ‹cmpL _ _ < 0›, h2⟩
   try dsimp only
   omega
  ·rw [hh, Int.toNat_natCast] at q4
   simp at q4
   apply loop_stepA (i, (i + j) / 2)
   ·exact .refl _
   ·repeat' (first | exact trivial | refine ⟨⟨_, rfl, by first | rfl | exact inc_eq _ (by omega) | (refine sl_eq ?_; simp; done) | (rw [hh]; exact inc_eq _ (by omega)) | (rw [hh]), by first | exact trivial | simp [SV.ok]⟩, ?_⟩)
   ·exact trivial
   ·try dsimp only
    exact ⟨by omega, by omega, h1, aboveR hs (by show ¬ cmpL (xs[(i + j) / 2]?.getD default).row r < 0; omega)⟩
   try dsimp only
   omega
 ·simp at q0
  obtain rfl : i = j := by omega
  refine ⟨fun q5 => ?_, fun q5 => ?_⟩
  ·simp at q5
   refine idx_rd hp ?_ ?_ fun b6 o6 hb6 => ?_
   ·omega
   ·omega
   refine load_allN default (i) rfl hp ?_ ?_ hb6 rfl (mem_at 0 rfl) fun l7 hl7 => ?_
   ·omega
   ·omega
   obtain ⟨b0x7, c0x7, rfl, h0x7, w1x7⟩ := gItem_rd.1 hl7
   refine call_val (placeCmp_ct _ _ _ _ (xs[i]?.getD default) (r)) ⟨(Rp.mono _ (mem_at 0 rfl) hl7), (Rp.mono _ (mem_at 0 rfl) hp2)⟩ ?_
   rintro _ rfl
   exact ⟨[], ⟨⟨i, ⟨by omega, h1, h2⟩, by (congr 2; rw [← decide_eq_decide.2 (show (cmpL (xs[i]?.getD default).row r = 0) ↔ (i < xs.length ∧ rowI xs i = r) from cmpL_zero.trans ⟨fun h => ⟨by omega, h⟩, fun h => h.2⟩)]; rfl)⟩, rfl⟩, .mem (by simp)⟩
  ·simp at q5
   exact ⟨[], ⟨⟨i, ⟨by omega, h1, h2⟩, by rw [decide_eq_false (by omega)]⟩, rfl⟩, .mem (by simp)⟩
theorem placeOf_ct (b : Option Addr) (m c : Nat) (b2 : Option Addr) (m2 c2 : Nat) (xs : List Item) (r : List Int) (hs : sortedR xs) (hm : xs.length ≤ 1000000) :
  Ct prog 166 [.slice b m c, .slice b2 m2 c2] [] (fun H => (gSl 218 gItem).rd H [.slice b m c] xs ∧ (gSl 3 gI).rd H [.slice b2 m2 c2] r)
   (fun v A => (∃ k : Nat, atR xs r k ∧ v = .tuple #[.int .i64 (k : Int), .bool (decide (k < xs.length ∧ rowI xs k = r))]) ∧ A = []) := by
 refine Ct.intro0 G_ok func166 rfl rfl rfl fun E H hp => ?_
 obtain ⟨hp, hp2⟩ := hp
 refine call_val (bsItem_ct _ _ _ _ _ _ (xs) (r) ?_ ?_) ⟨(Rp.mono _ (mem_at 0 rfl) hp), (Rp.mono _ (mem_at 0 rfl) hp2)⟩ ?_
 ·trivial
 ·trivial
 rintro _ ⟨k0, hk0, rfl⟩
 exact ⟨[], ⟨⟨_, by assumption, rfl⟩, rfl⟩, .mem (by simp)⟩
end
section
attribute [local irreducible] IntKind.wrap
def putB (xs : List Item) (r : List Int) (t : Int) (k : Nat) : List Item × Bool :=
 if rowM r = true ∧ (0 < xs.length → (rowI xs 0).length = r.length) then
  if k < xs.length ∧ rowI xs k = r then (xs.set k ⟨(xs[k]?.getD default).row, min ((xs[k]?.getD default).times + t) 1000000⟩, true)
  else if xs.length = 300 then (xs, false) else (xs.take k ++ ([⟨r, t⟩] ++ xs.drop k), true)
 else (xs, false)
theorem putB_no1 {xs : List Item} {r : List Int} {t : Int} {k : Nat} (h : rowM r = false) : putB xs r t k = (xs, false) := if_neg fun e => by rw [h] at e; cases e.1
theorem putB_no2 {xs : List Item} {r : List Int} {t : Int} {k : Nat} (h0 : 0 < xs.length) (h : ¬ (rowI xs 0).length = r.length) : putB xs r t k = (xs, false) := if_neg fun e => h (e.2 h0)
theorem putB_hit {xs : List Item} {r : List Int} {t : Int} {k : Nat} (h : rowM r = true) (h1 : 0 < xs.length → (rowI xs 0).length = r.length) (h2 : k < xs.length ∧ rowI xs k = r) : putB xs r t k = (xs.set k ⟨(xs[k]?.getD default).row, min ((xs[k]?.getD default).times + t) 1000000⟩, true) := by
 unfold putB; rw [if_pos ⟨h, h1⟩, if_pos h2]
theorem putB_full {xs : List Item} {r : List Int} {t : Int} {k : Nat} (h : rowM r = true) (h1 : 0 < xs.length → (rowI xs 0).length = r.length) (h2 : ¬ (k < xs.length ∧ rowI xs k = r)) (h3 : xs.length = 300) : putB xs r t k = (xs, false) := by
 unfold putB; rw [if_pos ⟨h, h1⟩, if_neg h2, if_pos h3]
theorem putB_new {xs : List Item} {r : List Int} {t : Int} {k : Nat} (h : rowM r = true) (h1 : 0 < xs.length → (rowI xs 0).length = r.length) (h2 : ¬ (k < xs.length ∧ rowI xs k = r)) (h3 : ¬ xs.length = 300) : putB xs r t k = (xs.take k ++ ([⟨r, t⟩] ++ xs.drop k), true) := by
 unfold putB; rw [if_pos ⟨h, h1⟩, if_neg h2, if_neg h3]
theorem szI9 : ∀ xs : List Int, szL gI xs = xs.length
 | [] => rfl
 | x :: r => by
  have := szI9 r
  show 1 + 0 + szL gI r = _
  rw [this, List.length_cons]; omega
theorem rowM_len {r : List Int} (h : rowM r = true) : r.length ≤ 4 := by
 unfold rowM at h
 rw [Bool.and_eq_true, decide_eq_true_iff] at h
 exact h.1
theorem min_eq9 {a : Int} (h1 : 1 ≤ a ∧ a ≤ 2000000) : (if 1000000 < IntKind.i64.wrap a then 1000000 else IntKind.i64.wrap a) = min a 1000000 := by
 rw [wrap_of (x := a) (by omega) (by omega)]
 split <;> omega
theorem min_ok9 {a : Int} (h1 : 1 ≤ a ∧ a ≤ 2000000) : okI (if 1000000 < IntKind.i64.wrap a then 1000000 else IntKind.i64.wrap a) := by
 rw [min_eq9 h1]; unfold okI; omega
theorem item_ow9 {b : Option Addr} {c : Nat} {r : List Int} {t : Int} {A : Hp} (h : (gSl 3 gI).ow [.slice b r.length c] r A) (ht : 1 ≤ t ∧ t ≤ 1000000) : gItem.ow (.slice b r.length c :: .int .i64 t :: List.append [] (zeros 0 [.slice none 0 0, .int .i64 0])) ⟨r, t⟩ A :=
 gItem_ow.2 ⟨b, c, A, rfl, .refl _, h, by unfold okI; dsimp only; omega⟩
theorem put_fin {xs ys : List Item} {r : List Int} {t : Int} {k q n : Nat} {w : Bool} {b : Option Addr} {c : Nat} {A : Hp} (e : putB xs r t k = (ys, w)) (hk : rowM r = true ∧ (0 < xs.length → (rowI xs 0).length = r.length) → atR xs r k) (hn : n = ys.length) (o : (gSl 218 gItem).ow [.slice b n c] ys A) :
  ∃ k b' c' A', (rowM r = true ∧ (0 < xs.length → (rowI xs 0).length = r.length) → atR xs r k) ∧ Value.bool w = .bool (putB xs r t k).2 ∧ (q, Obj.cells ⟨[.slice b n c]⟩ 33) :: A = (q, Obj.cells ⟨[.slice b' (putB xs r t k).1.length c']⟩ 33) :: A' ∧ (gSl 218 gItem).ow [.slice b' (putB xs r t k).1.length c'] (putB xs r t k).1 A' := by
 subst hn
 exact ⟨k, b, c, A, hk, by rw [e], by rw [e], by rw [e]; exact o⟩
theorem bagPut_ct (q : Nat) (b : Option Addr) (c : Nat) (xs : List Item) (A : Hp) (b2 : Option Addr) (m2 c2 : Nat) (r : List Int) (t : Int) (ho : (gSl 218 gItem).ow [.slice b xs.length c] xs A) (hs : sortedR xs) (hx : xs.length ≤ 300) (ht : 1 ≤ t ∧ t ≤ 1000000) (hxt : ∀ i, i < xs.length → 1 ≤ (xs[i]?.getD default).times ∧ (xs[i]?.getD default).times ≤ 1000000) :
  CtR prog 79 [.pointer (some ⟨q, 0, none⟩), .slice b2 m2 c2, .int .i64 t] ((q, Obj.cells ⟨[.slice b xs.length c]⟩ 33) :: A) (fun H => (gSl 3 gI).rd H [.slice b2 m2 c2] r)
   (fun v D => ∃ k b c A, (rowM r = true ∧ (0 < xs.length → (rowI xs 0).length = r.length) → atR xs r k) ∧ v = .bool (putB xs r t k).2 ∧ D = (q, Obj.cells ⟨[.slice b (putB xs r t k).1.length c]⟩ 33) :: A ∧ (gSl 218 gItem).ow [.slice b (putB xs r t k).1.length c] (putB xs r t k).1 A) := by
 refine CtR.introB G_ok [.p 0 0, .v (.slice b2 m2 c2), .v (.int .i64 t)] [⟨q, [.slice b xs.length c], 33⟩] [A] func79 rfl rfl rfl rfl (by simp [SV.ok]) (by simp [Blk.ent]) fun E H hp => ?_
 obtain ⟨rfl, hcl2, hl2⟩ := sl_len hp
 have hrd := Gt.owrd _ ho
 refine call_val (implRowOk_ct _ _ _ (r)) (Rp.mono _ (mem_at 1 rfl) hp) ?_
 rintro _ rfl
 refine ⟨fun q1 => ?_, fun q1 => ?_⟩
 ·simp at q1
  exact ⟨_, put_fin (k := 0) (putB_no1 (by assumption)) (fun e => by rw [‹rowM r = false›] at e; cases e.1) rfl ho, rlB⟩
 ·simp at q1
  refine ⟨fun q2 => ?_, fun q2 => ?_⟩
  ·simp at q2
   refine idx_rd hrd ?_ ?_ fun b3 o3 hb3 => ?_
   ·trivial
   ·omega
   refine load_partN default (0) 0 rfl hrd ?_ ?_ hb3 rfl (by decide) (mem_at 0 rfl) fun l4 hl4 => ?_
   ·trivial
   ·omega
   obtain ⟨b0x4, c0x4, rfl, h0x4, w1x4⟩ := gItem_rd.1 hl4
   refine ⟨fun q5 => ?_, fun q5 => ?_⟩
   ·simp at q5
    exact ⟨_, put_fin (k := 0) (putB_no2 (by omega) (by show ¬ (xs[0]?.getD default).row.length = r.length; omega)) (fun e => absurd (e.2 (by omega)) (by show ¬ (xs[0]?.getD default).row.length = r.length; omega)) rfl ho, rlB⟩
   ·simp at q5
    refine call_val (placeOf_ct _ _ _ _ _ _ xs r hs (by omega)) ⟨(Rp.mono _ (mem_at 0 rfl) hrd), (Rp.mono _ (mem_at 1 rfl) hp)⟩ ?_
    rintro _ ⟨kk, hkk, rfl⟩
    refine ⟨fun q7 => ?_, fun q7 => ?_⟩
    ·simp at q7
     refine draw G_ok mixed (some 18) (.q 0 (.q 1 (.q 2 (.q 3 (.q 4 (.q 5 (.q 6 (.q 7 (.q 8 (.q 9 (.q 10 (.q 11 (.q 12 (.q 13 (.q 14 (.f 15 (.q 16 (.q 17 (.tl 18 (.nil)))))))))))))))))))) (by decide +kernel) ?_
     refine idx_rd hrd ?_ ?_ fun b8 o8 hb8 => ?_
     ·omega
     ·omega
     refine load_partN default (kk) 1 rfl hrd ?_ ?_ hb8 rfl (by decide) (mem_at 0 rfl) fun l9 hl9 => ?_
     ·omega
     ·omega
     obtain ⟨b0x9, c0x9, rfl, h0x9, w1x9⟩ := gItem_rd.1 hl9
     refine VC.intro ?_ ?_
     ·exact fun _ h => h
     refine idx_rd hrd ?_ ?_ fun b10 o10 hb10 => ?_
     ·omega
     ·omega
     refine gstoreN gItem_times default (kk) 0 rfl rfl ho ?_ ?_ hb10 rfl gI_pl _ (gI_ow ?_) fun A11 o11 => ?_
     ·omega
     ·omega
     ·exact min_ok9 (by have := hxt _ (‹_ ∧ rowI xs _ = r›).1; omega)
     exact ⟨_, put_fin (k := kk) (putB_hit (by assumption) (fun _ => by show (xs[0]?.getD default).row.length = r.length; omega) (by assumption)) (fun _ => hkk) (by rw [List.length_set]) (by rw [← min_eq9 (by have := hxt kk (‹_ ∧ rowI xs kk = r›).1; omega)]; assumption), rlB⟩
    ·simp at q7
     refine ⟨fun q12 => ?_, fun q12 => ?_⟩
     ·simp at q12
      exact ⟨_, put_fin (k := kk) (putB_full (by assumption) (fun h0 => by show (xs[0]?.getD default).row.length = r.length; omega) (by first | assumption | (exact fun e => absurd e.1 (by omega)) | (rintro ⟨h8, h9⟩; exact absurd h9 (by simp_all))) (by omega)) (fun _ => hkk) rfl ho, rlB⟩
     ·simp at q12
      refine draw G_ok mixed (some 11) (.q 0 (.q 1 (.q 2 (.q 3 (.q 4 (.q 5 (.q 6 (.q 8 (.f 7 (.q 9 (.f 10 (.tl 11 (.f 12 (.f 13 (.f 14 (.nil)))))))))))))))) (by decide +kernel) ?_
      refine call_new (cloneI_ct _ _ _ (r) ?_) (Rp.mono _ (mem_at 1 rfl) hp) ?_
      ·(rw [szI9]; have := rowM_len ‹rowM r = true›; omega)
      rintro v13 A13 o13
      obtain ⟨bR, cR, rfl, oR⟩ := o13
      generalize A13 = AR at *
      refine VC.intro ?_ ?_
      ·exact keep_new
      refine ⟨fun x14 => ?_⟩
      refine VC.intro ?_ ?_
      ·exact keep_new
      refine callR_part (A ++ AR) [[(_, Obj.cells ⟨.slice bR r.length cR :: .int .i64 t :: List.append [] (zeros 0 [.slice none 0 0, .int .i64 0])⟩ 218)], H] (insItem_ct _ _ _ _ _ xs ⟨r, t⟩ _ A AR ho (item_ow9 oR ht) ?_ ?_) ?_ (mem_at 0 rfl _ (List.mem_singleton.2 rfl)) ?_
      ·exact hkk.1
      ·omega
      ·exact rlA
      rintro _ AI ⟨bI, cI, rfl, oI⟩
      refine ⟨[AI], by simp, ?_⟩
      exact ⟨_, put_fin (k := kk) (putB_new (by assumption) (fun h0 => by show (xs[0]?.getD default).row.length = r.length; omega) (by first | assumption | (exact fun e => absurd e.1 (by omega)) | (rintro ⟨h8, h9⟩; exact absurd h9 (by simp_all))) (by omega)) (fun _ => hkk) rfl oI, rlB⟩
  ·simp at q2
   have hlz : xs.length = 0 := (congrArg List.length q2)
   refine call_val (placeOf_ct _ _ _ _ _ _ xs r hs (by omega)) ⟨(Rp.mono _ (mem_at 0 rfl) hrd), (Rp.mono _ (mem_at 1 rfl) hp)⟩ ?_
   rintro _ ⟨kk, hkk, rfl⟩
   refine ⟨fun q17 => ?_, fun q17 => ?_⟩
   ·simp at q17
    exfalso; omega
   ·simp at q17
    refine ⟨fun q18 => ?_, fun q18 => ?_⟩
    ·simp at q18
     exfalso; omega
    ·simp at q18
     refine draw G_ok mixed (some 11) (.q 0 (.q 1 (.q 2 (.q 3 (.q 4 (.q 5 (.q 6 (.q 8 (.f 7 (.q 9 (.f 10 (.tl 11 (.f 12 (.f 13 (.f 14 (.nil)))))))))))))))) (by decide +kernel) ?_
     refine call_new (cloneI_ct _ _ _ (r) ?_) (Rp.mono _ (mem_at 1 rfl) hp) ?_
     ·(rw [szI9]; have := rowM_len ‹rowM r = true›; omega)
     rintro v19 A19 o19
     obtain ⟨bR, cR, rfl, oR⟩ := o19
     generalize A19 = AR at *
     refine VC.intro ?_ ?_
     ·exact keep_new
     refine ⟨fun x20 => ?_⟩
     refine VC.intro ?_ ?_
     ·exact keep_new
     refine callR_part (A ++ AR) [[(_, Obj.cells ⟨.slice bR r.length cR :: .int .i64 t :: List.append [] (zeros 0 [.slice none 0 0, .int .i64 0])⟩ 218)], H] (insItem_ct _ _ _ _ _ xs ⟨r, t⟩ _ A AR ho (item_ow9 oR ht) ?_ ?_) ?_ (mem_at 0 rfl _ (List.mem_singleton.2 rfl)) ?_
     ·exact hkk.1
     ·omega
     ·exact rlA
     rintro _ AI ⟨bI, cI, rfl, oI⟩
     refine ⟨[AI], by simp, ?_⟩
     exact ⟨_, put_fin (k := kk) (putB_new (by assumption) (fun h0 => by show (xs[0]?.getD default).row.length = r.length; omega) (by first | assumption | (exact fun e => absurd e.1 (by omega)) | (rintro ⟨h8, h9⟩; exact absurd h9 (by simp_all))) (by omega)) (fun _ => hkk) rfl oI, rlB⟩
end
end Go.Proofs.YtjgehblllhkdbaaGreat
namespace Go.SX
section
variable {α β : Type}
def zRaw (s : Nat) : RawC s := ⟨List.replicate s (.bool false), by simp, by
 induction s with
 | zero => rfl
 | succ s ih => rw [List.replicate_succ]; exact ih⟩
def gRaw (s : Nat) (hs : 0 < s) : Gt (RawC s) := (flRaw s hs).gt fun _ => zRaw s
def rpZip (g : Gt α) : Rp (RawC g.size × α) where
 size := g.size
 rd H l z := l = z.1.1 ∧ g.rd H l z.2
 mono hh h := ⟨h.1, g.mono hh h.2⟩
 len h := g.len h.2
instance (s : Nat) : Inhabited (RawC s) := ⟨⟨List.replicate s (.bool false), by simp, by
 induction s with
 | zero => rfl
 | succ s ih => rw [List.replicate_succ]; exact ih⟩⟩
theorem zip_rd {g : Gt α} {T : TypeId} {v : Value} {ls : List (RawC g.size)} {xs : List α} {A A0 : Hp} {As : List Hp} (ho : Ow (flRaw g.size g.pos) T v ls A0) (hp : A.Perm (A0 ++ As.flatten)) (hl : OwL g ls xs As) : (rpSl (rpZip g)).rd A [v] (ls.zip xs) := by
 obtain ⟨base, cap, e, h1, h2⟩ := ho.rd
 obtain ⟨e1, e2⟩ := hl.len
 have e3 : (ls.zip xs).length = ls.length := by rw [List.length_zip]; omega
 refine ⟨base, cap, by rw [e3]; exact e, by rw [e3]; exact h1, fun i hi => ?_⟩
 obtain ⟨b, o, l', h3, h4, h5⟩ := h2 i (by omega)
 have hsub : ∀ p ∈ A0, p ∈ A := fun p hp' => hp.mem_iff.2 (List.mem_append_left _ hp')
 refine ⟨b, o, l', h3, h4.mono hsub, ?_⟩
 have h6 : l' = (ls[i]'(by omega)).1 := h5.1
 rw [List.getElem_zip]
 refine ⟨h6, ?_⟩
 rw [h6]
 refine g.mono (fun p hp' => hp.mem_iff.2 (List.mem_append_right _ ?_)) (g.owrd (hl.get i (by omega) (by omega) (by omega)))
 exact List.mem_flatten.2 ⟨_, List.getElem_mem _, hp'⟩
end
end Go.SX
namespace Go.Proofs.YtjgehblllhkdbaaGreat
open Go.SX Go.Proofs
open Tryz
section
attribute [local irreducible] IntKind.wrap
abbrev ZI := RawC gItem.size × Item
abbrev gRI : Gt (RawC gItem.size) := gRaw gItem.size gItem.pos
def lsZ (zs : List ZI) : List (RawC gItem.size) := zs.map (·.1)
def rowZ (zs : List ZI) (i : Nat) : List Int := (zs[i]?.getD default).2.row
def hitZ (zs : List ZI) (r : List Int) (k : Nat) : Bool := decide (k < zs.length ∧ rowZ zs k = r)
def midZ (zs : List ZI) (r : List Int) (k : Nat) (y : RawC gItem.size) (i : Nat) : List (RawC gItem.size) :=
 if i ≤ k then (lsZ zs).take i else (lsZ zs).take k ++ ([y] ++ ((lsZ zs).take i).drop (if hitZ zs r k then k + 1 else k))
theorem raw_appI {l : List Value} (h : l.length = gItem.size ∧ allOne l = true) : gRI.ow l ⟨l, h⟩ [] := ⟨rfl, trivial, rfl⟩
def yOk (zs : List ZI) (r : List Int) (t : Int) (k : Nat) (y : RawC gItem.size) (B : Hp) : Prop :=
 if hitZ zs r k then y.1 = (zs[k]?.getD default).1.1.set 1 (.int .i64 (min ((zs[k]?.getD default).2.times + t) 1000000)) ∧ B = [] else gItem.ow y.1 ⟨r, t⟩ B
theorem midZ_zero (zs : List ZI) (r : List Int) (k : Nat) (y : RawC gItem.size) : midZ zs r k y 0 = [] := by unfold midZ; rw [if_pos (Nat.zero_le _)]; rfl
theorem mid_init (zs : List ZI) (r : List Int) (t : Int) (k : Nat) : 0 ≤ zs.length ∧ (0 ≤ k → ([] : Hp) = []) ∧ (k < 0 → yOk zs r t k default []) ∧ (gSl 218 gRI).ow [.slice none (midZ zs r k default 0).length 0] (midZ zs r k default 0) [] := by
 rw [midZ_zero]
 exact ⟨Nat.zero_le _, fun _ => rfl, fun h => absurd h (by omega), sl_nil _ _ _⟩
theorem lsZ_at {zs : List ZI} {i : Nat} {l : List Value} {hr : l.length = gItem.size ∧ allOne l = true} (h : i < zs.length) (e : l = (zs[i]?.getD default).1.1) : (lsZ zs).take (i + 1) = (lsZ zs).take i ++ [⟨l, hr⟩] := by
 have h1 : i < (lsZ zs).length := by unfold lsZ; rw [List.length_map]; exact h
 have h2 : (lsZ zs)[i] = ⟨l, hr⟩ := by
  have h3 : (lsZ zs)[i] = (zs[i]'h).1 := List.getElem_map ..
  rw [h3]
  refine Subtype.ext ?_
  rw [List.getElem?_eq_getElem h] at e
  exact e.symm
 rw [← List.take_append_getElem h1, h2]
theorem lsZ_len (zs : List ZI) : (lsZ zs).length = zs.length := by unfold lsZ; exact List.length_map ..
theorem mid_pre {zs : List ZI} {r : List Int} {k i : Nat} {y : RawC gItem.size} {l : List Value} {hr : l.length = gItem.size ∧ allOne l = true} (hik : i < k) (h : i < zs.length) (e : l = (zs[i]?.getD default).1.1) : midZ zs r k y (i + 1) = midZ zs r k y i ++ [⟨l, hr⟩] := by
 unfold midZ
 rw [if_pos (by omega), if_pos (by omega), lsZ_at (hr := hr) h e]
theorem mid_post {zs : List ZI} {r : List Int} {k i : Nat} {y : RawC gItem.size} {l : List Value} {hr : l.length = gItem.size ∧ allOne l = true} (hik : k < i) (h : i < zs.length) (e : l = (zs[i]?.getD default).1.1) : midZ zs r k y (i + 1) = midZ zs r k y i ++ [⟨l, hr⟩] := by
 unfold midZ
 have h1 : ((lsZ zs).take i).length = i := by rw [List.length_take, lsZ_len]; omega
 have h2 : (if hitZ zs r k then k + 1 else k) ≤ ((lsZ zs).take i).length := by rw [h1]; split <;> omega
 rw [if_neg (show ¬ i + 1 ≤ k by omega), if_neg (show ¬ i ≤ k by omega), lsZ_at (hr := hr) h e, List.drop_append_of_le_length h2]
 simp
theorem mid_hit {zs : List ZI} {r : List Int} {k : Nat} {y y2 : RawC gItem.size} (h : hitZ zs r k = true) : midZ zs r k y2 (k + 1) = midZ zs r k y k ++ [y2] := by
 unfold midZ
 rw [if_neg (by omega), if_pos (Nat.le_refl _), h, if_pos rfl, List.drop_eq_nil_of_le (by rw [List.length_take]; omega)]
 simp
theorem mid_new {zs : List ZI} {r : List Int} {k : Nat} {y y2 : RawC gItem.size} {l : List Value} {hr : l.length = gItem.size ∧ allOne l = true} (h : hitZ zs r k = false) (hk : k < zs.length) (e : l = (zs[k]?.getD default).1.1) : midZ zs r k y2 (k + 1) = midZ zs r k y k ++ [y2] ++ [⟨l, hr⟩] := by
 unfold midZ
 have h1 : ((lsZ zs).take k).length = k := by rw [List.length_take, lsZ_len]; omega
 rw [if_neg (by omega), if_pos (Nat.le_refl _), h, if_neg (by simp), lsZ_at (hr := hr) hk e, List.drop_append_of_le_length (by omega), List.drop_eq_nil_of_le (by omega)]
 simp
theorem mid_end {zs : List ZI} {r : List Int} {k : Nat} {y : RawC gItem.size} (hk : k < zs.length) : midZ zs r k y (zs.length + 1) = midZ zs r k y zs.length := by
 unfold midZ
 rw [if_neg (show ¬ zs.length + 1 ≤ k by omega), if_neg (show ¬ zs.length ≤ k by omega), List.take_of_length_le (i := zs.length + 1) (by rw [lsZ_len]; omega), List.take_of_length_le (i := zs.length) (by rw [lsZ_len]; omega)]
theorem hit_end (zs : List ZI) (r : List Int) : hitZ zs r zs.length = false := by unfold hitZ; rw [decide_eq_false (by omega)]
theorem mid_last {zs : List ZI} {r : List Int} {y y2 : RawC gItem.size} : midZ zs r zs.length y2 (zs.length + 1) = midZ zs r zs.length y zs.length ++ [y2] := by
 unfold midZ
 rw [if_neg (by omega), if_pos (Nat.le_refl _), hit_end, if_neg (by simp), List.drop_eq_nil_of_le (by rw [List.length_take, lsZ_len]; omega)]
 simp
theorem mid_len (zs : List ZI) (r : List Int) (k : Nat) (y : RawC gItem.size) (i : Nat) : (midZ zs r k y i).length ≤ zs.length + 1 := by
 unfold midZ
 split
 ·rw [List.length_take, lsZ_len]; omega
 simp only [List.length_append, List.length_take, List.length_drop, List.length_cons, List.length_nil, lsZ_len]
 split <;> omega
theorem mid_le1 {zs : List ZI} {r : List Int} {k : Nat} {y : RawC gItem.size} {i : Nat} (hx : zs.length ≤ 2000000) : (midZ zs r k y i).length + 1 ≤ 1073741824 := by have := mid_len zs r k y i; omega
theorem mid_le2 {zs : List ZI} {r : List Int} {k : Nat} {y y2 : RawC gItem.size} {i : Nat} (hx : zs.length ≤ 2000000) : (midZ zs r k y i ++ [y2]).length + 1 ≤ 1073741824 := by have := mid_len zs r k y i; rw [List.length_append]; simp only [List.length_cons, List.length_nil]; omega
theorem bool_t {k i : Nat} (h : k < i) : Value.bool true = Value.bool (decide (k < i)) := by rw [decide_eq_true h]
theorem bool_t2 {k i j : Nat} (h : k < i) (h2 : k < j) : Value.bool (decide (k < i)) = Value.bool (decide (k < j)) := by rw [decide_eq_true h, decide_eq_true h2]
theorem bool_t3 {k i j : Nat} (h : ¬ k < i) (h2 : ¬ k < j) : Value.bool (decide (k < i)) = Value.bool (decide (k < j)) := by rw [decide_eq_false h, decide_eq_false h2]
theorem yOk_hit {zs : List ZI} {r : List Int} {t v w : Int} {k n c : Nat} {b : Option Addr} {hr : ([Value.slice b n c, .int .i64 v]).length = gItem.size ∧ allOne [Value.slice b n c, .int .i64 v] = true} (hh : hitZ zs r k = true) (e : [Value.slice b n c, .int .i64 w] = (zs[k]?.getD default).1.1) (h : v = min ((zs[k]?.getD default).2.times + t) 1000000) : yOk zs r t k ⟨[.slice b n c, .int .i64 v], hr⟩ [] := by
 unfold yOk; rw [hh, if_pos rfl, ← e, h]; exact ⟨rfl, rfl⟩
theorem yOk_new {zs : List ZI} {r : List Int} {t : Int} {k c : Nat} {b : Option Addr} {A : Hp} {hr : ([Value.slice b r.length c, .int .i64 t]).length = gItem.size ∧ allOne [Value.slice b r.length c, .int .i64 t] = true} (hh : hitZ zs r k = false) (o : (gSl 3 gI).ow [.slice b r.length c] r A) (ht : 1 ≤ t ∧ t ≤ 1000000) : yOk zs r t k ⟨[.slice b r.length c, .int .i64 t], hr⟩ A := by
 unfold yOk; rw [hh, if_neg (by simp)]; exact item_ow9 o ht
theorem cap1 {a : Int} (h : 1 ≤ a ∧ a ≤ 2000000) (h2 : 1000000 < IntKind.i64.wrap a) : 1000000 = min a 1000000 := by rw [wrap_of (x := a) (by omega) (by omega)] at h2; omega
theorem cap2 {a : Int} (h : 1 ≤ a ∧ a ≤ 2000000) (h2 : IntKind.i64.wrap a ≤ 1000000) : IntKind.i64.wrap a = min a 1000000 := by rw [wrap_of (x := a) (by omega) (by omega)] at *; omega
theorem low_ne {a r : List Int} (h : cmpL a r < 0) : ¬ a = r := fun e => by rw [cmpL_zero.2 e] at h; omega
theorem low_less {a r : List Int} (h : cmpL a r < 0) : rowLess r a = false := by
 unfold rowLess; rw [decide_eq_false_iff_not]; intro h2; have := cmpL_sw.1 h2; omega
theorem hi_less {a r : List Int} (h : ¬ cmpL a r < 0) (h2 : ¬ a = r) : rowLess r a = true := by
 unfold rowLess; rw [decide_eq_true_iff, cmpL_sw]
 have : ¬ cmpL a r = 0 := fun e => h2 (cmpL_zero.1 e)
 omega
theorem at_hit {zs : List ZI} {r : List Int} {k i : Nat} (hlo : ∀ i, i < k → cmpL (rowZ zs i) r < 0) (hik : i ≤ k) (h : i < zs.length) (e : (zs[i]?.getD default).2.row = r) : k = i ∧ hitZ zs r k = true := by
 have hk : k = i := by
  rcases Nat.lt_or_ge i k with h1 | h1
  ·exact absurd e (low_ne (hlo i h1))
  omega
 subst hk
 exact ⟨rfl, decide_eq_true ⟨h, e⟩⟩
theorem at_new {zs : List ZI} {r : List Int} {k i : Nat} (hlo : ∀ i, i < k → cmpL (rowZ zs i) r < 0) (hik : i ≤ k) (e : ¬ (zs[i]?.getD default).2.row = r) (h2 : rowLess r (zs[i]?.getD default).2.row = true) : k = i ∧ hitZ zs r k = false := by
 have hk : k = i := by
  rcases Nat.lt_or_ge i k with h1 | h1
  ·have := low_less (hlo i h1); unfold rowZ at this; rw [h2] at this; cases this
  omega
 subst hk
 exact ⟨rfl, decide_eq_false fun h => e h.2⟩
theorem at_low {zs : List ZI} {r : List Int} {k i : Nat} (hhi : ∀ i, k ≤ i → i < zs.length → ¬ cmpL (rowZ zs i) r < 0) (hik : i ≤ k) (h : i < zs.length) (e : ¬ (zs[i]?.getD default).2.row = r) (h2 : rowLess r (zs[i]?.getD default).2.row = false) : i < k := by
 rcases Nat.lt_or_ge i k with h1 | h1
 ·exact h1
 have h3 : rowLess r (zs[i]?.getD default).2.row = true := hi_less (hhi i h1 h) e
 rw [h2] at h3; cases h3
theorem l03PutRaw_ct (b : Option Addr) (m c : Nat) (b2 : Option Addr) (m2 c2 : Nat) (zs : List ZI) (r : List Int) (t : Int) (k : Nat) (hx : zs.length ≤ 2000000) (hr : r.length ≤ 1000) (ht : 1 ≤ t ∧ t ≤ 1000000)
  (hxt : ∀ i, i < zs.length → 1 ≤ (zs[i]?.getD default).2.times ∧ (zs[i]?.getD default).2.times ≤ 1000000)
  (hk : k ≤ zs.length) (hlo : ∀ i, i < k → cmpL (rowZ zs i) r < 0) (hhi : ∀ i, k ≤ i → i < zs.length → ¬ cmpL (rowZ zs i) r < 0) :
  Ct prog 68 [.agg ⟨[.slice b m c]⟩, .slice b2 m2 c2, .int .i64 t] [] (fun H => (rpSl (rpZip gItem)).rd H [.slice b m c] zs ∧ (gSl 3 gI).rd H [.slice b2 m2 c2] r)
   (fun v A => ∃ b' c' y A1 B, v = .agg ⟨[.slice b' (midZ zs r k y (zs.length + 1)).length c']⟩ ∧ A = A1 ++ B ∧ yOk zs r t k y B ∧ (gSl 218 gRI).ow [.slice b' (midZ zs r k y (zs.length + 1)).length c'] (midZ zs r k y (zs.length + 1)) A1) := by
 refine Ct.intro0 G_ok func68 rfl rfl rfl fun E H hp => ?_
 obtain ⟨hp, hp2⟩ := hp
 obtain ⟨rfl, hl⟩ := rd_len hp
 have hcl := rd_cap hp
 refine ⟨fun x0 => ?_⟩
 refine ⟨fun x1 => ?_⟩
 refine ⟨fun x2 => ?_⟩
 apply loop_mod (α := (Nat) × (RawC gItem.size) × (Hp) × (Hp) × (Option Addr) × (Nat)) G_ok [12, 13, 14, 15, 16, 19, 20, 21, 22, 23, 10, 24, 25, 26, 27, 28, 29, 30, 31, 32, 33, 34, 35, 36, 37, 38, 39, 40, 8, 41, 42, 43, 44, 45, 46, 47, 48, 49, 50, 51, 52, 53, 54, 55, 56, 57, 58, 59, 60, 61, 62, 63, 64, 17, 18, 9] (fun z => [(9, .v (.int .i64 z.1)), (8, .v (.bool (decide (k < z.1))))]) (fun z => [⟨x0, [Value.slice b zs.length c], (33 : Nat)⟩, ⟨x1, [Value.slice none (0 : Nat) (0 : Nat)], (33 : Nat)⟩, ⟨x2, [.slice z.2.2.2.2.1 (midZ zs r k z.2.1 z.1).length z.2.2.2.2.2], (33 : Nat)⟩]) (fun z => [z.2.2.2.1, z.2.2.1, H]) (fun z => zs.length - z.1) (fun z => z.1 ≤ zs.length ∧ (z.1 ≤ k → z.2.2.1 = []) ∧ (k < z.1 → yOk zs r t k z.2.1 z.2.2.1) ∧ (gSl 218 gRI).ow [.slice z.2.2.2.2.1 (midZ zs r k z.2.1 z.1).length z.2.2.2.2.2] (midZ zs r k z.2.1 z.1) z.2.2.2.1) ((0, default, [], [], none, 0))
 ·repeat' (first | exact trivial | refine ⟨⟨_, rfl, by first | rfl | exact inc_eq _ (by omega) | (refine sl_eq ?_; simp; done) | (exact sl_eq (congrArg List.length (mid_hit (by assumption)))) | (exact sl_eq (congrArg List.length (mid_new (by assumption) (by omega) (by assumption)))) | exact bool_t (Nat.lt_succ_self _) | exact bool_t2 (by omega) (by omega) | exact bool_t3 (by omega) (by omega) | (exact sl_eq (congrArg List.length (mid_pre ‹i < k› (by omega) (by assumption)))) | (exact sl_eq (congrArg List.length (mid_post ‹k < i› (by omega) (by assumption)))), by first | exact trivial | simp [SV.ok]⟩, ?_⟩)
 ·exact ⟨rfl, rfl, rfl, trivial⟩
 ·try dsimp only
  exact mid_init zs r t k
 ·exact .refl _
 rintro ⟨i, y, B, A, lb, lc⟩ hI
 try dsimp only at hI
 obtain ⟨hi, hB, hy, oA⟩ := hI
 try dsimp only
 refine ⟨fun q3 => ?_, fun q3 => ?_⟩
 ·simp at q3
  refine idx_rd hp ?_ ?_ fun b4 o4 hb4 => ?_
  ·omega
  ·omega
  refine load_allN default (i) rfl hp ?_ ?_ hb4 rfl (mem_at 2 rfl) fun l5 hl5 => ?_
  ·omega
  ·omega
  obtain ⟨e5, hl5⟩ := hl5
  obtain ⟨b0x5, c0x5, rfl, h0x5, w1x5⟩ := gItem_rd.1 hl5
  refine ⟨fun x6 => ?_⟩
  refine ⟨fun q7 => ?_, fun q7 => ?_⟩
  ·simp at q7
   refine call_val (l03Same_ct _ _ _ _ _ _ ((zs[i]?.getD default).snd.row) (r)) ⟨(Rp.mono _ (mem_at 2 rfl) h0x5), (Rp.mono _ (mem_at 2 rfl) hp2)⟩ ?_
   rintro _ rfl
   refine ⟨fun q9 => ?_, fun q9 => ?_⟩
   ·simp at q9
    refine ⟨fun q10 => ?_, fun q10 => ?_⟩
    ·simp at q10
     obtain ⟨hik, hht⟩ := at_hit hlo ‹i ≤ k› (by assumption) (by assumption)
     subst hik
     refine ⟨fun x11 => ?_⟩
     refine gappend1 (g := gRI) (T := (218 : TypeId)) G_ok A [] [B, H] ?_ oA (raw_appI (by first | exact raw_of ‹gItem.rd _ _ _› | exact ⟨rfl, rfl⟩)) (List.mem_of_getElem? (i := 0) rfl) rfl rfl rfl rfl rfl rfl rfl rfl ?_ fun b12 c12 A12 o12 => ?_
     ·exact .tl
     ·exact mid_le1 hx
     apply loop_stepI (k + 1, ⟨[Value.slice b0x5 (zs[k]?.getD default).snd.row.length c0x5, Value.int .i64 1000000], ⟨rfl, rfl⟩⟩, [], _, _, _)
     ·repeat' (first | exact trivial | refine ⟨⟨_, rfl, by first | rfl | exact inc_eq _ (by omega) | (refine sl_eq ?_; simp; done) | (exact sl_eq (congrArg List.length (mid_hit (by assumption)))) | (exact sl_eq (congrArg List.length (mid_new (by assumption) (by omega) (by assumption)))) | exact bool_t (Nat.lt_succ_self _) | exact bool_t2 (by omega) (by omega) | exact bool_t3 (by omega) (by omega) | (exact sl_eq (congrArg List.length (mid_pre ‹i < k› (by omega) (by assumption)))) | (exact sl_eq (congrArg List.length (mid_post ‹k < i› (by omega) (by assumption)))), by first | exact trivial | simp [SV.ok]⟩, ?_⟩)
     ·((first | rw [mid_hit (by assumption)] | rw [mid_new (hr := ⟨rfl, rfl⟩) (by assumption) (by omega) (by assumption)] | rw [mid_pre (hr := ⟨rfl, rfl⟩) ‹i < k› (by omega) (by assumption)] | rw [mid_post (hr := ⟨rfl, rfl⟩) ‹k < i› (by omega) (by assumption)]); repeat' (first | exact trivial | refine ⟨by first | rfl | simp [Blk.ent], ?_⟩))
     ·try dsimp only
      (have h9 := hxt k (by assumption); exact ⟨by omega, fun h => absurd h (by omega), fun _ => yOk_hit hht (by assumption) (cap1 (by omega) (by assumption)), by rw [mid_hit hht]; assumption⟩)
     ·exact rlA
     try dsimp only
     omega
    ·simp at q10
     obtain ⟨hik, hht⟩ := at_hit hlo ‹i ≤ k› (by assumption) (by assumption)
     subst hik
     refine ⟨fun x13 => ?_⟩
     refine gappend1 (g := gRI) (T := (218 : TypeId)) G_ok A [] [B, H] ?_ oA (raw_appI (by first | exact raw_of ‹gItem.rd _ _ _› | exact ⟨rfl, rfl⟩)) (List.mem_of_getElem? (i := 0) rfl) rfl rfl rfl rfl rfl rfl rfl rfl ?_ fun b14 c14 A14 o14 => ?_
     ·exact .tl
     ·exact mid_le1 hx
     apply loop_stepI (k + 1, ⟨[Value.slice b0x5 (zs[k]?.getD default).snd.row.length c0x5, Value.int .i64 (IntKind.i64.wrap ((zs[k]?.getD default).snd.times + t))], ⟨rfl, rfl⟩⟩, [], _, _, _)
     ·repeat' (first | exact trivial | refine ⟨⟨_, rfl, by first | rfl | exact inc_eq _ (by omega) | (refine sl_eq ?_; simp; done) | (exact sl_eq (congrArg List.length (mid_hit (by assumption)))) | (exact sl_eq (congrArg List.length (mid_new (by assumption) (by omega) (by assumption)))) | exact bool_t (Nat.lt_succ_self _) | exact bool_t2 (by omega) (by omega) | exact bool_t3 (by omega) (by omega) | (exact sl_eq (congrArg List.length (mid_pre ‹i < k› (by omega) (by assumption)))) | (exact sl_eq (congrArg List.length (mid_post ‹k < i› (by omega) (by assumption)))), by first | exact trivial | simp [SV.ok]⟩, ?_⟩)
     ·((first | rw [mid_hit (by assumption)] | rw [mid_new (hr := ⟨rfl, rfl⟩) (by assumption) (by omega) (by assumption)] | rw [mid_pre (hr := ⟨rfl, rfl⟩) ‹i < k› (by omega) (by assumption)] | rw [mid_post (hr := ⟨rfl, rfl⟩) ‹k < i› (by omega) (by assumption)]); repeat' (first | exact trivial | refine ⟨by first | rfl | simp [Blk.ent], ?_⟩))
     ·try dsimp only
      (have h9 := hxt k (by assumption); exact ⟨by omega, fun h => absurd h (by omega), fun _ => yOk_hit hht (by assumption) (cap2 (by omega) (by assumption)), by rw [mid_hit hht]; assumption⟩)
     ·exact rlA
     try dsimp only
     omega
   ·simp at q9
    refine ⟨fun q15 => ?_, fun q15 => ?_⟩
    ·simp at q15
     refine call_val (specRowLess_ct _ _ _ _ _ _ (r) ((zs[i]?.getD default).snd.row)) ⟨(Rp.mono _ (mem_at 2 rfl) hp2), (Rp.mono _ (mem_at 2 rfl) h0x5)⟩ ?_
     rintro _ rfl
     refine ⟨fun q17 => ?_, fun q17 => ?_⟩
     ·obtain ⟨hik, hht⟩ := at_new hlo ‹i ≤ k› (by assumption) (by assumption)
      subst hik
      refine draw G_ok mixed (some 8) (.q 0 (.q 1 (.q 3 (.q 5 (.f 2 (.f 4 (.q 6 (.f 7 (.tl 8 (.f 9 (.f 10 (.nil)))))))))))) (by decide +kernel) ?_
      refine ⟨fun x18 => ?_⟩
      refine VC.intro ?_ ?_
      ·exact keep_new
      refine append_allN (g := gI) (T := (3 : TypeId)) G_ok (by repeat (first | exact fl_plain | apply plain_iso | apply plain_pair)) [] [[(x18, Obj.cells { toList := zeros (0 : Nat) [Value.int IntKind.i64 (0 : Int)] } (3 : TypeId))], A, B, H] 3 ?_ (sl_nil _ _ _) rfl hp2 rfl rfl rfl rfl rfl rfl rfl rfl ?_ fun b19 c19 A19 o19 => ?_
      ·exact .refl _
      ·simp; omega
      refine VC.intro ?_ ?_
      ·exact keep_sub (by simp) (by simp)
      refine ⟨fun x20 => ?_⟩
      refine VC.intro ?_ ?_
      ·exact keep_new
      refine gappend1 (g := gRI) (T := (218 : TypeId)) G_ok A [] [A19, [(x18, Obj.cells { toList := zeros (0 : Nat) [Value.int IntKind.i64 (0 : Int)] } (3 : TypeId))], B, H] ?_ oA (raw_appI (by first | exact raw_of ‹gItem.rd _ _ _› | exact ⟨rfl, rfl⟩)) (List.mem_of_getElem? (i := 0) rfl) rfl rfl rfl rfl rfl rfl rfl rfl ?_ fun b21 c21 A21 o21 => ?_
      ·exact rlA
      ·exact mid_le1 hx
      refine ⟨fun x22 => ?_⟩
      refine gappend1 (g := gRI) (T := (218 : TypeId)) G_ok A21 [] [A19, [(x18, Obj.cells { toList := zeros (0 : Nat) [Value.int IntKind.i64 (0 : Int)] } (3 : TypeId))], B, H] ?_ o21 (raw_appI (by first | exact raw_of ‹gItem.rd _ _ _› | exact ⟨rfl, rfl⟩)) (List.mem_of_getElem? (i := 0) rfl) rfl rfl rfl rfl rfl rfl rfl rfl ?_ fun b23 c23 A23 o23 => ?_
      ·exact .tl
      ·exact mid_le2 hx
      apply loop_stepA (k + 1, ⟨[Value.slice b19 ([] ++ r).length c19, Value.int .i64 t], ⟨rfl, rfl⟩⟩, _, _, _, _)
      ·exact .sub (by repeat (first | exact .slnil | apply List.Sublist.cons_cons | apply List.Sublist.cons))
      ·repeat' (first | exact trivial | refine ⟨⟨_, rfl, by first | rfl | exact inc_eq _ (by omega) | (refine sl_eq ?_; simp; done) | (exact sl_eq (congrArg List.length (mid_hit (by assumption)))) | (exact sl_eq (congrArg List.length (mid_new (by assumption) (by omega) (by assumption)))) | exact bool_t (Nat.lt_succ_self _) | exact bool_t2 (by omega) (by omega) | exact bool_t3 (by omega) (by omega) | (exact sl_eq (congrArg List.length (mid_pre ‹i < k› (by omega) (by assumption)))) | (exact sl_eq (congrArg List.length (mid_post ‹k < i› (by omega) (by assumption)))), by first | exact trivial | simp [SV.ok]⟩, ?_⟩)
      ·((first | rw [mid_hit (by assumption)] | rw [mid_new (hr := ⟨rfl, rfl⟩) (by assumption) (by omega) (by assumption)] | rw [mid_pre (hr := ⟨rfl, rfl⟩) ‹i < k› (by omega) (by assumption)] | rw [mid_post (hr := ⟨rfl, rfl⟩) ‹k < i› (by omega) (by assumption)]); repeat' (first | exact trivial | refine ⟨by first | rfl | simp [Blk.ent], ?_⟩))
      ·try dsimp only
       exact ⟨by omega, fun h => absurd h (by omega), fun _ => yOk_new hht (by assumption) ht, by rw [mid_new hht (by omega) (by assumption)]; assumption⟩
      try dsimp only
      omega
     ·have hik := at_low hhi ‹i ≤ k› (by omega) (by assumption) (by assumption)
      refine ⟨fun x24 => ?_⟩
      refine gappend1 (g := gRI) (T := (218 : TypeId)) G_ok A [] [B, H] ?_ oA (raw_appI (by first | exact raw_of ‹gItem.rd _ _ _› | exact ⟨rfl, rfl⟩)) (List.mem_of_getElem? (i := 0) rfl) rfl rfl rfl rfl rfl rfl rfl rfl ?_ fun b25 c25 A25 o25 => ?_
      ·exact .tl
      ·exact mid_le1 hx
      apply loop_stepA (i + 1, y, B, _, _, _)
      ·exact .refl _
      ·repeat' (first | exact trivial | refine ⟨⟨_, rfl, by first | rfl | exact inc_eq _ (by omega) | (refine sl_eq ?_; simp; done) | (exact sl_eq (congrArg List.length (mid_hit (by assumption)))) | (exact sl_eq (congrArg List.length (mid_new (by assumption) (by omega) (by assumption)))) | exact bool_t (Nat.lt_succ_self _) | exact bool_t2 (by omega) (by omega) | exact bool_t3 (by omega) (by omega) | (exact sl_eq (congrArg List.length (mid_pre ‹i < k› (by omega) (by assumption)))) | (exact sl_eq (congrArg List.length (mid_post ‹k < i› (by omega) (by assumption)))), by first | exact trivial | simp [SV.ok]⟩, ?_⟩)
      ·((first | rw [mid_hit (by assumption)] | rw [mid_new (hr := ⟨rfl, rfl⟩) (by assumption) (by omega) (by assumption)] | rw [mid_pre (hr := ⟨rfl, rfl⟩) ‹i < k› (by omega) (by assumption)] | rw [mid_post (hr := ⟨rfl, rfl⟩) ‹k < i› (by omega) (by assumption)]); repeat' (first | exact trivial | refine ⟨by first | rfl | simp [Blk.ent], ?_⟩))
      ·try dsimp only
       exact ⟨by omega, fun _ => hB (by omega), fun h => absurd h (by omega), by rw [mid_pre ‹i < k› (by omega) (by assumption)]; assumption⟩
      try dsimp only
      omega
    ·simp at q15
     exfalso; omega
  ·simp at q7
   refine ⟨fun q26 => ?_, fun q26 => ?_⟩
   ·simp at q26
    exfalso; omega
   ·simp at q26
    refine ⟨fun x27 => ?_⟩
    refine gappend1 (g := gRI) (T := (218 : TypeId)) G_ok A [] [B, H] ?_ oA (raw_appI (by first | exact raw_of ‹gItem.rd _ _ _› | exact ⟨rfl, rfl⟩)) (List.mem_of_getElem? (i := 0) rfl) rfl rfl rfl rfl rfl rfl rfl rfl ?_ fun b28 c28 A28 o28 => ?_
    ·exact .tl
    ·exact mid_le1 hx
    apply loop_stepA (i + 1, y, B, _, _, _)
    ·exact .refl _
    ·repeat' (first | exact trivial | refine ⟨⟨_, rfl, by first | rfl | exact inc_eq _ (by omega) | (refine sl_eq ?_; simp; done) | (exact sl_eq (congrArg List.length (mid_hit (by assumption)))) | (exact sl_eq (congrArg List.length (mid_new (by assumption) (by omega) (by assumption)))) | exact bool_t (Nat.lt_succ_self _) | exact bool_t2 (by omega) (by omega) | exact bool_t3 (by omega) (by omega) | (exact sl_eq (congrArg List.length (mid_pre ‹i < k› (by omega) (by assumption)))) | (exact sl_eq (congrArg List.length (mid_post ‹k < i› (by omega) (by assumption)))), by first | exact trivial | simp [SV.ok]⟩, ?_⟩)
    ·((first | rw [mid_hit (by assumption)] | rw [mid_new (hr := ⟨rfl, rfl⟩) (by assumption) (by omega) (by assumption)] | rw [mid_pre (hr := ⟨rfl, rfl⟩) ‹i < k› (by omega) (by assumption)] | rw [mid_post (hr := ⟨rfl, rfl⟩) ‹k < i› (by omega) (by assumption)]); repeat' (first | exact trivial | refine ⟨by first | rfl | simp [Blk.ent], ?_⟩))
    ·try dsimp only
     exact ⟨by omega, fun _ => absurd ‹k < i› (by omega), fun _ => hy (by omega), by rw [mid_post ‹k < i› (by omega) (by assumption)]; assumption⟩
    try dsimp only
    omega
 ·simp at q3
  refine ⟨fun q29 => ?_, fun q29 => ?_⟩
  ·simp at q29
   have hke : k = zs.length := by omega
   have hie : i = zs.length := by omega
   subst hke
   subst hie
   refine draw G_ok mixed (some 8) (.q 0 (.q 1 (.q 3 (.q 5 (.f 2 (.f 4 (.q 6 (.f 7 (.tl 8 (.f 9 (.f 10 (.nil)))))))))))) (by decide +kernel) ?_
   refine ⟨fun x30 => ?_⟩
   refine VC.intro ?_ ?_
   ·exact keep_new
   refine append_allN (g := gI) (T := (3 : TypeId)) G_ok (by repeat (first | exact fl_plain | apply plain_iso | apply plain_pair)) [] [[(x30, Obj.cells { toList := zeros (0 : Nat) [Value.int IntKind.i64 (0 : Int)] } (3 : TypeId))], A, B, H] 3 ?_ (sl_nil _ _ _) rfl hp2 rfl rfl rfl rfl rfl rfl rfl rfl ?_ fun b31 c31 A31 o31 => ?_
   ·exact .refl _
   ·simp; omega
   refine VC.intro ?_ ?_
   ·exact keep_sub (by simp) (by simp)
   refine ⟨fun x32 => ?_⟩
   refine VC.intro ?_ ?_
   ·exact keep_new
   refine gappend1 (g := gRI) (T := (218 : TypeId)) G_ok A [] [A31, [(x30, Obj.cells { toList := zeros (0 : Nat) [Value.int IntKind.i64 (0 : Int)] } (3 : TypeId))], B, H] ?_ oA (raw_appI (by first | exact raw_of ‹gItem.rd _ _ _› | exact ⟨rfl, rfl⟩)) (List.mem_of_getElem? (i := 0) rfl) rfl rfl rfl rfl rfl rfl rfl rfl ?_ fun b33 c33 A33 o33 => ?_
   ·exact rlA
   ·exact mid_le1 hx
   try dsimp only
   exact ⟨_, ⟨b33, c33, ⟨[Value.slice b31 ([] ++ r).length c31, Value.int .i64 t], ⟨rfl, rfl⟩⟩, A33, A31, congrArg (fun n => Value.agg ⟨[.slice b33 n c33]⟩) (congrArg List.length (mid_last (y := y)).symm), rfl, yOk_new (hit_end zs r) (by assumption) ht, (by rw [mid_last (y := y)]; exact o33)⟩, rlB⟩
  ·simp at q29
   have hie : i = zs.length := by omega
   subst hie
   have hme := mid_end (r := r) (y := y) ‹k < zs.length›
   exact ⟨_, ⟨_, _, y, A, B, (by rw [hme]), rfl, hy (by omega), (by rw [hme]; exact oA)⟩, rlB⟩
end
section
attribute [local irreducible] IntKind.wrap
def putZ (xs : List Item) (r : List Int) (t : Int) (k : Nat) : List Item :=
 if k < xs.length ∧ rowI xs k = r then xs.take k ++ ([⟨(xs[k]?.getD default).row, min ((xs[k]?.getD default).times + t) 1000000⟩] ++ xs.drop (k + 1)) else xs.take k ++ ([⟨r, t⟩] ++ xs.drop k)
theorem zip_at2 {ls : List (RawC gItem.size)} {xs : List Item} (h : ls.length = xs.length) (i : Nat) (hi : i < xs.length) : ((ls.zip xs)[i]?.getD default) = (ls[i]'(by omega), xs[i]'hi) := by
 have h1 : i < (ls.zip xs).length := by rw [List.length_zip]; omega
 rw [List.getElem?_eq_getElem h1, Option.getD_some, List.getElem_zip]
theorem zip_row {ls : List (RawC gItem.size)} {xs : List Item} (h : ls.length = xs.length) (i : Nat) (hi : i < xs.length) : rowZ (ls.zip xs) i = rowI xs i := by
 unfold rowZ rowI
 rw [zip_at2 h i hi, List.getElem?_eq_getElem hi]; rfl
theorem lsZ_zip {ls : List (RawC gItem.size)} {xs : List Item} (h : ls.length = xs.length) : lsZ (ls.zip xs) = ls := by
 unfold lsZ; exact List.map_fst_zip (by omega)
theorem zip_hit {ls : List (RawC gItem.size)} {xs : List Item} (h : ls.length = xs.length) (r : List Int) (k : Nat) : hitZ (ls.zip xs) r k = decide (k < xs.length ∧ rowI xs k = r) := by
 unfold hitZ
 have hz : (ls.zip xs).length = xs.length := by rw [List.length_zip]; omega
 rw [decide_eq_decide, hz]
 constructor
 ·rintro ⟨h1, h2⟩; rw [zip_row h k h1] at h2; exact ⟨h1, h2⟩
 rintro ⟨h1, h2⟩; rw [← zip_row h k h1] at h2; exact ⟨h1, h2⟩
theorem item_cap {l : List Value} {x : Item} {A : Hp} {v : Int} (h : gItem.ow l x A) (hv : okI v) : gItem.ow (l.set 1 (.int .i64 v)) ⟨x.row, v⟩ A := by
 obtain ⟨b0, c0, A0, rfl, hp, ho, _⟩ := gItem_ow.1 h
 exact gItem_ow.2 ⟨b0, c0, A0, rfl, hp, ho, hv⟩
theorem mid_ow {ls : List (RawC gItem.size)} {xs : List Item} {As : List Hp} {r : List Int} {t : Int} {k : Nat} {y : RawC gItem.size} {B : Hp} (hL : OwL gItem ls xs As) (hk : k ≤ xs.length) (ht : 1 ≤ t ∧ t ≤ 1000000)
  (hxt : ∀ i, i < xs.length → 1 ≤ (xs[i]?.getD default).times ∧ (xs[i]?.getD default).times ≤ 1000000) (hy : yOk (ls.zip xs) r t k y B) :
  ∃ Bs L, OwL gItem (midZ (ls.zip xs) r k y (xs.length + 1)) (putZ xs r t k) Bs ∧ (B ++ As.flatten).Perm (Bs.flatten ++ L) := by
 obtain ⟨e1, e2⟩ := hL.len
 unfold midZ
 rw [if_neg (show ¬ xs.length + 1 ≤ k by omega), lsZ_zip e1, List.take_of_length_le (show ls.length ≤ xs.length + 1 by omega)]
 unfold yOk at hy
 rw [zip_hit e1] at *
 unfold putZ
 by_cases hh : k < xs.length ∧ rowI xs k = r
 ·rw [decide_eq_true hh] at *
  rw [if_pos rfl] at *
  rw [if_pos hh]
  obtain ⟨hy, rfl⟩ := hy
  have hg := hL.get k (by omega) (by omega) (by omega)
  have hb := hxt k hh.1
  rw [zip_at2 e1 k hh.1] at hy
  have e3 : xs[k]?.getD default = xs[k]'hh.1 := by rw [List.getElem?_eq_getElem hh.1]; rfl
  rw [e3] at hb ⊢
  have hB := item_cap (v := min ((xs[k]'hh.1).times + t) 1000000) hg (by unfold okI; omega)
  have hy2 : y.val = (ls[k]'(by omega)).val.set 1 (.int .i64 (min ((xs[k]'hh.1).times + t) 1000000)) := hy
  rw [← hy2] at hB
  refine ⟨As.take k ++ ([As[k]'(by omega)] ++ As.drop (k + 1)), [], (hL.take k).append (OwL.append (.cons ?_ .nil) (OwL_dropI hL (k + 1))), ?_⟩
  ·exact hB
  rw [List.nil_append, List.append_nil]
  conv => lhs; rw [← List.take_append_drop k As]
  rw [List.drop_eq_getElem_cons (show k < As.length by omega)]
  exact .refl _
 rw [decide_eq_false hh] at *
 rw [if_neg (by simp)] at *
 rw [if_neg hh]
 refine ⟨As.take k ++ ([B] ++ As.drop k), [], (hL.take k).append (OwL.append (.cons hy .nil) (OwL_dropI hL k)), ?_⟩
 rw [List.append_nil]
 conv => lhs; rw [← List.take_append_drop k As]
 simp only [List.flatten_append, List.flatten_cons, List.flatten_nil, List.append_nil]
 rw [← List.append_assoc, ← List.append_assoc]
 exact List.perm_append_comm.append_right _
theorem l03Put_ct (b : Option Addr) (m c : Nat) (b2 : Option Addr) (m2 c2 : Nat) (xs : List Item) (A : Hp) (r : List Int) (t : Int) (k : Nat) (hA : (gSl 218 gItem).ow [.slice b m c] xs A) (hx : xs.length ≤ 2000000) (hr : r.length ≤ 1000) (ht : 1 ≤ t ∧ t ≤ 1000000)
  (hxt : ∀ i, i < xs.length → 1 ≤ (xs[i]?.getD default).times ∧ (xs[i]?.getD default).times ≤ 1000000) (hk : atR xs r k) :
  CtR prog 68 [.agg ⟨[.slice b m c]⟩, .slice b2 m2 c2, .int .i64 t] A (fun H => (gSl 3 gI).rd H [.slice b2 m2 c2] r) (fun v D => ∃ b' c', v = .agg ⟨[.slice b' (putZ xs r t k).length c']⟩ ∧ (gSl 218 gItem).ow [.slice b' (putZ xs r t k).length c'] (putZ xs r t k) D) := by
 obtain ⟨v, ls, A0, As, ev, ho, hp, hL⟩ := hA
 cases ev
 obtain ⟨e1, e2⟩ := hL.len
 have hz : (ls.zip xs).length = xs.length := by rw [List.length_zip]; omega
 have hc := l03PutRaw_ct b m c b2 m2 c2 (ls.zip xs) r t k (by omega) hr ht (fun i hi => by rw [zip_at2 e1 i (by omega)]; have := hxt i (by omega); rw [List.getElem?_eq_getElem (by omega : i < xs.length)] at this; exact this) (by have := hk.1; omega)
  (fun i hi => by have := hk.1; rw [zip_row e1 i (by omega)]; exact hk.2.1 i hi) (fun i h1 h2 => by rw [zip_row e1 i (by omega)]; exact hk.2.2 i h1 (by omega))
 refine ⟨hc.1, fun E H w hs hpre => ?_⟩
 have hsub1 : ∀ p ∈ A, p ∈ [] ++ (A ++ H) := fun p h => List.mem_append_right [] (List.mem_append_left _ h)
 have hsub2 : ∀ p ∈ H, p ∈ [] ++ (A ++ H) := fun p h => List.mem_append_right [] (List.mem_append_right _ h)
 refine (hc.2 E (A ++ H) w hs ⟨Rp.mono _ hsub1 (zip_rd ho hp hL), Rp.mono _ hsub2 hpre⟩).mono ?_
 rintro e' w' ⟨v, A2, h1, ⟨b', c', y, A1, B, rfl, rfl, hy, h4⟩, h3⟩
 obtain ⟨Bs, L, h5, h6⟩ := mid_ow hL hk.1 ht hxt hy
 rw [hz] at h1 h4
 have h7 := h5.len.1
 refine ⟨_, A1 ++ Bs.flatten, h1, ⟨b', c', by rw [h7], ?_⟩, ?_⟩
 ·rw [← h7]; exact ⟨_, _, A1, Bs, rfl, fl_ow h4, .refl _, h5⟩
 refine Sat.drop (B := A0 ++ L) (h3.perm ?_)
 classical
 rw [List.perm_iff_count]
 intro a
 have h8 := hp.count_eq a
 have h9 := h6.count_eq a
 simp only [List.count_append] at *; omega
theorem atR_uniq {xs : List Item} {r : List Int} {k j : Nat} (h1 : atR xs r k) (h2 : atR xs r j) : k = j := by
 rcases Nat.lt_trichotomy k j with h | h | h
 ·exact absurd (h2.2.1 k h) (h1.2.2 k (Nat.le_refl _) (by have := h2.1; omega))
 ·exact h
 exact absurd (h1.2.1 j h) (h2.2.2 j (Nat.le_refl _) (by have := h1.1; omega))
theorem atR_ex {xs : List Item} {r : List Int} (hs : sortedR xs) : ∀ n, n ≤ xs.length → (∀ q, q < xs.length - n → cmpL (rowI xs q) r < 0) ∨ ∃ k, k ≤ xs.length ∧ (∀ q, q < k → cmpL (rowI xs q) r < 0) ∧ (∀ q, k ≤ q → q < xs.length → ¬ cmpL (rowI xs q) r < 0) := by
 intro n hn
 by_cases h : ∃ k, k ≤ xs.length ∧ (∀ q, q < k → cmpL (rowI xs q) r < 0) ∧ (∀ q, k ≤ q → q < xs.length → ¬ cmpL (rowI xs q) r < 0)
 ·exact .inr h
 left
 have key : ∀ m, m ≤ xs.length → ∀ q, q < m → cmpL (rowI xs q) r < 0 := by
  intro m
  induction m with
  | zero => intro _ q hq; omega
  | succ m ih =>
   intro hm q hq
   have h0 := ih (by omega)
   rcases Nat.lt_or_ge q m with h1 | h1
   ·exact h0 q h1
   rw [show q = m by omega]
   by_cases h2 : cmpL (rowI xs m) r < 0
   ·exact h2
   exact absurd ⟨m, by omega, h0, fun q h3 h4 => aboveR hs h2 q h3 h4⟩ h
 intro q hq
 exact key xs.length (Nat.le_refl _) q (by omega)
theorem atR_some {xs : List Item} {r : List Int} (hs : sortedR xs) : ∃ k, atR xs r k := by
 rcases atR_ex (r := r) hs 0 (by omega) with h | h
 ·exact ⟨xs.length, Nat.le_refl _, fun q hq => h q (by omega), fun q h1 h2 => absurd h2 (by omega)⟩
 exact h
noncomputable def plR (xs : List Item) (r : List Int) : Nat := Classical.epsilon fun k => atR xs r k
theorem plR_at {xs : List Item} {r : List Int} (hs : sortedR xs) : atR xs r (plR xs r) := Classical.epsilon_spec (atR_some hs)
end
section
attribute [local irreducible] IntKind.wrap namesM queryM sharesM ownerOf
theorem at_place {ys : List Item} {r : List Int} {k : Nat} (hs : sortedR ys) (hk : atR ys r k) {i : Nat} (hi : i < ys.length) (e : rowI ys i = r) : i = k := by
 rcases Nat.lt_trichotomy i k with h | h | h
 ·exact absurd e (low_ne (hk.2.1 i h))
 ·exact h
 have := hs k i h hi
 rw [e] at this
 exact absurd this (hk.2.2 k (Nat.le_refl _) (by omega))
theorem ins_at {ys : List Item} {x : Item} {k : Nat} (hk : k ≤ ys.length) (i : Nat) : (ys.take k ++ ([x] ++ ys.drop k))[i]? = if i < k then ys[i]? else if i = k then some x else ys[i - 1]? := by
 have h1 : (ys.take k).length = k := by rw [List.length_take]; omega
 rcases Nat.lt_trichotomy i k with h | h | h
 ·rw [if_pos h, List.getElem?_append_left (by omega), List.getElem?_take_of_lt h]
 ·subst h
  rw [if_neg (by omega), if_pos rfl, List.getElem?_append_right (by omega), h1, Nat.sub_self]; rfl
 rw [if_neg (by omega), if_neg (by omega), List.getElem?_append_right (by omega), h1]
 obtain ⟨j, hj⟩ : ∃ j, i = k + 1 + j := ⟨i - k - 1, by omega⟩
 subst hj
 rw [show k + 1 + j - k = j + 1 by omega, show k + 1 + j - 1 = k + j by omega]
 show (x :: ys.drop k)[j + 1]? = _
 rw [List.getElem?_cons_succ, List.getElem?_drop]
theorem ins_len {ys : List Item} {x : Item} {k : Nat} (hk : k ≤ ys.length) : (ys.take k ++ ([x] ++ ys.drop k)).length = ys.length + 1 := by
 simp only [List.length_append, List.length_take, List.length_drop, List.length_cons, List.length_nil]; omega
theorem ins_row {ys : List Item} {r : List Int} {t : Int} {k : Nat} (hk : k ≤ ys.length) (i : Nat) : rowI (ys.take k ++ ([⟨r, t⟩] ++ ys.drop k)) i = if i < k then rowI ys i else if i = k then r else rowI ys (i - 1) := by
 unfold rowI
 rw [ins_at hk]
 split
 ·rfl
 split <;> rfl
theorem up_place {ys : List Item} {r : List Int} {k : Nat} (hk : atR ys r k) (hn : ¬ (k < ys.length ∧ rowI ys k = r)) (hs : sortedR ys) {i : Nat} (h1 : k ≤ i) (h2 : i < ys.length) : cmpL r (rowI ys i) < 0 := by
 rw [cmpL_sw]
 have h3 := hk.2.2 i h1 h2
 have h4 : ¬ cmpL (rowI ys i) r = 0 := fun e => by
  have h5 := cmpL_zero.1 e
  have h6 := at_place hs hk h2 h5
  subst h6
  exact hn ⟨h2, h5⟩
 omega
theorem ins_sorted {ys : List Item} {r : List Int} {t : Int} {k : Nat} (hs : sortedR ys) (hk : atR ys r k) (hn : ¬ (k < ys.length ∧ rowI ys k = r)) : sortedR (ys.take k ++ ([⟨r, t⟩] ++ ys.drop k)) := by
 intro i j hij hj
 rw [ins_len hk.1] at hj
 rw [ins_row hk.1, ins_row hk.1]
 rcases Nat.lt_trichotomy i k with h | h | h
 ·rw [if_pos h]
  rcases Nat.lt_trichotomy j k with h2 | h2 | h2
  ·rw [if_pos h2]; exact hs i j hij (by have := hk.1; omega)
  ·rw [if_neg (by omega), if_pos h2]; exact hk.2.1 i h
  rw [if_neg (by omega), if_neg (by omega)]; exact hs i (j - 1) (by omega) (by omega)
 ·rw [if_neg (by omega), if_pos h, if_neg (by omega), if_neg (by omega)]
  exact up_place hk hn hs (by omega) (by omega)
 rw [if_neg (by omega), if_neg (by omega), if_neg (by omega), if_neg (by omega)]
 exact hs (i - 1) (j - 1) (by omega) (by omega)
end
section
def rowsI (ys : List Item) : List (List Int) := ys.map (·.row)
def InvT (ys : List Item) : Prop := sortedR ys ∧ ∀ i, i < ys.length → 1 ≤ (ys[i]?.getD default).times ∧ (ys[i]?.getD default).times ≤ 1000000
theorem invT_nil : InvT [] := ⟨fun i j _ h => absurd h (by simp), fun i h => absurd h (by simp)⟩
theorem rowsI_at (ys : List Item) (i : Nat) (hi : i < ys.length) : (rowsI ys)[i]? = some (rowI ys i) := by
 unfold rowsI rowI
 rw [List.getElem?_map, List.getElem?_eq_getElem hi]; rfl
theorem rowsI_len (ys : List Item) : (rowsI ys).length = ys.length := by unfold rowsI; exact List.length_map ..
theorem mem_rowsI {ys : List Item} {r : List Int} : r ∈ rowsI ys ↔ ∃ i, i < ys.length ∧ rowI ys i = r := by
 constructor
 ·intro h
  obtain ⟨i, hi, e⟩ := List.getElem_of_mem h
  have hi2 : i < ys.length := by rw [rowsI_len] at hi; exact hi
  refine ⟨i, hi2, ?_⟩
  have h1 := rowsI_at ys i hi2
  rw [List.getElem?_eq_getElem hi, e] at h1
  exact (Option.some.inj h1).symm
 rintro ⟨i, hi, rfl⟩
 exact List.mem_of_getElem? (rowsI_at ys i hi)
theorem hit_at {ys : List Item} {k : Nat} {t : Int} (hk : k < ys.length) (i : Nat) : (ys.take k ++ ([⟨(ys[k]?.getD default).row, min ((ys[k]?.getD default).times + t) 1000000⟩] ++ ys.drop (k + 1)))[i]? = if i = k then some ⟨(ys[k]?.getD default).row, min ((ys[k]?.getD default).times + t) 1000000⟩ else ys[i]? := by
 have h1 : (ys.take k).length = k := by rw [List.length_take]; omega
 rcases Nat.lt_trichotomy i k with h | h | h
 ·rw [if_neg (by omega), List.getElem?_append_left (by omega), List.getElem?_take_of_lt h]
 ·subst h
  rw [if_pos rfl, List.getElem?_append_right (by omega), h1, Nat.sub_self]; rfl
 rw [if_neg (by omega), List.getElem?_append_right (by omega), h1]
 obtain ⟨j, hj⟩ : ∃ j, i = k + 1 + j := ⟨i - k - 1, by omega⟩
 subst hj
 rw [show k + 1 + j - k = j + 1 by omega]
 show (_ :: ys.drop (k + 1))[j + 1]? = _
 rw [List.getElem?_cons_succ, List.getElem?_drop]
theorem hit_len {ys : List Item} {k : Nat} {x : Item} (hk : k < ys.length) : (ys.take k ++ ([x] ++ ys.drop (k + 1))).length = ys.length := by
 simp only [List.length_append, List.length_take, List.length_drop, List.length_cons, List.length_nil]; omega
theorem hit_row {ys : List Item} {k : Nat} {t : Int} (hk : k < ys.length) (i : Nat) : rowI (ys.take k ++ ([⟨(ys[k]?.getD default).row, min ((ys[k]?.getD default).times + t) 1000000⟩] ++ ys.drop (k + 1))) i = rowI ys i := by
 unfold rowI
 rw [hit_at hk]
 split
 ·rename_i h; rw [h]; rfl
 rfl
def upL (xs : List (List Int)) : Prop := xs.Pairwise fun a b => cmpL a b < 0
theorem sortedR_up {ys : List Item} (h : sortedR ys) : upL (rowsI ys) := by
 unfold upL
 rw [List.pairwise_iff_getElem]
 intro i j hi hj hij
 have h1 := rowsI_at ys i (by rw [rowsI_len] at hi; exact hi)
 have h2 := rowsI_at ys j (by rw [rowsI_len] at hj; exact hj)
 rw [List.getElem?_eq_getElem hi] at h1
 rw [List.getElem?_eq_getElem hj] at h2
 rw [Option.some.inj h1, Option.some.inj h2]
 exact h i j hij (by rw [rowsI_len] at hj; exact hj)
end
section
noncomputable def putI (ys : List Item) (p : Item) : List Item := putZ ys p.row p.times (plR ys p.row)
noncomputable def putsI (ys : List Item) (ps : List Item) : List Item := ps.foldl putI ys
theorem putI_hit {ys : List Item} {p : Item} (h : plR ys p.row < ys.length ∧ rowI ys (plR ys p.row) = p.row) : putI ys p = ys.take (plR ys p.row) ++ ([⟨(ys[plR ys p.row]?.getD default).row, min ((ys[plR ys p.row]?.getD default).times + p.times) 1000000⟩] ++ ys.drop (plR ys p.row + 1)) := if_pos h
theorem putI_new {ys : List Item} {p : Item} (h : ¬ (plR ys p.row < ys.length ∧ rowI ys (plR ys p.row) = p.row)) : putI ys p = ys.take (plR ys p.row) ++ ([⟨p.row, p.times⟩] ++ ys.drop (plR ys p.row)) := if_neg h
def tOk (p : Item) : Prop := 1 ≤ p.times ∧ p.times ≤ 1000000
theorem putI_inv {ys : List Item} {p : Item} (h : InvT ys) (ht : tOk p) : InvT (putI ys p) := by
 have hk := plR_at (r := p.row) h.1
 obtain ⟨t1, t2⟩ := ht
 by_cases hh : plR ys p.row < ys.length ∧ rowI ys (plR ys p.row) = p.row
 ·rw [putI_hit hh]
  refine ⟨fun i j hij hj => ?_, fun i hi => ?_⟩
  ·rw [hit_len hh.1] at hj
   rw [hit_row hh.1, hit_row hh.1]; exact h.1 i j hij hj
  rw [hit_len hh.1] at hi
  rw [hit_at hh.1]
  have h1 := h.2 (plR ys p.row) hh.1
  split
  ·show 1 ≤ min _ _ ∧ min _ _ ≤ _
   omega
  exact h.2 i hi
 rw [putI_new hh]
 refine ⟨ins_sorted h.1 hk hh, fun i hi => ?_⟩
 rw [ins_len hk.1] at hi
 rw [ins_at hk.1]
 rcases Nat.lt_trichotomy i (plR ys p.row) with h2 | h2 | h2
 ·rw [if_pos h2]; exact h.2 i (by have := hk.1; omega)
 ·rw [if_neg (by omega), if_pos h2]
  exact ⟨t1, t2⟩
 rw [if_neg (by omega), if_neg (by omega)]; exact h.2 (i - 1) (by omega)
theorem putI_mem {ys : List Item} {p : Item} {r : List Int} (h : InvT ys) : r ∈ rowsI (putI ys p) ↔ r = p.row ∨ r ∈ rowsI ys := by
 have hk := plR_at (r := p.row) h.1
 rw [mem_rowsI, mem_rowsI]
 by_cases hh : plR ys p.row < ys.length ∧ rowI ys (plR ys p.row) = p.row
 ·rw [putI_hit hh, hit_len hh.1]
  constructor
  ·rintro ⟨i, hi, e⟩; rw [hit_row hh.1] at e; exact .inr ⟨i, hi, e⟩
  rintro (e2 | ⟨i, hi, e⟩)
  ·exact ⟨_, hh.1, by rw [hit_row hh.1, e2]; exact hh.2⟩
  exact ⟨i, hi, by rw [hit_row hh.1]; exact e⟩
 rw [putI_new hh, ins_len hk.1]
 constructor
 ·rintro ⟨i, hi, e⟩
  rw [ins_row hk.1] at e
  rcases Nat.lt_trichotomy i (plR ys p.row) with h2 | h2 | h2
  ·rw [if_pos h2] at e; exact .inr ⟨i, by have := hk.1; omega, e⟩
  ·rw [if_neg (by omega), if_pos h2] at e; exact .inl e.symm
  rw [if_neg (by omega), if_neg (by omega)] at e; exact .inr ⟨i - 1, by omega, e⟩
 rintro (e2 | ⟨i, hi, e⟩)
 ·exact ⟨plR ys p.row, by have := hk.1; omega, by rw [ins_row hk.1, if_neg (by omega), if_pos rfl, e2]⟩
 rcases Nat.lt_or_ge i (plR ys p.row) with h2 | h2
 ·exact ⟨i, by omega, by rw [ins_row hk.1, if_pos h2]; exact e⟩
 exact ⟨i + 1, by omega, by rw [ins_row hk.1, if_neg (by omega), if_neg (by omega)]; exact e⟩
theorem putI_len {ys : List Item} {p : Item} (h : InvT ys) : ys.length ≤ (putI ys p).length ∧ (putI ys p).length ≤ ys.length + 1 := by
 have hk := plR_at (r := p.row) h.1
 by_cases hh : plR ys p.row < ys.length ∧ rowI ys (plR ys p.row) = p.row
 ·rw [putI_hit hh, hit_len hh.1]; omega
 rw [putI_new hh, ins_len hk.1]; omega
structure BW (w : Nat) (ys : List Item) : Prop where
 inv : InvT ys
 rows : ∀ r ∈ rowsI ys, rowM r = true ∧ r.length = w
theorem bw_nil (w : Nat) : BW w [] := ⟨invT_nil, fun _ h => nomatch h⟩
def pOk (w : Nat) (p : Item) : Prop := tOk p ∧ rowM p.row = true ∧ p.row.length = w
theorem putI_bw {w : Nat} {ys : List Item} {p : Item} (h : BW w ys) (hp : pOk w p) : BW w (putI ys p) :=
 ⟨putI_inv h.inv hp.1, fun r hr => by
  rcases (putI_mem h.inv).1 hr with rfl | h1
  ·exact hp.2
  exact h.rows r h1⟩
theorem putsI_cons (ys ps : List Item) (p : Item) : putsI ys (p :: ps) = putsI (putI ys p) ps := rfl
theorem putsI_take {ys ps : List Item} {i : Nat} (hi : i < ps.length) : putsI ys (ps.take (i + 1)) = putI (putsI ys (ps.take i)) (ps[i]?.getD default) := by
 unfold putsI
 rw [← List.take_append_getElem hi, List.foldl_append, List.getElem?_eq_getElem hi]; rfl
theorem putsI_snoc (ys ps : List Item) (p : Item) : putsI ys (ps ++ [p]) = putI (putsI ys ps) p := by
 unfold putsI; rw [List.foldl_append]; rfl
theorem putsI_bw {w : Nat} : ∀ {ps ys : List Item}, BW w ys → (∀ p ∈ ps, pOk w p) → BW w (putsI ys ps)
 | [], _, h, _ => h
 | p :: ps, ys, h, hp => putsI_bw (ps := ps) (putI_bw h (hp p List.mem_cons_self)) fun q hq => hp q (List.mem_cons_of_mem _ hq)
theorem putsI_inv : ∀ {ps ys : List Item}, InvT ys → (∀ p ∈ ps, tOk p) → InvT (putsI ys ps) ∧ ys.length ≤ (putsI ys ps).length ∧ (putsI ys ps).length ≤ ys.length + ps.length
 | [], ys, h, _ => ⟨h, Nat.le_refl _, Nat.le_refl _⟩
 | p :: ps, ys, h, hp => by
  have h1 := putI_inv h (hp p List.mem_cons_self)
  have h2 := putI_len (p := p) h
  obtain ⟨h3, h4, h5⟩ := putsI_inv (ps := ps) h1 fun q hq => hp q (List.mem_cons_of_mem _ hq)
  rw [putsI_cons, List.length_cons]
  exact ⟨h3, by omega, by omega⟩
theorem putsI_mem : ∀ {ps ys : List Item} {r : List Int}, InvT ys → (∀ p ∈ ps, tOk p) → (r ∈ rowsI (putsI ys ps) ↔ r ∈ rowsI ps ∨ r ∈ rowsI ys)
 | [], ys, r, h, _ => ⟨.inr, fun h => h.elim (fun h => nomatch h) id⟩
 | p :: ps, ys, r, h, hp => by
  rw [putsI_cons, putsI_mem (putI_inv h (hp p List.mem_cons_self)) fun q hq => hp q (List.mem_cons_of_mem _ hq), putI_mem h]
  show _ ↔ r ∈ p.row :: rowsI ps ∨ _
  rw [List.mem_cons]
  constructor
  ·rintro (h1 | h1 | h1)
   ·exact .inl (.inr h1)
   ·exact .inl (.inl h1)
   exact .inr h1
  rintro ((h1 | h1) | h1)
  ·exact .inr (.inl h1)
  ·exact .inl h1
  exact .inr (.inr h1)
theorem putsI_mono {ps ys : List Item} (h : InvT ys) (hp : ∀ p ∈ ps, tOk p) (i : Nat) : (putsI ys (ps.take i)).length ≤ (putsI ys ps).length := by
 have h1 := putsI_inv (ps := ps.take i) h fun p hq => hp p (List.mem_of_mem_take hq)
 have h2 := putsI_inv (ps := ps.drop i) h1.1 fun p hq => hp p (List.mem_of_mem_drop hq)
 have e : putsI (putsI ys (ps.take i)) (ps.drop i) = putsI ys ps := by
  unfold putsI; rw [← List.foldl_append, List.take_append_drop]
 rw [e] at h2
 exact h2.2.1
theorem bagM_at {ys : List Item} (h : bagM ⟨ys⟩ = true) : ys.length ≤ 300 ∧ ∀ i, i < ys.length → itemM ⟨ys⟩ i = true := by
 unfold bagM at h
 rw [Bool.and_eq_true, decide_eq_true_iff] at h
 exact ⟨h.1, fun i hi => allK_at h.2 i hi⟩
theorem adj_sortedR {ys : List Item} (h : ∀ i, i + 1 < ys.length → cmpL (rowI ys i) (rowI ys (i + 1)) < 0) : sortedR ys := by
 intro i j hij hj
 obtain ⟨d, rfl⟩ : ∃ d, j = i + 1 + d := ⟨j - i - 1, by omega⟩
 induction d with
 | zero => exact h i hj
 | succ d ih => exact cmpL_tr (ih (by omega) (by omega)) (h (i + 1 + d) hj)
theorem bagM_iff {ys : List Item} : bagM ⟨ys⟩ = true ↔ ys.length ≤ 300 ∧ ∃ w, BW w ys := by
 constructor
 ·intro h
  obtain ⟨h1, h2⟩ := bagM_at h
  have h3 : ∀ i, i < ys.length → rowM (rowI ys i) = true ∧ (1 ≤ (ys[i]?.getD default).times ∧ (ys[i]?.getD default).times ≤ 1000000) ∧ (rowI ys i).length = (rowI ys 0).length ∧ (i = 0 ∨ cmpL (rowI ys (i - 1)) (rowI ys i) < 0) := by
   intro i hi
   have h4 := h2 i hi
   unfold itemM at h4
   simp only [Bool.and_eq_true, Bool.or_eq_true, decide_eq_true_iff, inR_iff] at h4
   refine ⟨h4.1, h4.2.1, h4.2.2.1, ?_⟩
   rcases h4.2.2.2 with h5 | h5
   ·exact .inl h5
   unfold rowLess at h5; exact .inr (decide_eq_true_iff.1 h5)
  refine ⟨h1, (rowI ys 0).length, ⟨⟨adj_sortedR fun i hi => ?_, fun i hi => (h3 i hi).2.1⟩, fun r hr => ?_⟩⟩
  ·rcases (h3 (i + 1) hi).2.2.2 with h5 | h5
   ·omega
   exact h5
  obtain ⟨i, hi, rfl⟩ := mem_rowsI.1 hr
  exact ⟨(h3 i hi).1, (h3 i hi).2.2.1⟩
 rintro ⟨h1, w, h2⟩
 refine bagM_yes h1 ?_
 have hr : ∀ i, i < ys.length → rowM (rowI ys i) = true ∧ (rowI ys i).length = w := fun i hi => h2.rows _ (mem_rowsI.2 ⟨i, hi, rfl⟩)
 have key : ∀ n, n ≤ ys.length → allK (itemM ⟨ys⟩) n = true := by
  intro n
  induction n with
  | zero => intro _; rfl
  | succ n ih =>
   intro hn
   refine allK_step (ih (by omega)) (item_yes (hr n hn).1 (h2.inv.2 n hn) ?_ ?_)
   ·show (rowI ys n).length = (rowI ys 0).length
    rw [(hr n hn).2, (hr 0 (by omega)).2]
   rcases Nat.eq_zero_or_pos n with h0 | h0
   ·exact .inl h0
   refine .inr ?_
   unfold rowLess
   exact decide_eq_true (h2.inv.1 (n - 1) n (by omega) hn)
 exact key _ (Nat.le_refl _)
theorem bw_items {w : Nat} {ys : List Item} (h : BW w ys) : ∀ p ∈ ys, pOk w p := fun p hp => by
 obtain ⟨i, hi, rfl⟩ := List.getElem_of_mem hp
 have h1 := h.inv.2 i hi
 have h2 := h.rows (rowI ys i) (mem_rowsI.2 ⟨i, hi, rfl⟩)
 unfold rowI at h2
 rw [List.getElem?_eq_getElem hi] at h1 h2
 exact ⟨h1, h2⟩
theorem putB_put {w : Nat} {ys : List Item} {p : Item} {k : Nat} (h : BW w ys) (hl : ys.length ≤ 300) (hp : pOk w p) (hk : atR ys p.row k) : putB ys p.row p.times k = if (putI ys p).length ≤ 300 then (putI ys p, true) else (ys, false) := by
 have e := atR_uniq hk (plR_at h.inv.1)
 have hw : 0 < ys.length → (rowI ys 0).length = p.row.length := fun h0 => by rw [hp.2.2]; exact (h.rows _ (mem_rowsI.2 ⟨0, h0, rfl⟩)).2
 subst e
 have h1 := putI_len (p := p) h.inv
 by_cases hh : plR ys p.row < ys.length ∧ rowI ys (plR ys p.row) = p.row
 ·rw [putB_hit hp.2.1 hw hh]
  have e : putI ys p = ys.set (plR ys p.row) ⟨(ys[plR ys p.row]?.getD default).row, min ((ys[plR ys p.row]?.getD default).times + p.times) 1000000⟩ := by
   rw [putI_hit hh, set_split _ _ _ hh.1]; rfl
  rw [if_pos (by rw [e, List.length_set]; exact hl), e]
 by_cases h3 : ys.length = 300
 ·rw [putB_full hp.2.1 hw hh h3, if_neg]
  rw [putI_new hh, ins_len hk.1]; omega
 rw [putB_new hp.2.1 hw hh h3, if_pos (by omega), putI_new hh]
theorem putB_bad {ys : List Item} {p : Item} {k : Nat} (h0 : 0 < ys.length) (hw : ¬ (rowI ys 0).length = p.row.length) : putB ys p.row p.times k = (ys, false) := putB_no2 h0 hw
theorem putI_last {ys : List Item} {p : Item} (h : InvT ys) (hl : ∀ r ∈ rowsI ys, cmpL r p.row < 0) : putI ys p = ys ++ [p] := by
 have ha : atR ys p.row ys.length := ⟨Nat.le_refl _, fun q hq => hl _ (mem_rowsI.2 ⟨q, hq, rfl⟩), fun q h1 h2 => absurd h2 (by omega)⟩
 have e := atR_uniq ha (plR_at h.1)
 have hh : ¬ (plR ys p.row < ys.length ∧ rowI ys (plR ys p.row) = p.row) := fun h1 => by omega
 rw [putI_new hh, ← e, List.take_length, List.drop_length]; rfl
theorem putsI_self : ∀ {ps ys : List Item}, InvT (ys ++ ps) → putsI ys ps = ys ++ ps
 | [], ys, _ => by rw [List.append_nil]; rfl
 | p :: ps, ys, h => by
  have hs := sortedR_up h.1
  have hr : rowsI (ys ++ p :: ps) = rowsI ys ++ p.row :: rowsI ps := by unfold rowsI; rw [List.map_append, List.map_cons]
  unfold upL at hs
  rw [hr] at hs
  have h1 : InvT ys := ⟨fun i j hij hj => by
    have h3 := h.1 i j hij (by rw [List.length_append]; omega)
    unfold rowI at h3 ⊢
    rw [List.getElem?_append_left (by omega), List.getElem?_append_left hj] at h3
    exact h3, fun i hi => by
    have h3 := h.2 i (by rw [List.length_append]; omega)
    rw [List.getElem?_append_left hi] at h3
    exact h3⟩
  have h2 : ∀ r ∈ rowsI ys, cmpL r p.row < 0 := fun r hr => (List.pairwise_append.1 hs).2.2 r hr _ List.mem_cons_self
  rw [putsI_cons, putI_last h1 h2, putsI_self (by rw [List.append_assoc]; exact h), List.append_assoc]; rfl
theorem putsI_all {ps : List Item} (h : InvT ps) : putsI [] ps = ps := putsI_self (ys := []) h
theorem invT_sub {ps qs : List Item} (h : InvT ps) (hs : qs.Sublist ps) : InvT qs := by
 have h1 := sortedR_up h.1
 have h2 : upL (rowsI qs) := List.Pairwise.sublist (hs.map _) h1
 refine ⟨fun i j hij hj => ?_, fun i hi => ?_⟩
 ·have h3 := List.pairwise_iff_getElem.1 h2 i j (by rw [rowsI_len]; omega) (by rw [rowsI_len]; exact hj) hij
  have e1 := rowsI_at qs i (by omega)
  have e2 := rowsI_at qs j hj
  rw [List.getElem?_eq_getElem (by rw [rowsI_len]; omega)] at e1
  rw [List.getElem?_eq_getElem (by rw [rowsI_len]; exact hj)] at e2
  rw [← Option.some.inj e1, ← Option.some.inj e2]; exact h3
 have h3 := hs.subset (List.getElem_mem hi)
 obtain ⟨j, hj, e⟩ := List.getElem_of_mem h3
 have h4 := h.2 j hj
 rw [List.getElem?_eq_getElem hj, e] at h4
 rw [List.getElem?_eq_getElem hi]; exact h4
theorem bw_sub {w : Nat} {ps qs : List Item} (h : BW w ps) (hs : qs.Sublist ps) : BW w qs :=
 ⟨invT_sub h.inv hs, fun r hr => by
  obtain ⟨x, hx, rfl⟩ := List.mem_map.1 hr
  exact h.rows _ (List.mem_map.2 ⟨x, hs.subset hx, rfl⟩)⟩
end
section
theorem hasS_iff {l : List ByteArray} {s : ByteArray} : hasS l s = true ↔ s ∈ l := by
 constructor
 ·intro h
  apply Classical.byContradiction
  intro hn
  have : hasS l s = false := hasS_none (allK_of9 fun i hi => by
   rw [Bool.not_eq_true', decide_eq_false_iff_not, str_inj]
   intro e
   rw [List.getElem?_eq_getElem hi] at e
   exact hn (e ▸ List.getElem_mem hi))
  rw [h] at this; cases this
 intro h
 obtain ⟨i, hi, e⟩ := List.getElem_of_mem h
 exact hasS_at (k := i) hi (by rw [List.getElem?_eq_getElem hi, ← e]; rfl)
theorem hasS_no {l : List ByteArray} {s : ByteArray} : hasS l s = false ↔ s ∉ l := by rw [← Bool.not_eq_true, hasS_iff]
theorem distM_iff {l : List ByteArray} : distM l = true ↔ l.Nodup := by
 unfold distM
 constructor
 ·intro h
  refine List.pairwise_iff_getElem.2 fun i j hi hj hij => ?_
  have h1 := allK_at h j hj
  rw [Bool.not_eq_true', hasS_no, List.getElem?_eq_getElem hj] at h1
  intro e
  refine h1 ?_
  show l[j] ∈ l.take j
  rw [← e, List.mem_take_iff_getElem]
  exact ⟨i, by omega, rfl⟩
 intro h
 refine allK_of9 fun j hj => ?_
 rw [Bool.not_eq_true', hasS_no, List.getElem?_eq_getElem hj]
 show l[j] ∉ l.take j
 intro h1
 rw [List.mem_take_iff_getElem] at h1
 obtain ⟨i, hi, e⟩ := h1
 exact (List.pairwise_iff_getElem.1 h i j (by omega) hj (by omega)) e
theorem idx_dist {l : List ByteArray} (h : distM l = true) {k : Nat} (hk : k < l.length) : idxS l (l[k]?.getD ByteArray.empty) = k := by
 refine idx_at hk rfl (allK_of9 fun i hi => ?_)
 rw [Bool.not_eq_true', decide_eq_false_iff_not, str_inj, List.getElem?_eq_getElem hk, List.getElem?_eq_getElem (by omega)]
 exact List.pairwise_iff_getElem.1 (distM_iff.1 h) i k (by omega) hk hi
def tv (ns : List ByteArray) (row : List Int) (n : ByteArray) : Int := row[(idxS ns n).toNat]?.getD 0
theorem tv_dist {l : List ByteArray} (h : distM l = true) {row : List Int} {k : Nat} (hk : k < l.length) : tv l row (l[k]?.getD ByteArray.empty) = row[k]?.getD 0 := by
 unfold tv; rw [idx_dist h hk, Int.toNat_natCast]
theorem tv_self {l : List ByteArray} (h : distM l = true) {row : List Int} (hl : row.length = l.length) : l.map (tv l row) = row := by
 apply List.ext_getElem
 ·rw [List.length_map, hl]
 intro i h1 h2
 rw [List.length_map] at h1
 have h3 := tv_dist h (row := row) h1
 rw [List.getElem?_eq_getElem h1, List.getElem?_eq_getElem h2] at h3
 rw [List.getElem_map]; exact h3
def colsOk (cs : List ByteArray) : Bool := decide (1 ≤ cs.length ∧ cs.length ≤ 4) && (distM cs && allK (fun i => nameOk (cs[i]?.getD ByteArray.empty)) cs.length)
def tableM (t : Table) : Bool := colsOk t.cols && (bagM t.bag && decide (0 < t.bag.items.length → (rowI t.bag.items 0).length = t.cols.length))
theorem tableM_iff {t : Table} : tableM t = true ↔ colsOk t.cols = true ∧ t.bag.items.length ≤ 300 ∧ BW t.cols.length t.bag.items := by
 obtain ⟨cs, ⟨ys⟩⟩ := t
 unfold tableM
 rw [Bool.and_eq_true, Bool.and_eq_true, decide_eq_true_iff, bagM_iff]
 dsimp only
 constructor
 ·rintro ⟨h1, ⟨h2, w, h3⟩, h4⟩
  refine ⟨h1, h2, h3.inv, fun r hr => ⟨(h3.rows r hr).1, ?_⟩⟩
  obtain ⟨i, hi, _⟩ := mem_rowsI.1 hr
  have h5 := (h3.rows _ (mem_rowsI.2 ⟨0, by omega, rfl⟩)).2
  rw [(h3.rows r hr).2, ← h4 (by omega), h5]
 rintro ⟨h1, h2, h3⟩
 exact ⟨h1, ⟨h2, _, h3⟩, fun h0 => (h3.rows _ (mem_rowsI.2 ⟨0, h0, rfl⟩)).2⟩
theorem cols_parts {cs : List ByteArray} (h : colsOk cs = true) : (1 ≤ cs.length ∧ cs.length ≤ 4) ∧ distM cs = true ∧ ∀ s ∈ cs, nameOk s = true := by
 unfold colsOk at h
 rw [Bool.and_eq_true, Bool.and_eq_true, decide_eq_true_iff] at h
 refine ⟨h.1, h.2.1, fun s hs => ?_⟩
 obtain ⟨i, hi, rfl⟩ := List.getElem_of_mem hs
 have h1 := allK_at h.2.2 i hi
 rw [List.getElem?_eq_getElem hi] at h1
 exact h1
theorem cols_yes {cs : List ByteArray} (h1 : 1 ≤ cs.length ∧ cs.length ≤ 4) (h2 : distM cs = true) (h3 : ∀ s ∈ cs, nameOk s = true) : colsOk cs = true := by
 unfold colsOk
 rw [Bool.and_eq_true, Bool.and_eq_true, decide_eq_true_iff]
 exact ⟨h1, h2, allK_of9 fun i hi => by rw [List.getElem?_eq_getElem hi]; exact h3 _ (List.getElem_mem hi)⟩
theorem filt_yes9 {α : Type} {p : α → Bool} {xs : List α} {k : Nat} (z : α) (h : k < xs.length) (hp : p (xs[k]?.getD z) = true) : (xs.take (k + 1)).filter p = (xs.take k).filter p ++ [xs[k]?.getD z] := by
 rw [List.getElem?_eq_getElem h] at hp ⊢
 rw [← List.take_append_getElem h, List.filter_append]
 simp only [Option.getD_some] at hp ⊢
 rw [List.filter_cons_of_pos hp]; rfl
theorem filt_no9 {α : Type} {p : α → Bool} {xs : List α} {k : Nat} (z : α) (h : k < xs.length) (hp : p (xs[k]?.getD z) = false) : (xs.take (k + 1)).filter p = (xs.take k).filter p := by
 rw [List.getElem?_eq_getElem h] at hp
 rw [← List.take_append_getElem h, List.filter_append]
 simp only [Option.getD_some] at hp
 rw [List.filter_cons_of_neg (by rw [hp]; decide)]; simp
def colsJ (ca cb : List ByteArray) : List ByteArray := ca ++ cb.filter fun s => !hasS ca s
def exK (ca cb : List ByteArray) (y : List Int) (k : Nat) : List Int := ((List.range k).filter fun i => !hasS ca (cb[i]?.getD ByteArray.empty)).map fun i => y[i]?.getD 0
def matK (ca cb : List ByteArray) (x y : List Int) (k : Nat) : Bool := allK (fun i => !hasS ca (cb[i]?.getD ByteArray.empty) || decide (tv ca x (cb[i]?.getD ByteArray.empty) = (y[i]?.getD 0))) k
def itemJ (ca cb : List ByteArray) (x y : Item) : Item := ⟨x.row ++ exK ca cb y.row cb.length, min (x.times * y.times) 1000000⟩
def rowJ (ca cb : List ByteArray) (x : Item) (ys : List Item) : List Item := (ys.filter fun y => matK ca cb x.row y.row cb.length).map (itemJ ca cb x)
def itemsJ (a b : Table) : List Item := a.bag.items.flatMap fun x => rowJ a.cols b.cols x b.bag.items
def itemsIK (a b : Table) (i k : Nat) : List Item := ((a.bag.items.take i).flatMap fun x => rowJ a.cols b.cols x b.bag.items) ++ rowJ a.cols b.cols (a.bag.items[i]?.getD default) (b.bag.items.take k)
noncomputable def tableJ (a b : Table) : Table := ⟨colsJ a.cols b.cols, ⟨putsI [] (itemsJ a b)⟩⟩
noncomputable def joinM (a b : Table) : Table × Bool := if tableM a = true ∧ tableM b = true ∧ tableM (tableJ a b) = true then (tableJ a b, true) else (⟨[], ⟨[]⟩⟩, false)
theorem join_no1 {a b : Table} (h : tableM a = false) : joinM a b = (⟨[], ⟨[]⟩⟩, false) := if_neg fun e => by rw [h] at e; cases e.1
theorem join_no2 {a b : Table} (h : tableM b = false) : joinM a b = (⟨[], ⟨[]⟩⟩, false) := if_neg fun e => by rw [h] at e; cases e.2.1
theorem join_no3 {a b : Table} (h : tableM (tableJ a b) = false) : joinM a b = (⟨[], ⟨[]⟩⟩, false) := if_neg fun e => by rw [h] at e; cases e.2.2
theorem join_yes {a b : Table} (h1 : tableM a = true) (h2 : tableM b = true) (h3 : tableM (tableJ a b) = true) : joinM a b = (tableJ a b, true) := if_pos ⟨h1, h2, h3⟩
theorem itemsIK_zero (a b : Table) : itemsIK a b 0 0 = [] := by unfold itemsIK rowJ; simp
theorem itemsIK_yes {a b : Table} {i k : Nat} (hk : k < b.bag.items.length) (h : matK a.cols b.cols (a.bag.items[i]?.getD default).row (b.bag.items[k]?.getD default).row b.cols.length = true) : itemsIK a b i (k + 1) = itemsIK a b i k ++ [itemJ a.cols b.cols (a.bag.items[i]?.getD default) (b.bag.items[k]?.getD default)] := by
 unfold itemsIK rowJ
 rw [filt_yes9 (p := fun y : Item => matK a.cols b.cols (a.bag.items[i]?.getD default).row y.row b.cols.length) default hk h, List.map_append, ← List.append_assoc]; rfl
theorem itemsIK_no {a b : Table} {i k : Nat} (hk : k < b.bag.items.length) (h : matK a.cols b.cols (a.bag.items[i]?.getD default).row (b.bag.items[k]?.getD default).row b.cols.length = false) : itemsIK a b i (k + 1) = itemsIK a b i k := by
 unfold itemsIK rowJ
 rw [filt_no9 (p := fun y : Item => matK a.cols b.cols (a.bag.items[i]?.getD default).row y.row b.cols.length) default hk h]
theorem itemsIK_next {a b : Table} {i k : Nat} (hi : i < a.bag.items.length) (hk : b.bag.items.length ≤ k) : itemsIK a b (i + 1) 0 = itemsIK a b i k := by
 unfold itemsIK
 rw [List.take_of_length_le hk, ← List.take_append_getElem hi, List.flatMap_append, List.getElem?_eq_getElem hi]
 simp [rowJ]
theorem itemsIK_end (a b : Table) {i : Nat} (hi : a.bag.items.length ≤ i) : itemsIK a b i 0 = itemsJ a b := by
 unfold itemsIK itemsJ
 rw [List.take_of_length_le hi]
 simp [rowJ]
theorem exK_len (ca cb : List ByteArray) (y : List Int) : (exK ca cb y cb.length).length = (cb.filter fun s => !hasS ca s).length := by
 unfold exK
 rw [List.length_map]
 have h1 : cb = (List.range cb.length).map fun i => cb[i]?.getD ByteArray.empty := by
  apply List.ext_getElem
  ·simp
  intro i h1 h2; rw [List.getElem_map, List.getElem_range, List.getElem?_eq_getElem h1]; rfl
 conv => rhs; rw [h1]
 rw [List.filter_map, List.length_map]; rfl
theorem rowM_at {r : List Int} (h : rowM r = true) {x : Int} (hx : x ∈ r) : 0 ≤ x ∧ x ≤ 99 := by
 unfold rowM at h
 rw [Bool.and_eq_true] at h
 obtain ⟨i, hi, rfl⟩ := List.getElem_of_mem hx
 have h1 := inR_iff.1 (allK_at h.2 i hi)
 rw [List.getElem?_eq_getElem hi] at h1
 exact h1
theorem rowM_of {r : List Int} (hl : r.length ≤ 4) (h : ∀ x ∈ r, 0 ≤ x ∧ x ≤ 99) : rowM r = true :=
 rowM_yes hl (allK_of9 fun i hi => inR_iff.2 (by rw [List.getElem?_eq_getElem hi]; exact h _ (List.getElem_mem hi)))
theorem rowM_get {r : List Int} (h : rowM r = true) (i : Nat) : 0 ≤ (r[i]?.getD 0) ∧ (r[i]?.getD 0) ≤ 99 := by
 by_cases hi : i < r.length
 ·rw [List.getElem?_eq_getElem hi]; exact rowM_at h (List.getElem_mem hi)
 rw [List.getElem?_eq_none (by omega)]; simp
theorem itemJ_ok {a b : Table} (ha : tableM a = true) (hb : tableM b = true) (hc : (colsJ a.cols b.cols).length ≤ 4) {x y : Item} (hx : x ∈ a.bag.items) (hy : y ∈ b.bag.items) : pOk (colsJ a.cols b.cols).length (itemJ a.cols b.cols x y) := by
 obtain ⟨_, _, wa⟩ := tableM_iff.1 ha
 obtain ⟨_, _, wb⟩ := tableM_iff.1 hb
 obtain ⟨⟨tx1, tx2⟩, rx, lx⟩ := bw_items wa x hx
 obtain ⟨⟨ty1, ty2⟩, ry, ly⟩ := bw_items wb y hy
 have hl : (itemJ a.cols b.cols x y).row.length = (colsJ a.cols b.cols).length := by
  show (x.row ++ exK a.cols b.cols y.row b.cols.length).length = _
  unfold colsJ
  rw [List.length_append, List.length_append, exK_len, lx]
 refine ⟨?_, rowM_of (by omega) fun z hz => ?_, hl⟩
 ·have h1 : 1 * 1 ≤ x.times * y.times := Int.mul_le_mul tx1 ty1 (by omega) (by omega)
  show 1 ≤ min _ _ ∧ min _ _ ≤ _
  omega
 rcases List.mem_append.1 hz with h | h
 ·exact rowM_at rx h
 obtain ⟨i, _, rfl⟩ := List.mem_map.1 h
 exact rowM_get ry i
theorem itemsJ_ok {a b : Table} (ha : tableM a = true) (hb : tableM b = true) (hc : (colsJ a.cols b.cols).length ≤ 4) : ∀ p ∈ itemsJ a b, pOk (colsJ a.cols b.cols).length p := fun p hp => by
 obtain ⟨x, hx, h⟩ := List.mem_flatMap.1 hp
 obtain ⟨y, hy, rfl⟩ := List.mem_map.1 h
 exact itemJ_ok ha hb hc hx (List.mem_filter.1 hy).1
theorem colsJ_ok {ca cb : List ByteArray} (ha : colsOk ca = true) (hb : colsOk cb = true) (hc : (colsJ ca cb).length ≤ 4) : colsOk (colsJ ca cb) = true := by
 obtain ⟨a1, a2, a3⟩ := cols_parts ha
 obtain ⟨b1, b2, b3⟩ := cols_parts hb
 refine cols_yes ⟨?_, hc⟩ (distM_iff.2 ?_) fun s hs => ?_
 ·unfold colsJ; rw [List.length_append]; omega
 ·unfold colsJ
  refine List.nodup_append.2 ⟨distM_iff.1 a2, List.Nodup.sublist List.filter_sublist (distM_iff.1 b2), fun s hs t ht e => ?_⟩
  have h1 := (List.mem_filter.1 ht).2
  rw [Bool.not_eq_true', hasS_no] at h1
  exact h1 (e ▸ hs)
 unfold colsJ at hs
 rcases List.mem_append.1 hs with h | h
 ·exact a3 s h
 exact b3 s (List.mem_filter.1 h).1
theorem colsOk_long {cs : List ByteArray} (h : 4 < cs.length) : colsOk cs = false := by
 unfold colsOk; rw [decide_eq_false (by omega)]; rfl
theorem tableJ_iff {a b : Table} (ha : tableM a = true) (hb : tableM b = true) : tableM (tableJ a b) = true ↔ (colsJ a.cols b.cols).length ≤ 4 ∧ (putsI [] (itemsJ a b)).length ≤ 300 := by
 constructor
 ·intro h
  obtain ⟨h1, h2, _⟩ := tableM_iff.1 h
  exact ⟨(cols_parts h1).1.2, h2⟩
 rintro ⟨h1, h2⟩
 exact tableM_iff.2 ⟨colsJ_ok (tableM_iff.1 ha).1 (tableM_iff.1 hb).1 h1, h2, putsI_bw (bw_nil _) (itemsJ_ok ha hb h1)⟩
def comm (ca cb : List ByteArray) : List ByteArray := cb.filter fun s => hasS ca s
def extr (ca cb : List ByteArray) : List ByteArray := cb.filter fun s => !hasS ca s
theorem range_get (cb : List ByteArray) : cb = (List.range cb.length).map fun i => cb[i]?.getD ByteArray.empty := by
 apply List.ext_getElem
 ·simp
 intro i h1 h2; rw [List.getElem_map, List.getElem_range, List.getElem?_eq_getElem h1]; rfl
theorem extr_row {ca cb : List ByteArray} {y : List Int} (hd : distM cb = true) : (extr ca cb).map (tv cb y) = exK ca cb y cb.length := by
 unfold extr exK
 have h1 : (cb.filter fun s => !hasS ca s) = ((List.range cb.length).filter fun i => !hasS ca (cb[i]?.getD ByteArray.empty)).map fun i => cb[i]?.getD ByteArray.empty := by
  conv => lhs; rw [range_get cb]
  rw [List.filter_map]; rfl
 rw [h1, List.map_map]
 refine List.map_congr_left fun i hi => ?_
 have hi2 := List.mem_range.1 (List.mem_filter.1 hi).1
 show tv cb y (cb[i]?.getD ByteArray.empty) = _
 exact tv_dist hd hi2
theorem comm_same {ca cb : List ByteArray} {x y : List Int} (hd : distM cb = true) : (comm ca cb).map (tv ca x) = (comm ca cb).map (tv cb y) ↔ matK ca cb x y cb.length = true := by
 rw [List.map_inj_left]
 unfold matK comm
 constructor
 ·intro h
  refine allK_of9 fun i hi => ?_
  cases hc : hasS ca (cb[i]?.getD ByteArray.empty) with
  | false => rfl
  | true =>
   have h1 := h (cb[i]?.getD ByteArray.empty) (List.mem_filter.2 ⟨by rw [List.getElem?_eq_getElem hi]; exact List.getElem_mem hi, hc⟩)
   rw [tv_dist hd hi] at h1
   rw [decide_eq_true h1]; rfl
 intro h s hs
 obtain ⟨h1, h2⟩ := List.mem_filter.1 hs
 obtain ⟨i, hi, rfl⟩ := List.getElem_of_mem h1
 have h3 := allK_at h i hi
 have e : cb[i]?.getD ByteArray.empty = cb[i] := by rw [List.getElem?_eq_getElem hi]; rfl
 have h4 := tv_dist hd (row := y) hi
 rw [e] at h3 h4
 rw [h2, Bool.not_true, Bool.false_or, decide_eq_true_iff] at h3
 rw [h3, h4]
theorem matK_step {ca cb : List ByteArray} {x y : List Int} {k : Nat} (h : matK ca cb x y k = true) (h1 : hasS ca (cb[k]?.getD ByteArray.empty) = false ∨ tv ca x (cb[k]?.getD ByteArray.empty) = (y[k]?.getD 0)) : matK ca cb x y (k + 1) = true := allK_step h (by
 rcases h1 with h1 | h1
 ·rw [h1]; rfl
 rw [decide_eq_true h1]; simp)
theorem matK_no {ca cb : List ByteArray} {x y : List Int} {k n : Nat} (hk : k < n) (h1 : hasS ca (cb[k]?.getD ByteArray.empty) = true) (h2 : ¬ tv ca x (cb[k]?.getD ByteArray.empty) = (y[k]?.getD 0)) : matK ca cb x y n = false := allK_no (k := k) (by rw [h1, decide_eq_false h2]; rfl) n hk
theorem exK_yes {ca cb : List ByteArray} {y : List Int} {k : Nat} (h : hasS ca (cb[k]?.getD ByteArray.empty) = false) : exK ca cb y (k + 1) = exK ca cb y k ++ [y[k]?.getD 0] := by
 unfold exK
 rw [List.range_succ, List.filter_append, List.filter_cons_of_pos (by rw [h]; rfl), List.map_append]; rfl
theorem exK_no {ca cb : List ByteArray} {y : List Int} {k : Nat} (h : hasS ca (cb[k]?.getD ByteArray.empty) = true) : exK ca cb y (k + 1) = exK ca cb y k := by
 unfold exK
 rw [List.range_succ, List.filter_append, List.filter_cons_of_neg (by rw [h]; decide), List.filter_nil, List.append_nil]
def projI (cs out : List ByteArray) (x : Item) : Item := ⟨out.map (tv cs x.row), x.times⟩
noncomputable def projM (t : Table) (out : List ByteArray) : Table := ⟨out, ⟨putsI [] (t.bag.items.map (projI t.cols out))⟩⟩
theorem proj_same {t : Table} (h : tableM t = true) : projM t t.cols = t := by
 obtain ⟨h1, h2, h3⟩ := tableM_iff.1 h
 have hd := (cols_parts h1).2.1
 have e : t.bag.items.map (projI t.cols t.cols) = t.bag.items := by
  conv => rhs; rw [← List.map_id t.bag.items]
  refine List.map_congr_left fun x hx => ?_
  unfold projI
  rw [tv_self hd (bw_items h3 x hx).2.2]; rfl
 unfold projM
 rw [e, putsI_all h3.inv]
theorem proj_ok {t : Table} {out : List ByteArray} (h : tableM t = true) (ho : out.length ≤ 4) : (∀ p ∈ t.bag.items.map (projI t.cols out), pOk out.length p) := fun p hp => by
 obtain ⟨x, hx, rfl⟩ := List.mem_map.1 hp
 obtain ⟨h1, h2, h3⟩ := tableM_iff.1 h
 obtain ⟨a1, a2, a3⟩ := bw_items h3 x hx
 refine ⟨a1, rowM_of (by unfold projI; rw [List.length_map]; exact ho) fun z hz => ?_, by unfold projI; rw [List.length_map]⟩
 unfold projI at hz
 obtain ⟨n, _, rfl⟩ := List.mem_map.1 hz
 exact rowM_get a2 _
theorem colsJ_names (l : List ByteArray) (a : Atom) : colsJ l (colsM a) = addN (addN l a.from') a.to := by
 unfold colsJ
 by_cases h : a.from' = a.to
 ·rw [cols_1 h, ← h]
  cases h1 : hasS l a.from' with
  | true => rw [addN_yes h1, addN_yes h1, List.filter_cons_of_neg (by rw [h1]; decide)]; simp
  | false =>
   rw [addN_no h1, addN_yes (hasS_iff.2 (by simp)), List.filter_cons_of_pos (by rw [h1]; rfl)]; rfl
 rw [cols_2 h]
 have key : ∀ l2 : List ByteArray, (l2 = l ∨ l2 = l ++ [a.from']) → hasS l2 a.to = hasS l a.to := by
  rintro l2 (rfl | rfl)
  ·rfl
  rw [Bool.eq_iff_iff, hasS_iff, hasS_iff, List.mem_append, List.mem_singleton]
  exact ⟨fun h2 => h2.elim id fun h3 => absurd h3.symm h, .inl⟩
 cases h1 : hasS l a.from' with
 | true =>
  rw [addN_yes h1, List.filter_cons_of_neg (by rw [h1]; decide)]
  cases h2 : hasS l a.to with
  | true => rw [addN_yes h2, List.filter_cons_of_neg (by rw [h2]; decide)]; simp
  | false => rw [addN_no h2, List.filter_cons_of_pos (by rw [h2]; rfl)]; rfl
 | false =>
  rw [addN_no h1, List.filter_cons_of_pos (by rw [h1]; rfl)]
  have h3 := key (l ++ [a.from']) (.inr rfl)
  cases h2 : hasS l a.to with
  | true => rw [h2] at h3; rw [addN_yes h3, List.filter_cons_of_neg (by rw [h2]; decide)]; rfl
  | false => rw [h2] at h3; rw [addN_no h3, List.filter_cons_of_pos (by rw [h2]; rfl), List.append_assoc]; rfl
end
section
def rightV (cs : List ByteArray) (row : List Int) (f : Filter) : Int := if f.right.size = 0 then f.num else tv cs row f.right
def passM (cs : List ByteArray) (row : List Int) (f : Filter) : Bool := if f.op = 1 then decide (tv cs row f.left < rightV cs row f) else decide (tv cs row f.left = rightV cs row f)
def passK (cs : List ByteArray) (fs : List Filter) (row : List Int) (k : Nat) : Bool := allK (fun i => passM cs row (fs[i]?.getD default)) k
def cellK (s row : List Int) : Nat → Int
 | 0 => 0
 | k + 1 => cellK s row k * (s[k]?.getD 0) + ownerOf (row[k]?.getD 0) (s[k]?.getD 0)
def cellOf (s row : List Int) : Int := if cellsM s = 0 ∨ ¬ row.length = s.length then -1 else cellK s row s.length
theorem own_rng9 {v n : Int} (h1 : 1 ≤ n) : 0 ≤ ownerOf v n ∧ ownerOf v n < n := by
 unfold ownerOf
 split
 ·exact ⟨Int.emod_nonneg _ (by omega), Int.emod_lt_of_pos _ (by omega)⟩
 omega
theorem cellK_rng {s row : List Int} (hs : shK s s.length = true) : ∀ k, k ≤ s.length → 0 ≤ cellK s row k ∧ cellK s row k < prodK s k
 | 0, _ => by unfold cellK prodK; omega
 | k + 1, hk => by
  have ih := cellK_rng (row := row) hs k (by omega)
  have h1 := inR_iff.1 (allK_at hs k (by omega))
  have h2 := own_rng9 (v := row[k]?.getD 0) h1.1
  unfold cellK prodK
  have h3 : (cellK s row k + 1) * (s[k]?.getD 0) ≤ prodK s k * (s[k]?.getD 0) := Int.mul_le_mul_of_nonneg_right (by omega) (by omega)
  have h4 : 0 * (s[k]?.getD 0) ≤ cellK s row k * (s[k]?.getD 0) := Int.mul_le_mul_of_nonneg_right ih.1 (by omega)
  rw [Int.add_mul] at h3
  omega
noncomputable def jk (ts : List Table) : Nat → Table × Bool
 | 0 => (ts[0]?.getD default, true)
 | i + 1 => if (jk ts i).2 = true then joinM (jk ts i).1 (ts[i + 1]?.getD default) else (⟨[], ⟨[]⟩⟩, false)
theorem jk_bad {ts : List Table} {i : Nat} (h : (jk ts i).2 = false) (hi : 1 ≤ i) : ∀ d, jk ts (i + d) = (⟨[], ⟨[]⟩⟩, false)
 | 0 => by
  obtain ⟨j, rfl⟩ : ∃ j, i = j + 1 := ⟨i - 1, by omega⟩
  show jk ts (j + 1) = _
  have h' := h
  unfold jk at h' ⊢
  split
  ·rename_i h1
   rw [if_pos h1] at h'
   unfold joinM at h' ⊢
   split
   ·rename_i h2; rw [if_pos h2] at h'; cases h'
   rfl
  rfl
 | d + 1 => by
  have ih := jk_bad h hi d
  show jk ts (i + d + 1) = _
  unfold jk
  rw [ih]; rfl
theorem jk_all {ts : List Table} {i n : Nat} (h : (jk ts i).2 = false) (hi : 1 ≤ i) (hn : i ≤ n) : jk ts n = (⟨[], ⟨[]⟩⟩, false) := by
 have := jk_bad h hi (n - i)
 rwa [show i + (n - i) = n by omega] at this
def fitM (x : Query) (ts : List Table) : Prop := ts.length = x.atoms.length ∧ ∀ i, i < ts.length → tableM (ts[i]?.getD default) = true ∧ (ts[i]?.getD default).cols = colsM (x.atoms[i]?.getD default)
theorem names_one (a : Atom) : namesM [a] = colsM a := by
 show addN (addN [] a.from') a.to = _
 rw [← colsJ_names]
 unfold colsJ
 rw [List.nil_append, List.filter_eq_self]
 intro s _; rfl
theorem jk_ok {x : Query} {ts : List Table} (hf : fitM x ts) : ∀ i, i < ts.length → (jk ts i).2 = true → tableM (jk ts i).1 = true ∧ (jk ts i).1.cols = namesM (x.atoms.take (i + 1))
 | 0, hi, _ => by
  obtain ⟨h1, h2⟩ := hf.2 0 hi
  refine ⟨h1, ?_⟩
  show (ts[0]?.getD default).cols = _
  rw [h2]
  have hl : 0 < x.atoms.length := by rw [← hf.1]; exact hi
  rw [← names_one]
  congr 1
  rw [← List.take_append_getElem hl, List.take_zero, List.nil_append, List.getElem?_eq_getElem hl]; rfl
 | i + 1, hi, h => by
  have h' := h
  unfold jk at h' ⊢
  by_cases h1 : (jk ts i).2 = true
  ·rw [if_pos h1] at h' ⊢
   obtain ⟨h2, h3⟩ := jk_ok hf i (by omega) h1
   obtain ⟨h4, h5⟩ := hf.2 (i + 1) hi
   unfold joinM at h' ⊢
   split
   ·rename_i h6
    refine ⟨h6.2.2, ?_⟩
    show colsJ (jk ts i).1.cols (ts[i + 1]?.getD default).cols = _
    rw [h3, h5, colsJ_names, ← namesM_step (by rw [← hf.1]; exact hi)]
   rename_i h6; rw [if_neg h6] at h'; cases h'
  rw [if_neg h1] at h'; cases h'
def hereP (x : Query) (s : List Int) (c : Int) (k : Nat) (p : Item) : Bool := decide (cellOf s p.row = c) && passK (namesM x.atoms) x.filters p.row k
def hereK (x : Query) (s : List Int) (c : Int) (t : Table) (k : Nat) : Table := ⟨t.cols, ⟨t.bag.items.filter (hereP x s c k)⟩⟩
noncomputable def endM (x : Query) (s : List Int) (c : Int) (t : Table) : Bag := (projM (hereK x s c t x.filters.length) x.out).bag
open Classical in
noncomputable def caM (x : Query) (s : List Int) (c : Int) (ts : List Table) : Bag × Bool :=
 if sharesM x s = true ∧ inR 0 (cellsM s - 1) c = true ∧ fitM x ts ∧ (jk ts (ts.length - 1)).2 = true then (endM x s c (jk ts (ts.length - 1)).1, true) else (⟨[]⟩, false)
open Classical in
theorem ca_no {x : Query} {s : List Int} {c : Int} {ts : List Table} (h : ¬ (sharesM x s = true ∧ inR 0 (cellsM s - 1) c = true ∧ fitM x ts ∧ (jk ts (ts.length - 1)).2 = true)) : caM x s c ts = (⟨[]⟩, false) := by unfold caM; exact if_neg h
open Classical in
theorem ca_yes {x : Query} {s : List Int} {c : Int} {ts : List Table} (h1 : sharesM x s = true) (h2 : inR 0 (cellsM s - 1) c = true) (h3 : fitM x ts) (h4 : (jk ts (ts.length - 1)).2 = true) : caM x s c ts = (endM x s c (jk ts (ts.length - 1)).1, true) := by unfold caM; exact if_pos ⟨h1, h2, h3, h4⟩
theorem passK_step {cs : List ByteArray} {fs : List Filter} {row : List Int} {k : Nat} : passK cs fs row (k + 1) = (passK cs fs row k && passM cs row (fs[k]?.getD default)) := rfl
theorem hereK_zero (x : Query) (s : List Int) (c : Int) (t : Table) : hereK x s c t 0 = ⟨t.cols, ⟨t.bag.items.filter fun p => decide (cellOf s p.row = c)⟩⟩ := by
 unfold hereK hereP passK
 congr 2
 refine List.filter_congr fun p _ => ?_
 show (_ && true) = _
 rw [Bool.and_true]
theorem hereK_step (x : Query) (s : List Int) (c : Int) (t : Table) (k : Nat) : hereK x s c t (k + 1) = ⟨(hereK x s c t k).cols, ⟨(hereK x s c t k).bag.items.filter fun p => passM (namesM x.atoms) p.row (x.filters[k]?.getD default)⟩⟩ := by
 unfold hereK
 dsimp only
 rw [List.filter_filter]
 congr 2
 refine List.filter_congr fun p _ => ?_
 unfold hereP
 rw [passK_step, ← Bool.and_assoc, Bool.and_comm]
theorem table_sub {t : Table} (h : tableM t = true) (p : Item → Bool) : tableM ⟨t.cols, ⟨t.bag.items.filter p⟩⟩ = true := by
 obtain ⟨h1, h2, h3⟩ := tableM_iff.1 h
 exact tableM_iff.2 ⟨h1, Nat.le_trans (List.length_filter_le _ _) h2, bw_sub h3 List.filter_sublist⟩
theorem hereK_ok {x : Query} {s : List Int} {c : Int} {t : Table} (h : tableM t = true) (k : Nat) : tableM (hereK x s c t k) = true := table_sub h _
theorem keep_items {w : Nat} {ys : List Item} (h : BW w ys) (p : Item → Bool) : putsI [] (ys.filter p) = ys.filter p := putsI_all (invT_sub h.inv List.filter_sublist)
noncomputable def bagJ (a b : Bag) : Bag × Bool := if bagM a = true ∧ bagM b = true ∧ bagM ⟨putsI a.items b.items⟩ = true then (⟨putsI a.items b.items⟩, true) else (⟨[]⟩, false)
theorem bagJ_no1 {a b : Bag} (h : bagM a = false) : bagJ a b = (⟨[]⟩, false) := if_neg fun e => by rw [h] at e; cases e.1
theorem bagJ_no2 {a b : Bag} (h : bagM b = false) : bagJ a b = (⟨[]⟩, false) := if_neg fun e => by rw [h] at e; cases e.2.1
theorem bagJ_no3 {a b : Bag} (h : bagM ⟨putsI a.items b.items⟩ = false) : bagJ a b = (⟨[]⟩, false) := if_neg fun e => by rw [h] at e; cases e.2.2
theorem bagJ_yes {a b : Bag} (h1 : bagM a = true) (h2 : bagM b = true) (h3 : bagM ⟨putsI a.items b.items⟩ = true) : bagJ a b = (⟨putsI a.items b.items⟩, true) := if_pos ⟨h1, h2, h3⟩
theorem bag_inv {a : Bag} (h : bagM a = true) : InvT a.items ∧ a.items.length ≤ 300 ∧ ∀ p ∈ a.items, tOk p := by
 obtain ⟨ys⟩ := a
 obtain ⟨h1, w, h2⟩ := bagM_iff.1 h
 exact ⟨h2.inv, h1, fun p hp => (bw_items h2 p hp).1⟩
theorem wide_no {a b : List Item} (ia : InvT a) (tb : ∀ p ∈ b, tOk p) (h1 : 0 < a.length) {p : Item} (hp : p ∈ b) (hne : ¬ (rowI a 0).length = p.row.length) : bagM ⟨putsI a b⟩ = false := by
 rw [← Bool.not_eq_true]
 intro h
 obtain ⟨_, w, hw⟩ := bagM_iff.1 h
 have m1 : rowI a 0 ∈ rowsI (putsI a b) := (putsI_mem ia tb).2 (.inr (mem_rowsI.2 ⟨0, h1, rfl⟩))
 have m2 : p.row ∈ rowsI (putsI a b) := (putsI_mem ia tb).2 (.inl (List.mem_map.2 ⟨p, hp, rfl⟩))
 exact hne ((hw.rows _ m1).2.trans (hw.rows _ m2).2.symm)
theorem putsI_two (a b : List Item) (i : Nat) : putsI (putsI a (b.take i)) (b.drop i) = putsI a b := by
 unfold putsI; rw [← List.foldl_append, List.take_append_drop]
theorem bagJ_step {a b : List Item} (ha : bagM ⟨a⟩ = true) (hb : bagM ⟨b⟩ = true) {i k : Nat} (hi : i < b.length) (hx : bagM ⟨putsI a (b.take i)⟩ = true)
  (hk : rowM (b[i]?.getD default).row = true ∧ (0 < (putsI a (b.take i)).length → (rowI (putsI a (b.take i)) 0).length = (b[i]?.getD default).row.length) → atR (putsI a (b.take i)) (b[i]?.getD default).row k) :
  (putB (putsI a (b.take i)) (b[i]?.getD default).row (b[i]?.getD default).times k = (putsI a (b.take (i + 1)), true) ∧ bagM ⟨putsI a (b.take (i + 1))⟩ = true) ∨ ((putB (putsI a (b.take i)) (b[i]?.getD default).row (b[i]?.getD default).times k).2 = false ∧ bagM ⟨putsI a b⟩ = false) := by
 obtain ⟨ia, _, _⟩ := bag_inv ha
 obtain ⟨_, _, tb⟩ := bag_inv hb
 obtain ⟨hl, w, hw⟩ := bagM_iff.1 hx
 obtain ⟨_, wb, hwb⟩ := bagM_iff.1 hb
 have ep : b[i]?.getD default = b[i] := by rw [List.getElem?_eq_getElem hi]; rfl
 have hm : b[i]?.getD default ∈ b := by rw [ep]; exact List.getElem_mem hi
 have hmd : b[i]?.getD default ∈ b.drop i := by
  rw [ep, List.mem_drop_iff_getElem]
  exact ⟨0, by omega, by simp⟩
 have hp := bw_items hwb _ hm
 rw [putsI_take hi]
 generalize hxs : putsI a (b.take i) = xs at *
 generalize e2 : b[i]?.getD default = p at *
 by_cases hh : 0 < xs.length → (rowI xs 0).length = p.row.length
 ·have hw2 : BW p.row.length xs := ⟨hw.inv, fun r hr => by
   obtain ⟨j, hj, rfl⟩ := mem_rowsI.1 hr
   have h1 := hw.rows _ hr
   have h2 := hw.rows _ (mem_rowsI.2 ⟨0, by omega, rfl⟩)
   exact ⟨h1.1, by rw [h1.2, ← h2.2, hh (by omega)]⟩⟩
  have hp2 : pOk p.row.length p := ⟨hp.1, hp.2.1, rfl⟩
  rw [putB_put hw2 hl hp2 (hk ⟨hp.2.1, hh⟩)]
  by_cases h3 : (putI xs p).length ≤ 300
  ·rw [if_pos h3]
   exact .inl ⟨rfl, bagM_iff.2 ⟨h3, _, putI_bw hw2 hp2⟩⟩
  rw [if_neg h3]
  refine .inr ⟨rfl, ?_⟩
  rw [← Bool.not_eq_true]
  intro h4
  have h5 := putsI_mono (ys := a) (ps := b) ia tb (i + 1)
  rw [putsI_take hi, hxs] at h5
  have h6 := (bagM_iff.1 h4).1
  rw [e2] at h5
  omega
 have h0 : 0 < xs.length := Classical.byContradiction fun h => hh fun h1 => absurd h1 h
 have hne : ¬ (rowI xs 0).length = p.row.length := fun h => hh fun _ => h
 rw [putB_bad h0 hne]
 refine .inr ⟨rfl, ?_⟩
 rw [← putsI_two a b i, hxs]
 exact wide_no hw.inv (fun q hq => tb q (List.mem_of_mem_drop hq)) h0 hmd hne
end
end Go.Proofs.YtjgehblllhkdbaaGreat
