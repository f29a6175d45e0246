/-
 Parts of the law, put together. Conditions: none.
-/
import Derived.Test.YtjgehblllhkdbaaGreatZe6
set_option maxHeartbeats 32000000
set_option linter.unusedSimpArgs false
set_option linter.unusedVariables false
namespace Go.Proofs.YtjgehblllhkdbaaGreat
open Go.SX Go.Proofs
open Tryz
section
attribute [local irreducible] IntKind.wrap namesM queryM nfaOf
theorem tw_no4 {a : Nfa} {at' : Int} {w : Walk} (hN : (a.ends.length : Int) = a.states) (h : inR 0 (a.states - 1) w.state = false) : takeW a at' w = false := by unfold takeW; rw [hN, h]; simp
theorem tw_yes5 {a : Nfa} {at' : Int} {w : Walk} (hN : (a.ends.length : Int) = a.states) (h : w.atom = at') (h1 : inR 0 (a.states - 1) w.state = true) (h2 : (a.ends[w.state.toNat]?.getD false) = true) : takeW a at' w = true := by
 unfold takeW; rw [decide_eq_true h, hN, h1, h2]; rfl
theorem zp_no {a : Nfa} {at' : Int} {ws : List Walk} {k : Nat} {xs : List Item} (hk : k < ws.length) (h : takeW a at' (ws[k]?.getD default) = false) (hx : xs = zK (pickW a at' (ws.take k))) : xs = zK (pickW a at' (ws.take (k + 1))) := by rw [pick_no hk h]; exact hx
theorem zp_yes {a : Nfa} {at' : Int} {ws : List Walk} {k : Nat} {xs : List Item} (hk : k < ws.length) (h : takeW a at' (ws[k]?.getD default) = true) (hx : xs = zK (pickW a at' (ws.take k))) : putZ xs [(ws[k]?.getD default).src, (ws[k]?.getD default).at'] 1 (plR xs [(ws[k]?.getD default).src, (ws[k]?.getD default).at']) = zK (pickW a at' (ws.take (k + 1))) := by
 rw [pick_yes hk h, zK_snoc, ← hx]; rfl
abbrev gR1 : Gt (RawC gIL.size) := gRaw gIL.size gIL.pos
theorem raw_app1 {l : List Value} (h : l.length = gIL.size ∧ allOne l = true) : gR1.ow l ⟨l, h⟩ [] := ⟨rfl, trivial, rfl⟩
def rawR (ls : List (RawC gItem.size)) : List (RawC gIL.size) := ls.map fun c => ⟨[c.1[0]?.getD (Value.bool false)], rfl, by
 have h := c.2
 obtain ⟨l, h1, h2⟩ := c
 match l, h1 with
 | [x, y], _ =>
  show allOne [x] = true
  cases x <;> simp_all [allOne]⟩
theorem rawR_len (ls : List (RawC gItem.size)) : (rawR ls).length = ls.length := by unfold rawR; exact List.length_map ..
theorem rawR_at {ls : List (RawC gItem.size)} {i : Nat} (hi : i < ls.length) {u : Value} {t : Value} (e : (ls[i]'hi).1 = [u, t]) (h : [u].length = gIL.size ∧ allOne [u] = true) : (rawR ls)[i]? = some ⟨[u], h⟩ := by
 unfold rawR
 rw [List.getElem?_map, List.getElem?_eq_getElem hi, Option.map_some]
 congr 1
 apply Subtype.ext
 show [((ls[i]'hi).1)[0]?.getD (Value.bool false)] = [u]
 rw [e]; rfl
theorem zrow_at {ls : List (RawC gItem.size)} {xs : List Item} {As : List Hp} (hL : OwL gItem ls xs As) (i : Nat) (hi : i < xs.length) : ∃ u w, ((ls.zip xs)[i]?.getD default).1.1 = [.slice u (xs[i]?.getD default).row.length w, .int .i64 (xs[i]?.getD default).times] ∧ (rawR ls)[i]? = some ⟨[.slice u (xs[i]?.getD default).row.length w], rfl, rfl⟩ := by
 obtain ⟨e1, e2⟩ := hL.len
 have hg := hL.get i hi (by omega) (by omega)
 obtain ⟨u, w, A0, h1, _, _⟩ := gItem_ow.1 hg
 refine ⟨u, w, ?_, ?_⟩
 ·rw [zip_at2 e1 i hi, List.getElem?_eq_getElem hi]; exact h1
 rw [List.getElem?_eq_getElem hi]; exact rawR_at (by omega) h1 _
theorem raw_step {ls : List (RawC gItem.size)} {i : Nat} {r : RawC gIL.size} (h : (rawR ls)[i]? = some r) : (rawR ls).take (i + 1) = (rawR ls).take i ++ [r] := by
 obtain ⟨hi, e⟩ := List.getElem?_eq_some_iff.1 h
 rw [← List.take_append_getElem hi, e]
theorem rows_ow {ls : List (RawC gItem.size)} {xs : List Item} {As : List Hp} (h : OwL gItem ls xs As) : OwL gIL (rawR ls) (rowsI xs) As := by
 induction h with
 | nil => exact .nil
 | cons h hr ih =>
  obtain ⟨u, w, A0, h1, h2, h3, _⟩ := gItem_ow.1 h
  refine .cons ?_ ih
  show gIL.ow [(_)[0]?.getD (Value.bool false)] _ _
  rw [h1]
  exact gIL.owp h3 h2
open Classical in
theorem rle_items {X D A A7 Y H A0 Z : Hp} (hp : A.Perm (A0 ++ Z)) : RLe [X, D, A, A7, Y, H] [D ++ Z, H] := .le fun a => by
 have h9 := hp.count_eq a
 simp only [List.flatten_cons, List.flatten_nil, List.count_append, List.append_nil] at *
 omega
attribute [local irreducible] putZ rawR
theorem specPairsIn_ct (l : List Value) (b : Option Addr) (m c : Nat) (x : Query) (ws : List Walk) (at' : Int) (hx : gQuery.sz x ≤ 1048576) (hws : ws.length ≤ 1048576) :
  Ct prog 92 [.agg ⟨l⟩, .slice b m c, .int .i64 at'] [] (fun H => gQuery.rd H l x ∧ (gSl 164 gWalk).rd H [.slice b m c] ws)
   (fun v A => ∃ b c, v = .slice b (pairsM x ws at').length c ∧ (gSl 27 (gSl 3 gI)).ow [.slice b (pairsM x ws at').length c] (pairsM x ws at') A) := by
 refine Ct.intro0 G_ok func92 rfl rfl rfl fun E H hp => ?_
 obtain ⟨hp, hq⟩ := hp
 obtain ⟨rfl, hcl, hl⟩ := sl_len hq
 obtain ⟨b1p, c1p, b2p, c2p, b3p, c3p, rfl, h1p, h2p, h3p⟩ := gQuery_rd.1 hp
 have hal := atoms_len hx
 have hwA : IntKind.i64.wrap ((x.atoms.length : Int) - 1) = (x.atoms.length : Int) - 1 := wrap_of (by omega) (by omega)
 refine ⟨fun x0 => ?_⟩
 refine ⟨fun x1 => ?_⟩
 refine ⟨fun x2 => ?_⟩
 refine call_val (specQueryOk_ct _ (x) ?_) (Rp.mono _ (mem_at 1 rfl) hp) ?_
 ·trivial
 rintro _ rfl
 refine ⟨fun q4 => ?_, fun q4 => ?_⟩
 ·simp at q4
  (rw [pairs_no1 (by assumption)]; exact ⟨[], ⟨_, _, rfl, sl_nil _ _ _⟩, .mem (by simp)⟩)
 ·simp at q4
  refine call_val (l01In_ct _ _ _) trivial ?_
  rintro _ rfl
  refine ⟨fun q6 => ?_, fun q6 => ?_⟩
  ·simp at q6
   simp (disch := omega) only [wrap_of] at q6
   (rw [pairs_no2 (by assumption)]; exact ⟨[], ⟨_, _, rfl, sl_nil _ _ _⟩, .mem (by simp)⟩)
  ·simp at q6
   simp (disch := omega) only [wrap_of] at q6
   have hai := inR_iff.1 ‹inR 0 _ at' = true›
   obtain ⟨hNe, hN1, hN2⟩ := nfa_ends (nfas_ok ‹queryM x = true› (k := at'.toNat) (by omega))
   have hwS : IntKind.i64.wrap (((nfasM x.atoms)[at'.toNat]?.getD default).states - 1) = ((nfasM x.atoms)[at'.toNat]?.getD default).states - 1 := wrap_of (by omega) (by omega)
   refine call_new (l20Nfas_ct _ (x) ?_) (Rp.mono _ (mem_at 1 rfl) hp) ?_
   ·trivial
   rintro v7 A7 o7
   obtain ⟨b7, c7, rfl, o7⟩ := o7
   refine idx_rd (Gt.owrd _ o7) ?_ ?_ fun b8 o8 hb8 => ?_
   ·omega
   ·(rw [nfas_len]; omega)
   refine load_all default (Gt.owrd _ o7) ?_ ?_ hb8 rfl (mem_at 0 rfl) fun l9 hl9 => ?_
   ·omega
   ·(rw [nfas_len]; omega)
   obtain ⟨b1x9, c1x9, b2x9, c2x9, rfl, w0x9, h1x9, h2x9⟩ := gNfa_rd.1 hl9
   refine ⟨fun x10 => ?_⟩
   apply loop_mod (α := (Nat) × (List Item) × (Hp) × (Option Addr) × (Nat)) G_ok [33, 34, 35, 36, 39, 40, 41, 42, 11, 43, 44, 45, 46, 47, 48, 49, 50, 51, 52, 53, 54, 55, 56, 57, 58, 59, 60, 61, 62, 63, 64, 65, 66, 67, 68, 69, 37, 38, 10] (fun z => [(10, .v (.int .i64 z.1))]) (fun z => [⟨x0, [Value.bool x.each, Value.slice b1p x.out.length c1p, Value.slice b2p x.atoms.length c2p, Value.slice b3p x.filters.length c3p], (39 : Nat)⟩, ⟨x1, [.slice z.2.2.2.1 z.2.1.length z.2.2.2.2], (33 : Nat)⟩, ⟨x10, [Value.int IntKind.i64 ((nfasM x.atoms)[at'.toNat]?.getD default).states, Value.slice b1x9 ((nfasM x.atoms)[at'.toNat]?.getD default).arcs.length c1x9, Value.slice b2x9 ((nfasM x.atoms)[at'.toNat]?.getD default).ends.length c2x9], (169 : Nat)⟩]) (fun z => [z.2.2.1, A7, [(x2, Obj.cells { toList := zeros (0 : Nat) [Value.slice none (0 : Nat) (0 : Nat)] } (27 : TypeId))], H]) (fun z => ws.length - z.1) (fun z => z.1 ≤ ws.length ∧ z.2.1 = zK (pickW ((nfasM x.atoms)[at'.toNat]?.getD default) at' (ws.take z.1)) ∧ (gSl 218 gItem).ow [.slice z.2.2.2.1 z.2.1.length z.2.2.2.2] z.2.1 z.2.2.1) ((0, [], [], none, 0))
   ·repeat' (first | exact trivial | refine ⟨⟨_, rfl, by first | rfl | exact inc_eq _ (by omega) | (refine sl_eq ?_; simp; done) | exact sl_eq (by rw [raw_step hri, List.length_append, List.length_append]; rfl), by first | exact trivial | simp [SV.ok]⟩, ?_⟩)
   ·exact ⟨rfl, rfl, rfl, trivial⟩
   ·try dsimp only
    exact ⟨Nat.zero_le _, rfl, sl_nil _ _ _⟩
   ·exact .refl _
   rintro ⟨k, xs, A, lb, lc⟩ hI
   try dsimp only at hI
   obtain ⟨hk, hxs, oA⟩ := hI
   try dsimp only
   refine ⟨fun q11 => ?_, fun q11 => ?_⟩
   ·simp at q11
    have hxl : xs.length ≤ ws.length := (by rw [hxs]; exact Nat.le_trans (zK_len _) (Nat.le_trans (pick_len _ _ _) (by rw [List.length_take]; omega)))
    have hxi : InvT xs := hxs ▸ zK_inv _
    refine idx_rd hq ?_ ?_ fun b12 o12 hb12 => ?_
    ·omega
    ·omega
    refine load_allN default (k) rfl hq ?_ ?_ hb12 rfl (mem_at 3 rfl) fun l13 hl13 => ?_
    ·omega
    ·omega
    obtain ⟨rfl, w0x13, w1x13, w2x13, w3x13⟩ := gWalk_rd.1 hl13
    refine ⟨fun x14 => ?_⟩
    refine ⟨fun q15 => ?_, fun q15 => ?_⟩
    ·simp at q15
     refine call_val (l01In_ct _ _ _) trivial ?_
     rintro _ rfl
     refine ⟨fun q17 => ?_, fun q17 => ?_⟩
     ·simp (disch := omega) only [wrap_of] at q17
      refine idx_rd h2x9 ?_ ?_ fun b18 o18 hb18 => ?_
      ·(have h9 := inR_iff.1 ‹inR 0 _ (ws[k]?.getD default).state = true›; omega)
      ·(have h9 := inR_iff.1 ‹inR 0 _ (ws[k]?.getD default).state = true›; omega)
      refine load_all false h2x9 ?_ ?_ hb18 rfl (mem_at 1 rfl) fun l19 hl19 => ?_
      ·(have h9 := inR_iff.1 ‹inR 0 _ (ws[k]?.getD default).state = true›; omega)
      ·(have h9 := inR_iff.1 ‹inR 0 _ (ws[k]?.getD default).state = true›; omega)
      obtain ⟨rfl, hw19⟩ := hl19
      refine ⟨fun q20 => ?_, fun q20 => ?_⟩
      ·refine ⟨fun x21 => ?_⟩
       refine callR_part (A) [[(x21, Obj.cells { toList := Value.int IntKind.i64 (ws[k]?.getD default).src :: Value.int IntKind.i64 (ws[k]?.getD default).at' :: [].append (zeros (nat_lit 0) [Value.int IntKind.i64 (0 : Int)]) } (3 : TypeId))], A7, [(x2, Obj.cells { toList := zeros (0 : Nat) [Value.slice none (0 : Nat) (0 : Nat)] } (27 : TypeId))], H] (l03Put_ct _ _ _ _ _ _ xs _ [(ws[k]?.getD default).src, (ws[k]?.getD default).at'] 1 (plR xs [(ws[k]?.getD default).src, (ws[k]?.getD default).at']) oA ?_ ?_ ?_ ?_ ?_) ?_ (Rp.mono _ (mem_at 0 rfl) (Ow.rd (Ow.lit (f := flInt) (T := (3 : TypeId)) (b := x21) (xs := [(ws[k]?.getD default).src, (ws[k]?.getD default).at']) (by first | (simp [flInt, okI]; done) | (simp only [List.forall_mem_cons]; simp_all [flInt, okI])) (by simp)))) ?_
       ·omega
       ·simp_all
       ·trivial
       ·exact hxi.2
       ·exact plR_at hxi.1
       ·exact rlA
       rintro _ A22 ⟨b22, c22, rfl, o22⟩
       refine ⟨[A22], by simp, ?_⟩
       apply loop_stepA (k + 1, _, _, _, _)
       ·exact .sub (by repeat (first | exact .slnil | apply List.Sublist.cons_cons | apply List.Sublist.cons))
       ·repeat' (first | exact trivial | refine ⟨⟨_, rfl, by first | rfl | exact inc_eq _ (by omega) | (refine sl_eq ?_; simp; done) | exact sl_eq (by rw [raw_step hri, List.length_append, List.length_append]; rfl), by first | exact trivial | simp [SV.ok]⟩, ?_⟩)
       ·exact ⟨rfl, rfl, rfl, trivial⟩
       ·try dsimp only
        exact ⟨by omega, zp_yes (by omega) (tw_yes5 hNe (by assumption) (by assumption) (by assumption)) hxs, by assumption⟩
       try dsimp only
       omega
      ·apply loop_stepA (k + 1, xs, A, lb, lc)
       ·exact .refl _
       ·repeat' (first | exact trivial | refine ⟨⟨_, rfl, by first | rfl | exact inc_eq _ (by omega) | (refine sl_eq ?_; simp; done) | exact sl_eq (by rw [raw_step hri, List.length_append, List.length_append]; rfl), by first | exact trivial | simp [SV.ok]⟩, ?_⟩)
       ·exact ⟨rfl, rfl, rfl, trivial⟩
       ·try dsimp only
        exact ⟨by omega, zp_no (by omega) (tw_no3 (by assumption)) hxs, oA⟩
       try dsimp only
       omega
     ·simp (disch := omega) only [wrap_of] at q17
      apply loop_stepA (k + 1, xs, A, lb, lc)
      ·exact .refl _
      ·repeat' (first | exact trivial | refine ⟨⟨_, rfl, by first | rfl | exact inc_eq _ (by omega) | (refine sl_eq ?_; simp; done) | exact sl_eq (by rw [raw_step hri, List.length_append, List.length_append]; rfl), by first | exact trivial | simp [SV.ok]⟩, ?_⟩)
      ·exact ⟨rfl, rfl, rfl, trivial⟩
      ·try dsimp only
       exact ⟨by omega, zp_no (by omega) (tw_no4 hNe (by assumption)) hxs, oA⟩
      try dsimp only
      omega
    ·simp at q15
     apply loop_stepA (k + 1, xs, A, lb, lc)
     ·exact .refl _
     ·repeat' (first | exact trivial | refine ⟨⟨_, rfl, by first | rfl | exact inc_eq _ (by omega) | (refine sl_eq ?_; simp; done) | exact sl_eq (by rw [raw_step hri, List.length_append, List.length_append]; rfl), by first | exact trivial | simp [SV.ok]⟩, ?_⟩)
     ·exact ⟨rfl, rfl, rfl, trivial⟩
     ·try dsimp only
      exact ⟨by omega, zp_no (by omega) (tw_no1 (by assumption)) hxs, oA⟩
     try dsimp only
     omega
   ·simp at q11
    have hke : k = ws.length := (by omega)
    subst hke
    rw [List.take_length] at hxs
    have hxl : xs.length ≤ ws.length := (by rw [hxs]; exact Nat.le_trans (zK_len _) (pick_len _ _ _))
    obtain ⟨v9, ls, A0, As, ev9, hoB, hpB, hLB⟩ := oA
    cases ev9
    have rz := zip_rd hoB hpB hLB
    have hls := hLB.len
    apply loop_mod (α := (Nat) × (Hp) × (Option Addr) × (Nat)) G_ok [70, 71, 72, 73, 74, 77, 78, 79, 80, 81, 82, 83, 84, 85, 8, 75, 76, 12] (fun z => [(12, .v (.int .i64 z.1)), (8, .v (.slice z.2.2.1 ((rawR ls).take z.1).length z.2.2.2))]) (fun z => [{ id := x0, cs := [Value.bool x.each, Value.slice b1p x.out.length c1p, Value.slice b2p x.atoms.length c2p, Value.slice b3p x.filters.length c3p], ty := (39 : Nat) }, { id := x1, cs := [Value.slice lb xs.length lc], ty := (33 : Nat) }, { id := x10, cs := [Value.int IntKind.i64 ((nfasM x.atoms)[at'.toNat]?.getD default).states, Value.slice b1x9 ((nfasM x.atoms)[at'.toNat]?.getD default).arcs.length c1x9, Value.slice b2x9 ((nfasM x.atoms)[at'.toNat]?.getD default).ends.length c2x9], ty := (169 : Nat) }]) (fun z => [z.2.1, A, A7, [(x2, Obj.cells { toList := zeros (0 : Nat) [Value.slice none (0 : Nat) (0 : Nat)] } (27 : TypeId))], H]) (fun z => xs.length - z.1) (fun z => z.1 ≤ xs.length ∧ (gSl 27 gR1).ow [.slice z.2.2.1 ((rawR ls).take z.1).length z.2.2.2] ((rawR ls).take z.1) z.2.1) ((0, [], _, 0))
    ·repeat' (first | exact trivial | refine ⟨⟨_, rfl, by first | rfl | exact inc_eq _ (by omega) | (refine sl_eq ?_; simp; done) | exact sl_eq (by rw [raw_step hri, List.length_append, List.length_append]; rfl), by first | exact trivial | simp [SV.ok]⟩, ?_⟩)
    ·exact ⟨rfl, rfl, rfl, trivial⟩
    ·try dsimp only
     exact ⟨Nat.zero_le _, sl_nil _ _ _⟩
    ·exact .refl _
    rintro ⟨i, D, lo, co⟩ hI
    try dsimp only at hI
    obtain ⟨hi, oD⟩ := hI
    try dsimp only
    refine ⟨fun q23 => ?_, fun q23 => ?_⟩
    ·simp at q23
     obtain ⟨ur, wr, hzi, hri⟩ := zrow_at hLB i (by omega)
     refine idx_rd rz ?_ ?_ fun b24 o24 hb24 => ?_
     ·omega
     ·simp; omega
     refine load_partN default (i) 0 rfl rz ?_ ?_ hb24 rfl (by decide) (mem_at 1 rfl) fun l25 hl25 => ?_
     ·omega
     ·simp; omega
     (obtain ⟨e25, _⟩ := hl25; rw [e25, hzi])
     refine ⟨fun x26 => ?_⟩
     refine gappend1 (g := gR1) (T := (27 : TypeId)) G_ok D [] [A, A7, [(x2, Obj.cells { toList := zeros (0 : Nat) [Value.slice none (0 : Nat) (0 : Nat)] } (27 : TypeId))], H] ?_ oD (raw_app1 ⟨rfl, rfl⟩) (List.mem_of_getElem? (i := 0) rfl) rfl rfl rfl rfl rfl rfl rfl rfl ?_ fun b27 c27 A27 o27 => ?_
     ·exact .tl
     ·simp; omega
     apply loop_stepA (i + 1, _, _, _)
     ·exact .refl _
     ·repeat' (first | exact trivial | refine ⟨⟨_, rfl, by first | rfl | exact inc_eq _ (by omega) | (refine sl_eq ?_; simp; done) | exact sl_eq (by rw [raw_step hri, List.length_append, List.length_append]; rfl), by first | exact trivial | simp [SV.ok]⟩, ?_⟩)
     ·exact ⟨rfl, rfl, rfl, trivial⟩
     ·try dsimp only
      exact ⟨by omega, by rw [raw_step hri]; assumption⟩
     try dsimp only
     omega
    ·simp at q23
     (have hie : i = xs.length := (by omega); subst hie; have hrl : (rawR ls).take xs.length = rawR ls := List.take_of_length_le (by rw [rawR_len]; omega); rw [hrl] at oD ⊢; rw [pairs_yes (by assumption) (by assumption), ← hxs]; have hln : (rawR ls).length = (rowsI xs).length := (by rw [rawR_len, rowsI_len]; omega); rw [hln] at oD ⊢; exact ⟨D ++ As.flatten, ⟨_, _, rfl, ⟨_, rawR ls, D, As, rfl, fl_ow oD, .refl _, rows_ow hLB⟩⟩, rle_items hpB⟩)
end
section
attribute [local irreducible] IntKind.wrap relAt
theorem pairsR_two {n : Nat} {R : Nat → Nat → Prop} {r : List Int} (h : r ∈ pairsR n R) : ∃ a b : Int, r = [a, b] := by
 unfold pairsR at h
 obtain ⟨u, _, h2⟩ := List.mem_flatMap.1 h
 obtain ⟨w, _, rfl⟩ := List.mem_map.1 h2
 exact ⟨_, _, rfl⟩
theorem endsR_len (n : Nat) (R : Nat → Nat → Prop) (u : Nat) : (endsR n R u).length ≤ n := by
 unfold endsR; rw [List.length_map]; exact Nat.le_trans (List.length_filter_le _ _) (by simp)
theorem flat_len {k : Nat} (f : Nat → List (List Int)) (h : ∀ u, (f u).length ≤ k) : ∀ m : Nat, ((List.range m).flatMap f).length ≤ k * m
 | 0 => by simp
 | m + 1 => by
  have h1 := flat_len f h m
  have h2 := h m
  rw [List.range_succ, List.flatMap_append, List.length_append, Nat.mul_add]
  simp only [List.flatMap_cons, List.flatMap_nil, List.append_nil]
  omega
theorem pairsR_len {n : Nat} (hn : n ≤ 12) (R : Nat → Nat → Prop) : (pairsR n R).length ≤ 144 := by
 have h1 := flat_len (k := n) (fun u => (endsR n R u).map fun w => [((u : Nat) : Int), w]) (fun u => by rw [List.length_map]; exact endsR_len n R u) n
 have h2 : n * n ≤ 12 * 12 := Nat.mul_le_mul hn hn
 unfold pairsR
 omega
def ownT (n w : Int) (r : List Int) : Bool := decide (ownerOf (r[1]?.getD 0) n = w)
noncomputable def truesM (g : Graph) (q : Query) (at' w n : Int) : List (List Int) :=
 if graphOk g = true ∧ queryM q = true ∧ inR 0 ((q.atoms.length : Int) - 1) at' = true then
  (pairsR g.size.toNat (relAt g.edges g.size.toNat (rpPath (q.atoms[at'.toNat]?.getD default).path).pieces ((rpPath (q.atoms[at'.toNat]?.getD default).path).pieces.length - 1))).filter (ownT n w)
 else []
theorem trues_no1 {g : Graph} {q : Query} {at' w n : Int} (h : graphOk g = false) : truesM g q at' w n = [] := if_neg fun e => by rw [h] at e; cases e.1
theorem trues_no2 {g : Graph} {q : Query} {at' w n : Int} (h : queryM q = false) : truesM g q at' w n = [] := if_neg fun e => by rw [h] at e; cases e.2.1
theorem trues_no3 {g : Graph} {q : Query} {at' w n : Int} (h : inR 0 ((q.atoms.length : Int) - 1) at' = false) : truesM g q at' w n = [] := if_neg fun e => by rw [h] at e; cases e.2.2
theorem trues_yes {g : Graph} {q : Query} {at' w n : Int} (h1 : graphOk g = true) (h2 : queryM q = true) (h3 : inR 0 ((q.atoms.length : Int) - 1) at' = true) : truesM g q at' w n = (pairsR g.size.toNat (relAt g.edges g.size.toNat (rpPath (q.atoms[at'.toNat]?.getD default).path).pieces ((rpPath (q.atoms[at'.toNat]?.getD default).path).pieces.length - 1))).filter (ownT n w) := if_pos ⟨h1, h2, h3⟩
theorem q_path {x : Query} (h : queryM x = true) {k : Nat} (hk : k < x.atoms.length) : pathOk (rpPath (x.atoms[k]?.getD default).path) = true := by
 have h1 := q_atoms h hk
 unfold atomM at h1
 rw [Bool.and_eq_true, Bool.and_eq_true] at h1
 have h2 := h1.2.2
 unfold tnR at h2
 split at h2
 ·unfold nfaR at h2
  split at h2
  ·rename_i h3; exact h3.1
  cases h2
 cases h2
theorem zrowT {ls : List (RawC gIL.size)} {xs : List (List Int)} {As : List Hp} {W A0 : Hp} (hp : W.Perm (A0 ++ As.flatten)) (hL : OwL gIL ls xs As) (i : Nat) (hi : i < xs.length) : ∃ u w, ((ls.zip xs)[i]?.getD default).1.1 = [.slice u (xs[i]?.getD []).length w] ∧ ls[i]? = some ⟨[.slice u (xs[i]?.getD []).length w], rfl, rfl⟩ ∧ (gSl 3 gI).rd W [.slice u (xs[i]?.getD []).length w] (xs[i]?.getD []) := by
 obtain ⟨e1, e2⟩ := hL.len
 have hg := hL.get i hi (by omega) (by omega)
 have hg0 := hg
 obtain ⟨v, l1, B0, As1, ev, ho, hp1, hl⟩ := hg0
 obtain ⟨base, cap, e, _, _⟩ := ho.rd
 have e3 := hl.len.1
 have e4 : (ls[i]'(by omega)).1 = [.slice base (xs[i]?.getD []).length cap] := by
  rw [List.getElem?_eq_getElem hi, Option.getD_some, ← e3, ev]; exact e
 refine ⟨base, cap, ?_, ?_, ?_⟩
 ·have h1 : i < (ls.zip xs).length := by rw [List.length_zip]; omega
  rw [List.getElem?_eq_getElem h1, Option.getD_some, List.getElem_zip]; exact e4
 ·rw [List.getElem?_eq_getElem (by omega)]; congr 1; exact Subtype.ext e4
 rw [← e4]
 have h2 : xs[i]?.getD [] = xs[i] := by rw [List.getElem?_eq_getElem hi]; rfl
 rw [h2]
 refine gIL.mono (fun p hp' => hp.mem_iff.2 (List.mem_append_right _ ?_)) (gIL.owrd hg)
 exact List.mem_flatten.2 ⟨_, List.getElem_mem _, hp'⟩
theorem pickT_yes {p : List Int → Bool} {ls : List (RawC gIL.size)} {xs : List (List Int)} {k : Nat} {r : RawC gIL.size} (h : ls[k]? = some r) (hk : k < xs.length) (hp : p (xs[k]?.getD []) = true) : pickL p (ls.take (k + 1)) (xs.take (k + 1)) = pickL p (ls.take k) (xs.take k) ++ [r] := by
 obtain ⟨h1, _⟩ := List.getElem?_eq_some_iff.1 h
 rw [pickL_take (zRaw _) [] h1 hk, if_pos hp, h]; rfl
theorem pickT_no {p : List Int → Bool} {ls : List (RawC gIL.size)} {xs : List (List Int)} {k : Nat} (h1 : k < ls.length) (hk : k < xs.length) (hp : p (xs[k]?.getD []) = false) : pickL p (ls.take (k + 1)) (xs.take (k + 1)) = pickL p (ls.take k) (xs.take k) := by
 rw [pickL_take (zRaw _) [] h1 hk, if_neg (by rw [hp]; simp), List.append_nil]
theorem own_yes {n w : Int} {r : List Int} (h : ownerOf (r[1]?.getD 0) n = w) : ownT n w r = true := decide_eq_true h
theorem own_no {n w : Int} {r : List Int} (h : ¬ ownerOf (r[1]?.getD 0) n = w) : ownT n w r = false := decide_eq_false h
open Classical in
theorem rle_pickT {p : List Int → Bool} {D A A0 H : Hp} {X : List Hp} {As : List Hp} {xs : List (List Int)} (hp : A.Perm (A0 ++ As.flatten)) (hX : ∀ a, (D ++ A ++ H).count a ≤ X.flatten.count a) : RLe X [D ++ (pickL p As xs).flatten, H] := .le fun a => by
 obtain ⟨L, hL⟩ := pick_two (p := p) (q := fun _ => false) (fun _ _ => rfl) As xs
 have h1 := hp.count_eq a
 have h2 := hL.count_eq a
 have h3 := hX a
 simp only [List.flatten_cons, List.flatten_nil, List.append_nil, List.count_append] at h1 h2 h3 ⊢
 omega
theorem implTruePairs_ct (lg lq : List Value) (g : Graph) (x : Query) (at' w n : Int) (hx : gQuery.sz x ≤ 1048576) :
  Ct prog 124 [.agg ⟨lg⟩, .agg ⟨lq⟩, .int .i64 at', .int .i64 w, .int .i64 n] [] (fun H => gGraph.rd H lg g ∧ gQuery.rd H lq x)
   (fun v D => ∃ b c, v = .slice b (truesM g x at' w n).length c ∧ (gSl 27 (gSl 3 gI)).ow [.slice b (truesM g x at' w n).length c] (truesM g x at' w n) D) := by
 refine Ct.intro0 G_ok func124 rfl rfl rfl fun E H hp => ?_
 obtain ⟨hp, hq⟩ := hp
 obtain ⟨b1p, c1p, rfl, w0p, h1p⟩ := gGraph_rd.1 hp
 obtain ⟨b1r, c1r, b2r, c2r, b3r, c3r, rfl, h1r, h2r, h3r⟩ := gQuery_rd.1 hq
 have hal := atoms_len hx
 have hwA : IntKind.i64.wrap ((x.atoms.length : Int) - 1) = (x.atoms.length : Int) - 1 := wrap_of (by omega) (by omega)
 refine ⟨fun x0 => ?_⟩
 refine ⟨fun x1 => ?_⟩
 refine call_val (implGraphOk_ct _ (g)) (Rp.mono _ (mem_at 0 rfl) hp) ?_
 rintro _ rfl
 refine ⟨fun q3 => ?_, fun q3 => ?_⟩
 ·simp at q3
  (rw [trues_no1 (by assumption)]; exact ⟨[], ⟨_, _, rfl, sl_nil _ _ _⟩, .mem (by simp)⟩)
 ·simp at q3
  refine call_val (implQueryOk_ct _ (x) ?_) (Rp.mono _ (mem_at 0 rfl) hq) ?_
  ·trivial
  rintro _ rfl
  refine ⟨fun q5 => ?_, fun q5 => ?_⟩
  ·simp at q5
   (rw [trues_no2 (by assumption)]; exact ⟨[], ⟨_, _, rfl, sl_nil _ _ _⟩, .mem (by simp)⟩)
  ·simp at q5
   refine call_val (isAtomV_ct _ x _) (Rp.mono _ (mem_at 0 rfl) hq) ?_
   rintro _ rfl
   refine ⟨fun q7 => ?_, fun q7 => ?_⟩
   ·simp at q7
    (rw [trues_no3 (by assumption)]; exact ⟨[], ⟨_, _, rfl, sl_nil _ _ _⟩, .mem (by simp)⟩)
   ·simp at q7
    have hai := inR_iff.1 ‹inR 0 _ at' = true›
    have hpo := q_path ‹queryM x = true› (k := at'.toNat) (by omega)
    obtain ⟨hg1, hg2, hE⟩ := g_parts ‹graphOk g = true›
    refine idx_rd h2r ?_ ?_ fun b8 o8 hb8 => ?_
    ·omega
    ·omega
    refine load_part default 1 h2r ?_ ?_ hb8 rfl (by decide) (mem_at 0 rfl) fun l9 hl9 => ?_
    ·omega
    ·omega
    obtain ⟨rfl, w0x9, w1x9, w2x9⟩ := gAtom_rd.1 hl9
    refine call_new (implReadPath_ct _ ?_) trivial ?_
    ·exact Nat.le_trans (atoms_path hx (by omega)) (by decide)
    rintro v10 A10 o10
    obtain ⟨bR, cR, rfl, oR⟩ := o10
    refine ⟨fun x11 => ?_⟩
    refine call_new (implPathPairs_ct _ _ g (rpPath (x.atoms[at'.toNat]?.getD default).path) ‹graphOk g = true› hpo) ⟨(Rp.mono _ (mem_at 1 rfl) hp), gPath_rd.2 ⟨_, _, rfl, Rp.mono _ (sub_hall (by simp)) (Gt.owrd _ oR)⟩⟩ ?_
    rintro v12 A12 o12
    obtain ⟨bP, cP, rfl, oP⟩ := o12
    have hty := trues_yes (w := w) (n := n) ‹graphOk g = true› ‹queryM x = true› ‹inR 0 _ at' = true›
    have hxl := pairsR_len (n := g.size.toNat) (by omega) (relAt g.edges g.size.toNat (rpPath (x.atoms[at'.toNat]?.getD default).path).pieces ((rpPath (x.atoms[at'.toNat]?.getD default).path).pieces.length - 1))
    have hx2 := fun r => pairsR_two (n := g.size.toNat) (R := relAt g.edges g.size.toNat (rpPath (x.atoms[at'.toNat]?.getD default).path).pieces ((rpPath (x.atoms[at'.toNat]?.getD default).path).pieces.length - 1)) (r := r)
    generalize pairsR g.size.toNat (relAt g.edges g.size.toNat (rpPath (x.atoms[at'.toNat]?.getD default).path).pieces ((rpPath (x.atoms[at'.toNat]?.getD default).path).pieces.length - 1)) = xs at *
    obtain ⟨v9, ls, A0, As, ev9, hoB, hpB, hLB⟩ := oP
    cases ev9
    have rz := zip_rd hoB hpB hLB
    have hls := hLB.len
    apply loop_mod (α := (Nat) × (Hp) × (Option Addr) × (Nat)) G_ok [45, 46, 47, 15, 48, 49, 50, 51, 52, 53, 54, 55, 56, 57, 58, 13, 59, 44] (fun z => [(44, .v (.int .i64 z.1)), (13, .v (.slice z.2.2.1 (pickL (ownT n w) (ls.take z.1) (xs.take z.1)).length z.2.2.2))]) (fun z => [{ id := x0, cs := [Value.int IntKind.i64 g.size, Value.slice b1p g.edges.length c1p], ty := (88 : Nat) }, { id := x1, cs := [Value.bool x.each, Value.slice b1r x.out.length c1r, Value.slice b2r x.atoms.length c2r, Value.slice b3r x.filters.length c3r], ty := (39 : Nat) }, { id := x11, cs := [Value.slice bR (rpPath (x.atoms[at'.toNat]?.getD default).path).pieces.length cR], ty := (269 : Nat) }]) (fun z => [z.2.1, A12, A10, H]) (fun z => xs.length - z.1) (fun z => z.1 ≤ xs.length ∧ (gSl 27 gR1).ow [.slice z.2.2.1 (pickL (ownT n w) (ls.take z.1) (xs.take z.1)).length z.2.2.2] (pickL (ownT n w) (ls.take z.1) (xs.take z.1)) z.2.1) ((0, [], none, 0))
    ·repeat' (first | exact trivial | refine ⟨⟨_, rfl, by first | rfl | exact inc_eq _ (by omega) | (refine sl_eq ?_; simp; done) | exact sl_eq (by rw [pickT_yes hri (by omega) (own_yes (by assumption)), List.length_append, List.length_append]; rfl) | exact sl_eq (by rw [pickT_no (by omega) (by omega) (own_no (by assumption))]), by first | exact trivial | simp [SV.ok]⟩, ?_⟩)
    ·exact ⟨rfl, rfl, rfl, trivial⟩
    ·try dsimp only
     exact ⟨Nat.zero_le _, sl_nil _ _ _⟩
    ·exact .refl _
    rintro ⟨i, D, lo, co⟩ hI
    try dsimp only at hI
    obtain ⟨hi, oD⟩ := hI
    try dsimp only
    refine ⟨fun q13 => ?_, fun q13 => ?_⟩
    ·simp at q13
     obtain ⟨ur, wr, hzi, hri, hrd⟩ := zrowT hpB hLB i (by omega)
     obtain ⟨ea, eb, hrow⟩ := hx2 _ (mem_getD (d := []) (j := i) (by omega))
     have hrl : (xs[i]?.getD []).length = 2 := by rw [hrow]; rfl
     have hpkl := pickL_len (ownT n w) (ls.take i) (xs.take i)
     rw [List.length_take] at hpkl
     refine idx_rd rz ?_ ?_ fun b14 o14 hb14 => ?_
     ·omega
     ·simp; omega
     refine load_allN default (i) rfl rz ?_ ?_ hb14 rfl (mem_at 1 rfl) fun l15 hl15 => ?_
     ·omega
     ·simp; omega
     (obtain ⟨e15, _⟩ := hl15; rw [e15, hzi])
     refine idx_rd hrd ?_ ?_ fun b16 o16 hb16 => ?_
     ·trivial
     ·omega
     refine load_allN 0 (1) rfl hrd ?_ ?_ hb16 rfl (mem_at 1 rfl) fun l17 hl17 => ?_
     ·trivial
     ·omega
     obtain ⟨rfl, hw17⟩ := hl17; simp only [flStr, flInt, okI] at hw17
     refine call_val (implOwnerOf_ct _ _) trivial ?_
     rintro _ rfl
     refine ⟨fun q19 => ?_, fun q19 => ?_⟩
     ·simp at q19
      refine ⟨fun x20 => ?_⟩
      refine gappend1 (g := gR1) (T := (27 : TypeId)) G_ok D [] [A12, A10, H] ?_ oD (raw_app1 ⟨rfl, rfl⟩) (List.mem_of_getElem? (i := 0) rfl) rfl rfl rfl rfl rfl rfl rfl rfl ?_ fun b21 c21 A21 o21 => ?_
      ·exact .tl
      ·omega
      apply loop_stepA (i + 1, _, _, _)
      ·exact .refl _
      ·repeat' (first | exact trivial | refine ⟨⟨_, rfl, by first | rfl | exact inc_eq _ (by omega) | (refine sl_eq ?_; simp; done) | exact sl_eq (by rw [pickT_yes hri (by omega) (own_yes (by assumption)), List.length_append, List.length_append]; rfl) | exact sl_eq (by rw [pickT_no (by omega) (by omega) (own_no (by assumption))]), by first | exact trivial | simp [SV.ok]⟩, ?_⟩)
      ·exact ⟨rfl, rfl, rfl, trivial⟩
      ·try dsimp only
       exact ⟨by omega, by rw [pickT_yes hri (by omega) (own_yes (by assumption))]; assumption⟩
      try dsimp only
      omega
     ·simp at q19
      apply loop_stepA (i + 1, D, lo, co)
      ·exact .refl _
      ·repeat' (first | exact trivial | refine ⟨⟨_, rfl, by first | rfl | exact inc_eq _ (by omega) | (refine sl_eq ?_; simp; done) | exact sl_eq (by rw [pickT_yes hri (by omega) (own_yes (by assumption)), List.length_append, List.length_append]; rfl) | exact sl_eq (by rw [pickT_no (by omega) (by omega) (own_no (by assumption))]), by first | exact trivial | simp [SV.ok]⟩, ?_⟩)
      ·exact ⟨rfl, rfl, rfl, trivial⟩
      ·try dsimp only
       exact ⟨by omega, by rw [pickT_no (by omega) (by omega) (own_no (by assumption))]; exact oD⟩
      try dsimp only
      omega
    ·simp at q13
     (have hie : i = xs.length := (by omega); subst hie; rw [List.take_of_length_le (l := ls) (by omega), List.take_length] at oD ⊢; have hpk := hLB.pick (ownT n w); rw [hty, hpk.len.1] at *; exact ⟨D ++ (pickL (ownT n w) As xs).flatten, ⟨_, _, rfl, ⟨_, pickL (ownT n w) ls xs, D, pickL (ownT n w) As xs, rfl, fl_ow oD, .refl _, hpk⟩⟩, rle_pickT hpB fun a => by simp only [List.flatten_cons, List.flatten_nil, List.append_nil, List.count_append]; omega⟩)
end
section
attribute [local irreducible] IntKind.wrap
theorem rows_next {aa bb : List (List Int)} {k : Nat} (ha : k < aa.length) (hb : k < bb.length) (h : aa.take k = bb.take k) (h2 : (aa[k]?.getD default) = (bb[k]?.getD default)) : aa.take (k + 1) = bb.take (k + 1) := by
 rw [← List.take_append_getElem ha, ← List.take_append_getElem hb, h]
 rw [List.getElem?_eq_getElem ha, List.getElem?_eq_getElem hb] at h2
 rw [show aa[k] = bb[k] from h2]
theorem rows_no {aa bb : List (List Int)} {k : Nat} (h : ¬ (aa[k]?.getD default) = (bb[k]?.getD default)) : decide (aa = bb) = false := decide_eq_false fun e => h (by rw [e])
theorem rows_len {aa bb : List (List Int)} (h : ¬ aa.length = bb.length) : decide (aa = bb) = false := decide_eq_false fun e => h (by rw [e])
theorem rows_yes {aa bb : List (List Int)} {k : Nat} (h : aa.take k = bb.take k) (ha : aa.length ≤ k) (hb : bb.length ≤ k) : decide (aa = bb) = true := by
 rw [List.take_of_length_le ha, List.take_of_length_le hb] at h
 exact decide_eq_true h
theorem sameP1_ct (b1 : Option Addr) (m1 c1 : Nat) (b2 : Option Addr) (m2 c2 : Nat) (a b : List Int) : Ct prog 211 [.slice b1 m1 c1, .slice b2 m2 c2] [] (fun H => (gSl 3 gI).rd H [.slice b1 m1 c1] a ∧ (gSl 3 gI).rd H [.slice b2 m2 c2] b) (fun v A => v = .bool (decide (a = b)) ∧ A = []) := by
 refine Ct.intro0 G_ok func211 rfl rfl rfl fun E H hp => ?_
 obtain ⟨hp, hq⟩ := hp
 obtain ⟨rfl, hcp, hlp⟩ := sl_len hp
 obtain ⟨rfl, hcq, hlq⟩ := sl_len hq
 refine call_val (sEqualI_ct _ _ _ _ _ _ (a) (b)) ⟨(Rp.mono _ (mem_at 0 rfl) hp), (Rp.mono _ (mem_at 0 rfl) hq)⟩ ?_
 rintro _ rfl
 exact ⟨[], ⟨rfl, rfl⟩, .mem (by simp)⟩
theorem sEqF_ct (b1 : Option Addr) (m1 c1 : Nat) (b2 : Option Addr) (m2 c2 : Nat) (aa bb : List (List Int)) : Ct prog 210 [.slice b1 m1 c1, .slice b2 m2 c2, .func (.func 211) ⟨[]⟩ ⟨[]⟩] [] (fun H => (gSl 27 (gSl 3 gI)).rd H [.slice b1 m1 c1] aa ∧ (gSl 27 (gSl 3 gI)).rd H [.slice b2 m2 c2] bb) (fun v A => v = .bool (decide (aa = bb)) ∧ A = []) := by
 refine Ct.intro0 G_ok func210 rfl rfl rfl fun E H hp => ?_
 obtain ⟨hp, hq⟩ := hp
 obtain ⟨rfl, hcp, hlp⟩ := sl_len hp
 obtain ⟨rfl, hcq, hlq⟩ := sl_len hq
 refine ⟨fun q0 => ?_, fun q0 => ?_⟩
 ·simp at q0
  exact ⟨[], ⟨by rw [rows_len (by omega)], rfl⟩, .mem (by simp)⟩
 ·simp at q0
  apply loop_mod (α := (Nat)) G_ok [18, 19, 20, 21, 7, 8, 22, 23, 24, 25, 9, 26, 27, 28, 29, 30, 6, 31, 17] (fun z => [(17, .v (.int .i64 z))]) (fun z => []) (fun z => [H]) (fun z => aa.length - z) (fun z => z ≤ aa.length ∧ aa.take z = bb.take z) ((0))
  ·exact frI
  ·exact trivial
  ·exact ⟨Nat.zero_le _, rfl⟩
  ·exact .refl _
  rintro k hI
  obtain ⟨hk, he⟩ : k ≤ aa.length ∧ aa.take k = bb.take k := hI
  try dsimp only
  refine ⟨fun q1 => ?_, fun q1 => ?_⟩
  ·simp at q1
   refine idx_rd hp ?_ ?_ fun b2 o2 hb2 => ?_
   ·omega
   ·omega
   refine load_allN [] (k) rfl hp ?_ ?_ hb2 rfl (mem_at 0 rfl) fun l3 hl3 => ?_
   ·omega
   ·omega
   obtain ⟨u3, w3, rfl, hl3⟩ := sl_rd hl3
   refine idx_rd hq ?_ ?_ fun b4 o4 hb4 => ?_
   ·omega
   ·omega
   refine load_allN [] (k) rfl hq ?_ ?_ hb4 rfl (mem_at 0 rfl) fun l5 hl5 => ?_
   ·omega
   ·omega
   obtain ⟨u5, w5, rfl, hl5⟩ := sl_rd hl5
   refine call_val (sameP1_ct _ _ _ _ _ _ (aa[k]?.getD []) (bb[k]?.getD [])) ⟨(Rp.mono _ (mem_at 0 rfl) hl3), (Rp.mono _ (mem_at 0 rfl) hl5)⟩ ?_
   rintro _ rfl
   refine ⟨fun q7 => ?_, fun q7 => ?_⟩
   ·simp at q7
    exact ⟨[], ⟨by rw [rows_no (k := k) (by assumption)], rfl⟩, .mem (by simp)⟩
   ·simp at q7
    apply loop_stepA (k + 1)
    ·exact .refl _
    ·exact frI
    ·exact trivial
    ·exact ⟨by omega, rows_next (by omega) (by omega) he (by assumption)⟩
    omega
  ·simp at q1
   exact ⟨[], ⟨by rw [rows_yes (k := k) he (by omega) (by omega)], rfl⟩, .mem (by simp)⟩
theorem samePairs_ct (b1 : Option Addr) (m1 c1 : Nat) (b2 : Option Addr) (m2 c2 : Nat) (aa bb : List (List Int)) : Ct prog 123 [.slice b1 m1 c1, .slice b2 m2 c2] [] (fun H => (gSl 27 (gSl 3 gI)).rd H [.slice b1 m1 c1] aa ∧ (gSl 27 (gSl 3 gI)).rd H [.slice b2 m2 c2] bb) (fun v A => v = .bool (decide (aa = bb)) ∧ A = []) := by
 refine Ct.intro0 G_ok func123 rfl rfl rfl fun E H hp => ?_
 obtain ⟨hp, hq⟩ := hp
 obtain ⟨rfl, hcp, hlp⟩ := sl_len hp
 obtain ⟨rfl, hcq, hlq⟩ := sl_len hq
 refine call_val (sEqF_ct _ _ _ _ _ _ (aa) (bb)) ⟨(Rp.mono _ (mem_at 0 rfl) hp), (Rp.mono _ (mem_at 0 rfl) hq)⟩ ?_
 rintro _ rfl
 exact ⟨[], ⟨rfl, rfl⟩, .mem (by simp)⟩
theorem l21Same_ct (b1 : Option Addr) (m1 c1 : Nat) (b2 : Option Addr) (m2 c2 : Nat) (aa bb : List (List Int)) : Ct prog 121 [.slice b1 m1 c1, .slice b2 m2 c2] [] (fun H => (gSl 27 (gSl 3 gI)).rd H [.slice b1 m1 c1] aa ∧ (gSl 27 (gSl 3 gI)).rd H [.slice b2 m2 c2] bb) (fun v A => v = .bool (decide (aa = bb)) ∧ A = []) := by
 refine Ct.intro0 G_ok func121 rfl rfl rfl fun E H hp => ?_
 obtain ⟨hp, hq⟩ := hp
 obtain ⟨rfl, hcp, hlp⟩ := sl_len hp
 obtain ⟨rfl, hcq, hlq⟩ := sl_len hq
 refine ⟨fun q0 => ?_, fun q0 => ?_⟩
 ·simp at q0
  exact ⟨[], ⟨by rw [rows_len (by omega)], rfl⟩, .mem (by simp)⟩
 ·simp at q0
  apply loop_mod (α := (Nat)) G_ok [11, 12, 13, 14, 17, 18, 19, 20, 21, 22, 23, 24, 25, 26, 4, 15, 16, 5] (fun z => [(5, .v (.int .i64 z))]) (fun z => []) (fun z => [H]) (fun z => aa.length - z) (fun z => z ≤ aa.length ∧ aa.take z = bb.take z) ((0))
  ·exact frI
  ·exact trivial
  ·exact ⟨Nat.zero_le _, rfl⟩
  ·exact .refl _
  rintro k hI
  obtain ⟨hk, he⟩ : k ≤ aa.length ∧ aa.take k = bb.take k := hI
  try dsimp only
  refine ⟨fun q1 => ?_, fun q1 => ?_⟩
  ·simp at q1
   refine draw G_ok mixed none (.q 0 (.q 1 (.q 2 (.q 3 (.q 4 (.q 5 (.q 6 (.q 7 (.f 8 (.q 9 (.nil))))))))))) (by decide +kernel) ?_
   refine idx_rd hp ?_ ?_ fun b2 o2 hb2 => ?_
   ·omega
   ·omega
   refine load_allN [] (k) rfl hp ?_ ?_ hb2 rfl (mem_at 0 rfl) fun l3 hl3 => ?_
   ·omega
   ·omega
   obtain ⟨u3, w3, rfl, hl3⟩ := sl_rd hl3
   refine idx_rd hq ?_ ?_ fun b4 o4 hb4 => ?_
   ·omega
   ·omega
   refine load_allN [] (k) rfl hq ?_ ?_ hb4 rfl (mem_at 0 rfl) fun l5 hl5 => ?_
   ·omega
   ·omega
   obtain ⟨u5, w5, rfl, hl5⟩ := sl_rd hl5
   refine call_val (l03Same_ct _ _ _ _ _ _ (aa[k]?.getD []) (bb[k]?.getD [])) ⟨(Rp.mono _ (mem_at 0 rfl) hl3), (Rp.mono _ (mem_at 0 rfl) hl5)⟩ ?_
   rintro _ rfl
   refine VC.intro ?_ ?_
   ·exact fun _ h => h
   refine ⟨fun q7 => ?_, fun q7 => ?_⟩
   ·simp at q7
    exact ⟨[], ⟨by rw [rows_no (k := k) (by assumption)], rfl⟩, .mem (by simp)⟩
   ·simp at q7
    apply loop_stepA (k + 1)
    ·exact .refl _
    ·exact frI
    ·exact trivial
    ·exact ⟨by omega, rows_next (by omega) (by omega) he (by assumption)⟩
    omega
  ·simp at q1
   exact ⟨[], ⟨by rw [rows_yes (k := k) he (by omega) (by omega)], rfl⟩, .mem (by simp)⟩
end
section
attribute [local irreducible] IntKind.wrap pairsM
noncomputable def wpM (w : Work) (a : Int) : List (List Int) := if w.begun = true then pairsM w.query w.seen a else []
theorem wp_no {w : Work} {a : Int} (h : w.begun = false) : wpM w a = [] := if_neg (by rw [h]; decide)
theorem wp_yes {w : Work} {a : Int} (h : w.begun = true) : wpM w a = pairsM w.query w.seen a := if_pos h
theorem work_q {w : Work} (h : gWork.sz w ≤ 1048576) : gQuery.sz w.query ≤ 1048576 ∧ w.seen.length ≤ 1048576 := by
 have h1 := gWork_sz w
 have h2 := len_szL gWalk w.seen
 omega
theorem implWorkPairs_ct (l : List Value) (x : Work) (a : Int) (hx : gWork.sz x ≤ 1048576) :
  Ct prog 28 [.agg ⟨l⟩, .int .i64 a] [] (fun H => gWork.rd H l x) (fun v A => ∃ b c, v = .slice b (wpM x a).length c ∧ (gSl 27 (gSl 3 gI)).ow [.slice b (wpM x a).length c] (wpM x a) A) := by
 refine Ct.intro0 G_ok func28 rfl rfl rfl fun E H hp => ?_
 obtain ⟨hz1, hz2⟩ := work_q hx
 obtain ⟨l1p, b2p, c2p, b4p, c4p, l11p, b13p, c13p, rfl, h1p, h2p, w3p, h4p, w5p, w8p, h11p, h13p⟩ := gWork_rd.1 hp
 obtain ⟨b1_1p, c1_1p, b2_1p, c2_1p, b3_1p, c3_1p, rfl, h1_1p, h2_1p, h3_1p⟩ := gQuery_rd.1 h1p
 obtain ⟨l0_11p, b1_11p, c1_11p, b4_11p, c4_11p, rfl, h0_11p, h1_11p, w2_11p, w3_11p, h4_11p⟩ := gCell_rd.1 h11p
 obtain ⟨b1_0_11p, c1_0_11p, b2_0_11p, c2_0_11p, b3_0_11p, c3_0_11p, rfl, h1_0_11p, h2_0_11p, h3_0_11p⟩ := gQuery_rd.1 h0_11p
 refine ⟨fun x0 => ?_⟩
 refine ⟨fun q1 => ?_, fun q1 => ?_⟩
 ·simp at q1
  (rw [wp_no (by assumption)]; exact ⟨[], ⟨_, _, rfl, sl_nil _ _ _⟩, .mem (by simp)⟩)
 ·simp at q1
  refine call_new (implPairsIn_ct _ _ _ _ x.query x.seen _ ?_ ?_) ⟨(Rp.mono _ (mem_at 0 rfl) h1p), (Rp.mono _ (mem_at 0 rfl) h4p)⟩ ?_
  ·trivial
  ·trivial
  rintro v2 A2 o2
  obtain ⟨bP, cP, rfl, oP⟩ := o2
  (rw [wp_yes (by assumption)]; exact ⟨_, ⟨_, _, rfl, oP⟩, rlB⟩)
theorem specWorkPairs_ct (l : List Value) (x : Work) (a : Int) (hx : gWork.sz x ≤ 1048576) :
  Ct prog 26 [.agg ⟨l⟩, .int .i64 a] [] (fun H => gWork.rd H l x) (fun v A => ∃ b c, v = .slice b (wpM x a).length c ∧ (gSl 27 (gSl 3 gI)).ow [.slice b (wpM x a).length c] (wpM x a) A) := by
 refine Ct.intro0 G_ok func26 rfl rfl rfl fun E H hp => ?_
 obtain ⟨hz1, hz2⟩ := work_q hx
 obtain ⟨l1p, b2p, c2p, b4p, c4p, l11p, b13p, c13p, rfl, h1p, h2p, w3p, h4p, w5p, w8p, h11p, h13p⟩ := gWork_rd.1 hp
 obtain ⟨b1_1p, c1_1p, b2_1p, c2_1p, b3_1p, c3_1p, rfl, h1_1p, h2_1p, h3_1p⟩ := gQuery_rd.1 h1p
 obtain ⟨l0_11p, b1_11p, c1_11p, b4_11p, c4_11p, rfl, h0_11p, h1_11p, w2_11p, w3_11p, h4_11p⟩ := gCell_rd.1 h11p
 obtain ⟨b1_0_11p, c1_0_11p, b2_0_11p, c2_0_11p, b3_0_11p, c3_0_11p, rfl, h1_0_11p, h2_0_11p, h3_0_11p⟩ := gQuery_rd.1 h0_11p
 refine ⟨fun x0 => ?_⟩
 refine ⟨fun q1 => ?_, fun q1 => ?_⟩
 ·simp at q1
  refine ⟨fun x2 => ?_⟩
  (rw [wp_no (by assumption)]; exact ⟨[], ⟨_, _, rfl, sl_nil _ _ _⟩, .mem (by simp)⟩)
 ·simp at q1
  refine call_new (specPairsIn_ct _ _ _ _ x.query x.seen _ ?_ ?_) ⟨(Rp.mono _ (mem_at 0 rfl) h1p), (Rp.mono _ (mem_at 0 rfl) h4p)⟩ ?_
  ·trivial
  ·trivial
  rintro v3 A3 o3
  obtain ⟨bP, cP, rfl, oP⟩ := o3
  (rw [wp_yes (by assumption)]; exact ⟨_, ⟨_, _, rfl, oP⟩, rlB⟩)
end
section
attribute [local irreducible] IntKind.wrap queryM namesM nfaOf ownerOf
def bgK (ns : List Node) : Nat → List (Int × Work)
 | 0 => []
 | i + 1 => bgK ns i ++ (if 0 < i ∧ (ns[i]?.getD default).work.begun = true then [((i : Int) - 1, (ns[i]?.getD default).work)] else [])
theorem bgK_succ (ns : List Node) (i : Nat) : bgK ns (i + 1) = bgK ns i ++ (if 0 < i ∧ (ns[i]?.getD default).work.begun = true then [((i : Int) - 1, (ns[i]?.getD default).work)] else []) := rfl
theorem bgK_yes {ns : List Node} {i : Nat} (h : 0 < i) (h2 : (ns[i]?.getD default).work.begun = true) : bgK ns (i + 1) = bgK ns i ++ [((i : Int) - 1, (ns[i]?.getD default).work)] := by
 rw [bgK_succ, if_pos ⟨h, h2⟩]
theorem bgK_no1 {ns : List Node} {i : Nat} (h : ¬ 0 < i) : bgK ns (i + 1) = bgK ns i := by
 rw [bgK_succ, if_neg fun e => h e.1, List.append_nil]
theorem bgK_no2 {ns : List Node} {i : Nat} (h : (ns[i]?.getD default).work.begun = false) : bgK ns (i + 1) = bgK ns i := by
 rw [bgK_succ, if_neg (fun e => by have := e.2; rw [h] at this; cases this), List.append_nil]
theorem bgK_len (ns : List Node) : ∀ i, (bgK ns i).length ≤ i
 | 0 => Nat.le_refl _
 | i + 1 => by
  have := bgK_len ns i
  rw [bgK_succ, List.length_append]
  split
  ·simp only [List.length_cons, List.length_nil]; omega
  simp only [List.length_nil]; omega
theorem mem_bgK {ns : List Node} {z : Int × Work} : ∀ {n : Nat}, z ∈ bgK ns n ↔ ∃ j : Nat, 1 ≤ j ∧ j < n ∧ (ns[j]?.getD default).work.begun = true ∧ z = ((j : Int) - 1, (ns[j]?.getD default).work)
 | 0 => ⟨fun h => (by cases h), fun ⟨j, _, h, _⟩ => absurd h (by omega)⟩
 | i + 1 => by
  rw [bgK_succ, List.mem_append, mem_bgK]
  constructor
  ·rintro (⟨j, h1, h2, h3⟩ | h)
   ·exact ⟨j, h1, by omega, h3⟩
   split at h
   ·rename_i hh
    exact ⟨i, by omega, by omega, hh.2, List.mem_singleton.1 h⟩
   cases h
  rintro ⟨j, h1, h2, h3, h4⟩
  rcases (by omega : j < i ∨ j = i) with h5 | rfl
  ·exact .inl ⟨j, h1, h5, h3, h4⟩
  right
  rw [if_pos ⟨by omega, h3⟩]
  exact List.mem_singleton.2 h4
end
section
attribute [local irreducible] IntKind.wrap queryM namesM nfaOf ownerOf
theorem node_sz {c : Cluster} (h : gCluster.sz c ≤ 1048576) {j : Nat} (hj : j < c.nodes.length) : gWork.sz (c.nodes[j]?.getD default).work ≤ 1048576 := by
 have h1 := gCluster_sz c
 have h2 := sz_at8 gNode default c.nodes j hj
 have h3 := gNode_sz (c.nodes[j]?.getD default)
 omega
theorem work_q2 {w : Work} (h : gWork.sz w ≤ 1048576) : gQuery.sz w.query ≤ 1048576 ∧ w.seen.length ≤ 1048576 := by
 have h1 := gWork_sz w
 have h2 := len_szL gWalk w.seen
 omega
theorem wk_more {P : Nat → Prop} {k q : Nat} (h : ∀ q, q < k → P q) (hq : q < k + 1) (h2 : P k) : P q := by
 rcases (by omega : q < k ∨ q = k) with h3 | rfl
 ·exact h q h3
 exact h2
end
section
attribute [local irreducible] IntKind.wrap queryM namesM nfaOf ownerOf
abbrev BgT := Int × RawC gWork.size × Work
def flB (H0 : Hp) : Fl BgT := ⟨1 + gWork.size, fun z => .int .i64 z.1 :: z.2.1.1, fun z => okI z.1 ∧ gWork.rd H0 z.2.1.1 z.2.2, fun z => by rw [List.length_cons, z.2.1.2.1]; omega, fun z => by show allOne (_ :: z.2.1.1) = true; simp [allOne, z.2.1.2.2], by omega⟩
def gBg (H0 : Hp) : Gt BgT := (flB H0).gt fun _ => (0, default, default)
theorem okw9 (x : Int) : okI (IntKind.i64.wrap x) := by
 unfold IntKind.wrap okI
 simp [IntKind.bits, IntKind.signed]
 split <;> omega
theorem bg_step {c : Cluster} {zs : List BgT} {i : Nat} {cs : RawC gWork.size} (hz : zs.map (fun z => (z.1, z.2.2)) = bgK c.nodes i) (hi : i < 9223372036854775807) (h0 : 0 < i) (h : (c.nodes[i]?.getD default).work.begun = true) : (zs ++ [(IntKind.i64.wrap ((i : Int) - 1), cs, (c.nodes[i]?.getD default).work)]).map (fun z => (z.1, z.2.2)) = bgK c.nodes (i + 1) := by
 rw [bgK_yes h0 h, ← hz, List.map_append, wrap_of (by omega) (by omega)]; rfl
theorem bg_own {H0 : Hp} {k : Int} {cells : List Value} {w : Work} (hk : okI k) (h : gWork.rd H0 cells w) : (gBg H0).ow (.int .i64 k :: cells) (k, ⟨cells, raw_of h⟩, w) [] := ⟨rfl, ⟨hk, h⟩, rfl⟩
theorem begunWorks_ct (H0 : Hp) (lc : List Value) (c : Cluster) (hp : gCluster.rd H0 lc c) (hcn : c.nodes.length ≤ 1048576) :
  CtR prog 113 [.agg ⟨lc⟩] H0 (fun _ => True) (fun v D => ∃ b cap zs A, v = .slice b zs.length cap ∧ D = A ++ H0 ∧ zs.map (fun z => (z.1, z.2.2)) = bgK c.nodes c.nodes.length ∧ (gSl 178 (gBg H0)).ow [.slice b zs.length cap] zs A) := by
 refine CtR.intro G_ok [H0] func113 rfl rfl rfl (by simp) fun E H _ => ?_
 obtain ⟨l0c, b1c, c1c, b2c, c2c, b3c, c3c, b4c, c4c, rfl, h0c, h1c, h2c, h3c, h4c⟩ := gCluster_rd.1 hp
 obtain ⟨b1_0c, c1_0c, b2_0c, c2_0c, b3_0c, c3_0c, rfl, h1_0c, h2_0c, h3_0c⟩ := gQuery_rd.1 h0c
 have hnl : c.nodes.length ≤ 9223372036854775807 := (sl_len h1c).2.2
 refine ⟨fun x0 => ?_⟩
 apply loop_mod (α := (Nat) × (List BgT) × (Hp) × (Option Addr) × (Nat)) G_ok [10, 11, 12, 13, 5, 4, 14, 15, 16, 17, 18, 19, 20, 21, 22, 23, 24, 25, 26, 27, 28, 3, 29, 9] (fun z => [(9, .v (.int .i64 z.1)), (3, .v (.slice z.2.2.2.1 z.2.1.length z.2.2.2.2))]) (fun z => [{ id := x0, cs := [Value.bool c.query.each, Value.slice b1_0c c.query.out.length c1_0c, Value.slice b2_0c c.query.atoms.length c2_0c, Value.slice b3_0c c.query.filters.length c3_0c] ++ [Value.slice b1c c.nodes.length c1c, Value.slice b2c c.net.length c2c, Value.slice b3c c.codes.length c3c, Value.slice b4c c.replies.length c4c], ty := (84 : Nat) }]) (fun z => [z.2.2.1, H0, H]) (fun z => c.nodes.length - z.1) (fun z => z.1 ≤ c.nodes.length ∧ z.2.1.map (fun z => (z.1, z.2.2)) = bgK c.nodes z.1 ∧ (gSl 178 (gBg H0)).ow [.slice z.2.2.2.1 z.2.1.length z.2.2.2.2] z.2.1 z.2.2.1) ((0, [], [], none, 0))
 ·exact frI
 ·exact ⟨rfl, trivial⟩
 ·try dsimp only
  exact ⟨Nat.zero_le _, rfl, sl_nil _ _ _⟩
 ·exact .refl _
 rintro ⟨i, zs, A, lb, lc⟩ hI
 try dsimp only at hI
 obtain ⟨hi, hz, oA⟩ := hI
 try dsimp only
 refine ⟨fun q1 => ?_, fun q1 => ?_⟩
 ·simp at q1
  refine idx_rd h1c ?_ ?_ fun b2 o2 hb2 => ?_
  ·omega
  ·omega
  refine load_allN default (i) rfl h1c ?_ ?_ hb2 rfl (mem_at 1 rfl) fun l3 hl3 => ?_
  ·omega
  ·omega
  obtain ⟨l2x3, b5x3, c5x3, l6x3, l7x3, rfl, w0x3, h2x3, w3x3, h5x3, h6x3, h7x3⟩ := gNode_rd.1 hl3 ; obtain ⟨b0_2x3, c0_2x3, rfl, h0_2x3⟩ := gDisk_rd.1 h2x3 ; obtain ⟨l1_6x3, b2_6x3, c2_6x3, b4_6x3, c4_6x3, l11_6x3, b13_6x3, c13_6x3, rfl, h1_6x3, h2_6x3, w3_6x3, h4_6x3, w5_6x3, w8_6x3, h11_6x3, h13_6x3⟩ := gWork_rd.1 h6x3 ; obtain ⟨b1_1_6x3, c1_1_6x3, b2_1_6x3, c2_1_6x3, b3_1_6x3, c3_1_6x3, rfl, h1_1_6x3, h2_1_6x3, h3_1_6x3⟩ := gQuery_rd.1 h1_6x3 ; obtain ⟨l0_11_6x3, b1_11_6x3, c1_11_6x3, b4_11_6x3, c4_11_6x3, rfl, h0_11_6x3, h1_11_6x3, w2_11_6x3, w3_11_6x3, h4_11_6x3⟩ := gCell_rd.1 h11_6x3 ; obtain ⟨b1_0_11_6x3, c1_0_11_6x3, b2_0_11_6x3, c2_0_11_6x3, b3_0_11_6x3, c3_0_11_6x3, rfl, h1_0_11_6x3, h2_0_11_6x3, h3_0_11_6x3⟩ := gQuery_rd.1 h0_11_6x3 ; obtain ⟨l1_7x3, b2_7x3, c2_7x3, b4_7x3, c4_7x3, l6_7x3, rfl, h1_7x3, h2_7x3, w3_7x3, h4_7x3, h6_7x3⟩ := gAsk_rd.1 h7x3 ; obtain ⟨b1_1_7x3, c1_1_7x3, b2_1_7x3, c2_1_7x3, b3_1_7x3, c3_1_7x3, rfl, h1_1_7x3, h2_1_7x3, h3_1_7x3⟩ := gQuery_rd.1 h1_7x3 ; obtain ⟨b0_6_7x3, c0_6_7x3, rfl, h0_6_7x3⟩ := gBag_rd.1 h6_7x3
  refine ⟨fun x4 => ?_⟩
  refine ⟨fun q5 => ?_, fun q5 => ?_⟩
  ·simp at q5
   refine ⟨fun q6 => ?_, fun q6 => ?_⟩
   ·refine ⟨fun x7 => ?_⟩
    refine gappend1 (g := (gBg H0)) (T := (178 : TypeId)) G_ok A [] [H0, H] ?_ oA (bg_own (w := (c.nodes[i]?.getD default).work) (okw9 _) (by assumption)) (List.mem_of_getElem? (i := 0) rfl) rfl rfl rfl rfl rfl rfl rfl rfl ?_ fun b8 c8 A8 o8 => ?_
    ·exact .tl
    ·(have := congrArg List.length hz; rw [List.length_map] at this; have := bgK_len c.nodes i; omega)
    apply loop_stepA (i + 1, _, _, _, _)
    ·exact .refl _
    ·exact frI
    ·exact ⟨rfl, trivial⟩
    ·try dsimp only
     exact ⟨by omega, bg_step hz (by omega) (by omega) (by assumption), by assumption⟩
    try dsimp only
    omega
   ·apply loop_stepA (i + 1, zs, A, lb, lc)
    ·exact .refl _
    ·exact frI
    ·exact ⟨rfl, trivial⟩
    ·try dsimp only
     exact ⟨by omega, by rw [bgK_no2 (by assumption)]; exact hz, oA⟩
    try dsimp only
    omega
  ·simp at q5
   apply loop_stepA (i + 1, zs, A, lb, lc)
   ·exact .refl _
   ·exact frI
   ·exact ⟨rfl, trivial⟩
   ·try dsimp only
    exact ⟨by omega, by rw [bgK_no1 (by omega)]; exact hz, oA⟩
   try dsimp only
   omega
 ·simp at q1
  (have hie : i = c.nodes.length := (by omega); subst hie; exact ⟨A ++ H0, ⟨_, _, zs, A, rfl, rfl, hz, oA⟩, rlB⟩)
theorem ld_Bg {H0 H' : Hp} {l : List Value} {z : BgT} (h : (gBg H0).rd H' l z) : l = .int .i64 z.1 :: z.2.1.1 ∧ okI z.1 ∧ gWork.rd H0 z.2.1.1 z.2.2 := ⟨h.1, h.2.1, h.2.2⟩
end
section
attribute [local irreducible] IntKind.wrap queryM namesM nfaOf ownerOf
theorem nodes_len {c : Cluster} (h : gCluster.sz c ≤ 1048576) : c.nodes.length ≤ 1048576 := by
 have h1 := gCluster_sz c
 have h2 := len_szL gNode c.nodes
 omega
theorem mem9 {α : Type} [Inhabited α] {zs : List α} {k : Nat} {z : α} (h : (zs[k]?.getD default) = z) (hk : k < zs.length) : z ∈ zs := by
 rw [List.getElem?_eq_getElem hk] at h
 rw [← h]; exact List.getElem_mem hk
theorem bg_in {c : Cluster} {zs : List BgT} (hz : zs.map (fun z => (z.1, z.2.2)) = bgK c.nodes c.nodes.length) {z : BgT} (h : z ∈ zs) : (z.1, z.2.2) ∈ bgK c.nodes c.nodes.length := by
 rw [← hz]; exact List.mem_map.2 ⟨z, h, rfl⟩
theorem bg_sz {c : Cluster} (h : gCluster.sz c ≤ 1048576) {i : Int} {w : Work} (hz : (i, w) ∈ bgK c.nodes c.nodes.length) : gWork.sz w ≤ 1048576 := by
 obtain ⟨j, _, h2, _, h4⟩ := mem_bgK.1 hz
 have h5 : w = (c.nodes[j]?.getD default).work := congrArg Prod.snd h4
 rw [h5]; exact node_sz h h2
end
section
attribute [local irreducible] IntKind.wrap queryM namesM nfaOf ownerOf relAt pairsM
def endP (g : Graph) (i : Int) (w : Work) : Prop := w.walked = true → ∀ a : Nat, a < w.query.atoms.length → wpM w a = truesM g w.query a i w.count
def endsP (c : Cluster) (g : Graph) : Prop := ∀ j : Nat, 1 ≤ j → j < c.nodes.length → (c.nodes[j]?.getD default).work.begun = true → endP g ((j : Int) - 1) (c.nodes[j]?.getD default).work
open Classical in
noncomputable def endsRM (c : Cluster) (g : Graph) : Bool := decide (endsP c g)
open Classical in
theorem er_no {c : Cluster} {g : Graph} (j : Nat) (h1 : 1 ≤ j) (h2 : j < c.nodes.length) (h3 : (c.nodes[j]?.getD default).work.begun = true) (h : ¬ endP g ((j : Int) - 1) (c.nodes[j]?.getD default).work) : endsRM c g = false := by
 unfold endsRM; exact decide_eq_false fun h9 => h (h9 j h1 h2 h3)
open Classical in
theorem er_yes {c : Cluster} {g : Graph} (h : endsP c g) : endsRM c g = true := by unfold endsRM; exact decide_eq_true h
theorem ep_no {g : Graph} {i : Int} {w : Work} {a : Nat} (h : w.walked = true) (ha : a < w.query.atoms.length) (hn : ¬ wpM w a = truesM g w.query a i w.count) : ¬ endP g i w := fun h9 => hn (h9 h a ha)
theorem ep_idle {g : Graph} {i : Int} {w : Work} (h : w.walked = false) : endP g i w := fun h9 => by rw [h] at h9; cases h9
theorem be_no {c : Cluster} {g : Graph} {z : Int × Work} (hz : z ∈ bgK c.nodes c.nodes.length) (h : ¬ endP g z.1 z.2) : endsRM c g = false := by
 obtain ⟨j, h1, h2, h3, rfl⟩ := mem_bgK.1 hz
 exact er_no j h1 h2 h3 h
theorem be_more {g : Graph} {zs : List BgT} {k q : Nat} {i : Int} {l : RawC gWork.size} {w : Work} (hK : ∀ q, q < k → endP g (zs[q]?.getD default).1 (zs[q]?.getD default).2.2) (hq : q < k + 1) (hz : (zs[k]?.getD default) = (i, l, w)) (h : endP g i w) : endP g (zs[q]?.getD default).1 (zs[q]?.getD default).2.2 := by
 rcases (by omega : q < k ∨ q = k) with h3 | rfl
 ·exact hK q h3
 rw [hz]; exact h
theorem be_done {c : Cluster} {g : Graph} {zs : List BgT} (hz : zs.map (fun z => (z.1, z.2.2)) = bgK c.nodes c.nodes.length) (h : ∀ q, q < zs.length → endP g (zs[q]?.getD default).1 (zs[q]?.getD default).2.2) : endsRM c g = true := by
 refine er_yes fun j h1 h2 h3 => ?_
 have h4 : (((j : Int) - 1, (c.nodes[j]?.getD default).work) : Int × Work) ∈ zs.map (fun z => (z.1, z.2.2)) := by
  rw [hz]; exact mem_bgK.2 ⟨j, h1, h2, h3, rfl⟩
 obtain ⟨y, hy, e⟩ := List.mem_map.1 h4
 obtain ⟨q, hq, rfl⟩ := List.getElem_of_mem hy
 have h5 := h q hq
 rw [List.getElem?_eq_getElem hq] at h5
 have e1 := congrArg Prod.fst e
 have e2 := congrArg Prod.snd e
 dsimp only at e1 e2
 rw [← e1, ← e2]; exact h5
theorem implEndsRight_ct (lc lg : List Value) (c : Cluster) (g : Graph) (hc : gCluster.sz c ≤ 1048576) :
  Ct prog 41 [.agg ⟨lc⟩, .agg ⟨lg⟩] [] (fun H => gCluster.rd H lc c ∧ gGraph.rd H lg g) (fun v A => v = .bool (endsRM c g) ∧ A = []) := by
 refine Ct.intro0 G_ok func41 rfl rfl rfl fun E H hp => ?_
 obtain ⟨hp, hq⟩ := hp
 have hcn := nodes_len hc
 obtain ⟨b1g, c1g, rfl, w0g, h1g⟩ := gGraph_rd.1 hq
 obtain ⟨l0c, b1c, c1c, b2c, c2c, b3c, c3c, b4c, c4c, rfl, h0c, h1c, h2c, h3c, h4c⟩ := gCluster_rd.1 hp
 obtain ⟨b1_0c, c1_0c, b2_0c, c2_0c, b3_0c, c3_0c, rfl, h1_0c, h2_0c, h3_0c⟩ := gQuery_rd.1 h0c
 refine ⟨fun x0 => ?_⟩
 refine ⟨fun x1 => ?_⟩
 refine callR_part H [] (begunWorks_ct H _ c hp hcn) ?_ trivial ?_
 ·exact rlA
 rintro _ D ⟨bz, cz, zs, A, rfl, rfl, hz, oZ⟩
 refine ⟨[A, H], by simp, ?_⟩
 have hzl : zs.length ≤ 1048576 := (by have := congrArg List.length hz; rw [List.length_map] at this; have := bgK_len c.nodes c.nodes.length; omega)
 apply loop_mod (α := (Nat)) G_ok [12, 13, 14, 6, 15, 16, 17, 18, 19, 20, 21, 22, 23, 24, 25, 26, 7, 27, 28, 29, 30, 31, 32, 33, 34, 35, 36, 37, 38, 39, 40, 41, 42, 43, 4, 44, 45, 11] (fun z => [(11, .v (.int .i64 z))]) (fun z => [{ id := x0, cs := [Value.bool c.query.each, Value.slice b1_0c c.query.out.length c1_0c, Value.slice b2_0c c.query.atoms.length c2_0c, Value.slice b3_0c c.query.filters.length c3_0c] ++ [Value.slice b1c c.nodes.length c1c, Value.slice b2c c.net.length c2c, Value.slice b3c c.codes.length c3c, Value.slice b4c c.replies.length c4c], ty := (84 : Nat) }, { id := x1, cs := [Value.int IntKind.i64 g.size, Value.slice b1g g.edges.length c1g], ty := (88 : Nat) }]) (fun z => [A, H]) (fun z => zs.length - z) (fun z => z ≤ zs.length ∧ ∀ q, q < z → endP g (zs[q]?.getD default).1 (zs[q]?.getD default).2.2) ((0))
 ·exact frI
 ·exact ⟨rfl, rfl, trivial⟩
 ·exact ⟨Nat.zero_le _, fun q h => absurd h (by omega)⟩
 ·exact .refl _
 rintro k hI
 try dsimp only at hI
 obtain ⟨hk, hK⟩ := hI
 try dsimp only
 refine ⟨fun q3 => ?_, fun q3 => ?_⟩
 ·simp at q3
  obtain ⟨z, hzk⟩ : ∃ z, (zs[k]?.getD default) = z := ⟨_, rfl⟩
  have hzm : z ∈ zs := mem9 hzk (by omega)
  obtain ⟨hzi, hwz⟩ := (fl_ow oZ).1 z hzm
  have hzb := bg_in hz hzm
  obtain ⟨iz, ⟨lz, hlz⟩, w⟩ := z
  replace hwz : gWork.rd H lz w := hwz
  replace hzb : (iz, w) ∈ bgK c.nodes c.nodes.length := hzb
  replace hzi : okI iz := hzi
  have hsw := bg_sz hc hzb
  obtain ⟨hqz, hsl⟩ := work_q hsw
  obtain ⟨l1z, b2z, c2z, b4z, c4z, l11z, b13z, c13z, rfl, h1z, h2z, w3z, h4z, w5z, w8z, h11z, h13z⟩ := gWork_rd.1 hwz
  obtain ⟨b1_1z, c1_1z, b2_1z, c2_1z, b3_1z, c3_1z, rfl, h1_1z, h2_1z, h3_1z⟩ := gQuery_rd.1 h1z
  obtain ⟨l0_11z, b1_11z, c1_11z, b4_11z, c4_11z, rfl, h0_11z, h1_11z, w2_11z, w3_11z, h4_11z⟩ := gCell_rd.1 h11z
  obtain ⟨b1_0_11z, c1_0_11z, b2_0_11z, c2_0_11z, b3_0_11z, c3_0_11z, rfl, h1_0_11z, h2_0_11z, h3_0_11z⟩ := gQuery_rd.1 h0_11z
  have hal := atoms_len hqz
  refine idx_rd (Gt.owrd _ oZ) ?_ ?_ fun b4 o4 hb4 => ?_
  ·omega
  ·omega
  refine load_allN default (k) rfl (Gt.owrd _ oZ) ?_ ?_ hb4 rfl (mem_at 0 rfl) fun l5 hl5 => ?_
  ·omega
  ·omega
  (obtain ⟨e5, _⟩ := ld_Bg hl5; clear hl5; rw [hzk] at e5; dsimp only at e5; subst e5)
  refine ⟨fun x6 => ?_⟩
  refine ⟨fun q7 => ?_, fun q7 => ?_⟩
  ·simp at q7
   apply loop_stepA (k + 1)
   ·exact .refl _
   ·exact frI
   ·exact ⟨rfl, rfl, trivial⟩
   ·exact ⟨by omega, fun q hq => be_more hK hq hzk (ep_idle (by assumption))⟩
   omega
  ·simp at q7
   apply loop_mod (α := (Nat)) G_ok [25, 26, 7, 27, 28, 29, 30, 31, 32, 33, 34, 35, 36, 37, 38, 39, 40, 41, 42, 43, 4, 44, 24] (fun z => [(24, .v (.int .i64 z))]) (fun z => [{ id := x0, cs := [Value.bool c.query.each, Value.slice b1_0c c.query.out.length c1_0c, Value.slice b2_0c c.query.atoms.length c2_0c, Value.slice b3_0c c.query.filters.length c3_0c] ++ [Value.slice b1c c.nodes.length c1c, Value.slice b2c c.net.length c2c, Value.slice b3c c.codes.length c3c, Value.slice b4c c.replies.length c4c], ty := (84 : Nat) }, { id := x1, cs := [Value.int IntKind.i64 g.size, Value.slice b1g g.edges.length c1g], ty := (88 : Nat) }, { id := x6, cs := [Value.int IntKind.i64 iz, Value.bool w.begun, Value.bool w.query.each, Value.slice b1_1z w.query.out.length c1_1z, Value.slice b2_1z w.query.atoms.length c2_1z, Value.slice b3_1z w.query.filters.length c3_1z, Value.slice b2z w.shares.length c2z, Value.int IntKind.i64 w.count, Value.slice b4z w.seen.length c4z, Value.int IntKind.i64 w.num, Value.bool w.black, Value.bool w.holds, Value.int IntKind.i64 w.tokNum, Value.bool w.tokBlack, Value.bool w.walked, Value.bool w.cell.query.each, Value.slice b1_0_11z w.cell.query.out.length c1_0_11z, Value.slice b2_0_11z w.cell.query.atoms.length c2_0_11z, Value.slice b3_0_11z w.cell.query.filters.length c3_0_11z, Value.slice b1_11z w.cell.shares.length c1_11z, Value.int IntKind.i64 w.cell.at', Value.int IntKind.i64 w.cell.n, Value.slice b4_11z w.cell.gots.length c4_11z, Value.bool w.told, Value.slice b13z w.waits.length c13z], ty := (178 : Nat) }]) (fun z => [A, H]) (fun z => w.query.atoms.length - z) (fun z => z ≤ w.query.atoms.length ∧ ∀ q : Nat, q < z → wpM w q = truesM g w.query q iz w.count) ((0))
   ·exact frI
   ·exact ⟨rfl, rfl, rfl, trivial⟩
   ·exact ⟨Nat.zero_le _, fun q h => absurd h (by omega)⟩
   ·exact .refl _
   rintro a hI
   try dsimp only at hI
   obtain ⟨ha, hI⟩ := hI
   try dsimp only
   refine ⟨fun q8 => ?_, fun q8 => ?_⟩
   ·simp at q8
    refine draw G_ok mixed none (.q 0 (.q 1 (.q 2 (.q 4 (.q 5 (.q 6 (.q 7 (.q 8 (.q 9 (.q 10 (.q 11 (.q 12 (.q 13 (.f 3 (.f 14 (.f 15 (.q 16 (.nil)))))))))))))))))) (by decide +kernel) ?_
    refine call_new (implWorkPairs_ct _ w _ hsw) (Rp.mono _ (sub_hall (by simp)) hwz) ?_
    rintro v9 A9 o9
    obtain ⟨bW, cW, rfl, oW⟩ := o9
    refine VC.intro ?_ ?_
    ·exact keep_new
    refine call_new (implTruePairs_ct _ _ g w.query _ _ _ hqz) ⟨(Rp.mono _ (mem_at 2 rfl) hq), (Rp.mono _ (mem_at 2 rfl) h1z)⟩ ?_
    rintro v10 A10 o10
    obtain ⟨bT, cT, rfl, oT⟩ := o10
    refine VC.intro ?_ ?_
    ·exact keep_sub (by simp) (by simp)
    refine call_val (samePairs_ct _ _ _ _ _ _ (wpM w (↑a : Int)) (truesM g w.query (↑a : Int) iz w.count)) ⟨(Rp.mono _ (mem_at 1 rfl) (Gt.owrd _ oW)), (Rp.mono _ (mem_at 0 rfl) (Gt.owrd _ oT))⟩ ?_
    rintro _ rfl
    refine VC.intro ?_ ?_
    ·exact keep_sub (by simp) (by simp)
    refine ⟨fun q12 => ?_, fun q12 => ?_⟩
    ·simp at q12
     exact ⟨[], ⟨by rw [be_no hzb (ep_no (a := a) (by assumption) (by omega) (by assumption))], rfl⟩, .mem (by simp)⟩
    ·simp at q12
     apply loop_stepA (a + 1)
     ·exact .sub (by repeat (first | exact .slnil | apply List.Sublist.cons_cons | apply List.Sublist.cons))
     ·exact frI
     ·exact ⟨rfl, rfl, rfl, trivial⟩
     ·exact ⟨by omega, fun q hq => wk_more hI hq (by assumption)⟩
     omega
   ·simp at q8
    apply loop_stepA (k + 1)
    ·exact .refl _
    ·exact frI
    ·exact ⟨rfl, rfl, trivial⟩
    ·exact ⟨by omega, fun q hq => be_more hK hq hzk fun _ q hq => hI q (by omega)⟩
    omega
 ·simp at q3
  exact ⟨[], ⟨by rw [be_done hz fun q hq => hK q (by omega)], rfl⟩, .mem (by simp)⟩
end
section
attribute [local irreducible] IntKind.wrap relAt
structure OrB (xs ys m : List Bool) (i : Nat) : Prop where
 len : m.length = xs.length
 all : ∀ j, sees m j ↔ sees xs j ∨ (j < i ∧ sees ys j)
theorem orB_init (xs ys : List Bool) : OrB xs ys xs 0 := ⟨rfl, fun j => ⟨.inl, fun h => h.elim id fun h => absurd h.1 (by omega)⟩⟩
theorem orB_step {xs ys m : List Bool} {i : Nat} {v : Bool} (h : OrB xs ys m i) (hi : i < xs.length) (hv : v = true ↔ sees m i ∨ sees ys i) : OrB xs ys (m.set i v) (i + 1) := by
 have hl : i < m.length := by rw [h.len]; exact hi
 refine ⟨by rw [List.length_set]; exact h.len, fun j => ?_⟩
 rw [sees_set2 hl, h.all j, hv, h.all i]
 constructor
 ·rintro (⟨rfl, (h1 | h1) | h1⟩ | ⟨h0, h1 | h1⟩)
  ·exact .inl h1
  ·exact .inr ⟨by omega, h1.2⟩
  ·exact .inr ⟨by omega, h1⟩
  ·exact .inl h1
  exact .inr ⟨by omega, h1.2⟩
 rintro (h1 | ⟨h1, h2⟩)
 ·by_cases e : j = i
  ·subst e; exact .inl ⟨rfl, .inl (.inl h1)⟩
  exact .inr ⟨e, .inl h1⟩
 by_cases e : j = i
 ·subst e; exact .inl ⟨rfl, .inr h2⟩
 exact .inr ⟨e, .inr ⟨by omega, h2⟩⟩
theorem orB_rep {n : Nat} {xs ys m : List Bool} {A B : Nat → Nat → Prop} (ha : RepS n xs A) (hb : RepS n ys B) (h : OrB xs ys m xs.length) : RepS n m (fun u v => A u v ∨ B u v) := by
 refine ⟨by rw [h.len]; exact ha.len, fun u v hu hv => ?_⟩
 rw [h.all, ha.rows u v hu hv, hb.rows u v hu hv]
 have := sq_lt hu hv
 rw [← ha.len] at this
 exact ⟨fun h => h.elim .inl fun h => .inr h.2, fun h => h.elim .inl fun h => .inr ⟨this, h⟩⟩
theorem or_yes1 {m ys : List Bool} {i : Nat} (h : (m[i]?.getD false) = true) : true = true ↔ sees m i ∨ sees ys i := ⟨fun _ => .inl h, fun _ => rfl⟩
theorem or_no1 {m ys : List Bool} {i : Nat} (h : (m[i]?.getD false) = false) : (ys[i]?.getD false) = true ↔ sees m i ∨ sees ys i := ⟨.inr, fun h9 => h9.elim (fun h8 => by unfold sees at h8; rw [h] at h8; cases h8) id⟩
theorem l06Or_ct (b : Option Addr) (c : Nat) (b2 : Option Addr) (m2 c2 : Nat) (xs ys : List Bool) {A : Hp} (ho : (gSl 4 gB).ow [.slice b xs.length c] xs A) (hl : xs.length = ys.length) (hm : xs.length ≤ 1000) :
  CtR prog 398 [.slice b xs.length c, .slice b2 m2 c2] A (fun H => (gSl 4 gB).rd H [.slice b2 m2 c2] ys)
   (fun v D => v = .tuple #[] ∧ ∃ m, OrB xs ys m xs.length ∧ (gSl 4 gB).ow [.slice b xs.length c] m D) := by
 refine CtR.intro G_ok [A] func398 rfl rfl rfl (by simp) fun E H hq => ?_
 obtain ⟨rfl, hcb, hlb⟩ := sl_len hq
 apply loop_mod (α := (Nat) × (List Bool) × (Hp)) G_ok [5, 6, 7, 8, 11, 12, 13, 14, 15, 16, 17, 18, 19, 20, 21, 22, 23, 9, 10, 4] (fun z => [(4, .v (.int .i64 z.1))]) (fun z => []) (fun z => [z.2.2, H]) (fun z => xs.length - z.1) (fun z => z.1 ≤ xs.length ∧ OrB xs ys z.2.1 z.1 ∧ (gSl 4 gB).ow [.slice b xs.length c] z.2.1 z.2.2) ((0, xs, A))
 ·exact frI
 ·exact trivial
 ·try dsimp only
  exact ⟨Nat.zero_le _, orB_init _ _, ho⟩
 ·exact .refl _
 rintro ⟨i, m, W⟩ hI
 try dsimp only at hI
 obtain ⟨hi, hI, oW⟩ := hI
 try dsimp only
 refine ⟨fun q0 => ?_, fun q0 => ?_⟩
 ·simp at q0
  have hml := hI.len
  refine idx_rd (Gt.owrd _ oW) ?_ ?_ fun b1 o1 hb1 => ?_
  ·omega
  ·omega
  refine load_allN false (i) rfl (Gt.owrd _ oW) ?_ ?_ hb1 rfl (mem_at 0 rfl) fun l2 hl2 => ?_
  ·omega
  ·omega
  obtain ⟨rfl, hw2⟩ := hl2
  refine ⟨fun q3 => ?_, fun q3 => ?_⟩
  ·refine idx_rd (Gt.owrd _ oW) ?_ ?_ fun b4 o4 hb4 => ?_
   ·omega
   ·omega
   refine gstoreN (Fld.id _) false (i) 0 rfl rfl oW ?_ ?_ hb4 rfl gB_pl _ (gB_ow trivial) fun A5 o5 => ?_
   ·omega
   ·omega
   apply loop_stepA (i + 1, m.set i true, _)
   ·exact .refl _
   ·exact frI
   ·exact trivial
   ·try dsimp only
    exact ⟨by omega, orB_step hI (by omega) (or_yes1 (by assumption)), by assumption⟩
   try dsimp only
   omega
  ·refine idx_rd hq ?_ ?_ fun b6 o6 hb6 => ?_
   ·omega
   ·omega
   refine load_allN false (i) rfl hq ?_ ?_ hb6 rfl (mem_at 1 rfl) fun l7 hl7 => ?_
   ·omega
   ·omega
   obtain ⟨rfl, hw7⟩ := hl7
   refine idx_rd (Gt.owrd _ oW) ?_ ?_ fun b8 o8 hb8 => ?_
   ·omega
   ·omega
   refine gstoreN (Fld.id _) false (i) 0 rfl rfl oW ?_ ?_ hb8 rfl gB_pl _ (gB_ow trivial) fun A9 o9 => ?_
   ·omega
   ·omega
   apply loop_stepA (i + 1, m.set i (ys[i]?.getD false), _)
   ·exact .refl _
   ·exact frI
   ·exact trivial
   ·try dsimp only
    exact ⟨by omega, orB_step hI (by omega) (or_no1 (by assumption)), by assumption⟩
   try dsimp only
   omega
 ·simp at q0
  (have hie : i = xs.length := (by omega); subst hie; exact ⟨W, ⟨rfl, m, hI, oW⟩, rlB⟩)
end
section
attribute [local irreducible] IntKind.wrap relAt
structure BehI (n : Nat) (A B : Nat → Nat → Prop) (i k j : Nat) (m : List Bool) : Prop where
 len : m.length = n * n
 rows : ∀ u v : Nat, u < n → v < n → (sees m (u * n + v) ↔ ∃ w, w < n ∧ A u w ∧ B w v ∧ (u < i ∨ (u = i ∧ (w < k ∨ (w = k ∧ v < j)))))
theorem beh_init {n N : Nat} (hN : N = n * n) (A B : Nat → Nat → Prop) : BehI n A B 0 0 0 (List.replicate N false) :=
 ⟨by rw [List.length_replicate]; exact hN, fun u v _ _ => ⟨fun h => absurd h rep_sees, fun ⟨w, _, _, _, h⟩ => absurd h (by omega)⟩⟩
theorem beh_step {n : Nat} {A B : Nat → Nat → Prop} {i k j : Nat} {m : List Bool} {x : Bool} (h : BehI n A B i k j m) (hi : i < n) (hk : k < n) (hj : j < n) (ha : A i k) (hx : x = true ↔ sees m (i * n + j) ∨ B k j) : BehI n A B i k (j + 1) (m.set (i * n + j) x) := by
 have hl : i * n + j < m.length := by rw [h.len]; exact sq_lt hi hj
 refine ⟨by rw [List.length_set]; exact h.len, fun u v hu hv => ?_⟩
 rw [sees_set2 hl, hx, h.rows u v hu hv, h.rows i j hi hj]
 constructor
 ·rintro (⟨e, ⟨w, h1, h2, h3, h4⟩ | h5⟩ | ⟨_, w, h1, h2, h3, h4⟩)
  ·obtain ⟨rfl, rfl⟩ := sq_inj hv hj e
   exact ⟨w, h1, h2, h3, by omega⟩
  ·obtain ⟨rfl, rfl⟩ := sq_inj hv hj e
   exact ⟨k, hk, ha, h5, by omega⟩
  exact ⟨w, h1, h2, h3, by omega⟩
 rintro ⟨w, h1, h2, h3, h4⟩
 by_cases e : u * n + v = i * n + j
 ·obtain ⟨rfl, rfl⟩ := sq_inj hv hj e
  refine .inl ⟨rfl, ?_⟩
  rcases (by omega : w < k ∨ w = k) with h5 | rfl
  ·exact .inl ⟨w, h1, h2, h3, by omega⟩
  exact .inr h3
 refine .inr ⟨e, w, h1, h2, h3, ?_⟩
 rcases (by omega : u < i ∨ (u = i ∧ w < k) ∨ (u = i ∧ w = k ∧ v < j) ∨ (u = i ∧ w = k ∧ v = j)) with h5 | h5 | h5 | h5
 ·omega
 ·omega
 ·omega
 obtain ⟨rfl, _, rfl⟩ := h5; exact absurd rfl e
theorem beh_next {n : Nat} {A B : Nat → Nat → Prop} {i k j : Nat} {m : List Bool} (h : BehI n A B i k j m) (hj : n ≤ j) : BehI n A B i (k + 1) 0 m :=
 ⟨h.len, fun u v hu hv => (h.rows u v hu hv).trans ⟨fun ⟨w, h1, h2, h3, h4⟩ => ⟨w, h1, h2, h3, by omega⟩, fun ⟨w, h1, h2, h3, h4⟩ => ⟨w, h1, h2, h3, by omega⟩⟩⟩
theorem beh_skip {n : Nat} {A B : Nat → Nat → Prop} {i k j : Nat} {m : List Bool} (h : BehI n A B i k j m) (hn : ¬ A i k) : BehI n A B i (k + 1) 0 m :=
 ⟨h.len, fun u v hu hv => (h.rows u v hu hv).trans ⟨fun ⟨w, h1, h2, h3, h4⟩ => ⟨w, h1, h2, h3, by omega⟩, fun ⟨w, h1, h2, h3, h4⟩ => ⟨w, h1, h2, h3, by
  rcases (by omega : u < i ∨ (u = i ∧ w < k) ∨ (u = i ∧ w = k)) with h5 | h5 | ⟨rfl, rfl⟩
  ·exact .inl h5
  ·exact .inr ⟨h5.1, .inl h5.2⟩
  exact absurd h2 hn⟩⟩⟩
theorem beh_row {n : Nat} {A B : Nat → Nat → Prop} {i k : Nat} {m : List Bool} (h : BehI n A B i k 0 m) (hk : n ≤ k) : BehI n A B (i + 1) 0 0 m :=
 ⟨h.len, fun u v hu hv => (h.rows u v hu hv).trans ⟨fun ⟨w, h1, h2, h3, h4⟩ => ⟨w, h1, h2, h3, by omega⟩, fun ⟨w, h1, h2, h3, h4⟩ => ⟨w, h1, h2, h3, by omega⟩⟩⟩
theorem beh_end {n : Nat} {A B : Nat → Nat → Prop} {i : Nat} {m : List Bool} (h : BehI n A B i 0 0 m) (hi : n ≤ i) : RepS n m (compR n A B) :=
 ⟨h.len, fun u v hu hv => (h.rows u v hu hv).trans ⟨fun ⟨w, h1, h2, h3, _⟩ => ⟨w, h1, h2, h3⟩, fun ⟨w, h1, h2, h3⟩ => ⟨w, h1, h2, h3, by omega⟩⟩⟩
theorem sq_le {n u v : Nat} (hn : n ≤ 12) (hu : u < n) (hv : v < n) : u * n + v < n * n ∧ n * n ≤ 144 := ⟨sq_lt hu hv, Nat.mul_le_mul hn hn⟩
theorem idx_wr {n i k : Nat} (h : i * n + k < 144) : IntKind.i64.wrap (IntKind.i64.wrap ((i : Int) * (n : Int)) + (k : Int)) = ((i * n + k : Nat) : Int) := by
 have h1 : (i : Int) * (n : Int) = ((i * n : Nat) : Int) := (Int.natCast_mul ..).symm
 have h2 : IntKind.i64.wrap ((i * n : Nat) : Int) = ((i * n : Nat) : Int) := wrap_of (by omega) (by omega)
 rw [h1, h2, wrap_of (by omega) (by omega)]; omega
theorem idx_nw (n i k : Nat) : ((i : Int) * (n : Int) + (k : Int)).toNat = i * n + k := by
 have h1 : (i : Int) * (n : Int) = ((i * n : Nat) : Int) := (Int.natCast_mul ..).symm
 rw [h1]; omega
theorem sees_at {m : List Bool} {p q : Nat} (h : (m[p]?.getD false) = true) (e : p = q) : sees m q := by subst e; exact h
theorem sees_not {m : List Bool} {p q : Nat} (h : (m[p]?.getD false) = false) (e : p = q) : ¬ sees m q := by subst e; unfold sees; rw [h]; decide
theorem bor_no {m xb : List Bool} {p q p' q' : Nat} {B : Prop} (h : (m[p]?.getD false) = false) (e : p = p') (hb : sees xb q' ↔ B) (e2 : q = q') : (xb[q]?.getD false) = true ↔ sees m p' ∨ B := by
 subst e2
 exact ⟨fun h1 => .inr (hb.1 h1), fun h1 => h1.elim (fun h2 => absurd h2 (sees_not h e)) hb.2⟩
theorem l06Behind_ct (b1 : Option Addr) (m1 c1 : Nat) (b2 : Option Addr) (m2 c2 : Nat) (n : Nat) (xa xb : List Bool) (A B : Nat → Nat → Prop) (hn : 1 ≤ n ∧ n ≤ 12) (ra : RepS n xa A) (rb : RepS n xb B) :
  Ct prog 397 [.slice b1 m1 c1, .slice b2 m2 c2, .int .i64 (n : Int)] [] (fun H => (gSl 4 gB).rd H [.slice b1 m1 c1] xa ∧ (gSl 4 gB).rd H [.slice b2 m2 c2] xb)
   (fun v D => ∃ b c m, v = .slice b m.length c ∧ (gSl 4 gB).ow [.slice b m.length c] m D ∧ RepS n m (compR n A B)) := by
 refine Ct.intro0 G_ok func397 rfl rfl rfl fun E H hp => ?_
 obtain ⟨hp, hq⟩ := hp
 obtain ⟨rfl, hca, hla⟩ := sl_len hp
 obtain ⟨rfl, hcb, hlb⟩ := sl_len hq
 have hna := ra.len
 have hnb := rb.len
 have hnn : n * n ≤ 144 := Nat.mul_le_mul hn.2 hn.2
 have hw0 : IntKind.i64.wrap ((n : Int) * (n : Int)) = ((n * n : Nat) : Int) := by rw [Int.natCast_mul, wrap_of] <;> (rw [← Int.natCast_mul]; omega)
 have hNN : (IntKind.i64.wrap ((n : Int) * (n : Int))).toNat = n * n := by rw [hw0]; omega
 refine VCmake.intro ?_ ?_ ?_ ?_ fun x0 => ?_
 ·(simp (disch := omega) only [wrap_of]; omega)
 ·(simp (disch := omega) only [wrap_of]; omega)
 ·(simp (disch := omega) only [wrap_of]; omega)
 ·(simp (disch := omega) only [wrap_of]; omega)
 apply loop_mod (α := (Nat) × (List Bool) × (Hp)) G_ok [15, 16, 17, 9, 20, 21, 22, 10, 25, 26, 27, 28, 29, 30, 31, 32, 33, 34, 35, 36, 37, 40, 41, 42, 43, 44, 45, 46, 47, 48, 49, 50, 51, 52, 53, 54, 55, 56, 57, 58, 59, 60, 61, 62, 63, 64, 38, 39, 23, 24, 18, 19, 8] (fun z => [(8, .v (.int .i64 z.1))]) (fun z => []) (fun z => [z.2.2, H]) (fun z => n - z.1) (fun z => z.1 ≤ n ∧ BehI n A B z.1 0 0 z.2.1 ∧ (gSl 4 gB).ow [.slice (some ⟨x0, 0, none⟩) (IntKind.i64.wrap ((n : Int) * (n : Int))).toNat (IntKind.i64.wrap ((n : Int) * (n : Int))).toNat] z.2.1 z.2.2) ((0, List.replicate (IntKind.i64.wrap ((n : Int) * (n : Int))).toNat false, _))
 ·exact frI
 ·exact trivial
 ·try dsimp only
  exact ⟨Nat.zero_le _, beh_init hNN _ _, gmake (g := gB) (T := 4) (z := false) (lz := [.bool false]) (gB_ow (x := false) trivial) (Nat.le_refl _) (by omega)⟩
 ·exact .refl _
 rintro ⟨i, m, W⟩ hI
 try dsimp only at hI
 obtain ⟨hi, hI, oW⟩ := hI
 try dsimp only
 refine ⟨fun q1 => ?_, fun q1 => ?_⟩
 ·simp at q1
  apply loop_mod (α := (Nat) × (List Bool) × (Hp)) G_ok [20, 21, 22, 10, 25, 26, 27, 28, 29, 30, 31, 32, 33, 34, 35, 36, 37, 40, 41, 42, 43, 44, 45, 46, 47, 48, 49, 50, 51, 52, 53, 54, 55, 56, 57, 58, 59, 60, 61, 62, 63, 64, 38, 39, 23, 24, 9] (fun z => [(9, .v (.int .i64 z.1))]) (fun z => []) (fun z => [z.2.2, H]) (fun z => n - z.1) (fun z => z.1 ≤ n ∧ BehI n A B i z.1 0 z.2.1 ∧ (gSl 4 gB).ow [.slice (some ⟨x0, 0, none⟩) (IntKind.i64.wrap ((n : Int) * (n : Int))).toNat (IntKind.i64.wrap ((n : Int) * (n : Int))).toNat] z.2.1 z.2.2) ((0, m, W))
  ·exact frI
  ·exact trivial
  ·try dsimp only
   exact ⟨Nat.zero_le _, hI, oW⟩
  ·exact .refl _
  rintro ⟨k, m1, W1⟩ hI
  try dsimp only at hI
  obtain ⟨hk, hK, oW1⟩ := hI
  try dsimp only
  refine ⟨fun q2 => ?_, fun q2 => ?_⟩
  ·simp at q2
   have hsk := sq_le hn.2 (u := i) (v := k) (by omega) (by omega)
   have hwk := idx_wr (n := n) (i := i) (k := k) (by omega)
   have hwkn : (IntKind.i64.wrap (IntKind.i64.wrap ((i : Int) * (n : Int)) + (k : Int))).toNat = i * n + k := by rw [hwk]; omega
   apply loop_mod (α := (Nat) × (List Bool) × (Hp)) G_ok [25, 26, 27, 28, 29, 30, 31, 32, 33, 34, 35, 36, 37, 40, 41, 42, 43, 44, 45, 46, 47, 48, 49, 50, 51, 52, 53, 54, 55, 56, 57, 58, 59, 60, 61, 62, 63, 64, 38, 39, 10] (fun z => [(10, .v (.int .i64 z.1))]) (fun z => []) (fun z => [z.2.2, H]) (fun z => n - z.1) (fun z => z.1 ≤ n ∧ BehI n A B i k z.1 z.2.1 ∧ (gSl 4 gB).ow [.slice (some ⟨x0, 0, none⟩) (IntKind.i64.wrap ((n : Int) * (n : Int))).toNat (IntKind.i64.wrap ((n : Int) * (n : Int))).toNat] z.2.1 z.2.2) ((0, m1, W1))
   ·exact frI
   ·exact trivial
   ·try dsimp only
    exact ⟨Nat.zero_le _, hK, oW1⟩
   ·exact .refl _
   rintro ⟨j, m2, W2⟩ hI
   try dsimp only at hI
   obtain ⟨hj, hJ, oW2⟩ := hI
   try dsimp only
   refine ⟨fun q3 => ?_, fun q3 => ?_⟩
   ·simp at q3
    have hsj := sq_le hn.2 (u := i) (v := j) (by omega) (by omega)
    have hwj := idx_wr (n := n) (i := i) (k := j) (by omega)
    have hwjn : (IntKind.i64.wrap (IntKind.i64.wrap ((i : Int) * (n : Int)) + (j : Int))).toNat = i * n + j := (by rw [hwj]; omega)
    have hsb := sq_le hn.2 (u := k) (v := j) (by omega) (by omega)
    have hwb := idx_wr (n := n) (i := k) (k := j) (by omega)
    have hwbn : (IntKind.i64.wrap (IntKind.i64.wrap ((k : Int) * (n : Int)) + (j : Int))).toNat = k * n + j := (by rw [hwb]; omega)
    have hml := hJ.len
    refine idx_rd hp ?_ ?_ fun b4 o4 hb4 => ?_
    ·(simp (disch := omega) only [wrap_of]; omega)
    ·(simp (disch := omega) only [wrap_of]; omega)
    refine load_all false hp ?_ ?_ hb4 rfl (mem_at 1 rfl) fun l5 hl5 => ?_
    ·(simp (disch := omega) only [wrap_of]; omega)
    ·(simp (disch := omega) only [wrap_of]; omega)
    obtain ⟨rfl, hw5⟩ := hl5
    refine ⟨fun q6 => ?_, fun q6 => ?_⟩
    ·simp (disch := omega) only [wrap_of] at q6
     refine idx_rd (Gt.owrd _ oW2) ?_ ?_ fun b7 o7 hb7 => ?_
     ·(simp (disch := omega) only [wrap_of]; omega)
     ·(simp (disch := omega) only [wrap_of]; omega)
     refine load_all false (Gt.owrd _ oW2) ?_ ?_ hb7 rfl (mem_at 0 rfl) fun l8 hl8 => ?_
     ·(simp (disch := omega) only [wrap_of]; omega)
     ·(simp (disch := omega) only [wrap_of]; omega)
     obtain ⟨rfl, hw8⟩ := hl8
     refine ⟨fun q9 => ?_, fun q9 => ?_⟩
     ·simp (disch := omega) only [wrap_of] at q9
      refine idx_rd (Gt.owrd _ oW2) ?_ ?_ fun b10 o10 hb10 => ?_
      ·(simp (disch := omega) only [wrap_of]; omega)
      ·(simp (disch := omega) only [wrap_of]; omega)
      refine gstoreN (Fld.id _) false (Int.toNat (IntKind.i64.wrap (IntKind.i64.wrap ((↑i : Int) * (↑n : Int)) + (↑j : Int)))) 0 rfl (Int.toNat_of_nonneg ?_).symm oW2 ?_ ?_ hb10 rfl gB_pl _ (gB_ow trivial) fun A11 o11 => ?_
      ·(simp (disch := omega) only [wrap_of]; omega)
      ·(simp (disch := omega) only [wrap_of]; omega)
      ·(simp (disch := omega) only [wrap_of]; omega)
      apply loop_stepA (j + 1, m2.set (IntKind.i64.wrap (IntKind.i64.wrap ((i : Int) * (n : Int)) + (j : Int))).toNat true, _)
      ·exact .refl _
      ·exact frI
      ·exact trivial
      ·try dsimp only
       exact ⟨by omega, by rw [hwjn]; exact beh_step hJ (by omega) (by omega) (by omega) ((ra.rows i k (by omega) (by omega)).1 (sees_at (by assumption) (idx_nw n i k))) ⟨fun _ => .inl (sees_at (by assumption) (idx_nw n i j)), fun _ => rfl⟩, by assumption⟩
      try dsimp only
      omega
     ·simp (disch := omega) only [wrap_of] at q9
      refine idx_rd hq ?_ ?_ fun b12 o12 hb12 => ?_
      ·(simp (disch := omega) only [wrap_of]; omega)
      ·(simp (disch := omega) only [wrap_of]; omega)
      refine load_all false hq ?_ ?_ hb12 rfl (mem_at 1 rfl) fun l13 hl13 => ?_
      ·(simp (disch := omega) only [wrap_of]; omega)
      ·(simp (disch := omega) only [wrap_of]; omega)
      obtain ⟨rfl, hw13⟩ := hl13
      refine idx_rd (Gt.owrd _ oW2) ?_ ?_ fun b14 o14 hb14 => ?_
      ·(simp (disch := omega) only [wrap_of]; omega)
      ·(simp (disch := omega) only [wrap_of]; omega)
      refine gstoreN (Fld.id _) false (Int.toNat (IntKind.i64.wrap (IntKind.i64.wrap ((↑i : Int) * (↑n : Int)) + (↑j : Int)))) 0 rfl (Int.toNat_of_nonneg ?_).symm oW2 ?_ ?_ hb14 rfl gB_pl _ (gB_ow trivial) fun A15 o15 => ?_
      ·(simp (disch := omega) only [wrap_of]; omega)
      ·(simp (disch := omega) only [wrap_of]; omega)
      ·(simp (disch := omega) only [wrap_of]; omega)
      apply loop_stepA (j + 1, m2.set (IntKind.i64.wrap (IntKind.i64.wrap ((i : Int) * (n : Int)) + (j : Int))).toNat (xb[(IntKind.i64.wrap (IntKind.i64.wrap ((k : Int) * (n : Int)) + (j : Int))).toNat]?.getD false), _)
      ·exact .refl _
      ·exact frI
      ·exact trivial
      ·try dsimp only
       exact ⟨by omega, by rw [hwjn]; exact beh_step hJ (by omega) (by omega) (by omega) ((ra.rows i k (by omega) (by omega)).1 (sees_at (by assumption) (idx_nw n i k))) (bor_no (by assumption) (idx_nw n i j) (rb.rows k j (by omega) (by omega)) hwbn), by assumption⟩
      try dsimp only
      omega
    ·simp (disch := omega) only [wrap_of] at q6
     apply loop_stepA (k + 1, m2, W2)
     ·exact .refl _
     ·exact frI
     ·exact trivial
     ·try dsimp only
      exact ⟨by omega, beh_skip hJ (mt (ra.rows i k (by omega) (by omega)).2 (sees_not (by assumption) (idx_nw n i k))), oW2⟩
     try dsimp only
     omega
   ·simp at q3
    apply loop_stepA (k + 1, m2, W2)
    ·exact .refl _
    ·exact frI
    ·exact trivial
    ·try dsimp only
     exact ⟨by omega, beh_next hJ (by omega), oW2⟩
    try dsimp only
    omega
  ·simp at q2
   apply loop_stepA (i + 1, m1, W1)
   ·exact .refl _
   ·exact frI
   ·exact trivial
   ·try dsimp only
    exact ⟨by omega, beh_row hK (by omega), oW1⟩
   try dsimp only
   omega
 ·simp at q1
  (have hal : (IntKind.i64.wrap ((n : Int) * (n : Int))).toNat = m.length := (by rw [hI.len]; exact hNN); rw [hal] at oW ⊢; exact ⟨W, ⟨_, _, m, rfl, oW, beh_end hI (by omega)⟩, rlB⟩)
end
section
attribute [local irreducible] relAt
theorem RepS.congr {n : Nat} {m : List Bool} {R S : Nat → Nat → Prop} (h : RepS n m R) (e : ∀ u v, u < n → v < n → (R u v ↔ S u v)) : RepS n m S := ⟨h.len, fun u v hu hv => (h.rows u v hu hv).trans (e u v hu hv)⟩
theorem sq_none {n N : Nat} (hN : N = n * n) {R : Nat → Nat → Prop} (h : ∀ u v, ¬ R u v) : RepS n (List.replicate N false) R :=
 ⟨by rw [List.length_replicate]; exact hN, fun u v _ _ => ⟨fun h1 => absurd h1 rep_sees, fun h1 => absurd h1 (h u v)⟩⟩
theorem sq_set {n a b : Nat} {m : List Bool} {R : Nat → Nat → Prop} (h : RepS n m R) (ha : a < n) (hb : b < n) : RepS n (m.set (a * n + b) true) (fun u v => R u v ∨ (u = a ∧ v = b)) := by
 have hl : a * n + b < m.length := by rw [h.len]; exact sq_lt ha hb
 refine ⟨by rw [List.length_set]; exact h.len, fun u v hu hv => ?_⟩
 rw [sees_set2 hl, h.rows u v hu hv]
 constructor
 ·rintro (⟨e, _⟩ | ⟨_, h1⟩)
  ·exact .inr (sq_inj hv hb e)
  exact .inl h1
 rintro (h1 | ⟨rfl, rfl⟩)
 ·by_cases e : u * n + v = a * n + b
  ·exact .inl ⟨e, rfl⟩
  exact .inr ⟨e, h1⟩
 exact .inl ⟨rfl, rfl⟩
theorem sst_init {n N : Nat} (hN : N = n * n) (es : List Edge) (lb : UInt8) : RepS n (List.replicate N false) (stepRel (es.take 0) lb) :=
 sq_none hN fun u v ⟨e, h, _⟩ => by rw [List.take_zero] at h; cases h
theorem sst_skip {n : Nat} {es : List Edge} {lb : UInt8} {i : Nat} {m : List Bool} (hi : i < es.length) (h : RepS n m (stepRel (es.take i) lb)) (h2 : ¬ (es[i]?.getD default).label = lb) : RepS n m (stepRel (es.take (i + 1)) lb) :=
 h.congr fun u v _ _ => by
  constructor
  ·rintro ⟨x, h3, h4⟩; exact ⟨x, (take_mem hi).2 (.inl h3), h4⟩
  rintro ⟨x, h3, h4, h5⟩
  rcases (take_mem hi).1 h3 with h7 | rfl
  ·exact ⟨x, h7, h4, h5⟩
  exact absurd h4 h2
theorem sst_hit {n : Nat} {es : List Edge} {lb : UInt8} {i : Nat} {m : List Bool} (hE : EdgeR n es) (hi : i < es.length) (h : RepS n m (stepRel (es.take i) lb)) (h2 : (es[i]?.getD default).label = lb) :
  RepS n (m.set ((es[i]?.getD default).from'.toNat * n + (es[i]?.getD default).to.toNat) true) (stepRel (es.take (i + 1)) lb) := by
 obtain ⟨r1, r2, r3, r4⟩ := edge_rng hE hi
 refine (sq_set h (a := (es[i]?.getD default).from'.toNat) (b := (es[i]?.getD default).to.toNat) (by omega) (by omega)).congr fun u v _ _ => ?_
 constructor
 ·rintro (⟨x, h3, h4⟩ | ⟨rfl, rfl⟩)
  ·exact ⟨x, (take_mem hi).2 (.inl h3), h4⟩
  exact ⟨_, (take_mem hi).2 (.inr rfl), h2, by omega, by omega⟩
 rintro ⟨x, h3, h4, h5, h6⟩
 rcases (take_mem hi).1 h3 with h7 | rfl
 ·exact .inl ⟨x, h7, h4, h5, h6⟩
 exact .inr ⟨by omega, by omega⟩
def diagR (R : Nat → Nat → Prop) (k u v : Nat) : Prop := R u v ∨ (u = v ∧ u < k)
theorem diag_init {n : Nat} {m : List Bool} {R : Nat → Nat → Prop} (h : RepS n m R) : RepS n m (diagR R 0) := h.congr fun u v _ _ => ⟨.inl, fun h => h.elim id fun h => absurd h.2 (by omega)⟩
theorem diag_step {n k : Nat} {m : List Bool} {R : Nat → Nat → Prop} (h : RepS n m (diagR R k)) (hk : k < n) : RepS n (m.set (k * n + k) true) (diagR R (k + 1)) :=
 (sq_set h hk hk).congr fun u v _ _ => by
  unfold diagR
  constructor
  ·rintro ((h1 | h1) | ⟨rfl, rfl⟩)
   ·exact .inl h1
   ·exact .inr ⟨h1.1, by omega⟩
   exact .inr ⟨rfl, by omega⟩
  rintro (h1 | ⟨rfl, h1⟩)
  ·exact .inl (.inl h1)
  rcases (by omega : u < k ∨ u = k) with h2 | rfl
  ·exact .inl (.inr ⟨rfl, h2⟩)
  exact .inr ⟨rfl, rfl⟩
theorem diag_end {n k : Nat} {m : List Bool} {R : Nat → Nat → Prop} (h : RepS n m (diagR R k)) (hk : n ≤ k) : RepS n m (fun u v => u = v ∨ R u v) :=
 h.congr fun u v hu _ => ⟨fun h1 => h1.elim .inr fun h2 => .inl h2.1, fun h1 => h1.elim (fun h2 => .inr ⟨h2, by omega⟩) .inl⟩
structure AllS (n : Nat) (es : List Edge) (ps : List Piece) (i : Nat) (all : List (List Bool)) : Prop where
 len : all.length = i
 rel : ∀ q : Nat, q < i → RepS n (all[q]?.getD []) (relAt es n ps q)
theorem alls_init (n : Nat) (es : List Edge) (ps : List Piece) : AllS n es ps 0 [] := ⟨rfl, fun q h => absurd h (by omega)⟩
theorem alls_more {n : Nat} {es : List Edge} {ps : List Piece} {i : Nat} {all : List (List Bool)} {m : List Bool} (h : AllS n es ps i all) (hm : RepS n m (relAt es n ps i)) : AllS n es ps (i + 1) (all ++ [m]) := by
 have hl := h.len
 refine ⟨by rw [List.length_append, hl]; rfl, fun q hq => ?_⟩
 rcases (by omega : q < i ∨ q = i) with h1 | rfl
 ·rw [List.getElem?_append_left (by omega)]; exact h.rel q h1
 rw [List.getElem?_append_right (by omega), hl, Nat.sub_self]; exact hm
theorem rowS_one {es : List Edge} {n : Nat} {ps : List Piece} {ks : List Int} {m : List Bool} (hk : 0 < ks.length) (h : RepS n m (relAt es n ps (ks[0]?.getD 0).toNat)) : RepS n m (rowR es n ps (ks.take 1)) := by
 have h1 := rowR_step (es := es) (n := n) (ps := ps) hk
 rw [Nat.zero_add] at h1
 rw [h1]
 refine h.congr fun u v hu _ => ?_
 constructor
 ·intro h2; exact ⟨u, hu, by rw [List.take_zero]; rfl, h2⟩
 rintro ⟨w, _, h3, h4⟩
 rw [List.take_zero] at h3
 have h5 : u = w := h3
 rw [h5]; exact h4
def inR2 (n : Nat) (R : Nat → Nat → Prop) (u v : Nat) : Prop := u < n ∧ v < n ∧ R u v
theorem TC_in {n : Nat} {R : Nat → Nat → Prop} {u v : Nat} (hu : u < n) (hv : v < n) : TC n (inR2 n R) u v ↔ TC n R u v := by
 constructor
 ·intro h
  clear hv
  induction h with
  | one h => exact .one h.2.2
  | more _ hw h2 ih => exact .more ih hw h2.2.2
 intro h
 induction h with
 | one h => exact .one ⟨hu, hv, h⟩
 | more _ hw h2 ih => exact .more (ih hw) hw ⟨hw, hv, h2⟩
theorem rep_in {n : Nat} {m : List Bool} {R : Nat → Nat → Prop} (h : RepS n m R) : RepS n m (inR2 n R) := h.congr fun u v hu hv => ⟨fun h => ⟨hu, hv, h⟩, fun h => h.2.2⟩
theorem grow_init {n : Nat} {m : List Bool} {R : Nat → Nat → Prop} (h : RepS n m R) : RepS n m (growS n (inR2 n R) 0) := rep_in h
theorem grow_opt {n : Nat} {m : List Bool} {R : Nat → Nat → Prop} (h : RepS n m (growS n (inR2 n R) 0)) : RepS n m R := h.congr fun u v hu hv => ⟨fun h => h.2.2, fun h => ⟨hu, hv, h⟩⟩
theorem grow_end {n : Nat} {m : List Bool} {R : Nat → Nat → Prop} (h : RepS n m (growS n (inR2 n R) n)) : RepS n m (TC n R) :=
 h.congr fun u v hu hv => (grow_all fun _ _ h => ⟨h.1, h.2.1⟩).trans (TC_in hu hv)
theorem grow_next {n k : Nat} {m mB mO : List Bool} {R : Nat → Nat → Prop} (h : RepS n m (growS n R k)) (hB : RepS n mB (compR n (growS n R k) R)) (hO : OrB m mB mO m.length) : RepS n mO (growS n R (k + 1)) := orB_rep h hB hO
end
section
attribute [local irreducible] IntKind.wrap relAt
theorem idx_wi {n : Nat} {a s b : Int} (hs : s = n) (hn : n ≤ 12) (ha : 0 ≤ a ∧ a < n) (hb : 0 ≤ b ∧ b < n) : IntKind.i64.wrap (IntKind.i64.wrap (a * s) + b) = ((a.toNat * n + b.toNat : Nat) : Int) := by
 obtain ⟨a', rfl⟩ := Int.eq_ofNat_of_zero_le ha.1
 obtain ⟨b', rfl⟩ := Int.eq_ofNat_of_zero_le hb.1
 subst hs
 have h1 := sq_le hn (u := a') (v := b') (by omega) (by omega)
 rw [Int.toNat_natCast, Int.toNat_natCast]
 exact idx_wr (by omega)
theorem l06BehindI_ct (b1 : Option Addr) (m1 c1 : Nat) (b2 : Option Addr) (m2 c2 : Nat) (s : Int) (n : Nat) (hs : s = n) (xa xb : List Bool) (A B : Nat → Nat → Prop) (hn : 1 ≤ n ∧ n ≤ 12) (ra : RepS n xa A) (rb : RepS n xb B) :
  Ct prog 397 [.slice b1 m1 c1, .slice b2 m2 c2, .int .i64 s] [] (fun H => (gSl 4 gB).rd H [.slice b1 m1 c1] xa ∧ (gSl 4 gB).rd H [.slice b2 m2 c2] xb)
   (fun v D => ∃ b c m, v = .slice b m.length c ∧ (gSl 4 gB).ow [.slice b m.length c] m D ∧ RepS n m (compR n A B)) := by
 subst hs; exact l06Behind_ct b1 m1 c1 b2 m2 c2 n xa xb A B hn ra rb
theorem l06OrN_ct (N : Nat) (b : Option Addr) (c : Nat) (b2 : Option Addr) (m2 c2 : Nat) (xs ys : List Bool) {A : Hp} (ho : (gSl 4 gB).ow [.slice b N c] xs A) (hN : N = xs.length) (hl : xs.length = ys.length) (hm : xs.length ≤ 1000) :
  CtR prog 398 [.slice b N c, .slice b2 m2 c2] A (fun H => (gSl 4 gB).rd H [.slice b2 m2 c2] ys)
   (fun v D => v = .tuple #[] ∧ ∃ m, OrB xs ys m xs.length ∧ (gSl 4 gB).ow [.slice b N c] m D) := by
 subst hN; exact l06Or_ct b c b2 m2 c2 xs ys ho hl hm
theorem l06Full_ct (lg lp : List Value) (g : Graph) (x : Path) (hg : graphOk g = true) (hx : pathOk x = true) :
  Ct prog 360 [.agg ⟨lg⟩, .agg ⟨lp⟩] [] (fun H => gGraph.rd H lg g ∧ gPath.rd H lp x)
   (fun v D => ∃ b c all, v = .slice b all.length c ∧ (gSl 167 (gSl 4 gB)).ow [.slice b all.length c] all D ∧ AllS g.size.toNat g.edges x.pieces x.pieces.length all) := by
 refine Ct.intro0 G_ok func360 rfl rfl rfl fun E H hp => ?_
 obtain ⟨hp, hq⟩ := hp
 obtain ⟨hp1, hp2, hps⟩ := path_all hx
 have hkb := below_of hps
 obtain ⟨hg1, hg2, hE⟩ := g_parts hg
 obtain ⟨n, hn⟩ : ∃ n : Nat, g.size.toNat = n := ⟨_, rfl⟩
 have hgs : g.size = (n : Int) := by omega
 rw [hn] at hE ⊢
 have h12 : n ≤ 12 := by omega
 have hnn : n * n ≤ 144 := Nat.mul_le_mul h12 h12
 have hw0 : IntKind.i64.wrap (g.size * g.size) = ((n * n : Nat) : Int) := by rw [hgs, Int.natCast_mul, wrap_of] <;> (rw [← Int.natCast_mul]; omega)
 have hNN : (IntKind.i64.wrap (g.size * g.size)).toNat = n * n := by rw [hw0]; omega
 obtain ⟨b1p, c1p, rfl, w0p, h1p⟩ := gGraph_rd.1 hp
 obtain ⟨b0r, c0r, rfl, h0r⟩ := gPath_rd.1 hq
 refine ⟨fun x0 => ?_⟩
 refine ⟨fun x1 => ?_⟩
 refine ⟨fun x2 => ?_⟩
 apply loop_mod (α := (Nat) × (List (List Bool)) × (Hp) × (Option Addr) × (Nat)) G_ok [18, 19, 20, 21, 22, 25, 26, 27, 28, 29, 8, 30, 31, 32, 33, 9, 34, 35, 85, 84, 10, 86, 87, 88, 89, 90, 93, 94, 95, 96, 97, 98, 99, 100, 101, 102, 103, 104, 105, 106, 107, 108, 109, 110, 111, 112, 113, 114, 115, 116, 117, 118, 91, 92, 120, 119, 121, 122, 123, 124, 125, 126, 127, 128, 129, 11, 130, 131, 132, 133, 134, 137, 138, 139, 140, 141, 142, 143, 144, 145, 146, 147, 135, 136, 149, 148, 12, 150, 151, 152, 153, 154, 157, 158, 159, 160, 161, 162, 163, 164, 165, 166, 155, 156, 36, 37, 38, 39, 40, 41, 42, 43, 44, 13, 45, 46, 47, 48, 49, 50, 51, 52, 55, 56, 57, 58, 59, 60, 61, 62, 63, 64, 65, 66, 53, 54, 14, 67, 68, 69, 70, 71, 72, 73, 74, 77, 78, 79, 80, 81, 82, 83, 75, 76, 167, 168, 169, 170, 6, 23, 24, 7] (fun z => [(7, .v (.int .i64 z.1)), (6, .v (.slice z.2.2.2.1 z.2.1.length z.2.2.2.2))]) (fun z => [{ id := x0, cs := [Value.int IntKind.i64 g.size, Value.slice b1p g.edges.length c1p], ty := (88 : Nat) }, { id := x1, cs := [Value.slice b0r x.pieces.length c0r], ty := (269 : Nat) }]) (fun z => [z.2.2.1, H]) (fun z => x.pieces.length - z.1) (fun z => z.1 ≤ x.pieces.length ∧ AllS n g.edges x.pieces z.1 z.2.1 ∧ (gSl 167 (gSl 4 gB)).ow [.slice z.2.2.2.1 z.2.1.length z.2.2.2.2] z.2.1 z.2.2.1) ((0, [], [], some ⟨x2, 0, none⟩, 0))
 ·exact frI
 ·exact ⟨rfl, rfl, trivial⟩
 ·try dsimp only
  exact ⟨Nat.zero_le _, alls_init _ _ _, sl_nil _ _ _⟩
 ·exact .tl
 rintro ⟨i, all, W, lb, lc⟩ hI
 try dsimp only at hI
 obtain ⟨hi, hA, oW⟩ := hI
 try dsimp only
 refine ⟨fun q3 => ?_, fun q3 => ?_⟩
 ·simp at q3
  have hpk := piece_iff9 (hps i (by omega))
  have hAl := hA.len
  obtain ⟨hkl, hkk⟩ := hkb i (by omega)
  refine idx_rd h0r ?_ ?_ fun b4 o4 hb4 => ?_
  ·omega
  ·omega
  refine load_allN default (i) rfl h0r ?_ ?_ hb4 rfl (mem_at 1 rfl) fun l5 hl5 => ?_
  ·omega
  ·omega
  obtain ⟨b2x5, c2x5, rfl, w0x5, h2x5⟩ := gPiece_rd.1 hl5
  refine ⟨fun x6 => ?_⟩
  refine VCmake.intro ?_ ?_ ?_ ?_ fun x7 => ?_
  ·omega
  ·omega
  ·omega
  ·omega
  have o7 := gmake (g := gB) (T := 4) (z := false) (lz := [.bool false]) (b := x7) (k := (IntKind.i64.wrap (g.size * g.size)).toNat) (c := (IntKind.i64.wrap (g.size * g.size)).toNat) (gB_ow (x := false) trivial) (Nat.le_refl _) (by rw [hNN]; omega)
  refine ⟨fun q8 => ?_, fun q8 => ?_⟩
  ·simp at q8
   apply loop_mod (α := (Nat) × (List Bool) × (Hp)) G_ok [86, 87, 88, 89, 90, 93, 94, 95, 96, 97, 98, 99, 100, 101, 102, 103, 104, 105, 106, 107, 108, 109, 110, 111, 112, 113, 114, 115, 116, 117, 118, 91, 92, 10] (fun z => [(10, .v (.int .i64 z.1))]) (fun z => [{ id := x0, cs := [Value.int IntKind.i64 g.size, Value.slice b1p g.edges.length c1p], ty := (88 : Nat) }, { id := x1, cs := [Value.slice b0r x.pieces.length c0r], ty := (269 : Nat) }, { id := x6, cs := [Value.int IntKind.i64 (x.pieces[i]?.getD default).op, Value.int IntKind.u8 (↑(x.pieces[i]?.getD default).label.toNat : Int), Value.slice b2x5 (x.pieces[i]?.getD default).kids.length c2x5], ty := (417 : Nat) }]) (fun z => [z.2.2, W, H]) (fun z => g.edges.length - z.1) (fun z => z.1 ≤ g.edges.length ∧ RepS n z.2.1 (stepRel (g.edges.take z.1) (x.pieces[i]?.getD default).label) ∧ (gSl 4 gB).ow [.slice (some ⟨x7, 0, none⟩) (IntKind.i64.wrap (g.size * g.size)).toNat (IntKind.i64.wrap (g.size * g.size)).toNat] z.2.1 z.2.2) ((0, List.replicate (IntKind.i64.wrap (g.size * g.size)).toNat false, _))
   ·exact frI
   ·exact ⟨rfl, rfl, rfl, trivial⟩
   ·try dsimp only
    exact ⟨Nat.zero_le _, sst_init hNN _ _, by assumption⟩
   ·exact .refl _
   rintro ⟨k, m, D⟩ hI
   try dsimp only at hI
   obtain ⟨hk, hK, oD⟩ := hI
   try dsimp only
   refine ⟨fun q9 => ?_, fun q9 => ?_⟩
   ·simp at q9
    obtain ⟨r1, r2, r3, r4⟩ := edge_rng hE (i := k) (by omega)
    have hid := idx_wi hgs h12 ⟨r1, r2⟩ ⟨r3, r4⟩
    have hsl := sq_le h12 (u := (g.edges[k]?.getD default).from'.toNat) (v := (g.edges[k]?.getD default).to.toNat) (by omega) (by omega)
    have hidn : (IntKind.i64.wrap (IntKind.i64.wrap ((g.edges[k]?.getD default).from' * g.size) + (g.edges[k]?.getD default).to)).toNat = (g.edges[k]?.getD default).from'.toNat * n + (g.edges[k]?.getD default).to.toNat := (by rw [hid]; omega)
    have hml := hK.len
    refine draw G_ok mixed none (.q 0 (.q 1 (.q 2 (.q 3 (.q 4 (.q 5 (.q 6 (.q 7 (.q 8 (.nil)))))))))) (by decide +kernel) ?_
    refine idx_rd h1p ?_ ?_ fun b10 o10 hb10 => ?_
    ·omega
    ·omega
    refine load_partN default (k) 1 rfl h1p ?_ ?_ hb10 rfl (by decide) (mem_at 2 rfl) fun l11 hl11 => ?_
    ·omega
    ·omega
    obtain ⟨rfl, w0x11, w2x11⟩ := gEdge_rd.1 hl11
    refine ⟨fun q12 => ?_, fun q12 => ?_⟩
    ·simp at q12
     simp only [str_inj, u8_inj, u8_wrap] at q12
     refine draw G_ok mixed (some 17) (.q 0 (.q 1 (.q 2 (.q 3 (.q 4 (.q 5 (.q 6 (.q 7 (.q 8 (.q 9 (.q 10 (.q 11 (.q 12 (.q 13 (.q 14 (.q 15 (.q 16 (.tl 17 (.nil))))))))))))))))))) (by decide +kernel) ?_
     refine idx_rd h1p ?_ ?_ fun b13 o13 hb13 => ?_
     ·omega
     ·omega
     refine load_partN default (k) 0 rfl h1p ?_ ?_ hb13 rfl (by decide) (mem_at 2 rfl) fun l14 hl14 => ?_
     ·omega
     ·omega
     obtain ⟨rfl, w0x14, w2x14⟩ := gEdge_rd.1 hl14
     refine idx_rd h1p ?_ ?_ fun b15 o15 hb15 => ?_
     ·omega
     ·omega
     refine load_partN default (k) 2 rfl h1p ?_ ?_ hb15 rfl (by decide) (mem_at 2 rfl) fun l16 hl16 => ?_
     ·omega
     ·omega
     obtain ⟨rfl, w0x16, w2x16⟩ := gEdge_rd.1 hl16
     refine idx_rd (Gt.owrd _ oD) ?_ ?_ fun b17 o17 hb17 => ?_
     ·omega
     ·omega
     refine gstoreN (Fld.id _) false (Int.toNat (IntKind.i64.wrap (IntKind.i64.wrap ((g.edges[k]?.getD default).from' * g.size) + (g.edges[k]?.getD default).to))) 0 rfl (Int.toNat_of_nonneg ?_).symm oD ?_ ?_ hb17 rfl gB_pl _ (gB_ow trivial) fun A18 o18 => ?_
     ·omega
     ·omega
     ·omega
     apply loop_stepA (k + 1, m.set (IntKind.i64.wrap (IntKind.i64.wrap ((g.edges[k]?.getD default).from' * g.size) + (g.edges[k]?.getD default).to)).toNat true, _)
     ·exact .refl _
     ·exact frI
     ·exact ⟨rfl, rfl, rfl, trivial⟩
     ·try dsimp only
      exact ⟨by omega, by rw [hidn]; exact sst_hit hE (by omega) hK (by assumption), by assumption⟩
     try dsimp only
     omega
    ·simp at q12
     simp only [str_inj, u8_inj, u8_wrap] at q12
     apply loop_stepA (k + 1, m, D)
     ·exact .refl _
     ·exact frI
     ·exact ⟨rfl, rfl, rfl, trivial⟩
     ·try dsimp only
      exact ⟨by omega, sst_skip (by omega) hK (by assumption), oD⟩
     try dsimp only
     omega
   ·simp at q9
    refine ⟨fun x19 => ?_⟩
    refine gappend1 (g := (gSl 4 gB)) (T := (167 : TypeId)) G_ok W _ [H] ?_ oW ((by assumption)) (List.mem_of_getElem? (i := 0) rfl) rfl rfl rfl rfl rfl rfl rfl rfl ?_ fun b20 c20 A20 o20 => ?_
    ·exact rlA
    ·omega
    apply loop_stepA (i + 1, all ++ [m], _, _, _)
    ·exact .refl _
    ·exact frI
    ·exact ⟨rfl, rfl, trivial⟩
    ·try dsimp only
     (have hke : k = g.edges.length := (by omega); subst hke; rw [List.take_length] at hK; exact ⟨by omega, alls_more hA (by rw [relAt_step (by assumption)]; exact hK), by assumption⟩)
    try dsimp only
    omega
  ·simp at q8
   refine ⟨fun q21 => ?_, fun q21 => ?_⟩
   ·simp at q21
    obtain ⟨_, hkc, hkn⟩ := sl_len h2x5
    have hr0 := (hA.rel _ (hkk _ (mem_getD (d := 0) (hkl (by omega)))).2).len
    refine ⟨fun x22 => ?_⟩
    refine idx_rd h2x5 ?_ ?_ fun b23 o23 hb23 => ?_
    ·trivial
    ·omega
    refine load_allN 0 (0) rfl h2x5 ?_ ?_ hb23 rfl (mem_at 3 rfl) fun l24 hl24 => ?_
    ·trivial
    ·omega
    obtain ⟨rfl, hw24⟩ := hl24; simp only [flStr, flInt, okI] at hw24
    refine idx_rd (Gt.owrd _ oW) ?_ ?_ fun b25 o25 hb25 => ?_
    ·grind
    ·grind
    refine load_all [] (Gt.owrd _ oW) ?_ ?_ hb25 rfl (mem_at 2 rfl) fun l26 hl26 => ?_
    ·grind
    ·grind
    obtain ⟨u26, w26, rfl, hl26⟩ := sl_rd hl26
    refine append_allN (g := gB) (T := (4 : TypeId)) G_ok (by repeat (first | exact fl_plain | apply plain_iso | apply plain_pair)) [] [[(x22, Obj.cells { toList := zeros (0 : Nat) [Value.bool false] } (4 : TypeId))], [(x7, Obj.cells { toList := zeros (IntKind.i64.wrap (g.size * g.size)).toNat [Value.bool false] } (4 : TypeId))], W, H] 2 ?_ (sl_nil _ _ _) rfl hl26 rfl rfl rfl rfl rfl rfl rfl rfl ?_ fun b27 c27 A27 o27 => ?_
    ·exact .refl _
    ·simp; omega
    apply loop_mod (α := (Nat) × (List Bool) × (Hp) × (Option Addr) × (Nat)) G_ok [130, 131, 132, 133, 134, 137, 138, 139, 140, 141, 142, 143, 144, 145, 146, 147, 9, 135, 136, 11] (fun z => [(11, .v (.int .i64 z.1)), (9, .v (.slice z.2.2.2.1 z.2.1.length z.2.2.2.2))]) (fun z => [{ id := x0, cs := [Value.int IntKind.i64 g.size, Value.slice b1p g.edges.length c1p], ty := (88 : Nat) }, { id := x1, cs := [Value.slice b0r x.pieces.length c0r], ty := (269 : Nat) }, { id := x6, cs := [Value.int IntKind.i64 (x.pieces[i]?.getD default).op, Value.int IntKind.u8 (↑(x.pieces[i]?.getD default).label.toNat : Int), Value.slice b2x5 (x.pieces[i]?.getD default).kids.length c2x5], ty := (417 : Nat) }]) (fun z => [z.2.2.1, W, H]) (fun z => (x.pieces[i]?.getD default).kids.length - z.1) (fun z => 1 ≤ z.1 ∧ z.1 ≤ (x.pieces[i]?.getD default).kids.length ∧ RepS n z.2.1 (rowR g.edges n x.pieces ((x.pieces[i]?.getD default).kids.take z.1)) ∧ (gSl 4 gB).ow [.slice z.2.2.2.1 z.2.1.length z.2.2.2.2] z.2.1 z.2.2.1) ((1, [] ++ (all[((x.pieces[i]?.getD default).kids[0]?.getD 0).toNat]?.getD []), _, _, _))
    ·exact frI
    ·exact ⟨rfl, rfl, rfl, trivial⟩
    ·try dsimp only
     exact ⟨Nat.le_refl _, hkl (by omega), rowS_one (hkl (by omega)) (hA.rel _ (hkk _ (mem_getD (hkl (by omega)))).2), by assumption⟩
    ·exact rlA
    rintro ⟨k, m, D, ob, oc⟩ hI
    try dsimp only at hI
    obtain ⟨h1k, hk, hK, oD⟩ := hI
    try dsimp only
    refine ⟨fun q28 => ?_, fun q28 => ?_⟩
    ·simp at q28
     have hkj := hkk ((x.pieces[i]?.getD default).kids[k]?.getD 0) (mem_getD (by omega))
     have hr2 := hA.rel _ hkj.2
     refine idx_rd h2x5 ?_ ?_ fun b29 o29 hb29 => ?_
     ·omega
     ·omega
     refine load_allN 0 (k) rfl h2x5 ?_ ?_ hb29 rfl (mem_at 2 rfl) fun l30 hl30 => ?_
     ·omega
     ·omega
     obtain ⟨rfl, hw30⟩ := hl30; simp only [flStr, flInt, okI] at hw30
     refine idx_rd (Gt.owrd _ oW) ?_ ?_ fun b31 o31 hb31 => ?_
     ·omega
     ·omega
     refine load_all [] (Gt.owrd _ oW) ?_ ?_ hb31 rfl (mem_at 1 rfl) fun l32 hl32 => ?_
     ·omega
     ·omega
     obtain ⟨u32, w32, rfl, hl32⟩ := sl_rd hl32
     refine call_new (l06BehindI_ct _ _ _ _ _ _ _ n hgs ((m)) ((all[((x.pieces[i]?.getD default).kids[k]?.getD (0 : Int)).toNat]?.getD [])) _ _ ⟨by omega, h12⟩ (by assumption) (by assumption)) ⟨(Rp.mono _ (mem_at 0 rfl) (Gt.owrd _ oD)), (Rp.mono _ (mem_at 1 rfl) hl32)⟩ ?_
     rintro v33 A33 o33
     obtain ⟨bB, cB, mB, rfl, oB, hB⟩ := o33
     apply loop_stepA (k + 1, mB, _, bB, cB)
     ·exact .sub (by repeat (first | exact .slnil | apply List.Sublist.cons_cons | apply List.Sublist.cons))
     ·exact frI
     ·exact ⟨rfl, rfl, rfl, trivial⟩
     ·try dsimp only
      exact ⟨by omega, by omega, by rw [rowR_step (by omega)]; exact hB, oB⟩
     try dsimp only
     omega
    ·simp at q28
     refine ⟨fun x34 => ?_⟩
     refine gappend1 (g := (gSl 4 gB)) (T := (167 : TypeId)) G_ok W _ [H] ?_ oW ((by assumption)) (List.mem_of_getElem? (i := 0) rfl) rfl rfl rfl rfl rfl rfl rfl rfl ?_ fun b35 c35 A35 o35 => ?_
     ·exact rlA
     ·omega
     apply loop_stepA (i + 1, all ++ [m], _, _, _)
     ·exact .refl _
     ·exact frI
     ·exact ⟨rfl, rfl, trivial⟩
     ·try dsimp only
      (have hke : k = (x.pieces[i]?.getD default).kids.length := (by omega); subst hke; rw [List.take_length] at hK; exact ⟨by omega, alls_more hA (by rw [relAt_row hkb (by omega) (by assumption)]; exact hK), by assumption⟩)
     try dsimp only
     omega
   ·simp at q21
    refine ⟨fun q36 => ?_, fun q36 => ?_⟩
    ·simp at q36
     obtain ⟨_, hkc, hkn⟩ := sl_len h2x5
     apply loop_mod (α := (Nat) × (List Bool) × (Hp)) G_ok [150, 151, 152, 153, 154, 157, 158, 159, 160, 161, 162, 163, 164, 165, 166, 155, 156, 12] (fun z => [(12, .v (.int .i64 z.1))]) (fun z => [{ id := x0, cs := [Value.int IntKind.i64 g.size, Value.slice b1p g.edges.length c1p], ty := (88 : Nat) }, { id := x1, cs := [Value.slice b0r x.pieces.length c0r], ty := (269 : Nat) }, { id := x6, cs := [Value.int IntKind.i64 (x.pieces[i]?.getD default).op, Value.int IntKind.u8 (↑(x.pieces[i]?.getD default).label.toNat : Int), Value.slice b2x5 (x.pieces[i]?.getD default).kids.length c2x5], ty := (417 : Nat) }]) (fun z => [z.2.2, W, H]) (fun z => (x.pieces[i]?.getD default).kids.length - z.1) (fun z => z.1 ≤ (x.pieces[i]?.getD default).kids.length ∧ RepS n z.2.1 (altR g.edges n x.pieces ((x.pieces[i]?.getD default).kids.take z.1)) ∧ (gSl 4 gB).ow [.slice (some ⟨x7, 0, none⟩) (IntKind.i64.wrap (g.size * g.size)).toNat (IntKind.i64.wrap (g.size * g.size)).toNat] z.2.1 z.2.2) ((0, List.replicate (IntKind.i64.wrap (g.size * g.size)).toNat false, _))
     ·exact frI
     ·exact ⟨rfl, rfl, rfl, trivial⟩
     ·try dsimp only
      exact ⟨Nat.zero_le _, sq_none hNN (fun u v ⟨e, h, _⟩ => by rw [List.take_zero] at h; cases h), by assumption⟩
     ·exact .refl _
     rintro ⟨k, m, D⟩ hI
     try dsimp only at hI
     obtain ⟨hk, hK, oD⟩ := hI
     try dsimp only
     refine ⟨fun q37 => ?_, fun q37 => ?_⟩
     ·simp at q37
      have hkj := hkk ((x.pieces[i]?.getD default).kids[k]?.getD 0) (mem_getD (by omega))
      have hr2 := hA.rel _ hkj.2
      have hml := hK.len
      have hal2 := hr2.len
      refine idx_rd h2x5 ?_ ?_ fun b38 o38 hb38 => ?_
      ·omega
      ·omega
      refine load_allN 0 (k) rfl h2x5 ?_ ?_ hb38 rfl (mem_at 2 rfl) fun l39 hl39 => ?_
      ·omega
      ·omega
      obtain ⟨rfl, hw39⟩ := hl39; simp only [flStr, flInt, okI] at hw39
      refine idx_rd (Gt.owrd _ oW) ?_ ?_ fun b40 o40 hb40 => ?_
      ·omega
      ·omega
      refine load_all [] (Gt.owrd _ oW) ?_ ?_ hb40 rfl (mem_at 1 rfl) fun l41 hl41 => ?_
      ·omega
      ·omega
      obtain ⟨u41, w41, rfl, hl41⟩ := sl_rd hl41
      refine callR_part (D) [W, H] (l06OrN_ct _ _ _ _ _ _ _ ((all[((x.pieces[i]?.getD default).kids[k]?.getD (0 : Int)).toNat]?.getD [])) oD ?_ ?_ ?_) ?_ (Rp.mono _ (mem_at 0 rfl) hl41) ?_
      ·omega
      ·omega
      ·omega
      ·exact .refl _
      rintro _ A42 ⟨rfl, mO, hO, oO⟩
      refine ⟨[A42], by simp, ?_⟩
      apply loop_stepA (k + 1, mO, _)
      ·exact .refl _
      ·exact frI
      ·exact ⟨rfl, rfl, rfl, trivial⟩
      ·try dsimp only
       exact ⟨by omega, (orB_rep hK hr2 hO).congr fun u v _ _ => (altR_step (by omega) u v).symm, oO⟩
      try dsimp only
      omega
     ·simp at q37
      refine ⟨fun x43 => ?_⟩
      refine gappend1 (g := (gSl 4 gB)) (T := (167 : TypeId)) G_ok W _ [H] ?_ oW ((by assumption)) (List.mem_of_getElem? (i := 0) rfl) rfl rfl rfl rfl rfl rfl rfl rfl ?_ fun b44 c44 A44 o44 => ?_
      ·exact rlA
      ·omega
      apply loop_stepA (i + 1, all ++ [m], _, _, _)
      ·exact .refl _
      ·exact frI
      ·exact ⟨rfl, rfl, trivial⟩
      ·try dsimp only
       (have hke : k = (x.pieces[i]?.getD default).kids.length := (by omega); subst hke; rw [List.take_length] at hK; exact ⟨by omega, alls_more hA (hK.congr fun u v _ _ => by rw [relAt_alt hkb (by omega) (by assumption)]; exact Iff.rfl), by assumption⟩)
      try dsimp only
      omega
    ·simp at q36
     have hr0 := (hA.rel _ (hkk _ (mem_getD (d := 0) (hkl (by omega)))).2)
     have hr0l := hr0.len
     have hrl : (List.replicate (IntKind.i64.wrap (g.size * g.size)).toNat false).length = n * n := (by rw [List.length_replicate]; exact hNN)
     refine idx_rd h2x5 ?_ ?_ fun b45 o45 hb45 => ?_
     ·trivial
     ·omega
     refine load_allN 0 (0) rfl h2x5 ?_ ?_ hb45 rfl (mem_at 2 rfl) fun l46 hl46 => ?_
     ·trivial
     ·omega
     obtain ⟨rfl, hw46⟩ := hl46; simp only [flStr, flInt, okI] at hw46
     refine idx_rd (Gt.owrd _ oW) ?_ ?_ fun b47 o47 hb47 => ?_
     ·grind
     ·grind
     refine load_all [] (Gt.owrd _ oW) ?_ ?_ hb47 rfl (mem_at 1 rfl) fun l48 hl48 => ?_
     ·grind
     ·grind
     obtain ⟨u48, w48, rfl, hl48⟩ := sl_rd hl48
     refine callR_part ([(x7, Obj.cells { toList := zeros (IntKind.i64.wrap (g.size * g.size)).toNat [Value.bool false] } (4 : TypeId))]) [W, H] (l06OrN_ct _ _ _ _ _ _ _ ((all[((x.pieces[i]?.getD default).kids[(0 : Nat)]?.getD (0 : Int)).toNat]?.getD [])) o7 ?_ ?_ ?_) ?_ (Rp.mono _ (mem_at 0 rfl) hl48) ?_
     ·omega
     ·omega
     ·omega
     ·exact .refl _
     rintro _ A49 ⟨rfl, mO, hO, oO⟩
     refine ⟨[A49], by simp, ?_⟩
     apply loop_mod (α := (Nat) × (List Bool) × (Hp)) G_ok [45, 46, 47, 48, 49, 50, 51, 52, 55, 56, 57, 58, 59, 60, 61, 62, 63, 64, 65, 66, 53, 54, 13] (fun z => [(13, .v (.int .i64 z.1))]) (fun z => [{ id := x0, cs := [Value.int IntKind.i64 g.size, Value.slice b1p g.edges.length c1p], ty := (88 : Nat) }, { id := x1, cs := [Value.slice b0r x.pieces.length c0r], ty := (269 : Nat) }, { id := x6, cs := [Value.int IntKind.i64 (x.pieces[i]?.getD default).op, Value.int IntKind.u8 (↑(x.pieces[i]?.getD default).label.toNat : Int), Value.slice b2x5 (x.pieces[i]?.getD default).kids.length c2x5], ty := (417 : Nat) }]) (fun z => [z.2.2, W, H]) (fun z => n - z.1) (fun z => z.1 ≤ n ∧ ((x.pieces[i]?.getD default).op = 6 → z.1 = 0) ∧ RepS n z.2.1 (growS n (inR2 n (relAt g.edges n x.pieces ((x.pieces[i]?.getD default).kids[0]?.getD 0).toNat)) z.1) ∧ (gSl 4 gB).ow [.slice (some ⟨x7, 0, none⟩) (IntKind.i64.wrap (g.size * g.size)).toNat (IntKind.i64.wrap (g.size * g.size)).toNat] z.2.1 z.2.2) ((0, mO, _))
     ·exact frI
     ·exact ⟨rfl, rfl, rfl, trivial⟩
     ·try dsimp only
      exact ⟨Nat.zero_le _, fun _ => rfl, grow_init ((orB_rep (sq_none hNN (R := fun _ _ => False) (fun _ _ => id)) hr0 hO).congr fun u v _ _ => ⟨fun h => h.elim False.elim id, .inr⟩), oO⟩
     ·exact .refl _
     rintro ⟨r, m, D⟩ hI
     try dsimp only at hI
     obtain ⟨hr, hr6, hG, oG⟩ := hI
     try dsimp only
     refine ⟨fun q50 => ?_, fun q50 => ?_⟩
     ·simp at q50
      refine ⟨fun q51 => ?_, fun q51 => ?_⟩
      ·simp at q51
       have hr2 := rep_in hr0
       have hml := hG.len
       refine idx_rd h2x5 ?_ ?_ fun b52 o52 hb52 => ?_
       ·trivial
       ·omega
       refine load_allN 0 (0) rfl h2x5 ?_ ?_ hb52 rfl (mem_at 2 rfl) fun l53 hl53 => ?_
       ·trivial
       ·omega
       obtain ⟨rfl, hw53⟩ := hl53; simp only [flStr, flInt, okI] at hw53
       refine idx_rd (Gt.owrd _ oW) ?_ ?_ fun b54 o54 hb54 => ?_
       ·grind
       ·grind
       refine load_all [] (Gt.owrd _ oW) ?_ ?_ hb54 rfl (mem_at 1 rfl) fun l55 hl55 => ?_
       ·grind
       ·grind
       obtain ⟨u55, w55, rfl, hl55⟩ := sl_rd hl55
       refine call_new (l06BehindI_ct _ _ _ _ _ _ _ n hgs ((m)) ((all[((x.pieces[i]?.getD default).kids[(0 : Nat)]?.getD (0 : Int)).toNat]?.getD [])) _ _ ⟨by omega, h12⟩ (by assumption) (by assumption)) ⟨(Rp.mono _ (mem_at 0 rfl) (Gt.owrd _ oG)), (Rp.mono _ (mem_at 1 rfl) hl55)⟩ ?_
       rintro v56 A56 o56
       obtain ⟨bB, cB, mB, rfl, oB, hB⟩ := o56
       refine callR_part (D) [A56, W, H] (l06OrN_ct _ _ _ _ _ _ _ ((mB)) oG ?_ ?_ ?_) ?_ (Rp.mono _ (mem_at 0 rfl) (Gt.owrd _ oB)) ?_
       ·omega
       ·(rw [hml, hB.len])
       ·omega
       ·exact rlA
       rintro _ A57 ⟨rfl, mO, hO, oO⟩
       refine ⟨[A57], by simp, ?_⟩
       apply loop_stepA (r + 1, mO, _)
       ·exact .sub (by repeat (first | exact .slnil | apply List.Sublist.cons_cons | apply List.Sublist.cons))
       ·exact frI
       ·exact ⟨rfl, rfl, rfl, trivial⟩
       ·try dsimp only
        exact ⟨by omega, fun h => absurd h (by omega), grow_next hG hB hO, oO⟩
       try dsimp only
       omega
      ·simp at q51
       obtain ⟨R1, hR1, hm1⟩ : ∃ R1, RepS n m R1 ∧ (((x.pieces[i]?.getD default).op ≠ 6 ∧ R1 = TC n (relAt g.edges n x.pieces ((x.pieces[i]?.getD default).kids[0]?.getD 0).toNat)) ∨ ((x.pieces[i]?.getD default).op = 6 ∧ R1 = (relAt g.edges n x.pieces ((x.pieces[i]?.getD default).kids[0]?.getD 0).toNat))) := ⟨(relAt g.edges n x.pieces ((x.pieces[i]?.getD default).kids[0]?.getD 0).toNat), (by have hrn := hr6 (by assumption); subst hrn; exact grow_opt hG), .inr ⟨by assumption, rfl⟩⟩
       apply loop_mod (α := (Nat) × (List Bool) × (Hp)) G_ok [67, 68, 69, 70, 71, 72, 73, 74, 77, 78, 79, 80, 81, 82, 83, 75, 76, 14] (fun z => [(14, .v (.int .i64 z.1))]) (fun z => [{ id := x0, cs := [Value.int IntKind.i64 g.size, Value.slice b1p g.edges.length c1p], ty := (88 : Nat) }, { id := x1, cs := [Value.slice b0r x.pieces.length c0r], ty := (269 : Nat) }, { id := x6, cs := [Value.int IntKind.i64 (x.pieces[i]?.getD default).op, Value.int IntKind.u8 (↑(x.pieces[i]?.getD default).label.toNat : Int), Value.slice b2x5 (x.pieces[i]?.getD default).kids.length c2x5], ty := (417 : Nat) }]) (fun z => [z.2.2, W, H]) (fun z => n - z.1) (fun z => z.1 ≤ n ∧ ((x.pieces[i]?.getD default).op = 5 → z.1 = 0) ∧ RepS n z.2.1 (diagR R1 z.1) ∧ (gSl 4 gB).ow [.slice (some ⟨x7, 0, none⟩) (IntKind.i64.wrap (g.size * g.size)).toNat (IntKind.i64.wrap (g.size * g.size)).toNat] z.2.1 z.2.2) ((0, m, D))
       ·exact frI
       ·exact ⟨rfl, rfl, rfl, trivial⟩
       ·try dsimp only
        exact ⟨Nat.zero_le _, fun _ => rfl, diag_init hR1, oG⟩
       ·exact .refl _
       rintro ⟨v, m5, D5⟩ hI
       try dsimp only at hI
       obtain ⟨hv, hv5, hV, oV⟩ := hI
       try dsimp only
       refine ⟨fun q58 => ?_, fun q58 => ?_⟩
       ·simp at q58
        refine ⟨fun q59 => ?_, fun q59 => ?_⟩
        ·simp at q59
         have hid : IntKind.i64.wrap (IntKind.i64.wrap ((v : Int) * g.size) + (v : Int)) = ((v * n + v : Nat) : Int) := (by have h9 := idx_wi (a := (v : Int)) (b := (v : Int)) hgs h12 ⟨by omega, by omega⟩ ⟨by omega, by omega⟩; rw [Int.toNat_natCast] at h9; exact h9)
         have hsl := sq_le h12 (u := v) (v := v) (by omega) (by omega)
         have hml := hV.len
         have hidn : (IntKind.i64.wrap (IntKind.i64.wrap ((v : Int) * g.size) + (v : Int))).toNat = v * n + v := (by rw [hid]; omega)
         refine idx_rd (Gt.owrd _ oV) ?_ ?_ fun b60 o60 hb60 => ?_
         ·omega
         ·omega
         refine gstoreN (Fld.id _) false (Int.toNat (IntKind.i64.wrap (IntKind.i64.wrap ((↑v : Int) * g.size) + (↑v : Int)))) 0 rfl (Int.toNat_of_nonneg ?_).symm oV ?_ ?_ hb60 rfl gB_pl _ (gB_ow trivial) fun A61 o61 => ?_
         ·omega
         ·omega
         ·omega
         apply loop_stepA (v + 1, m5.set (IntKind.i64.wrap (IntKind.i64.wrap ((v : Int) * g.size) + (v : Int))).toNat true, _)
         ·exact .refl _
         ·exact frI
         ·exact ⟨rfl, rfl, rfl, trivial⟩
         ·try dsimp only
          exact ⟨by omega, fun h => absurd h (by omega), by rw [hidn]; exact diag_step hV (by omega), by assumption⟩
         try dsimp only
         omega
        ·simp at q59
         exfalso; omega
       ·simp at q58
        refine ⟨fun x62 => ?_⟩
        refine gappend1 (g := (gSl 4 gB)) (T := (167 : TypeId)) G_ok W _ [H] ?_ oW ((by assumption)) (List.mem_of_getElem? (i := 0) rfl) rfl rfl rfl rfl rfl rfl rfl rfl ?_ fun b63 c63 A63 o63 => ?_
        ·exact rlA
        ·omega
        apply loop_stepA (i + 1, all ++ [m5], _, _, _)
        ·exact .refl _
        ·exact frI
        ·exact ⟨rfl, rfl, trivial⟩
        ·try dsimp only
         (have h5 : ¬ (x.pieces[i]?.getD default).op = 5 := (fun h => by have := hv5 h; omega); rcases hm1 with ⟨h1, rfl⟩ | ⟨h1, rfl⟩ <;> first | exact ⟨by omega, alls_more hA (by rw [relAt_star hkb (by omega) (by omega)]; exact diag_end hV (by omega)), by assumption⟩ | exact ⟨by omega, alls_more hA (by rw [relAt_opt hkb (by omega) (by omega)]; exact diag_end hV (by omega)), by assumption⟩)
        try dsimp only
        omega
     ·simp at q50
      obtain ⟨R1, hR1, hm1⟩ : ∃ R1, RepS n m R1 ∧ (((x.pieces[i]?.getD default).op ≠ 6 ∧ R1 = TC n (relAt g.edges n x.pieces ((x.pieces[i]?.getD default).kids[0]?.getD 0).toNat)) ∨ ((x.pieces[i]?.getD default).op = 6 ∧ R1 = (relAt g.edges n x.pieces ((x.pieces[i]?.getD default).kids[0]?.getD 0).toNat))) := ⟨TC n (relAt g.edges n x.pieces ((x.pieces[i]?.getD default).kids[0]?.getD 0).toNat), by (have hrn : r = n := (by omega)); subst hrn; exact grow_end hG, .inl ⟨fun h => absurd (hr6 h) (by omega), rfl⟩⟩
      apply loop_mod (α := (Nat) × (List Bool) × (Hp)) G_ok [67, 68, 69, 70, 71, 72, 73, 74, 77, 78, 79, 80, 81, 82, 83, 75, 76, 14] (fun z => [(14, .v (.int .i64 z.1))]) (fun z => [{ id := x0, cs := [Value.int IntKind.i64 g.size, Value.slice b1p g.edges.length c1p], ty := (88 : Nat) }, { id := x1, cs := [Value.slice b0r x.pieces.length c0r], ty := (269 : Nat) }, { id := x6, cs := [Value.int IntKind.i64 (x.pieces[i]?.getD default).op, Value.int IntKind.u8 (↑(x.pieces[i]?.getD default).label.toNat : Int), Value.slice b2x5 (x.pieces[i]?.getD default).kids.length c2x5], ty := (417 : Nat) }]) (fun z => [z.2.2, W, H]) (fun z => n - z.1) (fun z => z.1 ≤ n ∧ ((x.pieces[i]?.getD default).op = 5 → z.1 = 0) ∧ RepS n z.2.1 (diagR R1 z.1) ∧ (gSl 4 gB).ow [.slice (some ⟨x7, 0, none⟩) (IntKind.i64.wrap (g.size * g.size)).toNat (IntKind.i64.wrap (g.size * g.size)).toNat] z.2.1 z.2.2) ((0, m, D))
      ·exact frI
      ·exact ⟨rfl, rfl, rfl, trivial⟩
      ·try dsimp only
       exact ⟨Nat.zero_le _, fun _ => rfl, diag_init hR1, oG⟩
      ·exact .refl _
      rintro ⟨v, m5, D5⟩ hI
      try dsimp only at hI
      obtain ⟨hv, hv5, hV, oV⟩ := hI
      try dsimp only
      refine ⟨fun q64 => ?_, fun q64 => ?_⟩
      ·simp at q64
       refine ⟨fun q65 => ?_, fun q65 => ?_⟩
       ·simp at q65
        have hid : IntKind.i64.wrap (IntKind.i64.wrap ((v : Int) * g.size) + (v : Int)) = ((v * n + v : Nat) : Int) := (by have h9 := idx_wi (a := (v : Int)) (b := (v : Int)) hgs h12 ⟨by omega, by omega⟩ ⟨by omega, by omega⟩; rw [Int.toNat_natCast] at h9; exact h9)
        have hsl := sq_le h12 (u := v) (v := v) (by omega) (by omega)
        have hml := hV.len
        have hidn : (IntKind.i64.wrap (IntKind.i64.wrap ((v : Int) * g.size) + (v : Int))).toNat = v * n + v := (by rw [hid]; omega)
        refine idx_rd (Gt.owrd _ oV) ?_ ?_ fun b66 o66 hb66 => ?_
        ·omega
        ·omega
        refine gstoreN (Fld.id _) false (Int.toNat (IntKind.i64.wrap (IntKind.i64.wrap ((↑v : Int) * g.size) + (↑v : Int)))) 0 rfl (Int.toNat_of_nonneg ?_).symm oV ?_ ?_ hb66 rfl gB_pl _ (gB_ow trivial) fun A67 o67 => ?_
        ·omega
        ·omega
        ·omega
        apply loop_stepA (v + 1, m5.set (IntKind.i64.wrap (IntKind.i64.wrap ((v : Int) * g.size) + (v : Int))).toNat true, _)
        ·exact .refl _
        ·exact frI
        ·exact ⟨rfl, rfl, rfl, trivial⟩
        ·try dsimp only
         exact ⟨by omega, fun h => absurd h (by omega), by rw [hidn]; exact diag_step hV (by omega), by assumption⟩
        try dsimp only
        omega
       ·simp at q65
        refine ⟨fun x68 => ?_⟩
        refine gappend1 (g := (gSl 4 gB)) (T := (167 : TypeId)) G_ok W _ [H] ?_ oW ((by assumption)) (List.mem_of_getElem? (i := 0) rfl) rfl rfl rfl rfl rfl rfl rfl rfl ?_ fun b69 c69 A69 o69 => ?_
        ·exact rlA
        ·omega
        apply loop_stepA (i + 1, all ++ [m5], _, _, _)
        ·exact .refl _
        ·exact frI
        ·exact ⟨rfl, rfl, trivial⟩
        ·try dsimp only
         (have hv0 := hv5 (by assumption); subst hv0; rcases hm1 with ⟨h1, rfl⟩ | ⟨h1, rfl⟩ <;> first | (exfalso; omega) | exact ⟨by omega, alls_more hA (by rw [relAt_plus hkb (by omega) (by assumption)]; exact hV.congr fun u w _ _ => ⟨fun h => h.elim id fun h => absurd h.2 (by omega), .inl⟩), by assumption⟩)
        try dsimp only
        omega
      ·simp at q64
       refine ⟨fun x70 => ?_⟩
       refine gappend1 (g := (gSl 4 gB)) (T := (167 : TypeId)) G_ok W _ [H] ?_ oW ((by assumption)) (List.mem_of_getElem? (i := 0) rfl) rfl rfl rfl rfl rfl rfl rfl rfl ?_ fun b71 c71 A71 o71 => ?_
       ·exact rlA
       ·omega
       apply loop_stepA (i + 1, all ++ [m5], _, _, _)
       ·exact .refl _
       ·exact frI
       ·exact ⟨rfl, rfl, trivial⟩
       ·try dsimp only
        (have h5 : ¬ (x.pieces[i]?.getD default).op = 5 := (fun h => by have := hv5 h; omega); rcases hm1 with ⟨h1, rfl⟩ | ⟨h1, rfl⟩ <;> first | exact ⟨by omega, alls_more hA (by rw [relAt_star hkb (by omega) (by omega)]; exact diag_end hV (by omega)), by assumption⟩ | exact ⟨by omega, alls_more hA (by rw [relAt_opt hkb (by omega) (by omega)]; exact diag_end hV (by omega)), by assumption⟩)
       try dsimp only
       omega
 ·simp at q3
  (have hie : i = x.pieces.length := (by omega); subst hie; exact ⟨W, ⟨_, _, all, rfl, oW, hA⟩, rlB⟩)
end
section
attribute [local irreducible] IntKind.wrap relAt
theorem ends_yes {k u : Nat} {R : Nat → Nat → Prop} (h : R u k) : endsR (k + 1) R u = endsR k R u ++ [((k : Nat) : Int)] := by
 unfold endsR
 rw [List.range_succ, List.filter_append, List.map_append]
 simp [h]
theorem ends_no {k u : Nat} {R : Nat → Nat → Prop} (h : ¬ R u k) : endsR (k + 1) R u = endsR k R u := by
 unfold endsR
 rw [List.range_succ, List.filter_append, List.map_append]
 simp [h]
theorem ends_rng {n u k : Nat} {R : Nat → Nat → Prop} (hn : 1 ≤ n) : 0 ≤ ((endsR n R u)[k]?.getD 0) ∧ ((endsR n R u)[k]?.getD 0) < n := by
 by_cases h : k < (endsR n R u).length
 ·rw [List.getElem?_eq_getElem h, Option.getD_some]
  have h1 := List.getElem_mem h
  generalize (endsR n R u)[k] = z at h1 ⊢
  unfold endsR at h1
  obtain ⟨v, h2, h3⟩ := List.mem_map.1 h1
  have h4 := List.mem_range.1 (List.mem_filter.1 h2).1
  omega
 rw [List.getElem?_eq_none (by omega)]; simp; omega
theorem full_at {n : Nat} {es : List Edge} {ps : List Piece} {all : List (List Bool)} {p i u v : Nat} (hA : AllS n es ps ps.length all) (hp : p = ps.length - 1) (hl : 1 ≤ ps.length) (hi : i = u * n + v) (hu : u < n) (hv : v < n) (h : ((all[p]?.getD [])[i]?.getD false) = true) : relAt es n ps (ps.length - 1) u v := by
 subst hp
 exact ((hA.rel _ (by omega)).rows u v hu hv).1 (sees_at h hi)
theorem full_not {n : Nat} {es : List Edge} {ps : List Piece} {all : List (List Bool)} {p i u v : Nat} (hA : AllS n es ps ps.length all) (hp : p = ps.length - 1) (hl : 1 ≤ ps.length) (hi : i = u * n + v) (hu : u < n) (hv : v < n) (h : ((all[p]?.getD [])[i]?.getD false) = false) : ¬ relAt es n ps (ps.length - 1) u v := by
 subst hp
 exact mt ((hA.rel _ (by omega)).rows u v hu hv).2 (sees_not h hi)
theorem pathEnds_ct (lg lp : List Value) (g : Graph) (x : Path) (u : Nat) (hg : graphOk g = true) (hx : pathOk x = true) (hu : u < g.size.toNat) :
  Ct prog 288 [.agg ⟨lg⟩, .agg ⟨lp⟩, .int .i64 (u : Int)] [] (fun H => gGraph.rd H lg g ∧ gPath.rd H lp x)
   (fun v D => ∃ b c, v = .slice b (endsR g.size.toNat (relAt g.edges g.size.toNat x.pieces (x.pieces.length - 1)) u).length c ∧ (gSl 3 gI).ow [.slice b (endsR g.size.toNat (relAt g.edges g.size.toNat x.pieces (x.pieces.length - 1)) u).length c] (endsR g.size.toNat (relAt g.edges g.size.toNat x.pieces (x.pieces.length - 1)) u) D) := by
 refine Ct.intro0 G_ok func288 rfl rfl rfl fun E H hp => ?_
 obtain ⟨hp, hq⟩ := hp
 obtain ⟨hp1, hp2, hps⟩ := path_all hx
 obtain ⟨hg1, hg2, hE⟩ := g_parts hg
 obtain ⟨n, hn⟩ : ∃ n : Nat, g.size.toNat = n := ⟨_, rfl⟩
 have hgs : g.size = (n : Int) := by omega
 rw [hn] at hu ⊢
 have h12 : n ≤ 12 := by omega
 have hnn : n * n ≤ 144 := Nat.mul_le_mul h12 h12
 have hwG : IntKind.i64.wrap (g.size - 1) = g.size - 1 := wrap_of (by omega) (by omega)
 have hwP : IntKind.i64.wrap ((x.pieces.length : Int) - 1) = (x.pieces.length : Int) - 1 := wrap_of (by omega) (by omega)
 have hui : inR 0 (g.size - 1) (u : Int) = true := inR_iff.2 (by omega)
 obtain ⟨b1p, c1p, rfl, w0p, h1p⟩ := gGraph_rd.1 hp
 obtain ⟨b0r, c0r, rfl, h0r⟩ := gPath_rd.1 hq
 refine ⟨fun x0 => ?_⟩
 refine ⟨fun x1 => ?_⟩
 refine ⟨fun x2 => ?_⟩
 refine call_val (specGraphOk_ct _ (g)) (Rp.mono _ (mem_at 1 rfl) hp) ?_
 rintro _ rfl
 refine ⟨fun q4 => ?_, fun q4 => ?_⟩
 ·simp at q4
  (rw [‹graphOk g = false›] at hg; cases hg)
 ·simp at q4
  refine call_val (specPathOk_ct _ (x)) (Rp.mono _ (mem_at 1 rfl) hq) ?_
  rintro _ rfl
  refine ⟨fun q6 => ?_, fun q6 => ?_⟩
  ·simp at q6
   (rw [‹pathOk x = false›] at hx; cases hx)
  ·simp at q6
   refine call_val (l01In_ct _ _ _) trivial ?_
   rintro _ rfl
   refine ⟨fun q8 => ?_, fun q8 => ?_⟩
   ·simp at q8
    simp (disch := omega) only [wrap_of] at q8
    (rw [‹inR 0 _ (u : Int) = false›] at hui; cases hui)
   ·simp at q8
    simp (disch := omega) only [wrap_of] at q8
    refine call_new (l06Full_ct _ _ g x hg hx) ⟨(Rp.mono _ (mem_at 1 rfl) hp), (Rp.mono _ (mem_at 1 rfl) hq)⟩ ?_
    rintro v9 A9 o9
    obtain ⟨bA, cA, all, rfl, oA, hA⟩ := o9
    rw [hn] at hA
    have hAl := hA.len
    have hAr := (hA.rel (x.pieces.length - 1) (by omega)).len
    apply loop_mod (α := (Nat) × (List Int) × (Hp) × (Option Addr) × (Nat)) G_ok [31, 32, 33, 34, 37, 38, 39, 40, 41, 42, 43, 44, 45, 46, 47, 48, 49, 50, 51, 52, 53, 54, 55, 7, 35, 36, 9] (fun z => [(9, .v (.int .i64 z.1)), (7, .v (.slice z.2.2.2.1 z.2.1.length z.2.2.2.2))]) (fun z => [{ id := x0, cs := [Value.int IntKind.i64 g.size, Value.slice b1p g.edges.length c1p], ty := (88 : Nat) }, { id := x1, cs := [Value.slice b0r x.pieces.length c0r], ty := (269 : Nat) }]) (fun z => [z.2.2.1, A9, [(x2, Obj.cells { toList := zeros (0 : Nat) [Value.int IntKind.i64 (0 : Int)] } (3 : TypeId))], H]) (fun z => n - z.1) (fun z => z.1 ≤ n ∧ z.2.1 = endsR z.1 (relAt g.edges n x.pieces (x.pieces.length - 1)) u ∧ (gSl 3 gI).ow [.slice z.2.2.2.1 z.2.1.length z.2.2.2.2] z.2.1 z.2.2.1) ((0, [], [], _, 0))
    ·exact frI
    ·exact ⟨rfl, rfl, trivial⟩
    ·try dsimp only
     exact ⟨Nat.zero_le _, rfl, sl_nil _ _ _⟩
    ·exact .refl _
    rintro ⟨v, out, D, lb, lc⟩ hI
    try dsimp only at hI
    obtain ⟨hv, ho, oD⟩ := hI
    try dsimp only
    refine ⟨fun q10 => ?_, fun q10 => ?_⟩
    ·simp at q10
     have hid : IntKind.i64.wrap (IntKind.i64.wrap ((u : Int) * g.size) + (v : Int)) = ((u * n + v : Nat) : Int) := (by have h9 := idx_wi (a := (u : Int)) (b := (v : Int)) hgs h12 ⟨by omega, by omega⟩ ⟨by omega, by omega⟩; rw [Int.toNat_natCast, Int.toNat_natCast] at h9; exact h9)
     have hsl := sq_le h12 (u := u) (v := v) (by omega) (by omega)
     have hel : out.length ≤ v := (by rw [ho]; exact endsR_len v (relAt g.edges n x.pieces (x.pieces.length - 1)) u)
     have hwn : (IntKind.i64.wrap ((x.pieces.length : Int) - 1)).toNat = x.pieces.length - 1 := (by omega)
     have hidn : (IntKind.i64.wrap (IntKind.i64.wrap ((u : Int) * g.size) + (v : Int))).toNat = u * n + v := (by rw [hid]; omega)
     refine draw G_ok mixed none (.q 0 (.q 1 (.q 2 (.q 3 (.q 4 (.q 5 (.q 6 (.q 7 (.q 8 (.q 9 (.q 10 (.q 11 (.q 12 (.q 13 (.q 14 (.nil)))))))))))))))) (by decide +kernel) ?_
     refine idx_rd (Gt.owrd _ oA) ?_ ?_ fun b11 o11 hb11 => ?_
     ·(simp (disch := omega) only [wrap_of]; omega)
     ·(simp (disch := omega) only [wrap_of]; omega)
     refine load_all [] (Gt.owrd _ oA) ?_ ?_ hb11 rfl (mem_at 1 rfl) fun l12 hl12 => ?_
     ·(simp (disch := omega) only [wrap_of]; omega)
     ·(simp (disch := omega) only [wrap_of]; omega)
     obtain ⟨u12, w12, rfl, hl12⟩ := sl_rd hl12
     refine idx_rd hl12 ?_ ?_ fun b13 o13 hb13 => ?_
     ·omega
     ·simp_all; omega
     refine load_all false hl12 ?_ ?_ hb13 rfl (mem_at 1 rfl) fun l14 hl14 => ?_
     ·omega
     ·simp_all; omega
     obtain ⟨rfl, hw14⟩ := hl14
     refine ⟨fun q15 => ?_, fun q15 => ?_⟩
     ·simp (disch := omega) only [wrap_of] at q15
      refine ⟨fun x16 => ?_⟩
      refine gappend1 (g := gI) (T := (3 : TypeId)) G_ok D [] [A9, [(x2, Obj.cells { toList := zeros (0 : Nat) [Value.int IntKind.i64 (0 : Int)] } (3 : TypeId))], H] ?_ oD (gI_ow ?_) (List.mem_of_getElem? (i := 0) rfl) rfl rfl rfl rfl rfl rfl rfl rfl ?_ fun b17 c17 A17 o17 => ?_
      ·exact .tl
      ·unfold okI; omega
      ·omega
      apply loop_stepA (v + 1, _, _, _, _)
      ·exact .refl _
      ·exact frI
      ·exact ⟨rfl, rfl, trivial⟩
      ·try dsimp only
       exact ⟨by omega, by rw [ends_yes (full_at (p := ((x.pieces.length : Int) - 1).toNat) hA (by omega) hp1 hidn hu (by omega) (by assumption)), ho], by assumption⟩
      try dsimp only
      omega
     ·simp (disch := omega) only [wrap_of] at q15
      apply loop_stepA (v + 1, out, D, lb, lc)
      ·exact .refl _
      ·exact frI
      ·exact ⟨rfl, rfl, trivial⟩
      ·try dsimp only
       exact ⟨by omega, by rw [ends_no (full_not (p := ((x.pieces.length : Int) - 1).toNat) hA (by omega) hp1 hidn hu (by omega) (by assumption)), ho], oD⟩
      try dsimp only
      omega
    ·simp at q10
     (obtain rfl : v = n := (by omega); subst ho; exact ⟨_, ⟨_, _, rfl, oD⟩, rlB⟩)
theorem specPathPairs_ct (lg lp : List Value) (g : Graph) (x : Path) (hg : graphOk g = true) (hx : pathOk x = true) :
  Ct prog 209 [.agg ⟨lg⟩, .agg ⟨lp⟩] [] (fun H => gGraph.rd H lg g ∧ gPath.rd H lp x)
   (fun v D => ∃ b c, v = .slice b (pairsR g.size.toNat (relAt g.edges g.size.toNat x.pieces (x.pieces.length - 1))).length c ∧ (gSl 27 (gSl 3 gI)).ow [.slice b (pairsR g.size.toNat (relAt g.edges g.size.toNat x.pieces (x.pieces.length - 1))).length c] (pairsR g.size.toNat (relAt g.edges g.size.toNat x.pieces (x.pieces.length - 1))) D) := by
 refine Ct.intro0 G_ok func209 rfl rfl rfl fun E H hp => ?_
 obtain ⟨hp, hq⟩ := hp
 obtain ⟨hg1, hg2, hE⟩ := g_parts hg
 obtain ⟨n, hn⟩ : ∃ n : Nat, g.size.toNat = n := ⟨_, rfl⟩
 rw [hn]
 obtain ⟨R, hR⟩ : ∃ R, relAt g.edges n x.pieces (x.pieces.length - 1) = R := ⟨_, rfl⟩
 rw [hR]
 obtain ⟨b1p, c1p, rfl, w0p, h1p⟩ := gGraph_rd.1 hp
 obtain ⟨b0r, c0r, rfl, h0r⟩ := gPath_rd.1 hq
 refine ⟨fun x0 => ?_⟩
 refine ⟨fun x1 => ?_⟩
 refine ⟨fun x2 => ?_⟩
 refine call_val (specGraphOk_ct _ (g)) (Rp.mono _ (mem_at 1 rfl) hp) ?_
 rintro _ rfl
 refine ⟨fun q4 => ?_, fun q4 => ?_⟩
 ·simp at q4
  (rw [‹graphOk g = false›] at hg; cases hg)
 ·simp at q4
  refine call_val (specPathOk_ct _ (x)) (Rp.mono _ (mem_at 1 rfl) hq) ?_
  rintro _ rfl
  refine ⟨fun q6 => ?_, fun q6 => ?_⟩
  ·simp at q6
   (rw [‹pathOk x = false›] at hx; cases hx)
  ·simp at q6
   apply loop_mod (α := (Nat) × (List (List Int)) × (Hp) × (Option Addr) × (Nat)) G_ok [19, 20, 21, 22, 25, 26, 27, 28, 7, 8, 29, 30, 31, 32, 35, 36, 37, 38, 39, 40, 41, 42, 43, 5, 33, 34, 23, 24, 6] (fun z => [(6, .v (.int .i64 z.1)), (5, .v (.slice z.2.2.2.1 z.2.1.length z.2.2.2.2))]) (fun z => [{ id := x0, cs := [Value.int IntKind.i64 g.size, Value.slice b1p g.edges.length c1p], ty := (88 : Nat) }, { id := x1, cs := [Value.slice b0r x.pieces.length c0r], ty := (269 : Nat) }]) (fun z => [z.2.2.1, H]) (fun z => n - z.1) (fun z => z.1 ≤ n ∧ z.2.1 = prT (fun u => endsR n R u) z.1 0 ∧ z.2.1.length ≤ 12 * z.1 ∧ (gSl 27 (gSl 3 gI)).ow [.slice z.2.2.2.1 z.2.1.length z.2.2.2.2] z.2.1 z.2.2.1) ((0, [], [], _, 0))
   ·exact frI
   ·exact ⟨rfl, rfl, trivial⟩
   ·try dsimp only
    exact ⟨Nat.zero_le _, rfl, by simp, sl_nil _ _ _⟩
   ·exact .tl
   rintro ⟨u, ps, D, lb, lc⟩ hI
   try dsimp only at hI
   obtain ⟨hu, hps, hpl, oD⟩ := hI
   try dsimp only
   refine ⟨fun q7 => ?_, fun q7 => ?_⟩
   ·simp at q7
    refine call_new (pathEnds_ct _ _ g x u hg hx (by omega)) ⟨(Rp.mono _ (mem_at 1 rfl) hp), (Rp.mono _ (mem_at 1 rfl) hq)⟩ ?_
    rintro v8 A8 o8
    obtain ⟨bL, cL, rfl, oL⟩ := o8
    rw [hn, hR] at oL ⊢
    have hel := endsR_len n R u
    apply loop_mod (α := (Nat) × (List (List Int)) × (Hp) × (Option Addr) × (Nat)) G_ok [29, 30, 31, 32, 35, 36, 37, 38, 39, 40, 41, 42, 43, 5, 33, 34, 8] (fun z => [(8, .v (.int .i64 z.1)), (5, .v (.slice z.2.2.2.1 z.2.1.length z.2.2.2.2))]) (fun z => [{ id := x0, cs := [Value.int IntKind.i64 g.size, Value.slice b1p g.edges.length c1p], ty := (88 : Nat) }, { id := x1, cs := [Value.slice b0r x.pieces.length c0r], ty := (269 : Nat) }]) (fun z => [z.2.2.1, A8, H]) (fun z => (endsR n R u).length - z.1) (fun z => z.1 ≤ (endsR n R u).length ∧ z.2.1 = prT (fun u => endsR n R u) u z.1 ∧ z.2.1.length ≤ 12 * u + z.1 ∧ (gSl 27 (gSl 3 gI)).ow [.slice z.2.2.2.1 z.2.1.length z.2.2.2.2] z.2.1 z.2.2.1) ((0, ps, D, lb, lc))
    ·exact frI
    ·exact ⟨rfl, rfl, trivial⟩
    ·try dsimp only
     exact ⟨Nat.zero_le _, hps, by omega, oD⟩
    ·exact rlA
    rintro ⟨k, ps1, D1, lb1, lc1⟩ hI
    try dsimp only at hI
    obtain ⟨hk, hps1, hpl1, oD1⟩ := hI
    try dsimp only
    refine ⟨fun q9 => ?_, fun q9 => ?_⟩
    ·simp at q9
     refine idx_rd (Gt.owrd _ oL) ?_ ?_ fun b10 o10 hb10 => ?_
     ·omega
     ·omega
     refine load_allN 0 (k) rfl (Gt.owrd _ oL) ?_ ?_ hb10 rfl (mem_at 1 rfl) fun l11 hl11 => ?_
     ·omega
     ·omega
     obtain ⟨rfl, hw11⟩ := hl11; simp only [flStr, flInt, okI] at hw11
     refine ⟨fun x12 => ?_⟩
     refine ⟨fun x13 => ?_⟩
     refine gappend1 (g := (gSl 3 gI)) (T := (27 : TypeId)) G_ok D1 _ [A8, H] ?_ oD1 ((litI2_ow (a := ((u : Nat) : Int)) (b := ((endsR n R u)[k]?.getD 0)) (by unfold okI; omega) (by have := ends_rng (n := n) (R := R) (u := u) (k := k) (by omega); unfold okI; omega))) (List.mem_of_getElem? (i := 0) rfl) rfl rfl rfl rfl rfl rfl rfl rfl ?_ fun b14 c14 A14 o14 => ?_
     ·exact .le fun a => by simp [List.count_cons, List.count_append, Blk.ent, St.hall, setR, zeros, List.append]; omega
     ·omega
     apply loop_stepA (k + 1, _, _, _, _)
     ·exact .refl _
     ·exact frI
     ·exact ⟨rfl, rfl, trivial⟩
     ·try dsimp only
      exact ⟨by omega, by rw [prT_step (by omega), ← hps1], by rw [List.length_append, List.length_singleton]; omega, by assumption⟩
     try dsimp only
     omega
    ·simp at q9
     apply loop_stepA (u + 1, _, _, _, _)
     ·exact .sub (by repeat (first | exact .slnil | apply List.Sublist.cons_cons | apply List.Sublist.cons))
     ·exact frI
     ·exact ⟨rfl, rfl, trivial⟩
     ·try dsimp only
      exact ⟨by omega, by rw [prT_next (k := k) (by omega)]; exact hps1, by omega, oD1⟩
     try dsimp only
     omega
   ·simp at q7
    (have hue : u = n := (by omega); subst hue; rw [prT_end] at hps; subst hps; exact ⟨_, ⟨_, _, rfl, oD⟩, rlB⟩)
end
section
attribute [local irreducible] IntKind.wrap relAt
theorem specTruePairs_ct (lg lq : List Value) (g : Graph) (x : Query) (at' w n : Int) (hx : gQuery.sz x ≤ 1048576) :
  Ct prog 122 [.agg ⟨lg⟩, .agg ⟨lq⟩, .int .i64 at', .int .i64 w, .int .i64 n] [] (fun H => gGraph.rd H lg g ∧ gQuery.rd H lq x)
   (fun v D => ∃ b c, v = .slice b (truesM g x at' w n).length c ∧ (gSl 27 (gSl 3 gI)).ow [.slice b (truesM g x at' w n).length c] (truesM g x at' w n) D) := by
 refine Ct.intro0 G_ok func122 rfl rfl rfl fun E H hp => ?_
 obtain ⟨hp, hq⟩ := hp
 obtain ⟨b1p, c1p, rfl, w0p, h1p⟩ := gGraph_rd.1 hp
 obtain ⟨b1r, c1r, b2r, c2r, b3r, c3r, rfl, h1r, h2r, h3r⟩ := gQuery_rd.1 hq
 have hal := atoms_len hx
 have hwA : IntKind.i64.wrap ((x.atoms.length : Int) - 1) = (x.atoms.length : Int) - 1 := wrap_of (by omega) (by omega)
 refine ⟨fun x0 => ?_⟩
 refine ⟨fun x1 => ?_⟩
 refine ⟨fun x2 => ?_⟩
 refine call_val (specGraphOk_ct _ (g)) (Rp.mono _ (mem_at 1 rfl) hp) ?_
 rintro _ rfl
 refine ⟨fun q4 => ?_, fun q4 => ?_⟩
 ·simp at q4
  (rw [trues_no1 (by assumption)]; exact ⟨[], ⟨_, _, rfl, sl_nil _ _ _⟩, .mem (by simp)⟩)
 ·simp at q4
  refine call_val (specQueryOk_ct _ (x) ?_) (Rp.mono _ (mem_at 1 rfl) hq) ?_
  ·trivial
  rintro _ rfl
  refine ⟨fun q6 => ?_, fun q6 => ?_⟩
  ·simp at q6
   (rw [trues_no2 (by assumption)]; exact ⟨[], ⟨_, _, rfl, sl_nil _ _ _⟩, .mem (by simp)⟩)
  ·simp at q6
   refine call_val (l01In_ct _ _ _) trivial ?_
   rintro _ rfl
   refine ⟨fun q8 => ?_, fun q8 => ?_⟩
   ·simp at q8
    simp (disch := omega) only [wrap_of] at q8
    (rw [trues_no3 (by assumption)]; exact ⟨[], ⟨_, _, rfl, sl_nil _ _ _⟩, .mem (by simp)⟩)
   ·simp at q8
    simp (disch := omega) only [wrap_of] at q8
    have hai := inR_iff.1 ‹inR 0 _ at' = true›
    have hpo := q_path ‹queryM x = true› (k := at'.toNat) (by omega)
    obtain ⟨hg1, hg2, hE⟩ := g_parts ‹graphOk g = true›
    refine idx_rd h2r ?_ ?_ fun b9 o9 hb9 => ?_
    ·omega
    ·omega
    refine load_part default 1 h2r ?_ ?_ hb9 rfl (by decide) (mem_at 1 rfl) fun l10 hl10 => ?_
    ·omega
    ·omega
    obtain ⟨rfl, w0x10, w1x10, w2x10⟩ := gAtom_rd.1 hl10
    refine call_new (specReadPath_ct _ ?_) trivial ?_
    ·exact Nat.le_trans (atoms_path hx (by omega)) (by decide)
    rintro v11 A11 o11
    obtain ⟨bR, cR, rfl, oR⟩ := o11
    refine ⟨fun x12 => ?_⟩
    refine call_new (specPathPairs_ct _ _ g (rpPath (x.atoms[at'.toNat]?.getD default).path) ‹graphOk g = true› hpo) ⟨(Rp.mono _ (mem_at 2 rfl) hp), gPath_rd.2 ⟨_, _, rfl, Rp.mono _ (sub_hall (by simp)) (Gt.owrd _ oR)⟩⟩ ?_
    rintro v13 A13 o13
    obtain ⟨bP, cP, rfl, oP⟩ := o13
    have hty := trues_yes (w := w) (n := n) ‹graphOk g = true› ‹queryM x = true› ‹inR 0 _ at' = true›
    have hxl := pairsR_len (n := g.size.toNat) (by omega) (relAt g.edges g.size.toNat (rpPath (x.atoms[at'.toNat]?.getD default).path).pieces ((rpPath (x.atoms[at'.toNat]?.getD default).path).pieces.length - 1))
    have hx2 := fun r => pairsR_two (n := g.size.toNat) (R := relAt g.edges g.size.toNat (rpPath (x.atoms[at'.toNat]?.getD default).path).pieces ((rpPath (x.atoms[at'.toNat]?.getD default).path).pieces.length - 1)) (r := r)
    generalize pairsR g.size.toNat (relAt g.edges g.size.toNat (rpPath (x.atoms[at'.toNat]?.getD default).path).pieces ((rpPath (x.atoms[at'.toNat]?.getD default).path).pieces.length - 1)) = xs at *
    obtain ⟨v9, ls, A0, As, ev9, hoB, hpB, hLB⟩ := oP
    cases ev9
    have rz := zip_rd hoB hpB hLB
    have hls := hLB.len
    apply loop_mod (α := (Nat) × (Hp) × (Option Addr) × (Nat)) G_ok [48, 49, 50, 51, 54, 55, 56, 57, 58, 59, 60, 61, 62, 63, 64, 65, 66, 67, 68, 69, 70, 11, 52, 53, 15] (fun z => [(15, .v (.int .i64 z.1)), (11, .v (.slice z.2.2.1 (pickL (ownT n w) (ls.take z.1) (xs.take z.1)).length z.2.2.2))]) (fun z => [{ id := x0, cs := [Value.int IntKind.i64 g.size, Value.slice b1p g.edges.length c1p], ty := (88 : Nat) }, { id := x1, cs := [Value.bool x.each, Value.slice b1r x.out.length c1r, Value.slice b2r x.atoms.length c2r, Value.slice b3r x.filters.length c3r], ty := (39 : Nat) }, { id := x12, cs := [Value.slice bR (rpPath (x.atoms[at'.toNat]?.getD default).path).pieces.length cR], ty := (269 : Nat) }]) (fun z => [z.2.1, A13, A11, [(x2, Obj.cells { toList := zeros (0 : Nat) [Value.slice none (0 : Nat) (0 : Nat)] } (27 : TypeId))], H]) (fun z => xs.length - z.1) (fun z => z.1 ≤ xs.length ∧ (gSl 27 gR1).ow [.slice z.2.2.1 (pickL (ownT n w) (ls.take z.1) (xs.take z.1)).length z.2.2.2] (pickL (ownT n w) (ls.take z.1) (xs.take z.1)) z.2.1) ((0, [], _, 0))
    ·repeat' (first | exact trivial | refine ⟨⟨_, rfl, by first | rfl | exact inc_eq _ (by omega) | (refine sl_eq ?_; simp; done) | exact sl_eq (by rw [pickT_yes hri (by omega) (own_yes (by assumption)), List.length_append, List.length_append]; rfl) | exact sl_eq (by rw [pickT_no (by omega) (by omega) (own_no (by assumption))]), by first | exact trivial | simp [SV.ok]⟩, ?_⟩)
    ·exact ⟨rfl, rfl, rfl, trivial⟩
    ·try dsimp only
     exact ⟨Nat.zero_le _, sl_nil _ _ _⟩
    ·exact .refl _
    rintro ⟨i, D, lo, co⟩ hI
    try dsimp only at hI
    obtain ⟨hi, oD⟩ := hI
    try dsimp only
    refine ⟨fun q14 => ?_, fun q14 => ?_⟩
    ·simp at q14
     obtain ⟨ur, wr, hzi, hri, hrd⟩ := zrowT hpB hLB i (by omega)
     obtain ⟨ea, eb, hrow⟩ := hx2 _ (mem_getD (d := []) (j := i) (by omega))
     have hrl : (xs[i]?.getD []).length = 2 := by rw [hrow]; rfl
     have hpkl := pickL_len (ownT n w) (ls.take i) (xs.take i)
     rw [List.length_take] at hpkl
     refine idx_rd rz ?_ ?_ fun b15 o15 hb15 => ?_
     ·omega
     ·simp; omega
     refine load_allN default (i) rfl rz ?_ ?_ hb15 rfl (mem_at 1 rfl) fun l16 hl16 => ?_
     ·omega
     ·simp; omega
     (obtain ⟨e16, _⟩ := hl16; rw [e16, hzi])
     refine idx_rd hrd ?_ ?_ fun b17 o17 hb17 => ?_
     ·trivial
     ·omega
     refine load_allN 0 (1) rfl hrd ?_ ?_ hb17 rfl (mem_at 1 rfl) fun l18 hl18 => ?_
     ·trivial
     ·omega
     obtain ⟨rfl, hw18⟩ := hl18; simp only [flStr, flInt, okI] at hw18
     refine call_val (specOwnerOf_ct _ _) trivial ?_
     rintro _ rfl
     refine ⟨fun q20 => ?_, fun q20 => ?_⟩
     ·simp at q20
      refine idx_rd rz ?_ ?_ fun b21 o21 hb21 => ?_
      ·omega
      ·simp; omega
      refine load_allN default (i) rfl rz ?_ ?_ hb21 rfl (mem_at 1 rfl) fun l22 hl22 => ?_
      ·omega
      ·simp; omega
      (obtain ⟨e22, _⟩ := hl22; rw [e22, hzi])
      refine ⟨fun x23 => ?_⟩
      refine gappend1 (g := gR1) (T := (27 : TypeId)) G_ok D [] [A13, A11, [(x2, Obj.cells { toList := zeros (0 : Nat) [Value.slice none (0 : Nat) (0 : Nat)] } (27 : TypeId))], H] ?_ oD (raw_app1 ⟨rfl, rfl⟩) (List.mem_of_getElem? (i := 0) rfl) rfl rfl rfl rfl rfl rfl rfl rfl ?_ fun b24 c24 A24 o24 => ?_
      ·exact .tl
      ·omega
      apply loop_stepA (i + 1, _, _, _)
      ·exact .refl _
      ·repeat' (first | exact trivial | refine ⟨⟨_, rfl, by first | rfl | exact inc_eq _ (by omega) | (refine sl_eq ?_; simp; done) | exact sl_eq (by rw [pickT_yes hri (by omega) (own_yes (by assumption)), List.length_append, List.length_append]; rfl) | exact sl_eq (by rw [pickT_no (by omega) (by omega) (own_no (by assumption))]), by first | exact trivial | simp [SV.ok]⟩, ?_⟩)
      ·exact ⟨rfl, rfl, rfl, trivial⟩
      ·try dsimp only
       exact ⟨by omega, by rw [pickT_yes hri (by omega) (own_yes (by assumption))]; assumption⟩
      try dsimp only
      omega
     ·simp at q20
      apply loop_stepA (i + 1, D, lo, co)
      ·exact .refl _
      ·repeat' (first | exact trivial | refine ⟨⟨_, rfl, by first | rfl | exact inc_eq _ (by omega) | (refine sl_eq ?_; simp; done) | exact sl_eq (by rw [pickT_yes hri (by omega) (own_yes (by assumption)), List.length_append, List.length_append]; rfl) | exact sl_eq (by rw [pickT_no (by omega) (by omega) (own_no (by assumption))]), by first | exact trivial | simp [SV.ok]⟩, ?_⟩)
      ·exact ⟨rfl, rfl, rfl, trivial⟩
      ·try dsimp only
       exact ⟨by omega, by rw [pickT_no (by omega) (by omega) (own_no (by assumption))]; exact oD⟩
      try dsimp only
      omega
    ·simp at q14
     (have hie : i = xs.length := (by omega); subst hie; rw [List.take_of_length_le (l := ls) (by omega), List.take_length] at oD ⊢; have hpk := hLB.pick (ownT n w); rw [hty, hpk.len.1] at *; exact ⟨D ++ (pickL (ownT n w) As xs).flatten, ⟨_, _, rfl, ⟨_, pickL (ownT n w) ls xs, D, pickL (ownT n w) As xs, rfl, fl_ow oD, .refl _, hpk⟩⟩, rle_pickT hpB fun a => by simp only [List.flatten_cons, List.flatten_nil, List.append_nil, List.count_append]; omega⟩)
end
section
attribute [local irreducible] IntKind.wrap queryM namesM nfaOf ownerOf relAt pairsM
theorem je_more {c : Cluster} {g : Graph} {j : Nat} (hJ : ∀ q : Nat, 1 ≤ q → q < j → q < c.nodes.length → (c.nodes[q]?.getD default).work.begun = true → endP g ((q : Int) - 1) (c.nodes[q]?.getD default).work) (h : endP g ((j : Int) - 1) (c.nodes[j]?.getD default).work) :
  ∀ q : Nat, 1 ≤ q → q < j + 1 → q < c.nodes.length → (c.nodes[q]?.getD default).work.begun = true → endP g ((q : Int) - 1) (c.nodes[q]?.getD default).work := fun q h1 h2 h3 h4 => by
 rcases (by omega : q < j ∨ q = j) with h5 | rfl
 ·exact hJ q h1 h5 h3 h4
 exact h
theorem je_skip {c : Cluster} {g : Graph} {j : Nat} (hJ : ∀ q : Nat, 1 ≤ q → q < j → q < c.nodes.length → (c.nodes[q]?.getD default).work.begun = true → endP g ((q : Int) - 1) (c.nodes[q]?.getD default).work) (h : (c.nodes[j]?.getD default).work.begun = false) :
  ∀ q : Nat, 1 ≤ q → q < j + 1 → q < c.nodes.length → (c.nodes[q]?.getD default).work.begun = true → endP g ((q : Int) - 1) (c.nodes[q]?.getD default).work := fun q h1 h2 h3 h4 => by
 rcases (by omega : q < j ∨ q = j) with h5 | rfl
 ·exact hJ q h1 h5 h3 h4
 rw [h] at h4; cases h4
theorem specEndsRight_ct (lc lg : List Value) (c : Cluster) (g : Graph) (hc : gCluster.sz c ≤ 1048576) :
  Ct prog 40 [.agg ⟨lc⟩, .agg ⟨lg⟩] [] (fun H => gCluster.rd H lc c ∧ gGraph.rd H lg g) (fun v A => v = .bool (endsRM c g) ∧ A = []) := by
 refine Ct.intro0 G_ok func40 rfl rfl rfl fun E H hp => ?_
 obtain ⟨hp, hq⟩ := hp
 obtain ⟨l0c, b1c, c1c, b2c, c2c, b3c, c3c, b4c, c4c, rfl, h0c, h1c, h2c, h3c, h4c⟩ := gCluster_rd.1 hp
 obtain ⟨b1_0c, c1_0c, b2_0c, c2_0c, b3_0c, c3_0c, rfl, h1_0c, h2_0c, h3_0c⟩ := gQuery_rd.1 h0c
 obtain ⟨b1g, c1g, rfl, w0g, h1g⟩ := gGraph_rd.1 hq
 have hnl := nodes_len hc
 refine ⟨fun x0 => ?_⟩
 refine ⟨fun x1 => ?_⟩
 apply loop_mod (α := (Nat)) G_ok [8, 9, 10, 11, 12, 15, 16, 17, 18, 19, 20, 6, 7, 21, 22, 23, 24, 25, 26, 27, 28, 29, 30, 31, 32, 33, 34, 37, 38, 39, 40, 41, 42, 43, 44, 45, 46, 47, 48, 49, 50, 4, 35, 36, 13, 14, 5] (fun z => [(5, .v (.int .i64 z))]) (fun z => [{ id := x0, cs := [Value.bool c.query.each, Value.slice b1_0c c.query.out.length c1_0c, Value.slice b2_0c c.query.atoms.length c2_0c, Value.slice b3_0c c.query.filters.length c3_0c] ++ [Value.slice b1c c.nodes.length c1c, Value.slice b2c c.net.length c2c, Value.slice b3c c.codes.length c3c, Value.slice b4c c.replies.length c4c], ty := (84 : Nat) }, { id := x1, cs := [Value.int IntKind.i64 g.size, Value.slice b1g g.edges.length c1g], ty := (88 : Nat) }]) (fun z => [H]) (fun z => c.nodes.length - z) (fun z => 1 ≤ z ∧ ∀ q : Nat, 1 ≤ q → q < z → q < c.nodes.length → (c.nodes[q]?.getD default).work.begun = true → endP g ((q : Int) - 1) (c.nodes[q]?.getD default).work) ((1))
 ·exact frI
 ·exact ⟨rfl, rfl, trivial⟩
 ·exact ⟨Nat.le_refl _, fun q h1 h2 => absurd h2 (by omega)⟩
 ·exact .refl _
 rintro j hI
 try dsimp only at hI
 obtain ⟨hj1, hJ⟩ := hI
 try dsimp only
 refine ⟨fun q2 => ?_, fun q2 => ?_⟩
 ·simp at q2
  have hwz := node_sz hc (j := j) (by omega)
  obtain ⟨hqz, hsl⟩ := work_q2 hwz
  have hal := atoms_len hqz
  have hwr := er_no (c := c) (g := g) j hj1 (by omega)
  refine idx_rd h1c ?_ ?_ fun b3 o3 hb3 => ?_
  ·omega
  ·omega
  refine load_partN default (j) 6 rfl h1c ?_ ?_ hb3 rfl (by decide) (mem_at 0 rfl) fun l4 hl4 => ?_
  ·omega
  ·omega
  obtain ⟨l2x4, b5x4, c5x4, l6x4, l7x4, rfl, w0x4, h2x4, w3x4, h5x4, h6x4, h7x4⟩ := gNode_rd.1 hl4 ; obtain ⟨b0_2x4, c0_2x4, rfl, h0_2x4⟩ := gDisk_rd.1 h2x4 ; obtain ⟨l1_6x4, b2_6x4, c2_6x4, b4_6x4, c4_6x4, l11_6x4, b13_6x4, c13_6x4, rfl, h1_6x4, h2_6x4, w3_6x4, h4_6x4, w5_6x4, w8_6x4, h11_6x4, h13_6x4⟩ := gWork_rd.1 h6x4 ; obtain ⟨b1_1_6x4, c1_1_6x4, b2_1_6x4, c2_1_6x4, b3_1_6x4, c3_1_6x4, rfl, h1_1_6x4, h2_1_6x4, h3_1_6x4⟩ := gQuery_rd.1 h1_6x4 ; obtain ⟨l0_11_6x4, b1_11_6x4, c1_11_6x4, b4_11_6x4, c4_11_6x4, rfl, h0_11_6x4, h1_11_6x4, w2_11_6x4, w3_11_6x4, h4_11_6x4⟩ := gCell_rd.1 h11_6x4 ; obtain ⟨b1_0_11_6x4, c1_0_11_6x4, b2_0_11_6x4, c2_0_11_6x4, b3_0_11_6x4, c3_0_11_6x4, rfl, h1_0_11_6x4, h2_0_11_6x4, h3_0_11_6x4⟩ := gQuery_rd.1 h0_11_6x4 ; obtain ⟨l1_7x4, b2_7x4, c2_7x4, b4_7x4, c4_7x4, l6_7x4, rfl, h1_7x4, h2_7x4, w3_7x4, h4_7x4, h6_7x4⟩ := gAsk_rd.1 h7x4 ; obtain ⟨b1_1_7x4, c1_1_7x4, b2_1_7x4, c2_1_7x4, b3_1_7x4, c3_1_7x4, rfl, h1_1_7x4, h2_1_7x4, h3_1_7x4⟩ := gQuery_rd.1 h1_7x4 ; obtain ⟨b0_6_7x4, c0_6_7x4, rfl, h0_6_7x4⟩ := gBag_rd.1 h6_7x4
  refine ⟨fun x5 => ?_⟩
  apply loop_mod (α := (Nat)) G_ok [21, 22, 23, 24, 25, 26, 27, 28, 29, 30, 31, 32, 33, 34, 37, 38, 39, 40, 41, 42, 43, 44, 45, 46, 47, 48, 49, 50, 4, 35, 36, 7] (fun z => [(7, .v (.int .i64 z))]) (fun z => [{ id := x0, cs := [Value.bool c.query.each, Value.slice b1_0c c.query.out.length c1_0c, Value.slice b2_0c c.query.atoms.length c2_0c, Value.slice b3_0c c.query.filters.length c3_0c] ++ [Value.slice b1c c.nodes.length c1c, Value.slice b2c c.net.length c2c, Value.slice b3c c.codes.length c3c, Value.slice b4c c.replies.length c4c], ty := (84 : Nat) }, { id := x1, cs := [Value.int IntKind.i64 g.size, Value.slice b1g g.edges.length c1g], ty := (88 : Nat) }, { id := x5, cs := [Value.bool (c.nodes[j]?.getD default).work.begun, Value.bool (c.nodes[j]?.getD default).work.query.each, Value.slice b1_1_6x4 (c.nodes[j]?.getD default).work.query.out.length c1_1_6x4, Value.slice b2_1_6x4 (c.nodes[j]?.getD default).work.query.atoms.length c2_1_6x4, Value.slice b3_1_6x4 (c.nodes[j]?.getD default).work.query.filters.length c3_1_6x4, Value.slice b2_6x4 (c.nodes[j]?.getD default).work.shares.length c2_6x4, Value.int IntKind.i64 (c.nodes[j]?.getD default).work.count, Value.slice b4_6x4 (c.nodes[j]?.getD default).work.seen.length c4_6x4, Value.int IntKind.i64 (c.nodes[j]?.getD default).work.num, Value.bool (c.nodes[j]?.getD default).work.black, Value.bool (c.nodes[j]?.getD default).work.holds, Value.int IntKind.i64 (c.nodes[j]?.getD default).work.tokNum, Value.bool (c.nodes[j]?.getD default).work.tokBlack, Value.bool (c.nodes[j]?.getD default).work.walked, Value.bool (c.nodes[j]?.getD default).work.cell.query.each, Value.slice b1_0_11_6x4 (c.nodes[j]?.getD default).work.cell.query.out.length c1_0_11_6x4, Value.slice b2_0_11_6x4 (c.nodes[j]?.getD default).work.cell.query.atoms.length c2_0_11_6x4, Value.slice b3_0_11_6x4 (c.nodes[j]?.getD default).work.cell.query.filters.length c3_0_11_6x4, Value.slice b1_11_6x4 (c.nodes[j]?.getD default).work.cell.shares.length c1_11_6x4, Value.int IntKind.i64 (c.nodes[j]?.getD default).work.cell.at', Value.int IntKind.i64 (c.nodes[j]?.getD default).work.cell.n, Value.slice b4_11_6x4 (c.nodes[j]?.getD default).work.cell.gots.length c4_11_6x4, Value.bool (c.nodes[j]?.getD default).work.told, Value.slice b13_6x4 (c.nodes[j]?.getD default).work.waits.length c13_6x4], ty := (66 : Nat) }]) (fun z => [H]) (fun z => (c.nodes[j]?.getD default).work.query.atoms.length - z) (fun z => z ≤ (c.nodes[j]?.getD default).work.query.atoms.length ∧ ∀ q : Nat, q < z → wpM (c.nodes[j]?.getD default).work q = truesM g (c.nodes[j]?.getD default).work.query q ((j : Int) - 1) (c.nodes[j]?.getD default).work.count) ((0))
  ·exact frI
  ·exact ⟨rfl, rfl, rfl, trivial⟩
  ·exact ⟨Nat.zero_le _, fun q h => absurd h (by omega)⟩
  ·exact .refl _
  rintro a hI
  try dsimp only at hI
  obtain ⟨ha, hI⟩ := hI
  try dsimp only
  refine ⟨fun q6 => ?_, fun q6 => ?_⟩
  ·simp at q6
   refine ⟨fun q7 => ?_, fun q7 => ?_⟩
   ·refine ⟨fun q8 => ?_, fun q8 => ?_⟩
    ·refine draw G_ok mixed none (.q 0 (.q 1 (.q 3 (.q 4 (.q 5 (.q 6 (.q 7 (.q 8 (.q 9 (.q 10 (.f 2 (.f 11 (.f 12 (.q 13 (.nil))))))))))))))) (by decide +kernel) ?_
     refine call_new (specWorkPairs_ct _ ((c.nodes[j]?.getD default).work) _ hwz) (Rp.mono _ (mem_at 0 rfl) h6x4) ?_
     rintro v9 A9 o9
     obtain ⟨bW, cW, rfl, oW⟩ := o9
     refine VC.intro ?_ ?_
     ·exact keep_new
     refine call_new (specTruePairs_ct _ _ (g) ((c.nodes[j]?.getD default).work.query) _ _ _ hqz) ⟨(Rp.mono _ (mem_at 1 rfl) hq), (Rp.mono _ (mem_at 1 rfl) h1_6x4)⟩ ?_
     rintro v10 A10 o10
     obtain ⟨bT, cT, rfl, oT⟩ := o10
     refine VC.intro ?_ ?_
     ·exact keep_sub (by simp) (by simp)
     refine call_val (l21Same_ct _ _ _ _ _ _ (wpM (c.nodes[j]?.getD default).work (↑a : Int)) (truesM g (c.nodes[j]?.getD default).work.query (↑a : Int) (IntKind.i64.wrap ((↑j : Int) - (1 : Int))) (c.nodes[j]?.getD default).work.count)) ⟨(Rp.mono _ (mem_at 1 rfl) (Gt.owrd _ oW)), (Rp.mono _ (mem_at 0 rfl) (Gt.owrd _ oT))⟩ ?_
     rintro _ rfl
     refine VC.intro ?_ ?_
     ·exact keep_sub (by simp) (by simp)
     refine ⟨fun q12 => ?_, fun q12 => ?_⟩
     ·simp at q12
      simp (disch := omega) only [wrap_of] at q12
      exact ⟨[], ⟨by rw [hwr (by assumption) (ep_no (a := a) (by assumption) (by omega) (by assumption))], rfl⟩, .mem (by simp)⟩
     ·simp at q12
      simp (disch := omega) only [wrap_of] at q12
      apply loop_stepA (a + 1)
      ·exact .sub (by repeat (first | exact .slnil | apply List.Sublist.cons_cons | apply List.Sublist.cons))
      ·exact frI
      ·exact ⟨rfl, rfl, rfl, trivial⟩
      ·exact ⟨by omega, fun q hq => wk_more hI hq (by assumption)⟩
      omega
    ·apply loop_stepA (j + 1)
     ·exact .refl _
     ·exact frI
     ·exact ⟨rfl, rfl, trivial⟩
     ·exact ⟨by omega, je_more hJ (ep_idle (by assumption))⟩
     omega
   ·apply loop_stepA (j + 1)
    ·exact .refl _
    ·exact frI
    ·exact ⟨rfl, rfl, trivial⟩
    ·exact ⟨by omega, je_skip hJ (by assumption)⟩
    omega
  ·simp at q6
   apply loop_stepA (j + 1)
   ·exact .refl _
   ·exact frI
   ·exact ⟨rfl, rfl, trivial⟩
   ·exact ⟨by omega, je_more hJ fun _ q hq => hI q (by omega)⟩
   omega
 ·simp at q2
  exact ⟨[], ⟨by rw [er_yes fun q h1 h2 h3 => hJ q h1 (by omega) h2 h3], rfl⟩, .mem (by simp)⟩
end
section
theorem fnExactEndsRight_ct (v0 v1 : Value) :
  Ct prog 6 [v0, v1] [] (fun H => (∃ x, rdV true gCluster.toRp H v0 x) ∧ (∃ x, rdV true gGraph.toRp H v1 x)) (fun v A => v = .bool true ∧ A = []) := by
 refine Ct.intro0 G_ok func6 rfl rfl rfl fun E H hp => ?_
 obtain ⟨⟨xa0, hp0⟩, ⟨xa1, hp1⟩⟩ := hp
 obtain ⟨la0, rfl, hp0⟩ := hp0
 obtain ⟨l0a0, b1a0, c1a0, b2a0, c2a0, b3a0, c3a0, b4a0, c4a0, rfl, h0a0, h1a0, h2a0, h3a0, h4a0⟩ := gCluster_rd.1 hp0
 obtain ⟨b1_0a0, c1_0a0, b2_0a0, c2_0a0, b3_0a0, c3_0a0, rfl, h1_0a0, h2_0a0, h3_0a0⟩ := gQuery_rd.1 h0a0
 obtain ⟨la1, rfl, hp1⟩ := hp1
 obtain ⟨b1a1, c1a1, rfl, w0a1, h1a1⟩ := gGraph_rd.1 hp1
 refine ⟨fun x0 => ?_⟩
 refine ⟨fun x1 => ?_⟩
 refine call_q (szCluster_ct _ (xa0) _ ?_ ?_) (Rp.mono _ (mem_at 0 rfl) hp0) ?_
 ·trivial
 ·trivial
 rintro _ ⟨r2, rfl, hr2⟩
 refine ⟨fun q3 => ?_, fun q3 => ?_⟩
 ·simp at q3
  exact ⟨[], ⟨rfl, rfl⟩, .mem (by simp)⟩
 ·simp at q3
  refine call_q (szGraph_ct _ (xa1) _ ?_ ?_) (Rp.mono _ (mem_at 0 rfl) hp1) ?_
  ·trivial
  ·omega
  rintro _ ⟨r4, rfl, hr4⟩
  refine ⟨fun q5 => ?_, fun q5 => ?_⟩
  ·simp at q5
   exact ⟨[], ⟨rfl, rfl⟩, .mem (by simp)⟩
  ·simp at q5
   refine draw G_ok mixed none (.q 0 (.q 2 (.f 1 (.f 3 (.f 4 (.q 5 (.nil))))))) (by decide +kernel) ?_
   refine call_new (toCluster_ct _ (xa0) ?_) (Rp.mono _ (mem_at 0 rfl) hp0) ?_
   ·omega
   rintro v6 A6 o6
   obtain ⟨l6, rfl, o6⟩ := o6
   have r6 := Gt.owrd _ o6
   obtain ⟨l0x6, b1x6, c1x6, b2x6, c2x6, b3x6, c3x6, b4x6, c4x6, rfl, h0x6, h1x6, h2x6, h3x6, h4x6⟩ := gCluster_rd.1 r6
   obtain ⟨b1_0x6, c1_0x6, b2_0x6, c2_0x6, b3_0x6, c3_0x6, rfl, h1_0x6, h2_0x6, h3_0x6⟩ := gQuery_rd.1 h0x6
   refine VC.intro ?_ ?_
   ·exact keep_new
   refine call_new (toGraph_ct _ (xa1) ?_) (Rp.mono _ (mem_at 1 rfl) hp1) ?_
   ·omega
   rintro v7 A7 o7
   obtain ⟨l7, rfl, o7⟩ := o7
   have r7 := Gt.owrd _ o7
   obtain ⟨b1x7, c1x7, rfl, w0x7, h1x7⟩ := gGraph_rd.1 r7
   refine VC.intro ?_ ?_
   ·exact keep_sub (by simp) (by simp)
   refine call_val (specEndsRight_ct _ _ (xa0) (xa1) ?_) ⟨(Rp.mono _ (mem_at 1 rfl) r6), (Rp.mono _ (mem_at 0 rfl) r7)⟩ ?_
   ·omega
   rintro _ rfl
   refine VC.intro ?_ ?_
   ·exact keep_sub (by simp) (by simp)
   refine call_new (toCluster_ct _ (xa0) ?_) (Rp.mono _ (mem_at 2 rfl) hp0) ?_
   ·omega
   rintro v9 A9 o9
   obtain ⟨l9, rfl, o9⟩ := o9
   have r9 := Gt.owrd _ o9
   obtain ⟨l0x9, b1x9, c1x9, b2x9, c2x9, b3x9, c3x9, b4x9, c4x9, rfl, h0x9, h1x9, h2x9, h3x9, h4x9⟩ := gCluster_rd.1 r9
   obtain ⟨b1_0x9, c1_0x9, b2_0x9, c2_0x9, b3_0x9, c3_0x9, rfl, h1_0x9, h2_0x9, h3_0x9⟩ := gQuery_rd.1 h0x9
   refine ⟨fun x10 => ?_⟩
   refine call_new (toGraph_ct _ (xa1) ?_) (Rp.mono _ (mem_at 3 rfl) hp1) ?_
   ·omega
   rintro v11 A11 o11
   obtain ⟨l11, rfl, o11⟩ := o11
   have r11 := Gt.owrd _ o11
   obtain ⟨b1x11, c1x11, rfl, w0x11, h1x11⟩ := gGraph_rd.1 r11
   refine ⟨fun x12 => ?_⟩
   refine call_val (implEndsRight_ct _ _ (xa0) (xa1) ?_) ⟨(Rp.mono _ (mem_at 1 rfl) r9), (Rp.mono _ (mem_at 0 rfl) r11)⟩ ?_
   ·omega
   rintro _ rfl
   refine ⟨fun q14 => ?_, fun q14 => ?_⟩
   ·simp at q14
   ·simp at q14
    refine draw G_ok mixed none (.q 0 (.q 1 (.f 2 (.f 3 (.q 4 (.nil)))))) (by decide +kernel) ?_
    refine call_new (toCluster_ct _ (xa0) ?_) (Rp.mono _ (mem_at 4 rfl) hp0) ?_
    ·omega
    rintro v15 A15 o15
    obtain ⟨l15, rfl, o15⟩ := o15
    have r15 := Gt.owrd _ o15
    obtain ⟨l0x15, b1x15, c1x15, b2x15, c2x15, b3x15, c3x15, b4x15, c4x15, rfl, h0x15, h1x15, h2x15, h3x15, h4x15⟩ := gCluster_rd.1 r15
    obtain ⟨b1_0x15, c1_0x15, b2_0x15, c2_0x15, b3_0x15, c3_0x15, rfl, h1_0x15, h2_0x15, h3_0x15⟩ := gQuery_rd.1 h0x15
    refine VC.intro ?_ ?_
    ·exact keep_new
    refine call_val (eqCluster_ct _ _ (xa0) (xa0)) ⟨(Rp.mono _ (mem_at 2 rfl) r9), (Rp.mono _ (mem_at 0 rfl) r15)⟩ ?_
    rintro _ rfl
    refine VC.intro ?_ ?_
    ·exact keep_new
    refine ⟨fun q17 => ?_, fun q17 => ?_⟩
    ·simp at q17
    ·simp at q17
     refine draw G_ok mixed none (.q 0 (.q 1 (.f 2 (.f 3 (.q 4 (.nil)))))) (by decide +kernel) ?_
     refine call_new (toGraph_ct _ (xa1) ?_) (Rp.mono _ (mem_at 5 rfl) hp1) ?_
     ·omega
     rintro v18 A18 o18
     obtain ⟨l18, rfl, o18⟩ := o18
     have r18 := Gt.owrd _ o18
     obtain ⟨b1x18, c1x18, rfl, w0x18, h1x18⟩ := gGraph_rd.1 r18
     refine VC.intro ?_ ?_
     ·exact keep_new
     refine call_val (eqGraph_ct _ _ (xa1) (xa1)) ⟨(Rp.mono _ (mem_at 2 rfl) r11), (Rp.mono _ (mem_at 0 rfl) r18)⟩ ?_
     rintro _ rfl
     refine VC.intro ?_ ?_
     ·exact keep_new
     refine ⟨fun q20 => ?_, fun q20 => ?_⟩
     ·simp at q20
     ·simp at q20
      exact ⟨[], ⟨rfl, rfl⟩, .mem (by simp)⟩
end
end Go.Proofs.YtjgehblllhkdbaaGreat
