/-
 Parts of the law, put together. Conditions: none.
-/
import Derived.Test.YtjgehblllhkdbaaGreatZt6
set_option maxHeartbeats 8000000
set_option linter.unusedSimpArgs false
set_option linter.unusedVariables false
namespace Go.Proofs.YtjgehblllhkdbaaGreat
open Go.SX Go.Proofs
open Tryz
section
def cellFull (c : Cell) : Bool := inR 1 8 c.n && ((c.gots.length : Int) == c.n * c.query.atoms.length)
theorem cellFull_len {c : Cell} (h : gCell.sz c ≤ 1048576) : c.query.atoms.length ≤ 1048576 := by
 have h1 := gCell_sz c
 have h2 := gQuery_sz c.query
 have h3 := len_szL gAtom c.query.atoms
 omega
theorem implCellFull_ct (l : List Value) (c : Cell) (hc : gCell.sz c ≤ 1048576) :
  Ct prog 130 [.agg ⟨l⟩] [] (fun H => gCell.rd H l c) (fun v A => v = .bool (cellFull c) ∧ A = []) := by
 refine Ct.intro0 G_ok func130 rfl rfl rfl fun E H hp => ?_
 have hl := cellFull_len hc
 obtain ⟨l0, b1, c1, b4, c4, rfl, h0, h1, w2, w3, h4⟩ := gCell_rd.1 hp
 obtain ⟨b1_0, c1_0, b2_0, c2_0, b3_0, c3_0, rfl, h1_0, h2_0, h3_0⟩ := gQuery_rd.1 h0
 have hb : inR 1 8 c.n = true → IntKind.i64.wrap (c.n * c.query.atoms.length) = c.n * c.query.atoms.length := by
  intro h
  rw [inR_iff] at h
  have h5 : 0 ≤ c.n * c.query.atoms.length := Int.mul_nonneg (by omega) (by omega)
  have h6 : c.n * c.query.atoms.length ≤ 8 * 1048576 := Int.mul_le_mul (by omega) (by omega) (by omega) (by omega)
  exact wrap_of (by omega) (by omega)
 refine ⟨fun x0 => ?_⟩
 refine call_val (isWorkers_ct _) trivial ?_
 rintro _ rfl
 refine ⟨fun q2 => ?_, fun q2 => ?_⟩
 ·exact ⟨[], ⟨by unfold cellFull; first | (rw [hb ‹_›, show inR 1 8 c.n = true by assumption, Bool.true_and]) | (rw [show inR 1 8 c.n = false by simpa using ‹_›, Bool.false_and]), rfl⟩, .mem (by simp)⟩
 ·exact ⟨[], ⟨by unfold cellFull; first | (rw [hb ‹_›, show inR 1 8 c.n = true by assumption, Bool.true_and]) | (rw [show inR 1 8 c.n = false by simpa using ‹_›, Bool.false_and]), rfl⟩, .mem (by simp)⟩
theorem specCellFull_ct (l : List Value) (c : Cell) (hc : gCell.sz c ≤ 1048576) :
  Ct prog 126 [.agg ⟨l⟩] [] (fun H => gCell.rd H l c) (fun v A => v = .bool (cellFull c) ∧ A = []) := by
 refine Ct.intro0 G_ok func126 rfl rfl rfl fun E H hp => ?_
 have hl := cellFull_len hc
 obtain ⟨l0, b1, c1, b4, c4, rfl, h0, h1, w2, w3, h4⟩ := gCell_rd.1 hp
 obtain ⟨b1_0, c1_0, b2_0, c2_0, b3_0, c3_0, rfl, h1_0, h2_0, h3_0⟩ := gQuery_rd.1 h0
 have hb : inR 1 8 c.n = true → IntKind.i64.wrap (c.n * c.query.atoms.length) = c.n * c.query.atoms.length := by
  intro h
  rw [inR_iff] at h
  have h5 : 0 ≤ c.n * c.query.atoms.length := Int.mul_nonneg (by omega) (by omega)
  have h6 : c.n * c.query.atoms.length ≤ 8 * 1048576 := Int.mul_le_mul (by omega) (by omega) (by omega) (by omega)
  exact wrap_of (by omega) (by omega)
 refine ⟨fun x0 => ?_⟩
 refine call_val (l01In_ct _ _ _) trivial ?_
 rintro _ rfl
 refine ⟨fun q2 => ?_, fun q2 => ?_⟩
 ·exact ⟨[], ⟨by unfold cellFull; first | (rw [hb ‹_›, show inR 1 8 c.n = true by assumption, Bool.true_and]) | (rw [show inR 1 8 c.n = false by simpa using ‹_›, Bool.false_and]), rfl⟩, .mem (by simp)⟩
 ·exact ⟨[], ⟨by unfold cellFull; first | (rw [hb ‹_›, show inR 1 8 c.n = true by assumption, Bool.true_and]) | (rw [show inR 1 8 c.n = false by simpa using ‹_›, Bool.false_and]), rfl⟩, .mem (by simp)⟩
end
section
attribute [local irreducible] IntKind.wrap ownerOf namesM queryM
noncomputable def gj (gs : List Got) (a : Nat) : Nat → Bag × Bool
 | 0 => (⟨[]⟩, true)
 | k + 1 => if (gj gs a k).2 = true then (if (gs[k]?.getD default).atom = (a : Int) then bagJ (gj gs a k).1 (gs[k]?.getD default).bag else gj gs a k) else (⟨[]⟩, false)
theorem gj_no {gs : List Got} {a k : Nat} (h : (gj gs a k).2 = false) : ∀ d, (gj gs a (k + d)).2 = false
 | 0 => h
 | d + 1 => by
  have ih := gj_no h d
  show (gj gs a (k + d + 1)).2 = false
  unfold gj
  rw [ih]; rfl
theorem gj_all {gs : List Got} {a k n : Nat} (h : (gj gs a k).2 = false) (hn : k ≤ n) : (gj gs a n).2 = false := by
 have := gj_no h (n - k)
 rwa [show k + (n - k) = n by omega] at this
theorem gj_hit {gs : List Got} {a k : Nat} (h : (gj gs a k).2 = true) (he : (gs[k]?.getD default).atom = (a : Int)) : gj gs a (k + 1) = bagJ (gj gs a k).1 (gs[k]?.getD default).bag := by
 conv => lhs; unfold gj
 rw [if_pos h, if_pos he]
theorem gj_skip {gs : List Got} {a k : Nat} (h : (gj gs a k).2 = true) (he : ¬ (gs[k]?.getD default).atom = (a : Int)) : gj gs a (k + 1) = gj gs a k := by
 conv => lhs; unfold gj
 rw [if_pos h, if_neg he]
noncomputable def tsM (c : Cell) (k : Nat) : List Table := (List.range k).map fun a => ⟨colsM (c.query.atoms[a]?.getD default), (gj c.gots a c.gots.length).1⟩
theorem tsM_len (c : Cell) (k : Nat) : (tsM c k).length = k := by unfold tsM; rw [List.length_map, List.length_range]
theorem tsM_step (c : Cell) (k : Nat) : tsM c (k + 1) = tsM c k ++ [⟨colsM (c.query.atoms[k]?.getD default), (gj c.gots k c.gots.length).1⟩] := by
 unfold tsM; rw [List.range_succ, List.map_append, List.map_singleton]
def tellOk (c : Cell) : Prop := cellFull c = true ∧ ∀ a, a < c.query.atoms.length → (gj c.gots a c.gots.length).2 = true
open Classical in
noncomputable def tellM (c : Cell) : Bag × Bool := if tellOk c then caM c.query c.shares c.at' (tsM c c.query.atoms.length) else (⟨[]⟩, false)
theorem tell_no1 {c : Cell} (h : cellFull c = false) : tellM c = (⟨[]⟩, false) := if_neg fun e => by have h2 := e.1; rw [h] at h2; cases h2
theorem tell_no2 {c : Cell} {a : Nat} (ha : a < c.query.atoms.length) (h : (gj c.gots a c.gots.length).2 = false) : tellM c = (⟨[]⟩, false) := if_neg fun e => by rw [e.2 a ha] at h; cases h
theorem tell_yes {c : Cell} (h1 : cellFull c = true) (h2 : ∀ a, a < c.query.atoms.length → (gj c.gots a c.gots.length).2 = true) : tellM c = caM c.query c.shares c.at' (tsM c c.query.atoms.length) := if_pos ⟨h1, h2⟩
theorem tb_ow {b0 : Option Addr} {c0 : Nat} {b1 : Option Addr} {c1 : Nat} {cs : List ByteArray} {ys : List Item} {A B : Hp} (h1 : (gSl 9 gS).ow [.slice b0 cs.length c0] cs A) (h2 : (gSl 218 gItem).ow [.slice b1 ys.length c1] ys B) : gTable.ow [.slice b0 cs.length c0, .slice b1 ys.length c1] ⟨cs, ⟨ys⟩⟩ (A ++ B) :=
 gTable_ow.2 ⟨b0, c0, A, _, B, rfl, .refl _, h1, gBag_ow.2 ⟨b1, c1, B, rfl, .refl _, h2⟩⟩
theorem tell_leaf {c : Cell} (h1 : cellFull c = true) (h2 : ∀ a, a < c.query.atoms.length → (gj c.gots a c.gots.length).2 = true) {b1 : Option Addr} {c1 : Nat} {D : Hp} (o : (gSl 218 gItem).ow [.slice b1 (caM c.query c.shares c.at' (tsM c c.query.atoms.length)).1.items.length c1] (caM c.query c.shares c.at' (tsM c c.query.atoms.length)).1.items D) :
  ∃ (b : Option Addr) (c' : Nat), Value.tuple ⟨[.agg ⟨[.slice b1 (caM c.query c.shares c.at' (tsM c c.query.atoms.length)).1.items.length c1]⟩, .bool (caM c.query c.shares c.at' (tsM c c.query.atoms.length)).2]⟩ = .tuple #[.agg ⟨[.slice b (tellM c).1.items.length c']⟩, .bool (tellM c).2] ∧ (gSl 218 gItem).ow [.slice b (tellM c).1.items.length c'] (tellM c).1.items D := by
 rw [tell_yes h1 h2]; exact ⟨b1, c1, rfl, o⟩
theorem specCellTell_ct (l : List Value) (c : Cell) (hc : gCell.sz c ≤ 1048576) :
  Ct prog 43 [.agg ⟨l⟩] [] (fun H => gCell.rd H l c)
   (fun v D => ∃ (b1 : Option Addr) (c1 : Nat), v = .tuple #[.agg ⟨[.slice b1 (tellM c).1.items.length c1]⟩, .bool (tellM c).2] ∧ (gSl 218 gItem).ow [.slice b1 (tellM c).1.items.length c1] (tellM c).1.items D) := by
 refine Ct.intro0 G_ok func43 rfl rfl rfl fun E H hp => ?_
 obtain ⟨l0p, b1p, c1p, b4p, c4p, rfl, h0p, h1p, w2p, w3p, h4p⟩ := gCell_rd.1 hp
 obtain ⟨b1_0p, c1_0p, b2_0p, c2_0p, b3_0p, c3_0p, rfl, h1_0p, h2_0p, h3_0p⟩ := gQuery_rd.1 h0p
 have hcl := cellFull_len hc
 have hgl : c.gots.length ≤ 1048576 := by have h1 := len_szL gGot c.gots; rw [gCell_sz] at hc; omega
 have hqz : gQuery.sz c.query ≤ 1048576 := by rw [gCell_sz] at hc; omega
 refine ⟨fun x0 => ?_⟩
 refine ⟨fun x1 => ?_⟩
 refine call_val (specCellFull_ct _ (c) ?_) (Rp.mono _ (mem_at 0 rfl) hp) ?_
 ·trivial
 rintro _ rfl
 refine ⟨fun q3 => ?_, fun q3 => ?_⟩
 ·simp at q3
  exact ⟨[], ⟨none, 0, by rw [tell_no1 (by assumption)]; rfl, by rw [tell_no1 (by assumption)]; exact sl_nil _ _ _⟩, .mem (by simp)⟩
 ·simp at q3
  refine ⟨fun x4 => ?_⟩
  apply loop_mod (α := (Nat) × (List Table) × (Hp) × (Option Addr) × (Nat)) G_ok [14, 15, 16, 17, 18, 19, 22, 6, 7, 8, 23, 24, 25, 26, 27, 28, 29, 30, 33, 34, 35, 36, 37, 38, 39, 40, 42, 43, 44, 45, 46, 47, 48, 49, 41, 50, 51, 31, 32, 52, 53, 54, 3, 55, 56, 57, 58, 59, 60, 61, 62, 63, 64, 65, 66, 4, 20, 21, 5] (fun z => [(5, .v (.int .i64 z.1)), (4, .v (.slice z.2.2.2.1 z.2.1.length z.2.2.2.2)), (3, .v (.bool false))]) (fun z => [{ id := x0, cs := [Value.bool c.query.each, Value.slice b1_0p c.query.out.length c1_0p, Value.slice b2_0p c.query.atoms.length c2_0p, Value.slice b3_0p c.query.filters.length c3_0p] ++ [Value.slice b1p c.shares.length c1p, Value.int IntKind.i64 c.at', Value.int IntKind.i64 c.n, Value.slice b4p c.gots.length c4p], ty := (63 : Nat) }, { id := x1, cs := [Value.slice none (0 : Nat) (0 : Nat)], ty := (33 : Nat) }]) (fun z => [z.2.2.1, H]) (fun z => c.query.atoms.length - z.1) (fun z => z.1 ≤ c.query.atoms.length ∧ z.2.1 = tsM c z.1 ∧ (∀ j, j < z.1 → (gj c.gots j c.gots.length).2 = true) ∧ (gSl 191 gTable).ow [.slice z.2.2.2.1 z.2.1.length z.2.2.2.2] z.2.1 z.2.2.1) ((0, [], [], _, 0))
  ·exact frI
  ·exact ⟨rfl, rfl, trivial⟩
  ·try dsimp only
   exact ⟨Nat.zero_le _, rfl, fun j hj => absurd hj (Nat.not_lt_zero _), sl_nil _ _ _⟩
  ·exact .tl
  rintro ⟨a, W, A, tb, tc⟩ hI
  try dsimp only at hI
  obtain ⟨ha, hW, hall, oA⟩ := hI
  try dsimp only
  refine ⟨fun q5 => ?_, fun q5 => ?_⟩
  ·simp at q5
   have hWl := tsM_len c a
   rw [← hW] at hWl
   refine ⟨fun x6 => ?_⟩
   apply loop_mod (α := (Nat) × (Bag × Bool) × (Hp) × (Option Addr) × (Nat)) G_ok [23, 24, 25, 26, 27, 28, 29, 30, 33, 34, 35, 36, 37, 38, 39, 40, 42, 43, 44, 45, 46, 47, 48, 49, 41, 50, 51, 7, 31, 32, 8] (fun z => [(8, .v (.int .i64 z.1)), (7, .v (.bool z.2.1.2))]) (fun z => [⟨x0, [Value.bool c.query.each, Value.slice b1_0p c.query.out.length c1_0p, Value.slice b2_0p c.query.atoms.length c2_0p, Value.slice b3_0p c.query.filters.length c3_0p, Value.slice b1p c.shares.length c1p, Value.int IntKind.i64 c.at', Value.int IntKind.i64 c.n, Value.slice b4p c.gots.length c4p], (63 : Nat)⟩, ⟨x1, [Value.slice none (0 : Nat) (0 : Nat)], (33 : Nat)⟩, ⟨x6, [.slice z.2.2.2.1 z.2.1.1.items.length z.2.2.2.2], (33 : Nat)⟩]) (fun z => [z.2.2.1, A, H]) (fun z => c.gots.length - z.1) (fun z => z.1 ≤ c.gots.length ∧ z.2.1 = gj c.gots a z.1 ∧ (gSl 218 gItem).ow [.slice z.2.2.2.1 z.2.1.1.items.length z.2.2.2.2] z.2.1.1.items z.2.2.1) ((0, (⟨[]⟩, true), [], _, _))
   ·exact frI
   ·exact ⟨rfl, rfl, rfl, trivial⟩
   ·try dsimp only
    exact ⟨Nat.zero_le _, rfl, sl_nil _ _ _⟩
   ·exact .refl _
   rintro ⟨i, J, B, ib, ic⟩ hI
   try dsimp only at hI
   obtain ⟨hi, hJ, oB⟩ := hI
   try dsimp only
   refine ⟨fun q7 => ?_, fun q7 => ?_⟩
   ·simp at q7
    refine ⟨fun q8 => ?_, fun q8 => ?_⟩
    ·refine idx_rd h4p ?_ ?_ fun b9 o9 hb9 => ?_
     ·omega
     ·omega
     refine load_partN default (i) 1 rfl h4p ?_ ?_ hb9 rfl (by decide) (mem_at 2 rfl) fun l10 hl10 => ?_
     ·omega
     ·omega
     obtain ⟨l2x10, rfl, w0x10, w1x10, h2x10⟩ := gGot_rd.1 hl10 ; obtain ⟨b0_2x10, c0_2x10, rfl, h0_2x10⟩ := gBag_rd.1 h2x10
     refine ⟨fun q11 => ?_, fun q11 => ?_⟩
     ·simp at q11
      refine draw G_ok mixed (some 11) (.q 0 (.q 1 (.q 2 (.q 3 (.q 4 (.q 5 (.q 6 (.f 7 (.q 8 (.q 9 (.q 10 (.tl 11 (.f 12 (.nil)))))))))))))) (by decide +kernel) ?_
      refine idx_rd h4p ?_ ?_ fun b12 o12 hb12 => ?_
      ·omega
      ·omega
      refine load_partN default (i) 2 rfl h4p ?_ ?_ hb12 rfl (by decide) (mem_at 2 rfl) fun l13 hl13 => ?_
      ·omega
      ·omega
      obtain ⟨l2x13, rfl, w0x13, w1x13, h2x13⟩ := gGot_rd.1 hl13 ; obtain ⟨b0_2x13, c0_2x13, rfl, h0_2x13⟩ := gBag_rd.1 h2x13
      refine call_new (specBagJoin_ct _ _ J.1 (c.gots[i]?.getD default).bag) ⟨gBag_rd.2 ⟨_, _, rfl, Rp.mono _ (mem_at 0 rfl) (Gt.owrd _ oB)⟩, (Rp.mono _ (mem_at 2 rfl) h2x13)⟩ ?_
      rintro v14 A14 o14
      obtain ⟨b14, c14, rfl, o14⟩ := o14
      refine VC.intro ?_ ?_
      ·exact keep_new
      apply loop_stepA (i + 1, bagJ J.1 (c.gots[i]?.getD default).bag, _, _, _)
      ·exact .sub (by repeat (first | exact .slnil | apply List.Sublist.cons_cons | apply List.Sublist.cons))
      ·exact frI
      ·exact ⟨rfl, rfl, rfl, trivial⟩
      ·try dsimp only
       exact ⟨by omega, by rw [gj_hit (by rw [← hJ]; assumption) (by assumption), ← hJ], by assumption⟩
      try dsimp only
      omega
     ·simp at q11
      apply loop_stepA (i + 1, J, B, ib, ic)
      ·exact .refl _
      ·exact frI
      ·exact ⟨rfl, rfl, rfl, trivial⟩
      ·try dsimp only
       exact ⟨by omega, by rw [gj_skip (by rw [← hJ]; assumption) (by assumption)]; exact hJ, oB⟩
      try dsimp only
      omega
    ·refine ⟨fun q15 => ?_, fun q15 => ?_⟩
     ·simp at q15
      (have hno := tell_no2 (c := c) (a := a) (by omega) (gj_all (k := i) (by rw [← hJ]; assumption) (by omega)); exact ⟨[], ⟨none, 0, by rw [hno]; rfl, by rw [hno]; exact sl_nil _ _ _⟩, .mem (by simp)⟩)
     ·simp at q15
      exact absurd (‹J.2 = true›.symm.trans ‹J.2 = false›) (by decide)
   ·simp at q7
    refine ⟨fun q16 => ?_, fun q16 => ?_⟩
    ·simp at q16
     (have hno := tell_no2 (c := c) (a := a) (by omega) (gj_all (k := i) (by rw [← hJ]; assumption) (by omega)); exact ⟨[], ⟨none, 0, by rw [hno]; rfl, by rw [hno]; exact sl_nil _ _ _⟩, .mem (by simp)⟩)
    ·simp at q16
     refine draw G_ok mixed (some 11) (.q 0 (.q 1 (.q 2 (.q 3 (.q 4 (.q 5 (.q 6 (.q 8 (.f 7 (.q 9 (.f 10 (.tl 11 (.f 12 (.nil)))))))))))))) (by decide +kernel) ?_
     refine idx_rd h2_0p ?_ ?_ fun b17 o17 hb17 => ?_
     ·omega
     ·omega
     refine load_allN default (a) rfl h2_0p ?_ ?_ hb17 rfl (mem_at 2 rfl) fun l18 hl18 => ?_
     ·omega
     ·omega
     obtain ⟨rfl, w0x18, w1x18, w2x18⟩ := gAtom_rd.1 hl18
     refine call_new (specColsOf_ct _ (c.query.atoms[a]?.getD default)) (Rp.mono _ (mem_at 2 rfl) hl18) ?_
     rintro v19 A19 o19
     obtain ⟨b19, c19, rfl, o19⟩ := o19
     refine VC.intro ?_ ?_
     ·exact keep_new
     refine ⟨fun x20 => ?_⟩
     refine VC.intro ?_ ?_
     ·exact keep_new
     refine gappend1 (g := gTable) (T := (191 : TypeId)) G_ok A _ [H] ?_ oA (tb_ow (by assumption) oB) (List.mem_of_getElem? (i := 0) rfl) rfl rfl rfl rfl rfl rfl rfl rfl ?_ fun b21 c21 A21 o21 => ?_
     ·exact rlA
     ·omega
     apply loop_stepA (a + 1, W ++ [⟨colsM (c.query.atoms[a]?.getD default), J.1⟩], _, _, _)
     ·exact .refl _
     ·exact frI
     ·exact ⟨rfl, rfl, trivial⟩
     ·try dsimp only
      (have hie : i = c.gots.length := (by omega); subst hie; exact ⟨by omega, by rw [hW, tsM_step, hJ], all_step9 hall (by rw [← hJ]; assumption), by assumption⟩)
     try dsimp only
     omega
  ·simp at q5
   refine call_new (specCellAnswer_ct _ _ _ _ _ _ _ (c.query) (c.shares) _ (W) ?_) ⟨(Rp.mono _ (mem_at 1 rfl) h0p), (Rp.mono _ (mem_at 1 rfl) h1p), (Rp.mono _ (mem_at 0 rfl) (Gt.owrd _ oA))⟩ ?_
   ·trivial
   rintro v22 A22 o22
   obtain ⟨b122, c122, rfl, o22⟩ := o22
   (have hae : a = c.query.atoms.length := (by omega); subst hae; subst hW; exact ⟨_, tell_leaf ‹cellFull c = true› hall (by assumption), rlB⟩)
end
section
attribute [local irreducible] IntKind.wrap ownerOf namesM queryM
theorem implCellTell_ct (l : List Value) (c : Cell) (hc : gCell.sz c ≤ 1048576) :
  Ct prog 45 [.agg ⟨l⟩] [] (fun H => gCell.rd H l c)
   (fun v D => ∃ (b1 : Option Addr) (c1 : Nat), v = .tuple #[.agg ⟨[.slice b1 (tellM c).1.items.length c1]⟩, .bool (tellM c).2] ∧ (gSl 218 gItem).ow [.slice b1 (tellM c).1.items.length c1] (tellM c).1.items D) := by
 refine Ct.intro0 G_ok func45 rfl rfl rfl fun E H hp => ?_
 obtain ⟨l0p, b1p, c1p, b4p, c4p, rfl, h0p, h1p, w2p, w3p, h4p⟩ := gCell_rd.1 hp
 obtain ⟨b1_0p, c1_0p, b2_0p, c2_0p, b3_0p, c3_0p, rfl, h1_0p, h2_0p, h3_0p⟩ := gQuery_rd.1 h0p
 have hcl := cellFull_len hc
 have hgl : c.gots.length ≤ 1048576 := by have h1 := len_szL gGot c.gots; rw [gCell_sz] at hc; omega
 have hqz : gQuery.sz c.query ≤ 1048576 := by rw [gCell_sz] at hc; omega
 refine ⟨fun x0 => ?_⟩
 refine ⟨fun x1 => ?_⟩
 refine call_val (implCellFull_ct _ (c) ?_) (Rp.mono _ (mem_at 0 rfl) hp) ?_
 ·trivial
 rintro _ rfl
 refine ⟨fun q3 => ?_, fun q3 => ?_⟩
 ·simp at q3
  exact ⟨[], ⟨none, 0, by rw [tell_no1 (by assumption)]; rfl, by rw [tell_no1 (by assumption)]; exact sl_nil _ _ _⟩, .mem (by simp)⟩
 ·simp at q3
  apply loop_mod (α := (Nat) × (List Table) × (Hp) × (Option Addr) × (Nat)) G_ok [21, 22, 23, 24, 6, 5, 25, 26, 27, 7, 28, 29, 30, 31, 32, 33, 34, 9, 35, 36, 37, 38, 40, 41, 42, 43, 44, 39, 45, 46, 10, 11, 47, 48, 49, 3, 50, 51, 52, 53, 54, 55, 56, 4, 57, 20] (fun z => [(20, .v (.int .i64 z.1)), (4, .v (.slice z.2.2.2.1 z.2.1.length z.2.2.2.2)), (3, .v (.bool false))]) (fun z => [{ id := x0, cs := [Value.bool c.query.each, Value.slice b1_0p c.query.out.length c1_0p, Value.slice b2_0p c.query.atoms.length c2_0p, Value.slice b3_0p c.query.filters.length c3_0p] ++ [Value.slice b1p c.shares.length c1p, Value.int IntKind.i64 c.at', Value.int IntKind.i64 c.n, Value.slice b4p c.gots.length c4p], ty := (63 : Nat) }, { id := x1, cs := [Value.slice none (0 : Nat) (0 : Nat)], ty := (33 : Nat) }]) (fun z => [z.2.2.1, H]) (fun z => c.query.atoms.length - z.1) (fun z => z.1 ≤ c.query.atoms.length ∧ z.2.1 = tsM c z.1 ∧ (∀ j, j < z.1 → (gj c.gots j c.gots.length).2 = true) ∧ (gSl 191 gTable).ow [.slice z.2.2.2.1 z.2.1.length z.2.2.2.2] z.2.1 z.2.2.1) ((0, [], [], _, 0))
  ·exact frI
  ·exact ⟨rfl, rfl, trivial⟩
  ·try dsimp only
   exact ⟨Nat.zero_le _, rfl, fun j hj => absurd hj (Nat.not_lt_zero _), sl_nil _ _ _⟩
  ·exact .refl _
  rintro ⟨a, W, A, tb, tc⟩ hI
  try dsimp only at hI
  obtain ⟨ha, hW, hall, oA⟩ := hI
  try dsimp only
  refine ⟨fun q4 => ?_, fun q4 => ?_⟩
  ·simp at q4
   have hWl := tsM_len c a
   rw [← hW] at hWl
   refine idx_rd h2_0p ?_ ?_ fun b5 o5 hb5 => ?_
   ·omega
   ·omega
   refine load_allN default (a) rfl h2_0p ?_ ?_ hb5 rfl (mem_at 1 rfl) fun l6 hl6 => ?_
   ·omega
   ·omega
   obtain ⟨rfl, w0x6, w1x6, w2x6⟩ := gAtom_rd.1 hl6
   refine ⟨fun x7 => ?_⟩
   refine call_new (implColsOf_ct _ (c.query.atoms[a]?.getD default)) (Rp.mono _ (mem_at 1 rfl) hl6) ?_
   rintro v8 A8 o8
   obtain ⟨b8, c8, rfl, o8⟩ := o8
   refine ⟨fun x9 => ?_⟩
   apply loop_mod (α := (Nat) × (Bag) × (Hp) × (Option Addr) × (Nat)) G_ok [32, 33, 34, 9, 35, 36, 37, 38, 40, 41, 42, 43, 44, 39, 45, 46, 10, 11, 47, 48, 49, 3, 50, 51, 52, 31] (fun z => [(31, .v (.int .i64 z.1)), (3, .v (.bool false))]) (fun z => [⟨x0, [Value.bool c.query.each, Value.slice b1_0p c.query.out.length c1_0p, Value.slice b2_0p c.query.atoms.length c2_0p, Value.slice b3_0p c.query.filters.length c3_0p, Value.slice b1p c.shares.length c1p, Value.int IntKind.i64 c.at', Value.int IntKind.i64 c.n, Value.slice b4p c.gots.length c4p], (63 : Nat)⟩, ⟨x1, [Value.slice none (0 : Nat) (0 : Nat)], (33 : Nat)⟩, ⟨x7, [Value.string (c.query.atoms[a]?.getD default).from', Value.string (c.query.atoms[a]?.getD default).path, Value.string (c.query.atoms[a]?.getD default).to], (118 : Nat)⟩, ⟨x9, [Value.slice b8 (colsM (c.query.atoms[a]?.getD default)).length c8, .slice z.2.2.2.1 z.2.1.items.length z.2.2.2.2], (191 : Nat)⟩]) (fun z => [z.2.2.1, A8, A, H]) (fun z => c.gots.length - z.1) (fun z => z.1 ≤ c.gots.length ∧ z.2.1 = (gj c.gots a z.1).1 ∧ (gj c.gots a z.1).2 = true ∧ (gSl 218 gItem).ow [.slice z.2.2.2.1 z.2.1.items.length z.2.2.2.2] z.2.1.items z.2.2.1) ((0, ⟨[]⟩, [], _, _))
   ·exact frI
   ·exact ⟨rfl, rfl, rfl, rfl, trivial⟩
   ·try dsimp only
    exact ⟨Nat.zero_le _, rfl, rfl, sl_nil _ _ _⟩
   ·exact .refl _
   rintro ⟨i, G, B, ib, ic⟩ hI
   try dsimp only at hI
   obtain ⟨hi, hG, hok, oB⟩ := hI
   try dsimp only
   refine ⟨fun q10 => ?_, fun q10 => ?_⟩
   ·simp at q10
    refine idx_rd h4p ?_ ?_ fun b11 o11 hb11 => ?_
    ·omega
    ·omega
    refine load_allN default (i) rfl h4p ?_ ?_ hb11 rfl (mem_at 3 rfl) fun l12 hl12 => ?_
    ·omega
    ·omega
    obtain ⟨l2x12, rfl, w0x12, w1x12, h2x12⟩ := gGot_rd.1 hl12 ; obtain ⟨b0_2x12, c0_2x12, rfl, h0_2x12⟩ := gBag_rd.1 h2x12
    refine ⟨fun x13 => ?_⟩
    refine ⟨fun q14 => ?_, fun q14 => ?_⟩
    ·simp at q14
     apply loop_stepA (i + 1, G, B, ib, ic)
     ·exact .refl _
     ·exact frI
     ·exact ⟨rfl, rfl, rfl, rfl, trivial⟩
     ·try dsimp only
      (have hg9 := gj_skip hok (by assumption); exact ⟨by omega, by rw [hg9]; exact hG, by rw [hg9]; exact hok, oB⟩)
     try dsimp only
     omega
    ·simp at q14
     refine call_new (implBagJoin_ct _ _ G (c.gots[i]?.getD default).bag) ⟨gBag_rd.2 ⟨_, _, rfl, Rp.mono _ (mem_at 0 rfl) (Gt.owrd _ oB)⟩, (Rp.mono _ (mem_at 3 rfl) h2x12)⟩ ?_
     rintro v15 A15 o15
     obtain ⟨b15, c15, rfl, o15⟩ := o15
     refine ⟨fun x16 => ?_⟩
     refine ⟨fun q17 => ?_, fun q17 => ?_⟩
     ·simp at q17
      (have hg9 := gj_hit hok (by assumption); rw [← hG] at hg9; have hno := tell_no2 (c := c) (a := a) (by omega) (gj_all (k := i + 1) (by rw [hg9]; assumption) (by omega)); exact ⟨[], ⟨none, 0, by rw [hno]; rfl, by rw [hno]; exact sl_nil _ _ _⟩, .mem (by simp)⟩)
     ·simp at q17
      apply loop_stepA (i + 1, (bagJ G (c.gots[i]?.getD default).bag).1, _, _, _)
      ·exact .sub (by repeat (first | exact .slnil | apply List.Sublist.cons_cons | apply List.Sublist.cons))
      ·exact frI
      ·exact ⟨rfl, rfl, rfl, rfl, trivial⟩
      ·try dsimp only
       (have hg9 := gj_hit hok (by assumption); rw [← hG] at hg9; exact ⟨by omega, by rw [hg9], by rw [hg9]; assumption, by assumption⟩)
      try dsimp only
      omega
   ·simp at q10
    refine ⟨fun x18 => ?_⟩
    refine gappend1 (g := gTable) (T := (191 : TypeId)) G_ok A _ [H] ?_ oA (tb_ow (by assumption) oB) (List.mem_of_getElem? (i := 0) rfl) rfl rfl rfl rfl rfl rfl rfl rfl ?_ fun b19 c19 A19 o19 => ?_
    ·exact rlA
    ·omega
    apply loop_stepA (a + 1, W ++ [⟨colsM (c.query.atoms[a]?.getD default), G⟩], _, _, _)
    ·exact .refl _
    ·exact frI
    ·exact ⟨rfl, rfl, trivial⟩
    ·try dsimp only
     (have hie : i = c.gots.length := (by omega); subst hie; exact ⟨by omega, by rw [hW, tsM_step, hG], all_step9 hall hok, by assumption⟩)
    try dsimp only
    omega
  ·simp at q4
   refine call_new (implCellAnswer_ct _ _ _ _ _ _ _ (c.query) (c.shares) _ (W) ?_) ⟨(Rp.mono _ (mem_at 1 rfl) h0p), (Rp.mono _ (mem_at 1 rfl) h1p), (Rp.mono _ (mem_at 0 rfl) (Gt.owrd _ oA))⟩ ?_
   ·trivial
   rintro v20 A20 o20
   obtain ⟨b120, c120, rfl, o20⟩ := o20
   (have hae : a = c.query.atoms.length := (by omega); subst hae; subst hW; exact ⟨_, tell_leaf ‹cellFull c = true› hall (by assumption), rlB⟩)
end
section
theorem dgs_size : ∀ (f k : Nat) (out : ByteArray), (dgs f k out).size ≤ f + out.size
 | 0, k, out => by simp [dgs]
 | f + 1, k, out => by
  unfold dgs
  split
  ·omega
  have := dgs_size f (k / 10) (⟨#[UInt8.ofNat (48 + k % 10)]⟩ ++ out)
  rw [ByteArray.size_append] at this
  have e : (⟨#[UInt8.ofNat (48 + k % 10)]⟩ : ByteArray).size = 1 := rfl
  omega
theorem sz1 (x : UInt8) : (⟨#[x]⟩ : ByteArray).size = 1 := rfl
theorem dgs_dig (q : Nat) : ((q : Int).tmod 10) = ((q % 10 : Nat) : Int) := by rw [Int.tmod_eq_emod_of_nonneg (by omega)]; omega
theorem dgs_fr (q : Nat) (o : ByteArray) : Value.string (⟨(([IntKind.u8.wrap (IntKind.i64.wrap (48 + (q : Int).tmod 10))] : List Int).map fun v => UInt8.ofNat v.toNat).toArray⟩ ++ o) = Value.string (⟨#[UInt8.ofNat (48 + q % 10)]⟩ ++ o) := by
 rw [dgs_dig]
 have h : IntKind.u8.wrap (IntKind.i64.wrap (48 + ((q % 10 : Nat) : Int))) = ((48 + q % 10 : Nat) : Int) := by
  simp (disch := omega) only [wrap_of, u8_wrap]; omega
 rw [h]; rfl
theorem mtx_size (k : Int) : (mtx k).size ≤ 9223372036854775807 := by
 unfold mtx
 split
 ·decide
 have := dgs_size 20 k.toNat .empty
 rw [ByteArray.size_append]
 have e : (⟨#[109]⟩ : ByteArray).size = 1 := rfl
 have e2 : ByteArray.empty.size = 0 := rfl
 omega
theorem markText_ct (k : Int) (h1 : k ≤ 4611686018427387904) : Ct prog 173 [.int .i64 k] [] (fun _ => True) (fun v A => v = .string (mtx k) ∧ A = []) := by
 refine Ct.intro0 G_ok func173 rfl rfl rfl fun E H hp => ?_
 refine ⟨fun q0 => ?_, fun q0 => ?_⟩
 ·simp at q0
  exact ⟨[], ⟨by unfold mtx; rw [if_pos (by omega)], rfl⟩, .mem (by simp)⟩
 ·simp at q0
  apply loop_mod (α := (Nat) × (Nat) × (ByteArray)) G_ok [6, 7, 8, 9, 10, 11, 12, 13, 14, 15, 3, 16, 17, 0] (fun z => [(3, .v (.string z.2.2)), (0, .v (.int .i64 z.2.1))]) (fun z => []) (fun z => [H]) (fun z => z.2.1) (fun z => dgs z.1 z.2.1 z.2.2 = dgs 20 k.toNat .empty ∧ z.2.1 < 10 ^ z.1 ∧ z.2.2.size + z.1 ≤ 20 ∧ z.2.1 ≤ 4611686018427387904) ((20, k.toNat, .empty))
  ·repeat' (first | exact trivial | refine ⟨⟨_, rfl, by first | rfl | exact inc_eq _ (by omega) | (refine sl_eq ?_; simp; done) | (refine svi_eq ?_; (try dsimp only); omega) | exact dgs_fr q o | (refine svi_eq ?_; (try dsimp only); rw [Int.tdiv_eq_ediv_of_nonneg (show (0 : Int) ≤ (q : Int) by omega)]; (try simp (disch := omega) only [wrap_of]); omega), by first | exact trivial | simp [SV.ok]⟩, ?_⟩)
  ·exact trivial
  ·try dsimp only
   exact ⟨rfl, by omega, by decide, by omega⟩
  ·exact .refl _
  rintro ⟨f, q, o⟩ hI
  try dsimp only at hI
  obtain ⟨hd, hq, hs, hm⟩ := hI
  try dsimp only
  refine ⟨fun q1 => ?_, fun q1 => ?_⟩
  ·simp at q1
   obtain ⟨f, rfl⟩ : ∃ f', f = f' + 1 := by cases f with | zero => simp at hq; omega | succ f' => exact ⟨f', rfl⟩
   refine VC.intro ?_ ?_
   ·trivial
   refine ⟨fun x2 => ?_⟩
   refine conv_bs G_ok (([IntKind.u8.wrap (IntKind.i64.wrap ((48 : Int) + (↑q : Int).tmod (10 : Int)))] : List Int).map fun v => UInt8.ofNat v.toNat) rfl (lit_bs [IntKind.u8.wrap (IntKind.i64.wrap ((48 : Int) + (↑q : Int).tmod (10 : Int)))] (mem_at 0 rfl _ (List.mem_singleton.2 rfl)) rfl ?_ (by simp)) rfl rfl rfl ?_
   ·(simp only [inU8, u8_wrap, and_true]; omega)
   refine VC.intro ?_ ?_
   ·(rw [bsz]; simp only [List.length_map, List.length_cons, List.length_nil]; have : IntKind.i64.max = 9223372036854775807 := rfl; omega)
   refine VC.intro ?_ ?_
   ·trivial
   apply loop_stepA (f, q / 10, ⟨#[UInt8.ofNat (48 + q % 10)]⟩ ++ o)
   ·exact .sub (by repeat (first | exact .slnil | apply List.Sublist.cons_cons | apply List.Sublist.cons))
   ·repeat' (first | exact trivial | refine ⟨⟨_, rfl, by first | rfl | exact inc_eq _ (by omega) | (refine sl_eq ?_; simp; done) | (refine svi_eq ?_; (try dsimp only); omega) | exact dgs_fr q o | (refine svi_eq ?_; (try dsimp only); rw [Int.tdiv_eq_ediv_of_nonneg (show (0 : Int) ≤ (q : Int) by omega)]; (try simp (disch := omega) only [wrap_of]); omega), by first | exact trivial | simp [SV.ok]⟩, ?_⟩)
   ·exact trivial
   ·try dsimp only
    exact ⟨by rw [← hd]; conv => rhs; unfold dgs; rw [if_neg (by omega : ¬ q = 0)], by rw [Nat.pow_succ] at hq; omega, by rw [ByteArray.size_append, sz1]; omega, by omega⟩
   try dsimp only
   omega
  ·simp at q1
   obtain rfl : q = 0 := by omega
   have hd0 : o = dgs 20 k.toNat .empty := by rw [← hd]; cases f <;> simp [dgs]
   refine VC.intro ?_ ?_
   ·(have e1 : (⟨#[109]⟩ : ByteArray).size = 1 := rfl; have : IntKind.i64.max = 9223372036854775807 := rfl; omega)
   exact ⟨[], ⟨by unfold mtx; rw [if_neg (by omega), hd0], rfl⟩, .mem (by simp)⟩
theorem markIntS_ct (b : Option Addr) (m c : Nat) (xs : List Int) (A : Hp) (k0 : Int) (ho : (gSl 3 gI).ow [.slice b m c] xs A) (h0 : 0 ≤ k0) (h1 : k0 + cntL gI xs ≤ 4611686018427387904) :
  CtR prog 21 [.slice b m c, .int .i64 k0] A (fun _ => True) (fun v A => v = .int .i64 (k0 + cntL gI xs) ∧ (gSl 3 gI).ow [.slice b m c] (mkL gI k0 xs) A) := by
 obtain ⟨rfl, hcl, hl⟩ := sl_len (Gt.owrd _ ho)
 refine CtR.intro G_ok [A] func21 rfl rfl rfl (by simp) fun E H hp => ?_
 apply loop_mod (α := (Nat) × (Hp)) G_ok [6, 7, 8, 9, 12, 13, 14, 15, 16, 17, 1, 10, 11, 5] (fun z => [(5, .v (.int .i64 z.1)), (1, .v (.int .i64 (k0 + cntL gI (xs.take z.1))))]) (fun z => []) (fun z => [z.2, H]) (fun z => xs.length - z.1) (fun z => z.1 ≤ xs.length ∧ (gSl 3 gI).ow [.slice b xs.length c] (mkL gI k0 (xs.take z.1) ++ xs.drop z.1) z.2) ((0, A))
 ·repeat' (first | exact trivial | refine ⟨⟨_, rfl, by first | rfl | exact inc_eq _ (by omega) | (refine sl_eq ?_; simp; done) | (refine svi_eq ?_; subst_vars; (try dsimp only); (try simp (disch := omega) only [wrap_of]); omega) | (simp [cntL]), by first | exact trivial | simp [SV.ok]⟩, ?_⟩)
 ·exact trivial
 ·try dsimp only
  exact ⟨by omega, by simpa [mkL] using ho⟩
 ·exact .refl _
 rintro ⟨k, B⟩ hI
 try dsimp only at hI
 obtain ⟨hk, oB⟩ := hI
 try dsimp only
 refine ⟨fun q0 => ?_, fun q0 => ?_⟩
 ·simp at q0
  have hs : cntL gI (xs.take (k + 1)) = cntL gI (xs.take k) + 1 := (cntL_step gI xs k 0 (by omega))
  have hs2 := cntL_take_le gI xs (k + 1)
  refine idx_rd (Gt.owrd _ oB) ?_ ?_ fun b1 o1 hb1 => ?_
  ·omega
  ·(rw [mk_len _ _ _ _ (by omega)]; omega)
  refine gstoreN (Fld.id _) 0 (k) 0 rfl rfl oB ?_ ?_ hb1 rfl gI_pl _ (gI_ow ?_) fun A2 o2 => ?_
  ·omega
  ·(rw [mk_len _ _ _ _ (by omega)]; omega)
  ·unfold okI; omega
  apply loop_stepA (k + 1, _)
  ·exact .refl _
  ·repeat' (first | exact trivial | refine ⟨⟨_, rfl, by first | rfl | exact inc_eq _ (by omega) | (refine sl_eq ?_; simp; done) | (refine svi_eq ?_; subst_vars; (try dsimp only); (try simp (disch := omega) only [wrap_of]); omega) | (simp [cntL]), by first | exact trivial | simp [SV.ok]⟩, ?_⟩)
  ·exact trivial
  ·try dsimp only
   exact ⟨by omega, by rw [← mk_step gI 0 xs k0 k (by omega)] ; assumption⟩
  try dsimp only
  omega
 ·simp at q0
  obtain rfl : k = xs.length := by omega
  rw [List.take_length, List.drop_length, List.append_nil] at oB
  exact ⟨_, ⟨by rw [List.take_length], oB⟩, rlA⟩
theorem heldIntS_ct (b : Option Addr) (m c : Nat) (xs : List Int) (k0 k1 : Int) (hk1 : k0 = k1) (h0 : 0 ≤ k0) (h1 : k0 + cntL gI xs ≤ 4611686018427387904) :
  Ct prog 100 [.slice b m c, .int .i64 k0] [] (fun H => (gSl 3 gI).rd H [.slice b m c] (mkL gI k1 xs)) (fun v A => v = .int .i64 (k0 + cntL gI xs) ∧ A = []) := by
 subst hk1
 refine Ct.intro0 G_ok func100 rfl rfl rfl fun E H hp => ?_
 have hm0 := (sl_len hp).1
 rw [mkL_len] at hm0; subst hm0
 obtain ⟨-, hcl, hl⟩ := sl_len hp
 rw [mkL_len] at hcl hl
 have hln := mkL_len gI xs k0
 apply loop_mod (α := (Nat)) G_ok [6, 7, 8, 9, 12, 13, 14, 15, 16, 17, 4, 18, 19, 1, 10, 11, 5] (fun z => [(5, .v (.int .i64 z)), (1, .v (.int .i64 (k0 + cntL gI (xs.take z))))]) (fun z => []) (fun z => [H]) (fun z => xs.length - z) (fun z => z ≤ xs.length) (0)
 ·repeat' (first | exact trivial | refine ⟨⟨_, rfl, by first | rfl | exact inc_eq _ (by omega) | (refine sl_eq ?_; simp; done) | (refine svi_eq ?_; (try dsimp only); (try simp (disch := omega) only [wrap_of]); omega) | (simp [cntL]), by first | exact trivial | simp [SV.ok]⟩, ?_⟩)
 ·exact trivial
 ·omega
 ·exact .refl _
 rintro k hI
 obtain hk : k ≤ xs.length := hI
 try dsimp only
 refine ⟨fun q0 => ?_, fun q0 => ?_⟩
 ·simp at q0
  have hs : cntL gI (xs.take (k + 1)) = cntL gI (xs.take k) + 1 := (cntL_step gI xs k 0 (by omega))
  have hs2 := cntL_take_le gI xs (k + 1)
  have hm : (mkL gI k0 xs)[k]?.getD 0 = k0 + cntL gI (xs.take k) := mkL_get gI 0 xs k0 k (by omega)
  refine idx_rd hp ?_ ?_ fun b1 o1 hb1 => ?_
  ·omega
  ·omega
  refine load_allN 0 (k) rfl hp ?_ ?_ hb1 rfl (mem_at 0 rfl) fun l2 hl2 => ?_
  ·omega
  ·omega
  rw [hm] at hl2
  obtain ⟨rfl, hw2⟩ := hl2; simp only [flStr, flInt, okI] at hw2
  refine ⟨fun q3 => ?_, fun q3 => ?_⟩
  ·simp at q3
  ·simp at q3
   apply loop_stepA (k + 1)
   ·exact .refl _
   ·repeat' (first | exact trivial | refine ⟨⟨_, rfl, by first | rfl | exact inc_eq _ (by omega) | (refine sl_eq ?_; simp; done) | (refine svi_eq ?_; (try dsimp only); (try simp (disch := omega) only [wrap_of]); omega) | (simp [cntL]), by first | exact trivial | simp [SV.ok]⟩, ?_⟩)
   ·exact trivial
   ·trivial
   omega
 ·simp at q0
  obtain rfl : k = xs.length := by omega
  exact ⟨[], ⟨by rw [List.take_length], rfl⟩, .mem (by simp)⟩
theorem markStringS_ct (b : Option Addr) (m c : Nat) (xs : List ByteArray) (A : Hp) (k0 : Int) (ho : (gSl 9 gS).ow [.slice b m c] xs A) (h0 : 0 ≤ k0) (h1 : k0 + cntL gS xs ≤ 4611686018427387904) :
  CtR prog 85 [.slice b m c, .int .i64 k0] A (fun _ => True) (fun v A => v = .int .i64 (k0 + cntL gS xs) ∧ (gSl 9 gS).ow [.slice b m c] (mkL gS k0 xs) A) := by
 obtain ⟨rfl, hcl, hl⟩ := sl_len (Gt.owrd _ ho)
 refine CtR.intro G_ok [A] func85 rfl rfl rfl (by simp) fun E H hp => ?_
 apply loop_mod (α := (Nat) × (Hp)) G_ok [6, 7, 8, 9, 12, 13, 14, 15, 16, 17, 18, 1, 10, 11, 5] (fun z => [(5, .v (.int .i64 z.1)), (1, .v (.int .i64 (k0 + cntL gS (xs.take z.1))))]) (fun z => []) (fun z => [z.2, H]) (fun z => xs.length - z.1) (fun z => z.1 ≤ xs.length ∧ (gSl 9 gS).ow [.slice b xs.length c] (mkL gS k0 (xs.take z.1) ++ xs.drop z.1) z.2) ((0, A))
 ·repeat' (first | exact trivial | refine ⟨⟨_, rfl, by first | rfl | exact inc_eq _ (by omega) | (refine sl_eq ?_; simp; done) | (refine svi_eq ?_; subst_vars; (try dsimp only); (try simp (disch := omega) only [wrap_of]); omega) | (simp [cntL]), by first | exact trivial | simp [SV.ok]⟩, ?_⟩)
 ·exact trivial
 ·try dsimp only
  exact ⟨by omega, by simpa [mkL] using ho⟩
 ·exact .refl _
 rintro ⟨k, B⟩ hI
 try dsimp only at hI
 obtain ⟨hk, oB⟩ := hI
 try dsimp only
 refine ⟨fun q0 => ?_, fun q0 => ?_⟩
 ·simp at q0
  have hs : cntL gS (xs.take (k + 1)) = cntL gS (xs.take k) + 1 := (cntL_step gS xs k ByteArray.empty (by omega))
  have hs2 := cntL_take_le gS xs (k + 1)
  refine call_val (markText_ct _ ?_) trivial ?_
  ·omega
  rintro _ rfl
  refine idx_rd (Gt.owrd _ oB) ?_ ?_ fun b2 o2 hb2 => ?_
  ·omega
  ·(rw [mk_len _ _ _ _ (by omega)]; omega)
  refine gstoreN (Fld.id _) ByteArray.empty (k) 0 rfl rfl oB ?_ ?_ hb2 rfl fl_pl _ (gS_ow ?_) fun A3 o3 => ?_
  ·omega
  ·(rw [mk_len _ _ _ _ (by omega)]; omega)
  ·exact mtx_size _
  apply loop_stepA (k + 1, _)
  ·exact .refl _
  ·repeat' (first | exact trivial | refine ⟨⟨_, rfl, by first | rfl | exact inc_eq _ (by omega) | (refine sl_eq ?_; simp; done) | (refine svi_eq ?_; subst_vars; (try dsimp only); (try simp (disch := omega) only [wrap_of]); omega) | (simp [cntL]), by first | exact trivial | simp [SV.ok]⟩, ?_⟩)
  ·exact trivial
  ·try dsimp only
   exact ⟨by omega, by rw [← mk_step gS ByteArray.empty xs k0 k (by omega)] ; assumption⟩
  try dsimp only
  omega
 ·simp at q0
  obtain rfl : k = xs.length := by omega
  rw [List.take_length, List.drop_length, List.append_nil] at oB
  exact ⟨_, ⟨by rw [List.take_length], oB⟩, rlA⟩
theorem markItemS_ct (b : Option Addr) (m c : Nat) (xs : List Item) (A : Hp) (k0 : Int) (ho : (gSl 218 gItem).ow [.slice b m c] xs A) (h0 : 0 ≤ k0) (h1 : k0 + cntL gItem xs ≤ 4611686018427387904) :
  CtR prog 88 [.slice b m c, .int .i64 k0] A (fun _ => True) (fun v A => v = .int .i64 (k0 + cntL gItem xs) ∧ (gSl 218 gItem).ow [.slice b m c] (mkL gItem k0 xs) A) := by
 obtain ⟨rfl, hcl, hl⟩ := sl_len (Gt.owrd _ ho)
 refine CtR.intro G_ok [A] func88 rfl rfl rfl (by simp) fun E H hp => ?_
 apply loop_mod (α := (Nat) × (Hp)) G_ok [6, 7, 8, 9, 12, 13, 14, 15, 16, 17, 18, 1, 19, 20, 21, 22, 23, 24, 25, 10, 11, 5] (fun z => [(5, .v (.int .i64 z.1)), (1, .v (.int .i64 (k0 + cntL gItem (xs.take z.1))))]) (fun z => []) (fun z => [z.2, H]) (fun z => xs.length - z.1) (fun z => z.1 ≤ xs.length ∧ (gSl 218 gItem).ow [.slice b xs.length c] (mkL gItem k0 (xs.take z.1) ++ xs.drop z.1) z.2) ((0, A))
 ·repeat' (first | exact trivial | refine ⟨⟨_, rfl, by first | rfl | exact inc_eq _ (by omega) | (refine sl_eq ?_; simp; done) | (refine svi_eq ?_; subst_vars; (try dsimp only); (try simp (disch := omega) only [wrap_of]); omega) | (simp [cntL]), by first | exact trivial | simp [SV.ok]⟩, ?_⟩)
 ·exact trivial
 ·try dsimp only
  exact ⟨by omega, by simpa [mkL] using ho⟩
 ·exact .refl _
 rintro ⟨k, B⟩ hI
 try dsimp only at hI
 obtain ⟨hk, oB⟩ := hI
 try dsimp only
 refine ⟨fun q0 => ?_, fun q0 => ?_⟩
 ·simp at q0
  have hs := (cntL_step gItem xs k default (by omega))
  simp only [gItem_cnt] at hs
  have hs2 := cntL_take_le gItem xs (k + 1)
  obtain ⟨y, ey, oe⟩ := OwE.mk default k oB (by rw [mk_len _ _ _ _ (by omega)]; omega)
  rw [mk_get _ _ _ _ _ (by omega)] at ey
  clear oB
  refine oe_idx oe ?_ fun b1 o1 hb1 => ?_
  ·rfl
  refine oe_load gItem_row oe rfl hb1 rfl (mem_at 0 rfl) fun l2 hl2 hf2 => ?_
  obtain ⟨u2, w2, rfl, hl2⟩ := sl_rd hl2
  refine call_foc 0 rfl hf2 (fun Af3 oa3 => markIntS_ct _ _ _ _ _ _ oa3 ?_ ?_) (fun _ _ => trivial) ?_
  ·omega
  ·simp_all; omega
  rintro _ A3 rfl ⟨y3, ey3, o3⟩
  try dsimp only at ey3
  refine oe_idx o3 ?_ fun b4 o4 hb4 => ?_
  ·rfl
  refine oe_store gItem_times 0 rfl o3 rfl hb4 rfl gI_pl _ (gI_ow ?_) fun y5 A5 ey5 o5 => ?_
  ·(subst_vars; unfold okI; (try dsimp only at *); omega)
  apply loop_stepA (k + 1, _)
  ·exact .refl _
  ·repeat' (first | exact trivial | refine ⟨⟨_, rfl, by first | rfl | exact inc_eq _ (by omega) | (refine sl_eq ?_; simp; done) | (refine svi_eq ?_; subst_vars; (try dsimp only); (try simp (disch := omega) only [wrap_of]); omega) | (simp [cntL]), by first | exact trivial | simp [SV.ok]⟩, ?_⟩)
  ·exact trivial
  ·try dsimp only
   exact ⟨by omega, OwE.done (by assumption) (by rw [← mk_step gItem default xs k0 k (by omega)]; congr 1; subst_vars; (try simp only [gItem_mark, gItem_cnt]); (try simp (disch := omega) only [wrap_of]); (try rfl))⟩
  try dsimp only
  omega
 ·simp at q0
  obtain rfl : k = xs.length := by omega
  rw [List.take_length, List.drop_length, List.append_nil] at oB
  exact ⟨_, ⟨by rw [List.take_length], oB⟩, rlA⟩
theorem heldItemS_ct (b : Option Addr) (m c : Nat) (xs : List Item) (k0 k1 : Int) (hk1 : k0 = k1) (h0 : 0 ≤ k0) (h1 : k0 + cntL gItem xs ≤ 4611686018427387904) :
  Ct prog 89 [.slice b m c, .int .i64 k0] [] (fun H => (gSl 218 gItem).rd H [.slice b m c] (mkL gItem k1 xs)) (fun v A => v = .int .i64 (k0 + cntL gItem xs) ∧ A = []) := by
 subst hk1
 refine Ct.intro0 G_ok func89 rfl rfl rfl fun E H hp => ?_
 have hm0 := (sl_len hp).1
 rw [mkL_len] at hm0; subst hm0
 obtain ⟨-, hcl, hl⟩ := sl_len hp
 rw [mkL_len] at hcl hl
 have hln := mkL_len gItem xs k0
 apply loop_mod (α := (Nat)) G_ok [6, 7, 8, 9, 12, 13, 14, 15, 16, 17, 18, 1, 19, 20, 4, 21, 22, 23, 24, 25, 26, 27, 28, 29, 10, 11, 5] (fun z => [(5, .v (.int .i64 z)), (1, .v (.int .i64 (k0 + cntL gItem (xs.take z))))]) (fun z => []) (fun z => [H]) (fun z => xs.length - z) (fun z => z ≤ xs.length) (0)
 ·repeat' (first | exact trivial | refine ⟨⟨_, rfl, by first | rfl | exact inc_eq _ (by omega) | (refine sl_eq ?_; simp; done) | (refine svi_eq ?_; (try dsimp only); (try simp (disch := omega) only [wrap_of]); omega) | (simp [cntL]), by first | exact trivial | simp [SV.ok]⟩, ?_⟩)
 ·exact trivial
 ·omega
 ·exact .refl _
 rintro k hI
 obtain hk : k ≤ xs.length := hI
 try dsimp only
 refine ⟨fun q0 => ?_, fun q0 => ?_⟩
 ·simp at q0
  have hs := (cntL_step gItem xs k default (by omega))
  simp only [gItem_cnt] at hs
  have hs2 := cntL_take_le gItem xs (k + 1)
  have hm := mkL_get gItem default xs k0 k (by omega)
  simp only [gItem_mark, gItem_cnt] at hm
  refine idx_rd hp ?_ ?_ fun b1 o1 hb1 => ?_
  ·omega
  ·omega
  refine load_partN default (k) 0 rfl hp ?_ ?_ hb1 rfl (by decide) (mem_at 0 rfl) fun l2 hl2 => ?_
  ·omega
  ·omega
  rw [hm] at hl2
  obtain ⟨b0x2, c0x2, rfl, h0x2, w1x2⟩ := gItem_rd.1 hl2
  refine call_val (heldIntS_ct _ _ _ _ _ _ ?_ ?_ ?_) (Rp.mono _ (mem_at 0 rfl) h0x2) ?_
  ·rfl
  ·omega
  ·omega
  rintro _ rfl
  refine ⟨fun q4 => ?_, fun q4 => ?_⟩
  ·simp at q4
   exfalso; omega
  ·simp at q4
   refine idx_rd hp ?_ ?_ fun b5 o5 hb5 => ?_
   ·omega
   ·omega
   refine load_partN default (k) 1 rfl hp ?_ ?_ hb5 rfl (by decide) (mem_at 0 rfl) fun l6 hl6 => ?_
   ·omega
   ·omega
   rw [hm] at hl6
   obtain ⟨b0x6, c0x6, rfl, h0x6, w1x6⟩ := gItem_rd.1 hl6
   refine ⟨fun q7 => ?_, fun q7 => ?_⟩
   ·simp at q7
   ·simp at q7
    apply loop_stepA (k + 1)
    ·exact .refl _
    ·repeat' (first | exact trivial | refine ⟨⟨_, rfl, by first | rfl | exact inc_eq _ (by omega) | (refine sl_eq ?_; simp; done) | (refine svi_eq ?_; (try dsimp only); (try simp (disch := omega) only [wrap_of]); omega) | (simp [cntL]), by first | exact trivial | simp [SV.ok]⟩, ?_⟩)
    ·exact trivial
    ·trivial
    omega
 ·simp at q0
  obtain rfl : k = xs.length := by omega
  exact ⟨[], ⟨by rw [List.take_length], rfl⟩, .mem (by simp)⟩
theorem markBag_ct (l : List Value) (x : Bag) (A : Hp) (k0 : Int) (ho : gBag.ow l x A) (h0 : 0 ≤ k0) (h1 : k0 + gBag.cntV x ≤ 4611686018427387904) :
  CtR prog 23 [.agg ⟨l⟩, .int .i64 k0] A (fun _ => True) (fun v A => v = .int .i64 (k0 + gBag.cntV x) ∧ gBag.ow l (gBag.markV k0 x) A) := by
 obtain ⟨b0, c0, A0, rfl, hpm, h0⟩ := gBag_ow.1 ho
 have hz := gBag_cntV x
 refine CtR.introP G_ok [A0] func23 rfl rfl rfl (hpm.trans (by simp)) fun E H hp => ?_
 refine ⟨fun x0 => ?_⟩
 refine callR_at 0 rfl (markItemS_ct _ _ _ _ _ _ h0 ?_ ?_) trivial ?_
 ·trivial
 ·trivial
 rintro _ A1 ⟨rfl, o1⟩
 exact ⟨_, ⟨by rw [hz]; (try simp); (try omega), by rw [gBag_markV]; exact gBag_ow.2 ⟨_, _, _, by simp only [mkL_len]; rfl, .refl _, by rw [mkL_len]; assumption⟩⟩, rlA⟩
theorem heldBag_ct (l : List Value) (x : Bag) (k0 k1 : Int) (hk1 : k0 = k1) (h0 : 0 ≤ k0) (h1 : k0 + gBag.cntV x ≤ 4611686018427387904) :
  Ct prog 24 [.agg ⟨l⟩, .int .i64 k0] [] (fun H => gBag.rd H l (gBag.markV k1 x)) (fun v A => v = .int .i64 (k0 + gBag.cntV x) ∧ A = []) := by
 subst hk1
 refine Ct.intro0 G_ok func24 rfl rfl rfl fun E H hp => ?_
 rw [gBag_markV] at hp
 obtain ⟨b0, c0, rfl, h0⟩ := gBag_rd.1 hp
 have hz := gBag_cntV x
 refine ⟨fun x0 => ?_⟩
 refine call_val (heldItemS_ct _ _ _ _ _ _ ?_ ?_ ?_) (Rp.mono _ (mem_at 0 rfl) h0) ?_
 ·rfl
 ·trivial
 ·trivial
 rintro _ rfl
 refine ⟨fun q2 => ?_, fun q2 => ?_⟩
 ·simp at q2
  exfalso; omega
 ·simp at q2
  try dsimp only
  exact ⟨[], ⟨by rw [hz]; (try simp); (try omega), rfl⟩, .mem (by simp)⟩
theorem markAtomS_ct (b : Option Addr) (m c : Nat) (xs : List Atom) (A : Hp) (k0 : Int) (ho : (gSl 118 gAtom).ow [.slice b m c] xs A) (h0 : 0 ≤ k0) (h1 : k0 + cntL gAtom xs ≤ 4611686018427387904) :
  CtR prog 86 [.slice b m c, .int .i64 k0] A (fun _ => True) (fun v A => v = .int .i64 (k0 + cntL gAtom xs) ∧ (gSl 118 gAtom).ow [.slice b m c] (mkL gAtom k0 xs) A) := by
 obtain ⟨rfl, hcl, hl⟩ := sl_len (Gt.owrd _ ho)
 refine CtR.intro G_ok [A] func86 rfl rfl rfl (by simp) fun E H hp => ?_
 apply loop_mod (α := (Nat) × (Hp)) G_ok [6, 7, 8, 9, 12, 13, 14, 15, 16, 17, 18, 19, 1, 20, 21, 22, 23, 24, 25, 26, 27, 28, 29, 30, 31, 32, 33, 34, 35, 10, 11, 5] (fun z => [(5, .v (.int .i64 z.1)), (1, .v (.int .i64 (k0 + cntL gAtom (xs.take z.1))))]) (fun z => []) (fun z => [z.2, H]) (fun z => xs.length - z.1) (fun z => z.1 ≤ xs.length ∧ (gSl 118 gAtom).ow [.slice b xs.length c] (mkL gAtom k0 (xs.take z.1) ++ xs.drop z.1) z.2) ((0, A))
 ·repeat' (first | exact trivial | refine ⟨⟨_, rfl, by first | rfl | exact inc_eq _ (by omega) | (refine sl_eq ?_; simp; done) | (refine svi_eq ?_; subst_vars; (try dsimp only); (try simp (disch := omega) only [wrap_of]); omega) | (simp [cntL]), by first | exact trivial | simp [SV.ok]⟩, ?_⟩)
 ·exact trivial
 ·try dsimp only
  exact ⟨by omega, by simpa [mkL] using ho⟩
 ·exact .refl _
 rintro ⟨k, B⟩ hI
 try dsimp only at hI
 obtain ⟨hk, oB⟩ := hI
 try dsimp only
 refine ⟨fun q0 => ?_, fun q0 => ?_⟩
 ·simp at q0
  have hs := (cntL_step gAtom xs k default (by omega))
  simp only [gAtom_cnt] at hs
  have hs2 := cntL_take_le gAtom xs (k + 1)
  obtain ⟨y, ey, oe⟩ := OwE.mk default k oB (by rw [mk_len _ _ _ _ (by omega)]; omega)
  rw [mk_get _ _ _ _ _ (by omega)] at ey
  clear oB
  refine call_val (markText_ct _ ?_) trivial ?_
  ·omega
  rintro _ rfl
  refine oe_idx oe ?_ fun b2 o2 hb2 => ?_
  ·rfl
  refine oe_store gAtom_from 0 rfl oe rfl hb2 rfl fl_pl _ (gS_ow ?_) fun y3 A3 ey3 o3 => ?_
  ·exact mtx_size _
  refine call_val (markText_ct _ ?_) trivial ?_
  ·(simp (disch := omega) only [wrap_of]; omega)
  rintro _ rfl
  refine oe_idx o3 ?_ fun b5 o5 hb5 => ?_
  ·rfl
  refine oe_store gAtom_path 0 rfl o3 rfl hb5 rfl fl_pl _ (gS_ow ?_) fun y6 A6 ey6 o6 => ?_
  ·exact mtx_size _
  refine call_val (markText_ct _ ?_) trivial ?_
  ·(simp (disch := omega) only [wrap_of]; omega)
  rintro _ rfl
  refine oe_idx o6 ?_ fun b8 o8 hb8 => ?_
  ·rfl
  refine oe_store gAtom_to 0 rfl o6 rfl hb8 rfl fl_pl _ (gS_ow ?_) fun y9 A9 ey9 o9 => ?_
  ·exact mtx_size _
  apply loop_stepA (k + 1, _)
  ·exact .refl _
  ·repeat' (first | exact trivial | refine ⟨⟨_, rfl, by first | rfl | exact inc_eq _ (by omega) | (refine sl_eq ?_; simp; done) | (refine svi_eq ?_; subst_vars; (try dsimp only); (try simp (disch := omega) only [wrap_of]); omega) | (simp [cntL]), by first | exact trivial | simp [SV.ok]⟩, ?_⟩)
  ·exact trivial
  ·try dsimp only
   exact ⟨by omega, OwE.done (by assumption) (by rw [← mk_step gAtom default xs k0 k (by omega)]; congr 1; subst_vars; (try simp only [gAtom_mark, gAtom_cnt]); (try simp (disch := omega) only [wrap_of]); (try rfl))⟩
  try dsimp only
  omega
 ·simp at q0
  obtain rfl : k = xs.length := by omega
  rw [List.take_length, List.drop_length, List.append_nil] at oB
  exact ⟨_, ⟨by rw [List.take_length], oB⟩, rlA⟩
theorem markFilterS_ct (b : Option Addr) (m c : Nat) (xs : List Filter) (A : Hp) (k0 : Int) (ho : (gSl 220 gFilter).ow [.slice b m c] xs A) (h0 : 0 ≤ k0) (h1 : k0 + cntL gFilter xs ≤ 4611686018427387904) :
  CtR prog 87 [.slice b m c, .int .i64 k0] A (fun _ => True) (fun v A => v = .int .i64 (k0 + cntL gFilter xs) ∧ (gSl 220 gFilter).ow [.slice b m c] (mkL gFilter k0 xs) A) := by
 obtain ⟨rfl, hcl, hl⟩ := sl_len (Gt.owrd _ ho)
 refine CtR.intro G_ok [A] func87 rfl rfl rfl (by simp) fun E H hp => ?_
 apply loop_mod (α := (Nat) × (Hp)) G_ok [6, 7, 8, 9, 12, 13, 14, 15, 16, 17, 18, 19, 1, 20, 21, 22, 23, 24, 25, 26, 27, 28, 29, 30, 31, 32, 33, 34, 35, 36, 37, 38, 39, 40, 41, 10, 11, 5] (fun z => [(5, .v (.int .i64 z.1)), (1, .v (.int .i64 (k0 + cntL gFilter (xs.take z.1))))]) (fun z => []) (fun z => [z.2, H]) (fun z => xs.length - z.1) (fun z => z.1 ≤ xs.length ∧ (gSl 220 gFilter).ow [.slice b xs.length c] (mkL gFilter k0 (xs.take z.1) ++ xs.drop z.1) z.2) ((0, A))
 ·repeat' (first | exact trivial | refine ⟨⟨_, rfl, by first | rfl | exact inc_eq _ (by omega) | (refine sl_eq ?_; simp; done) | (refine svi_eq ?_; subst_vars; (try dsimp only); (try simp (disch := omega) only [wrap_of]); omega) | (simp [cntL]), by first | exact trivial | simp [SV.ok]⟩, ?_⟩)
 ·exact trivial
 ·try dsimp only
  exact ⟨by omega, by simpa [mkL] using ho⟩
 ·exact .refl _
 rintro ⟨k, B⟩ hI
 try dsimp only at hI
 obtain ⟨hk, oB⟩ := hI
 try dsimp only
 refine ⟨fun q0 => ?_, fun q0 => ?_⟩
 ·simp at q0
  have hs := (cntL_step gFilter xs k default (by omega))
  simp only [gFilter_cnt] at hs
  have hs2 := cntL_take_le gFilter xs (k + 1)
  obtain ⟨y, ey, oe⟩ := OwE.mk default k oB (by rw [mk_len _ _ _ _ (by omega)]; omega)
  rw [mk_get _ _ _ _ _ (by omega)] at ey
  clear oB
  refine call_val (markText_ct _ ?_) trivial ?_
  ·omega
  rintro _ rfl
  refine oe_idx oe ?_ fun b2 o2 hb2 => ?_
  ·rfl
  refine oe_store gFilter_left 0 rfl oe rfl hb2 rfl fl_pl _ (gS_ow ?_) fun y3 A3 ey3 o3 => ?_
  ·exact mtx_size _
  refine oe_idx o3 ?_ fun b4 o4 hb4 => ?_
  ·rfl
  refine oe_store gFilter_op 0 rfl o3 rfl hb4 rfl gI_pl _ (gI_ow ?_) fun y5 A5 ey5 o5 => ?_
  ·exact okI_wrap _
  refine call_val (markText_ct _ ?_) trivial ?_
  ·(simp (disch := omega) only [wrap_of]; omega)
  rintro _ rfl
  refine oe_idx o5 ?_ fun b7 o7 hb7 => ?_
  ·rfl
  refine oe_store gFilter_right 0 rfl o5 rfl hb7 rfl fl_pl _ (gS_ow ?_) fun y8 A8 ey8 o8 => ?_
  ·exact mtx_size _
  refine oe_idx o8 ?_ fun b9 o9 hb9 => ?_
  ·rfl
  refine oe_store gFilter_num 0 rfl o8 rfl hb9 rfl gI_pl _ (gI_ow ?_) fun y10 A10 ey10 o10 => ?_
  ·exact okI_wrap _
  apply loop_stepA (k + 1, _)
  ·exact .refl _
  ·repeat' (first | exact trivial | refine ⟨⟨_, rfl, by first | rfl | exact inc_eq _ (by omega) | (refine sl_eq ?_; simp; done) | (refine svi_eq ?_; subst_vars; (try dsimp only); (try simp (disch := omega) only [wrap_of]); omega) | (simp [cntL]), by first | exact trivial | simp [SV.ok]⟩, ?_⟩)
  ·exact trivial
  ·try dsimp only
   exact ⟨by omega, OwE.done (by assumption) (by rw [← mk_step gFilter default xs k0 k (by omega)]; congr 1; subst_vars; (try simp only [gFilter_mark, gFilter_cnt]); (try simp (disch := omega) only [wrap_of]); (try rfl))⟩
  try dsimp only
  omega
 ·simp at q0
  obtain rfl : k = xs.length := by omega
  rw [List.take_length, List.drop_length, List.append_nil] at oB
  exact ⟨_, ⟨by rw [List.take_length], oB⟩, rlA⟩
theorem markQuery_ct (l : List Value) (x : Query) (A : Hp) (k0 : Int) (ho : gQuery.ow l x A) (h0 : 0 ≤ k0) (h1 : k0 + gQuery.cntV x ≤ 4611686018427387904) :
  CtR prog 20 [.agg ⟨l⟩, .int .i64 k0] A (fun _ => True) (fun v A => v = .int .i64 (k0 + gQuery.cntV x) ∧ gQuery.ow l (gQuery.markV k0 x) A) := by
 obtain ⟨b1, c1, A1, b2, c2, A2, b3, c3, A3, rfl, hpm, h1, h2, h3⟩ := gQuery_ow.1 ho
 have hz := gQuery_cntV x
 refine CtR.introP G_ok [A1, A2, A3] func20 rfl rfl rfl (hpm.trans (by simp)) fun E H hp => ?_
 refine ⟨fun x0 => ?_⟩
 refine callR_at 0 rfl (markStringS_ct _ _ _ _ _ _ h1 ?_ ?_) trivial ?_
 ·trivial
 ·omega
 rintro _ A1 ⟨rfl, o1⟩
 refine callR_at 1 rfl (markAtomS_ct _ _ _ _ _ _ h2 ?_ ?_) trivial ?_
 ·omega
 ·omega
 rintro _ A2 ⟨rfl, o2⟩
 refine callR_at 2 rfl (markFilterS_ct _ _ _ _ _ _ h3 ?_ ?_) trivial ?_
 ·omega
 ·omega
 rintro _ A3 ⟨rfl, o3⟩
 exact ⟨_, ⟨by rw [hz]; (try simp); (try omega), by rw [gQuery_markV]; exact gQuery_ow.2 ⟨_, _, _, _, _, _, _, _, _, by simp only [mkL_len]; rfl, .refl _, by rw [mkL_len]; assumption, by rw [mkL_len]; assumption, by rw [mkL_len]; assumption⟩⟩, rlA⟩
theorem markGotS_ct (b : Option Addr) (m c : Nat) (xs : List Got) (A : Hp) (k0 : Int) (ho : (gSl 188 gGot).ow [.slice b m c] xs A) (h0 : 0 ≤ k0) (h1 : k0 + cntL gGot xs ≤ 4611686018427387904) :
  CtR prog 135 [.slice b m c, .int .i64 k0] A (fun _ => True) (fun v A => v = .int .i64 (k0 + cntL gGot xs) ∧ (gSl 188 gGot).ow [.slice b m c] (mkL gGot k0 xs) A) := by
 obtain ⟨rfl, hcl, hl⟩ := sl_len (Gt.owrd _ ho)
 refine CtR.intro G_ok [A] func135 rfl rfl rfl (by simp) fun E H hp => ?_
 apply loop_mod (α := (Nat) × (Hp)) G_ok [6, 7, 8, 9, 12, 13, 14, 15, 16, 17, 18, 1, 19, 20, 21, 22, 23, 24, 25, 26, 27, 28, 29, 30, 31, 32, 33, 10, 11, 5] (fun z => [(5, .v (.int .i64 z.1)), (1, .v (.int .i64 (k0 + cntL gGot (xs.take z.1))))]) (fun z => []) (fun z => [z.2, H]) (fun z => xs.length - z.1) (fun z => z.1 ≤ xs.length ∧ (gSl 188 gGot).ow [.slice b xs.length c] (mkL gGot k0 (xs.take z.1) ++ xs.drop z.1) z.2) ((0, A))
 ·repeat' (first | exact trivial | refine ⟨⟨_, rfl, by first | rfl | exact inc_eq _ (by omega) | (refine sl_eq ?_; simp; done) | (refine svi_eq ?_; subst_vars; (try dsimp only); (try simp (disch := omega) only [wrap_of]); omega) | (simp [cntL]), by first | exact trivial | simp [SV.ok]⟩, ?_⟩)
 ·exact trivial
 ·try dsimp only
  exact ⟨by omega, by simpa [mkL] using ho⟩
 ·exact .refl _
 rintro ⟨k, B⟩ hI
 try dsimp only at hI
 obtain ⟨hk, oB⟩ := hI
 try dsimp only
 refine ⟨fun q0 => ?_, fun q0 => ?_⟩
 ·simp at q0
  have hs := (cntL_step gGot xs k default (by omega))
  simp only [gBag_cnt, gGot_cnt] at hs
  have hs2 := cntL_take_le gGot xs (k + 1)
  obtain ⟨y, ey, oe⟩ := OwE.mk default k oB (by rw [mk_len _ _ _ _ (by omega)]; omega)
  rw [mk_get _ _ _ _ _ (by omega)] at ey
  clear oB
  refine oe_idx oe ?_ fun b1 o1 hb1 => ?_
  ·rfl
  refine oe_store gGot_from 0 rfl oe rfl hb1 rfl gI_pl _ (gI_ow ?_) fun y2 A2 ey2 o2 => ?_
  ·unfold okI; omega
  refine oe_idx o2 ?_ fun b3 o3 hb3 => ?_
  ·rfl
  refine oe_store gGot_atom 0 rfl o2 rfl hb3 rfl gI_pl _ (gI_ow ?_) fun y4 A4 ey4 o4 => ?_
  ·exact okI_wrap _
  refine oe_idx o4 ?_ fun b5 o5 hb5 => ?_
  ·rfl
  refine oe_load gGot_bag o4 rfl hb5 rfl (mem_at 0 rfl) fun l6 hl6 hf6 => ?_
  obtain ⟨b0x6, c0x6, rfl, h0x6⟩ := gBag_rd.1 hl6
  refine call_foc 0 rfl hf6 (fun Af7 oa7 => markItemS_ct _ _ _ _ _ _ oa7 ?_ ?_) (fun _ _ => trivial) ?_
  ·(simp (disch := omega) only [wrap_of]; omega)
  ·(subst_vars; (try dsimp only at *); (try simp (disch := omega) only [wrap_of] at *); omega)
  rintro _ A7 rfl ⟨y7, ey7, o7⟩
  try dsimp only at ey7
  apply loop_stepA (k + 1, _)
  ·exact .refl _
  ·repeat' (first | exact trivial | refine ⟨⟨_, rfl, by first | rfl | exact inc_eq _ (by omega) | (refine sl_eq ?_; simp; done) | (refine svi_eq ?_; subst_vars; (try dsimp only); (try simp (disch := omega) only [wrap_of]); omega) | (simp [cntL]), by first | exact trivial | simp [SV.ok]⟩, ?_⟩)
  ·exact trivial
  ·try dsimp only
   exact ⟨by omega, OwE.done (by assumption) (by rw [← mk_step gGot default xs k0 k (by omega)]; congr 1; subst_vars; (try simp only [gBag_mark, gBag_cnt, gGot_mark, gGot_cnt]); (try simp (disch := omega) only [wrap_of]); (try rfl))⟩
  try dsimp only
  omega
 ·simp at q0
  obtain rfl : k = xs.length := by omega
  rw [List.take_length, List.drop_length, List.append_nil] at oB
  exact ⟨_, ⟨by rw [List.take_length], oB⟩, rlA⟩
theorem markCell_ct (l : List Value) (x : Cell) (A : Hp) (k0 : Int) (ho : gCell.ow l x A) (h0 : 0 ≤ k0) (h1 : k0 + gCell.cntV x ≤ 4611686018427387904) :
  CtR prog 47 [.agg ⟨l⟩, .int .i64 k0] A (fun _ => True) (fun v A => v = .int .i64 (k0 + gCell.cntV x) ∧ gCell.ow l (gCell.markV k0 x) A) := by
 obtain ⟨l0, A0, b1, c1, A1, b4, c4, A4, rfl, hpm, h0, h1, w2, w3, h4⟩ := gCell_ow.1 ho
 have r0 := Gt.owrd _ h0
 obtain ⟨b1_0, c1_0, b2_0, c2_0, b3_0, c3_0, rfl, h1_0, h2_0, h3_0⟩ := gQuery_rd.1 r0
 have hz := gCell_cntV x
 refine CtR.introP G_ok [A0, A1, A4] func47 rfl rfl rfl (hpm.trans (by simp)) fun E H hp => ?_
 refine ⟨fun x0 => ?_⟩
 refine callR_at 0 rfl (markQuery_ct _ _ _ _ h0 ?_ ?_) trivial ?_
 ·trivial
 ·omega
 rintro _ A1 ⟨rfl, o1⟩
 refine callR_at 1 rfl (markIntS_ct _ _ _ _ _ _ h1 ?_ ?_) trivial ?_
 ·omega
 ·omega
 rintro _ A2 ⟨rfl, o2⟩
 refine callR_at 2 rfl (markGotS_ct _ _ _ _ _ _ h4 ?_ ?_) trivial ?_
 ·omega
 ·omega
 rintro _ A3 ⟨rfl, o3⟩
 exact ⟨_, ⟨by rw [hz]; (try simp); (try omega), by rw [gCell_markV]; exact gCell_ow.2 ⟨_, _, _, _, _, _, _, _, by simp only [mkL_len]; rfl, .refl _, by assumption, by rw [mkL_len]; assumption, by assumption, by assumption, by rw [mkL_len]; assumption⟩⟩, rlA⟩
end
section
theorem implCellTellB_ct (l : List Value) (c : Cell) (hc : gCell.sz c ≤ 1048576) :
  Ct prog 45 [.agg ⟨l⟩] [] (fun H => gCell.rd H l c) (fun v A => ∃ l, v = .tuple #[.agg ⟨l⟩, .bool (tellM c).2] ∧ gBag.ow l (tellM c).1 A) := by
 have h := implCellTell_ct l c hc
 refine ⟨h.1, fun E H w hs hp => (h.2 E H w hs hp).mono ?_⟩
 rintro e w' ⟨v, A, h1, ⟨b, c, h2, h3⟩, h4⟩
 exact ⟨v, A, h1, ⟨_, h2, gBag_ow.2 ⟨b, c, A, rfl, .refl _, h3⟩⟩, h4⟩
theorem specCellTellB_ct (l : List Value) (c : Cell) (hc : gCell.sz c ≤ 1048576) :
  Ct prog 43 [.agg ⟨l⟩] [] (fun H => gCell.rd H l c) (fun v A => ∃ l, v = .tuple #[.agg ⟨l⟩, .bool (tellM c).2] ∧ gBag.ow l (tellM c).1 A) := by
 have h := specCellTell_ct l c hc
 refine ⟨h.1, fun E H w hs hp => (h.2 E H w hs hp).mono ?_⟩
 rintro e w' ⟨v, A, h1, ⟨b, c, h2, h3⟩, h4⟩
 exact ⟨v, A, h1, ⟨_, h2, gBag_ow.2 ⟨b, c, A, rfl, .refl _, h3⟩⟩, h4⟩
theorem cell_cnt6 (x : Cell) (h : gCell.sz x ≤ 1048576) : (gCell.cntV x : Int) ≤ 1100000000 := by
 have h1 := gCell.cntV_le x
 have h2 : gCell.w ≤ 1000 := by decide
 have := Nat.mul_le_mul h2 (show 1 + gCell.sz x ≤ 1048577 by omega)
 omega
theorem bag_cnt6 (x : Bag) (h : gBag.sz x ≤ 1048576) : (gBag.cntV x : Int) ≤ 1100000000 := by
 have h1 := gBag.cntV_le x
 have h2 : gBag.w ≤ 1000 := by decide
 have := Nat.mul_le_mul h2 (show 1 + gBag.sz x ≤ 1048577 by omega)
 omega
theorem szI6 : ∀ xs : List Int, szL gI xs = xs.length
 | [] => rfl
 | x :: r => by rw [show szL gI (x :: r) = 1 + gI.sz x + szL gI r from rfl, szI6 r, show gI.sz x = 0 from rfl, List.length_cons]; omega
theorem szItems6 : ∀ xs : List Item, (∀ i, i < xs.length → (xs[i]?.getD default).row.length ≤ 4) → szL gItem xs ≤ 5 * xs.length
 | [], _ => Nat.le_refl _
 | x :: t, h => by
  have ih := szItems6 t fun i hi => h (i + 1) (by simpa using hi)
  have h0 : x.row.length ≤ 4 := h 0 (by simp)
  show 1 + gItem.sz x + szL gItem t ≤ _
  rw [gItem_sz, szI6, List.length_cons]; omega
theorem bw_small {w : Nat} {ys : List Item} (h : BW w ys) (hw : w ≤ 4) (hl : ys.length ≤ 300) : gBag.sz ⟨ys⟩ ≤ 1048576 := by
 have h3 := szItems6 ys fun i hi => by
  have h1 := (bw_items h (ys[i]?.getD default) (by rw [List.getElem?_eq_getElem hi]; exact List.getElem_mem hi)).2.2
  omega
 rw [gBag_sz]
 show szL gItem ys ≤ _
 omega
theorem nil_small : gBag.sz ⟨[]⟩ ≤ 1048576 := bw_small (bw_nil 0) (by omega) (by simp)
theorem ca_small (x : Query) (s : List Int) (c : Int) (ts : List Table) : gBag.sz (caM x s c ts).1 ≤ 1048576 := by
 by_cases h : sharesM x s = true ∧ inR 0 (cellsM s - 1) c = true ∧ fitM x ts ∧ (jk ts (ts.length - 1)).2 = true
 ·obtain ⟨h1, h2, h3, h4⟩ := h
  obtain ⟨h5, h6⟩ := all_names h1 h3 h4
  have h7 := (query_parts (shares_parts h1).1).2.1
  rw [ca_yes h1 h2 h3 h4]
  show gBag.sz (projM (hereK x s c (jk ts (ts.length - 1)).1 x.filters.length) x.out).bag ≤ _
  rw [projK_end]
  have h8 := projK_bw (hereK_ok (x := x) (s := s) (c := c) h5 x.filters.length) (out := x.out) (by show outFit (jk ts (ts.length - 1)).1.cols x.out; rw [h6]; exact h7) (hereK x s c (jk ts (ts.length - 1)).1 x.filters.length).bag.items.length
  exact bw_small h8.1 h7.1.2 h8.2
 rw [ca_no h]; exact nil_small
theorem tell_small (c : Cell) : gBag.sz (tellM c).1 ≤ 1048576 := by
 by_cases h : tellOk c
 ·rw [tell_yes h.1 h.2]; exact ca_small _ _ _ _
 unfold tellM; rw [if_neg h]; exact nil_small
attribute [local irreducible] tellM
theorem fnExactCellTell_ct (v0 : Value) :
  Ct prog 7 [v0] [] (fun H => (∃ x, rdV true gCell.toRp H v0 x)) (fun v A => v = .bool true ∧ A = []) := by
 refine Ct.intro0 G_ok func7 rfl rfl rfl fun E H hp => ?_
 obtain ⟨xa0, hp0⟩ := hp
 obtain ⟨la0, rfl, hp0⟩ := hp0
 obtain ⟨l0a0, b1a0, c1a0, b4a0, c4a0, rfl, h0a0, h1a0, w2a0, w3a0, h4a0⟩ := gCell_rd.1 hp0
 obtain ⟨b1_0a0, c1_0a0, b2_0a0, c2_0a0, b3_0a0, c3_0a0, rfl, h1_0a0, h2_0a0, h3_0a0⟩ := gQuery_rd.1 h0a0
 refine ⟨fun x0 => ?_⟩
 refine call_q (szCell_ct _ (xa0) _ ?_ ?_) (Rp.mono _ (mem_at 0 rfl) hp0) ?_
 ·trivial
 ·trivial
 rintro _ ⟨r1, rfl, hr1⟩
 refine ⟨fun q2 => ?_, fun q2 => ?_⟩
 ·simp at q2
  exact ⟨[], ⟨rfl, rfl⟩, .mem (by simp)⟩
 ·simp at q2
  refine call_new (toCell_ct _ (xa0) ?_) (Rp.mono _ (mem_at 0 rfl) hp0) ?_
  ·omega
  rintro v3 A3 o3
  obtain ⟨l3, rfl, o3⟩ := o3
  have r3 := Gt.owrd _ o3
  obtain ⟨l0x3, b1x3, c1x3, b4x3, c4x3, rfl, h0x3, h1x3, w2x3, w3x3, h4x3⟩ := gCell_rd.1 r3
  obtain ⟨b1_0x3, c1_0x3, b2_0x3, c2_0x3, b3_0x3, c3_0x3, rfl, h1_0x3, h2_0x3, h3_0x3⟩ := gQuery_rd.1 h0x3
  refine call_new (specCellTellB_ct _ (xa0) ?_) (Rp.mono _ (mem_at 0 rfl) r3) ?_
  ·omega
  rintro v4 A4 o4
  obtain ⟨l4, rfl, o4⟩ := o4
  have r4 := Gt.owrd _ o4
  obtain ⟨b0x4, c0x4, rfl, h0x4⟩ := gBag_rd.1 r4
  refine ⟨fun x5 => ?_⟩
  refine call_new (toCell_ct _ (xa0) ?_) (Rp.mono _ (mem_at 2 rfl) hp0) ?_
  ·omega
  rintro v6 A6 o6
  obtain ⟨l6, rfl, o6⟩ := o6
  have r6 := Gt.owrd _ o6
  obtain ⟨l0x6, b1x6, c1x6, b4x6, c4x6, rfl, h0x6, h1x6, w2x6, w3x6, h4x6⟩ := gCell_rd.1 r6
  obtain ⟨b1_0x6, c1_0x6, b2_0x6, c2_0x6, b3_0x6, c3_0x6, rfl, h1_0x6, h2_0x6, h3_0x6⟩ := gQuery_rd.1 h0x6
  refine ⟨fun x7 => ?_⟩
  refine call_new (implCellTellB_ct _ (xa0) ?_) (Rp.mono _ (mem_at 0 rfl) r6) ?_
  ·omega
  rintro v8 A8 o8
  obtain ⟨l8, rfl, o8⟩ := o8
  have r8 := Gt.owrd _ o8
  obtain ⟨b0x8, c0x8, rfl, h0x8⟩ := gBag_rd.1 r8
  refine ⟨fun x9 => ?_⟩
  refine call_val (eqBag_ct _ _ ((tellM xa0).fst) ((tellM xa0).fst)) ⟨(Rp.mono _ (mem_at 0 rfl) r8), (Rp.mono _ (mem_at 2 rfl) r4)⟩ ?_
  rintro _ rfl
  refine ⟨fun q11 => ?_, fun q11 => ?_⟩
  ·simp at q11
  ·simp at q11
   refine ⟨fun q12 => ?_, fun q12 => ?_⟩
   ·simp at q12
   ·simp at q12
    refine draw G_ok mixed none (.q 0 (.q 1 (.f 2 (.f 3 (.q 4 (.nil)))))) (by decide +kernel) ?_
    refine call_new (toCell_ct _ (xa0) ?_) (Rp.mono _ (mem_at 4 rfl) hp0) ?_
    ·omega
    rintro v13 A13 o13
    obtain ⟨l13, rfl, o13⟩ := o13
    have r13 := Gt.owrd _ o13
    obtain ⟨l0x13, b1x13, c1x13, b4x13, c4x13, rfl, h0x13, h1x13, w2x13, w3x13, h4x13⟩ := gCell_rd.1 r13
    obtain ⟨b1_0x13, c1_0x13, b2_0x13, c2_0x13, b3_0x13, c3_0x13, rfl, h1_0x13, h2_0x13, h3_0x13⟩ := gQuery_rd.1 h0x13
    refine VC.intro ?_ ?_
    ·exact keep_new
    refine call_val (eqCell_ct _ _ (xa0) (xa0)) ⟨(Rp.mono _ (mem_at 2 rfl) r6), (Rp.mono _ (mem_at 0 rfl) r13)⟩ ?_
    rintro _ rfl
    refine VC.intro ?_ ?_
    ·exact keep_new
    refine ⟨fun q15 => ?_, fun q15 => ?_⟩
    ·simp at q15
    ·simp at q15
     refine callR_at 2 rfl (markCell_ct _ _ _ _ o6 ?_ ?_) trivial ?_
     ·trivial
     ·(have := cell_cnt6 xa0 (by omega); omega)
     rintro _ A16 ⟨rfl, o16⟩
     refine ⟨fun q17 => ?_, fun q17 => ?_⟩
     ·simp at q17
      exfalso; omega
     ·simp at q17
      refine call_val (eqBag_ct _ _ ((tellM xa0).fst) ((tellM xa0).fst)) ⟨(Rp.mono _ (mem_at 1 rfl) r8), (Rp.mono _ (mem_at 3 rfl) r4)⟩ ?_
      rintro _ rfl
      refine ⟨fun q19 => ?_, fun q19 => ?_⟩
      ·simp at q19
      ·simp at q19
       refine ⟨fun q20 => ?_, fun q20 => ?_⟩
       ·simp at q20
       ·simp at q20
        refine callR_at 1 rfl (markBag_ct _ _ _ _ o8 ?_ ?_) trivial ?_
        ·trivial
        ·(have := bag_cnt6 _ (tell_small xa0); omega)
        rintro _ A21 ⟨rfl, o21⟩
        refine call_val (heldBag_ct _ _ _ _ ?_ ?_ ?_) (Rp.mono _ (mem_at 1 rfl) (Gt.owrd _ o21)) ?_
        ·rfl
        ·trivial
        ·(have := bag_cnt6 _ (tell_small xa0); omega)
        rintro _ rfl
        refine ⟨fun q23 => ?_, fun q23 => ?_⟩
        ·simp at q23
         exfalso; omega
        ·simp at q23
         refine ⟨fun q24 => ?_, fun q24 => ?_⟩
         ·simp at q24
         ·simp at q24
          refine call_new (toCell_ct _ (xa0) ?_) (Rp.mono _ (mem_at 5 rfl) hp0) ?_
          ·omega
          rintro v25 A25 o25
          obtain ⟨l25, rfl, o25⟩ := o25
          have r25 := Gt.owrd _ o25
          obtain ⟨l0x25, b1x25, c1x25, b4x25, c4x25, rfl, h0x25, h1x25, w2x25, w3x25, h4x25⟩ := gCell_rd.1 r25
          obtain ⟨b1_0x25, c1_0x25, b2_0x25, c2_0x25, b3_0x25, c3_0x25, rfl, h1_0x25, h2_0x25, h3_0x25⟩ := gQuery_rd.1 h0x25
          refine call_new (implCellTellB_ct _ (xa0) ?_) (Rp.mono _ (mem_at 0 rfl) r25) ?_
          ·omega
          rintro v26 A26 o26
          obtain ⟨l26, rfl, o26⟩ := o26
          have r26 := Gt.owrd _ o26
          obtain ⟨b0x26, c0x26, rfl, h0x26⟩ := gBag_rd.1 r26
          refine ⟨fun x27 => ?_⟩
          refine call_val (eqBag_ct _ _ ((tellM xa0).fst) ((tellM xa0).fst)) ⟨(Rp.mono _ (mem_at 0 rfl) r26), (Rp.mono _ (mem_at 5 rfl) r4)⟩ ?_
          rintro _ rfl
          refine ⟨fun q29 => ?_, fun q29 => ?_⟩
          ·simp at q29
          ·simp at q29
           refine ⟨fun q30 => ?_, fun q30 => ?_⟩
           ·simp at q30
           ·simp at q30
            refine call_val (heldBag_ct _ _ _ _ ?_ ?_ ?_) (Rp.mono _ (mem_at 3 rfl) (Gt.owrd _ o21)) ?_
            ·rfl
            ·trivial
            ·(have := bag_cnt6 _ (tell_small xa0); omega)
            rintro _ rfl
            refine ⟨fun q32 => ?_, fun q32 => ?_⟩
            ·simp at q32
             exfalso; omega
            ·simp at q32
             refine ⟨fun q33 => ?_, fun q33 => ?_⟩
             ·simp at q33
             ·simp at q33
              exact ⟨[], ⟨rfl, rfl⟩, .mem (by simp [setR])⟩
end
end Go.Proofs.YtjgehblllhkdbaaGreat
