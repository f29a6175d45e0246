/-
 Parts of the law, put together. Conditions: none.
-/
import Derived.Test.YtjgehblllhkdbaaGreatZt5
set_option maxHeartbeats 4000000
set_option linter.unusedSimpArgs false
set_option linter.unusedVariables false
namespace Go.Proofs.YtjgehblllhkdbaaGreat
open Go.SX Go.Proofs
open Tryz
section
attribute [local irreducible] IntKind.wrap
theorem szIt9 : ∀ xs : List Item, (∀ p ∈ xs, p.row.length ≤ 4) → szL gItem xs ≤ 5 * xs.length
 | [], _ => Nat.le_refl _
 | x :: r, h => by
  have h1 := szIt9 r fun p hp => h p (List.mem_cons_of_mem _ hp)
  have h2 := h x List.mem_cons_self
  have h3 := gItem_sz x
  have h4 := szI9 x.row
  show 1 + gItem.sz x + szL gItem r ≤ _
  rw [List.length_cons]; omega
theorem bagM_sz {b : Bag} (h : bagM b = true) : gBag.sz b ≤ 1048576 := by
 obtain ⟨ys⟩ := b
 obtain ⟨h1, w, h2⟩ := bagM_iff.1 h
 have h3 := szIt9 ys fun p hp => rowM_len (bw_items h2 p hp).2.1
 rw [gBag_sz]
 show szL gItem ys ≤ _
 omega
theorem bagM_row {b : Bag} (h : bagM b = true) {i : Nat} (hi : i < b.items.length) : (b.items[i]?.getD default).row.length ≤ 4 ∧ (1 ≤ (b.items[i]?.getD default).times ∧ (b.items[i]?.getD default).times ≤ 1000000) := by
 obtain ⟨ys⟩ := b
 obtain ⟨h1, w, h2⟩ := bagM_iff.1 h
 have h3 := bw_items h2 (ys[i]?.getD default) (by
  have hi' : i < ys.length := hi
  rw [List.getElem?_eq_getElem hi']; exact List.getElem_mem hi')
 exact ⟨rowM_len h3.2.1, h3.1⟩
theorem putsI_at {a b : Bag} (ha : bagM a = true) (hb : bagM b = true) (i : Nat) : InvT (putsI a.items (b.items.take i)) ∧ (putsI a.items (b.items.take i)).length ≤ 300 + i := by
 obtain ⟨ia, la, _⟩ := bag_inv ha
 obtain ⟨_, _, tb⟩ := bag_inv hb
 have h := putsI_inv (ps := b.items.take i) ia fun p hp => tb p (List.mem_of_mem_take hp)
 have h2 : (b.items.take i).length ≤ i := List.length_take_le ..
 exact ⟨h.1, by omega⟩
theorem putsI_next {a : List Item} {b : List Item} {i : Nat} (hi : i < b.length) : putZ (putsI a (b.take i)) (b[i]?.getD default).row (b[i]?.getD default).times (plR (putsI a (b.take i)) (b[i]?.getD default).row) = putsI a (b.take (i + 1)) := (putsI_take hi).symm
theorem specBagJoin_ct (l l2 : List Value) (x y : Bag) : Ct prog 127 [.agg ⟨l⟩, .agg ⟨l2⟩] [] (fun H => gBag.rd H l x ∧ gBag.rd H l2 y)
   (fun v A => ∃ b c, v = .tuple #[.agg ⟨[.slice b (bagJ x y).1.items.length c]⟩, .bool (bagJ x y).2] ∧ (gSl 218 gItem).ow [.slice b (bagJ x y).1.items.length c] (bagJ x y).1.items A) := by
 refine Ct.intro0 G_ok func127 rfl rfl rfl fun E H hp => ?_
 obtain ⟨hp, hq⟩ := hp
 obtain ⟨b0p, c0p, rfl, h0p⟩ := gBag_rd.1 hp
 obtain ⟨b0q, c0q, rfl, h0q⟩ := gBag_rd.1 hq
 refine ⟨fun x0 => ?_⟩
 refine ⟨fun x1 => ?_⟩
 refine ⟨fun x2 => ?_⟩
 refine call_val (specBagOk_ct _ (x)) (Rp.mono _ (mem_at 0 rfl) hp) ?_
 rintro _ rfl
 refine ⟨fun q4 => ?_, fun q4 => ?_⟩
 ·simp at q4
  (rw [bagJ_no1 (by assumption)]; exact ⟨[], ⟨_, _, rfl, sl_nil _ _ _⟩, .mem (by simp)⟩)
 ·simp at q4
  refine call_val (specBagOk_ct _ (y)) (Rp.mono _ (mem_at 0 rfl) hq) ?_
  rintro _ rfl
  refine ⟨fun q6 => ?_, fun q6 => ?_⟩
  ·simp at q6
   (rw [bagJ_no2 (by assumption)]; exact ⟨[], ⟨_, _, rfl, sl_nil _ _ _⟩, .mem (by simp)⟩)
  ·simp at q6
   refine call_newP (s_l03Copy_ct _ (x) ?_) (Rp.mono _ (mem_at 0 rfl) hp) ?_
   ·exact bagM_sz (by assumption)
   rintro v7 A7 o7
   obtain ⟨l7, rfl, o7⟩ := o7
   obtain ⟨bs, cs, As, rfl, hpm, os⟩ := gBag_ow.1 o7
   refine ⟨[As], by simpa using hpm, ?_⟩
   refine ⟨fun x8 => ?_⟩
   apply loop_mod (α := (Nat) × (List Item) × (Hp) × (Option Addr) × (Nat)) G_ok [19, 20, 21, 22, 23, 26, 27, 28, 29, 30, 31, 32, 33, 34, 35, 36, 37, 38, 39, 24, 25, 7] (fun z => [(7, .v (.int .i64 z.1))]) (fun z => [⟨x0, [Value.slice b0p x.items.length c0p], (33 : Nat)⟩, ⟨x1, [Value.slice b0q y.items.length c0q], (33 : Nat)⟩, ⟨x2, [Value.slice none (0 : Nat) (0 : Nat)], (33 : Nat)⟩, ⟨x8, [.slice z.2.2.2.1 z.2.1.length z.2.2.2.2], (33 : Nat)⟩]) (fun z => [z.2.2.1, H]) (fun z => y.items.length - z.1) (fun z => z.1 ≤ y.items.length ∧ z.2.1 = putsI x.items (y.items.take z.1) ∧ (gSl 218 gItem).ow [.slice z.2.2.2.1 z.2.1.length z.2.2.2.2] z.2.1 z.2.2.1) ((0, _, _, _, _))
   ·exact frI
   ·exact ⟨rfl, rfl, rfl, rfl, trivial⟩
   ·try dsimp only
    exact ⟨Nat.zero_le _, rfl, by assumption⟩
   ·exact .refl _
   rintro ⟨i, xs, A, lb, lc⟩ hI
   try dsimp only at hI
   obtain ⟨hi, hxs, oA⟩ := hI
   try dsimp only
   refine ⟨fun q9 => ?_, fun q9 => ?_⟩
   ·simp at q9
    obtain ⟨hxi, hxl⟩ := putsI_at ‹bagM x = true› ‹bagM y = true› i
    rw [← hxs] at hxi hxl
    obtain ⟨hyr, hyt⟩ := bagM_row ‹bagM y = true› (i := i) (by omega)
    have hyl := (bag_inv ‹bagM y = true›).2.1
    refine draw G_ok mixed (some 13) (.q 0 (.q 1 (.q 2 (.q 3 (.q 4 (.q 5 (.q 6 (.q 7 (.q 8 (.q 9 (.q 10 (.q 11 (.q 12 (.tl 13 (.f 14 (.nil)))))))))))))))) (by decide +kernel) ?_
    refine idx_rd h0q ?_ ?_ fun b10 o10 hb10 => ?_
    ·omega
    ·omega
    refine load_partN default (i) 0 rfl h0q ?_ ?_ hb10 rfl (by decide) (mem_at 1 rfl) fun l11 hl11 => ?_
    ·omega
    ·omega
    obtain ⟨b0x11, c0x11, rfl, h0x11, w1x11⟩ := gItem_rd.1 hl11
    refine idx_rd h0q ?_ ?_ fun b12 o12 hb12 => ?_
    ·omega
    ·omega
    refine load_partN default (i) 1 rfl h0q ?_ ?_ hb12 rfl (by decide) (mem_at 1 rfl) fun l13 hl13 => ?_
    ·omega
    ·omega
    obtain ⟨b0x13, c0x13, rfl, h0x13, w1x13⟩ := gItem_rd.1 hl13
    refine callR_part (A) [H] (l03Put_ct _ _ _ _ _ _ xs _ (y.items[i]?.getD default).row (y.items[i]?.getD default).times (plR xs (y.items[i]?.getD default).row) oA ?_ ?_ ?_ ?_ ?_) ?_ (Rp.mono _ (mem_at 0 rfl) h0x11) ?_
    ·omega
    ·omega
    ·trivial
    ·exact hxi.2
    ·exact plR_at hxi.1
    ·exact .refl _
    rintro _ A14 ⟨b14, c14, rfl, o14⟩
    refine ⟨[A14], by simp, ?_⟩
    apply loop_stepA (i + 1, _, _, _, _)
    ·exact .refl _
    ·exact frI
    ·exact ⟨rfl, rfl, rfl, rfl, trivial⟩
    ·try dsimp only
     exact ⟨by omega, by rw [hxs]; exact putsI_next (by omega), by assumption⟩
    try dsimp only
    omega
   ·simp at q9
    have hie : i = y.items.length := (by omega)
    subst hie
    rw [List.take_length] at hxs
    have hbr : gBag.rd A [.slice lb xs.length lc] ⟨xs⟩ := gBag_rd.2 ⟨lb, lc, rfl, Gt.owrd _ oA⟩
    refine call_val (specBagOk_ct _ ({ items := xs })) (Rp.mono _ (mem_at 0 rfl) hbr) ?_
    rintro _ rfl
    refine ⟨fun q16 => ?_, fun q16 => ?_⟩
    ·simp at q16
     (subst hxs; rw [bagJ_no3 (by assumption)]; exact ⟨[], ⟨_, _, rfl, sl_nil _ _ _⟩, .mem (by simp)⟩)
    ·simp at q16
     (subst hxs; rw [bagJ_yes ‹bagM x = true› ‹bagM y = true› (by assumption)]; exact ⟨_, ⟨_, _, rfl, oA⟩, rlB⟩)
theorem bagJ_fail {x y : Bag} (ha : bagM x = true) (hb : bagM y = true) {i k : Nat} (hi : i < y.items.length) (hx : bagM ⟨putsI x.items (y.items.take i)⟩ = true)
  (hk : rowM (y.items[i]?.getD default).row = true ∧ (0 < (putsI x.items (y.items.take i)).length → (rowI (putsI x.items (y.items.take i)) 0).length = (y.items[i]?.getD default).row.length) → atR (putsI x.items (y.items.take i)) (y.items[i]?.getD default).row k)
  (h : (putB (putsI x.items (y.items.take i)) (y.items[i]?.getD default).row (y.items[i]?.getD default).times k).2 = false) : bagM ⟨putsI x.items y.items⟩ = false := by
 obtain ⟨a⟩ := x
 obtain ⟨b⟩ := y
 rcases bagJ_step ha hb hi hx hk with ⟨e, _⟩ | ⟨_, e⟩
 ·have h' : (putB (putsI a (b.take i)) (b[i]?.getD default).row (b[i]?.getD default).times k).2 = false := h
  rw [e] at h'; cases h'
 exact e
theorem bagJ_more {x y : Bag} (ha : bagM x = true) (hb : bagM y = true) {i k : Nat} (hi : i < y.items.length) (hx : bagM ⟨putsI x.items (y.items.take i)⟩ = true)
  (hk : rowM (y.items[i]?.getD default).row = true ∧ (0 < (putsI x.items (y.items.take i)).length → (rowI (putsI x.items (y.items.take i)) 0).length = (y.items[i]?.getD default).row.length) → atR (putsI x.items (y.items.take i)) (y.items[i]?.getD default).row k)
  (h : (putB (putsI x.items (y.items.take i)) (y.items[i]?.getD default).row (y.items[i]?.getD default).times k).2 = true) : (putB (putsI x.items (y.items.take i)) (y.items[i]?.getD default).row (y.items[i]?.getD default).times k).1 = putsI x.items (y.items.take (i + 1)) ∧ bagM ⟨putsI x.items (y.items.take (i + 1))⟩ = true := by
 obtain ⟨a⟩ := x
 obtain ⟨b⟩ := y
 have h' : (putB (putsI a (b.take i)) (b[i]?.getD default).row (b[i]?.getD default).times k).2 = true := h
 rcases bagJ_step ha hb hi hx hk with ⟨e, e2⟩ | ⟨e, _⟩
 ·exact ⟨congrArg Prod.fst e, e2⟩
 rw [e] at h'; cases h'
theorem implBagJoin_ct (l l2 : List Value) (x y : Bag) : Ct prog 132 [.agg ⟨l⟩, .agg ⟨l2⟩] [] (fun H => gBag.rd H l x ∧ gBag.rd H l2 y)
   (fun v A => ∃ b c, v = .tuple #[.agg ⟨[.slice b (bagJ x y).1.items.length c]⟩, .bool (bagJ x y).2] ∧ (gSl 218 gItem).ow [.slice b (bagJ x y).1.items.length c] (bagJ x y).1.items A) := by
 refine Ct.intro0 G_ok func132 rfl rfl rfl fun E H hp => ?_
 obtain ⟨hp, hq⟩ := hp
 obtain ⟨b0p, c0p, rfl, h0p⟩ := gBag_rd.1 hp
 obtain ⟨b0q, c0q, rfl, h0q⟩ := gBag_rd.1 hq
 refine ⟨fun x0 => ?_⟩
 refine ⟨fun x1 => ?_⟩
 refine ⟨fun x2 => ?_⟩
 refine call_val (implBagOk_ct _ (x)) (Rp.mono _ (mem_at 0 rfl) hp) ?_
 rintro _ rfl
 refine ⟨fun q4 => ?_, fun q4 => ?_⟩
 ·simp at q4
  (rw [bagJ_no1 (by assumption)]; exact ⟨[], ⟨_, _, rfl, sl_nil _ _ _⟩, .mem (by simp)⟩)
 ·simp at q4
  refine call_val (implBagOk_ct _ (y)) (Rp.mono _ (mem_at 0 rfl) hq) ?_
  rintro _ rfl
  refine ⟨fun q6 => ?_, fun q6 => ?_⟩
  ·simp at q6
   (rw [bagJ_no2 (by assumption)]; exact ⟨[], ⟨_, _, rfl, sl_nil _ _ _⟩, .mem (by simp)⟩)
  ·simp at q6
   refine call_newP (copyBag_ct _ (x) ?_) (Rp.mono _ (mem_at 0 rfl) hp) ?_
   ·exact bagM_sz (by assumption)
   rintro v7 A7 o7
   obtain ⟨l7, rfl, o7⟩ := o7
   obtain ⟨bs, cs, As, rfl, hpm, os⟩ := gBag_ow.1 o7
   refine ⟨[As], by simpa using hpm, ?_⟩
   refine ⟨fun x8 => ?_⟩
   apply loop_mod (α := (Nat) × (List Item) × (Hp) × (Option Addr) × (Nat)) G_ok [24, 25, 26, 8, 27, 28, 29, 30, 31, 32, 33, 5, 34, 23] (fun z => [(23, .v (.int .i64 z.1))]) (fun z => [⟨x0, [Value.slice b0p x.items.length c0p], (33 : Nat)⟩, ⟨x1, [Value.slice b0q y.items.length c0q], (33 : Nat)⟩, ⟨x2, [Value.slice none (0 : Nat) (0 : Nat)], (33 : Nat)⟩, ⟨x8, [.slice z.2.2.2.1 z.2.1.length z.2.2.2.2], (33 : Nat)⟩]) (fun z => [z.2.2.1, H]) (fun z => y.items.length - z.1) (fun z => z.1 ≤ y.items.length ∧ z.2.1 = putsI x.items (y.items.take z.1) ∧ bagM ⟨z.2.1⟩ = true ∧ (gSl 218 gItem).ow [.slice z.2.2.2.1 z.2.1.length z.2.2.2.2] z.2.1 z.2.2.1) ((0, _, _, _, _))
   ·exact frI
   ·exact ⟨rfl, rfl, rfl, rfl, trivial⟩
   ·try dsimp only
    exact ⟨Nat.zero_le _, rfl, by assumption, by assumption⟩
   ·exact .refl _
   rintro ⟨i, xs, A, lb, lc⟩ hI
   try dsimp only at hI
   obtain ⟨hi, hxs, hbi, oA⟩ := hI
   try dsimp only
   refine ⟨fun q9 => ?_, fun q9 => ?_⟩
   ·simp at q9
    obtain ⟨hxi, hxl⟩ := putsI_at ‹bagM x = true› ‹bagM y = true› i
    rw [← hxs] at hxi hxl
    obtain ⟨hyr, hyt⟩ := bagM_row ‹bagM y = true› (i := i) (by omega)
    have hyl := (bag_inv ‹bagM y = true›).2.1
    refine idx_rd h0q ?_ ?_ fun b10 o10 hb10 => ?_
    ·omega
    ·omega
    refine load_allN default (i) rfl h0q ?_ ?_ hb10 rfl (mem_at 1 rfl) fun l11 hl11 => ?_
    ·omega
    ·omega
    obtain ⟨b0x11, c0x11, rfl, h0x11, w1x11⟩ := gItem_rd.1 hl11
    refine ⟨fun x12 => ?_⟩
    refine callR_blk 3 (A) [H] rfl ?_ (bagPut_ct _ _ _ xs _ _ _ _ (y.items[i]?.getD default).row (y.items[i]?.getD default).times oA ?_ ?_ ?_ ?_) (Rp.mono _ (mem_at 0 rfl) h0x11) ?_
    ·exact .refl _
    ·exact hxi.1
    ·exact (bagM_iff.1 hbi).1
    ·trivial
    ·exact hxi.2
    rintro _ A13 ⟨kp, bP, cP, AP, hat, rfl, rfl, oP⟩
    refine ⟨_, _, [AP], rfl, perm1, ?_⟩
    refine ⟨fun q14 => ?_, fun q14 => ?_⟩
    ·simp at q14
     (subst hxs; rw [bagJ_no3 (bagJ_fail ‹bagM x = true› ‹bagM y = true› (i := i) (k := kp) (by omega) hbi hat (by assumption))]; exact ⟨[], ⟨_, _, rfl, sl_nil _ _ _⟩, .mem (by simp)⟩)
    ·simp at q14
     apply loop_stepA (i + 1, _, _, _, _)
     ·exact .refl _
     ·exact frI
     ·exact ⟨rfl, rfl, rfl, rfl, trivial⟩
     ·try dsimp only
      (subst hxs; obtain ⟨e1, e2⟩ := bagJ_more ‹bagM x = true› ‹bagM y = true› (i := i) (k := kp) (by omega) hbi hat (by assumption); exact ⟨by omega, e1, (congrArg (fun z => bagM ⟨z⟩) e1).trans e2, by assumption⟩)
     try dsimp only
     omega
   ·simp at q9
    (have hie : i = y.items.length := (by omega); subst hie; rw [List.take_length] at hxs; subst hxs; rw [bagJ_yes ‹bagM x = true› ‹bagM y = true› hbi]; exact ⟨_, ⟨_, _, rfl, oA⟩, rlB⟩)
end
section
attribute [local irreducible] IntKind.wrap
theorem cols_no1 {cs : List ByteArray} {k : Nat} (hk : k < cs.length) (h : nameOk (cs[k]?.getD ByteArray.empty) = false) : colsOk cs = false := by
 unfold colsOk; rw [allK_no (p := fun i => nameOk (cs[i]?.getD ByteArray.empty)) (k := k) h _ hk]; simp
theorem cols_no2 {cs : List ByteArray} {k : Nat} (hk : k < cs.length) (h : hasS ((cs.take ((k : Nat) : Int).toNat).drop 0) (cs[k]?.getD ByteArray.empty) = true) : colsOk cs = false := by
 unfold colsOk; rw [dist_no2 hk h]; simp
theorem cols_end {cs : List ByteArray} (h1 : allK (fun i => nameOk (cs[i]?.getD ByteArray.empty)) cs.length = true) (h2 : allK (fun i => !hasS (cs.take i) (cs[i]?.getD ByteArray.empty)) cs.length = true) : colsOk cs = inR 1 4 (cs.length : Nat) := by
 unfold colsOk distM
 rw [h1, h2, Bool.and_true, Bool.and_true, Bool.eq_iff_iff, decide_eq_true_iff, inR_iff]; omega
theorem l10Cols_ct (b : Option Addr) (m c : Nat) (xs : List ByteArray) : Ct prog 294 [.slice b m c] [] (fun H => (gSl 9 gS).rd H [.slice b m c] xs) (fun v A => v = .bool (colsOk xs) ∧ A = []) := by
 refine Ct.intro0 G_ok func294 rfl rfl rfl fun E H hp => ?_
 obtain ⟨rfl, hcl, hl⟩ := sl_len hp
 apply loop_mod (α := (Nat)) G_ok [4, 5, 6, 7, 10, 11, 12, 13, 14, 15, 16, 17, 18, 19, 20, 21, 22, 23, 24, 25, 2, 8, 9, 3] (fun z => [(3, .v (.int .i64 z))]) (fun z => []) (fun z => [H]) (fun z => xs.length - z) (fun z => z ≤ xs.length ∧ allK (fun i => nameOk (xs[i]?.getD ByteArray.empty)) z = true ∧ allK (fun i => !hasS (xs.take i) (xs[i]?.getD ByteArray.empty)) z = true) ((0))
 ·exact frI
 ·exact trivial
 ·exact ⟨Nat.zero_le _, rfl, rfl⟩
 ·exact .refl _
 rintro k hI
 try dsimp only at hI
 obtain ⟨hk, ha, hb⟩ := hI
 try dsimp only
 refine ⟨fun q0 => ?_, fun q0 => ?_⟩
 ·simp at q0
  refine draw G_ok mixed none (.q 0 (.q 1 (.q 2 (.q 3 (.f 4 (.q 5 (.q 6 (.q 7 (.q 8 (.q 9 (.q 10 (.q 11 (.q 12 (.q 13 (.f 14 (.q 15 (.nil))))))))))))))))) (by decide +kernel) ?_
  refine idx_rd hp ?_ ?_ fun b1 o1 hb1 => ?_
  ·omega
  ·omega
  refine load_allN ByteArray.empty (k) rfl hp ?_ ?_ hb1 rfl (mem_at 0 rfl) fun l2 hl2 => ?_
  ·omega
  ·omega
  obtain ⟨rfl, hw2⟩ := hl2; simp only [flStr, flInt, okI] at hw2
  refine call_val (specQueryName_ct _ ?_) trivial ?_
  ·trivial
  rintro _ rfl
  refine VC.intro ?_ ?_
  ·exact fun _ h => h
  refine ⟨fun q4 => ?_, fun q4 => ?_⟩
  ·simp at q4
   exact ⟨[], ⟨by rw [cols_no1 (k := k) (by omega) (by assumption)], rfl⟩, .mem (by simp)⟩
  ·simp at q4
   refine VC.intro ?_ ?_
   ·omega
   refine idx_rd hp ?_ ?_ fun b5 o5 hb5 => ?_
   ·omega
   ·omega
   refine load_allN ByteArray.empty (k) rfl hp ?_ ?_ hb5 rfl (mem_at 0 rfl) fun l6 hl6 => ?_
   ·omega
   ·omega
   obtain ⟨rfl, hw6⟩ := hl6; simp only [flStr, flInt, okI] at hw6
   refine call_val (l08In_ct _ _ _ ((xs.take ((k : Nat) : Int).toNat).drop 0) _) (Rp.mono _ (mem_at 0 rfl) (rd_sub (r := gS.toRp) (l := 0) (h := ((k : Nat) : Int).toNat) hp (by omega) (by omega))) ?_
   rintro _ rfl
   refine VC.intro ?_ ?_
   ·exact fun _ h => h
   refine ⟨fun q8 => ?_, fun q8 => ?_⟩
   ·simp at q8
    exact ⟨[], ⟨by rw [cols_no2 (k := k) (by omega) (by assumption)], rfl⟩, .mem (by simp)⟩
   ·simp at q8
    apply loop_stepA (k + 1)
    ·exact .refl _
    ·exact frI
    ·exact trivial
    ·exact ⟨by omega, allK_step ha (by assumption), allK_step hb (dist_step (by assumption))⟩
    omega
 ·simp at q0
  refine call_val (l01In_ct _ _ _) trivial ?_
  rintro _ rfl
  (have hke : k = xs.length := (by omega); subst hke; exact ⟨[], ⟨by rw [cols_end ha hb], rfl⟩, .mem (by simp)⟩)
theorem table_no1 {t : Table} {i : Nat} (hi : i < t.bag.items.length) (h : ¬ (t.bag.items[i]?.getD default).row.length = t.cols.length) : tableM t = false := by
 rw [← Bool.not_eq_true, tableM_iff]
 rintro ⟨_, _, h3⟩
 exact h (bw_items h3 (t.bag.items[i]?.getD default) (by rw [List.getElem?_eq_getElem hi]; exact List.getElem_mem hi)).2.2
theorem table_no2 {t : Table} (h : colsOk t.cols = false) : tableM t = false := by unfold tableM; rw [h]; rfl
theorem table_no3 {t : Table} (h : bagM t.bag = false) : tableM t = false := by unfold tableM; rw [h]; simp
theorem table_end {t : Table} (h : allK (fun i => decide ((t.bag.items[i]?.getD default).row.length = t.cols.length)) t.bag.items.length = true) (h1 : colsOk t.cols = true) : tableM t = bagM t.bag := by
 unfold tableM
 rw [h1, Bool.true_and]
 have h2 : decide (0 < t.bag.items.length → (rowI t.bag.items 0).length = t.cols.length) = true := decide_eq_true fun h0 => decide_eq_true_iff.1 (allK_at h 0 h0)
 rw [h2, Bool.and_true]
theorem specTableOk_ct (l : List Value) (t : Table) : Ct prog 217 [.agg ⟨l⟩] [] (fun H => gTable.rd H l t) (fun v A => v = .bool (tableM t) ∧ A = []) := by
 refine Ct.intro0 G_ok func217 rfl rfl rfl fun E H hp => ?_
 obtain ⟨b0p, c0p, l1p, rfl, h0p, h1p⟩ := gTable_rd.1 hp
 obtain ⟨b0_1p, c0_1p, rfl, h0_1p⟩ := gBag_rd.1 h1p
 have hlen := (sl_len h0_1p).2.2
 refine ⟨fun x0 => ?_⟩
 apply loop_mod (α := (Nat)) G_ok [4, 5, 6, 7, 8, 9, 12, 13, 14, 15, 16, 17, 18, 19, 20, 21, 22, 23, 2, 10, 11, 3] (fun z => [(3, .v (.int .i64 z))]) (fun z => [{ id := x0, cs := [Value.slice b0p t.cols.length c0p, Value.slice b0_1p t.bag.items.length c0_1p] ++ [], ty := (191 : Nat) }]) (fun z => [H]) (fun z => t.bag.items.length - z) (fun z => z ≤ t.bag.items.length ∧ allK (fun i => decide ((t.bag.items[i]?.getD default).row.length = t.cols.length)) z = true) ((0))
 ·exact frI
 ·exact ⟨rfl, trivial⟩
 ·exact ⟨Nat.zero_le _, rfl⟩
 ·exact .refl _
 rintro k hI
 try dsimp only at hI
 obtain ⟨hk, ha⟩ := hI
 try dsimp only
 refine ⟨fun q1 => ?_, fun q1 => ?_⟩
 ·simp at q1
  refine draw G_ok mixed none (.q 0 (.q 1 (.q 2 (.q 3 (.q 4 (.q 5 (.q 6 (.q 7 (.q 8 (.q 9 (.q 10 (.q 11 (.nil))))))))))))) (by decide +kernel) ?_
  refine idx_rd h0_1p ?_ ?_ fun b2 o2 hb2 => ?_
  ·omega
  ·omega
  refine load_partN default (k) 0 rfl h0_1p ?_ ?_ hb2 rfl (by decide) (mem_at 0 rfl) fun l3 hl3 => ?_
  ·omega
  ·omega
  obtain ⟨b0x3, c0x3, rfl, h0x3, w1x3⟩ := gItem_rd.1 hl3
  refine ⟨fun q4 => ?_, fun q4 => ?_⟩
  ·simp at q4
   exact ⟨[], ⟨by rw [table_no1 (i := k) (by omega) (by omega)], rfl⟩, .mem (by simp)⟩
  ·simp at q4
   apply loop_stepA (k + 1)
   ·exact .refl _
   ·exact frI
   ·exact ⟨rfl, trivial⟩
   ·exact ⟨by omega, allK_step ha (decide_eq_true (by omega))⟩
   omega
 ·simp at q1
  have hke : k = t.bag.items.length := by omega
  subst hke
  refine call_val (l10Cols_ct _ _ _ (t.cols)) (Rp.mono _ (mem_at 0 rfl) h0p) ?_
  rintro _ rfl
  refine ⟨fun q6 => ?_, fun q6 => ?_⟩
  ·refine call_val (specBagOk_ct _ (t.bag)) (Rp.mono _ (mem_at 0 rfl) h1p) ?_
   rintro _ rfl
   exact ⟨[], ⟨by rw [table_end ha (by assumption)], rfl⟩, .mem (by simp)⟩
  ·exact ⟨[], ⟨by rw [table_no2 (by assumption)], rfl⟩, .mem (by simp)⟩
theorem tab_no1 {t : Table} (h : ¬ (1 ≤ t.cols.length ∧ t.cols.length ≤ 4)) : tableM t = false := table_no2 (by unfold colsOk; rw [decide_eq_false h]; rfl)
theorem tab_no2 {t : Table} (h : distM t.cols = false) : tableM t = false := table_no2 (by unfold colsOk; rw [h]; simp)
theorem tab_end {t : Table} (h1 : 1 ≤ t.cols.length ∧ t.cols.length ≤ 4) (h2 : distM t.cols = true) (h3 : bagM t.bag = true) (h4 : allK (fun i => nameOk (t.cols[i]?.getD ByteArray.empty)) t.cols.length = true) : tableM t = decide (0 < t.bag.items.length → (rowI t.bag.items 0).length = t.cols.length) := by
 unfold tableM colsOk
 rw [h2, h3, h4, decide_eq_true h1]; rfl
theorem tab_nil {t : Table} (h1 : 1 ≤ t.cols.length ∧ t.cols.length ≤ 4) (h2 : distM t.cols = true) (h3 : bagM t.bag = true) (h4 : allK (fun i => nameOk (t.cols[i]?.getD ByteArray.empty)) t.cols.length = true) (h : t.bag.items = []) : tableM t = true := by
 rw [tab_end h1 h2 h3 h4]
 exact decide_eq_true fun h0 => by rw [h] at h0; cases h0
theorem tab_cons {t : Table} (h1 : 1 ≤ t.cols.length ∧ t.cols.length ≤ 4) (h2 : distM t.cols = true) (h3 : bagM t.bag = true) (h4 : allK (fun i => nameOk (t.cols[i]?.getD ByteArray.empty)) t.cols.length = true) (h : ¬ t.bag.items = []) : ((((t.bag.items[0]?.getD default).row.length : Nat) : Int) == ((t.cols.length : Nat) : Int)) = tableM t := by
 rw [tab_end h1 h2 h3 h4, Bool.eq_iff_iff, beq_iff_eq, decide_eq_true_iff]
 have h5 := List.length_pos_iff.2 h
 unfold rowI
 exact ⟨fun h6 _ => by omega, fun h6 => by have := h6 h5; omega⟩
theorem implTableOk_ct (l : List Value) (t : Table) : Ct prog 301 [.agg ⟨l⟩] [] (fun H => gTable.rd H l t) (fun v A => v = .bool (tableM t) ∧ A = []) := by
 refine Ct.intro0 G_ok func301 rfl rfl rfl fun E H hp => ?_
 obtain ⟨b0p, c0p, l1p, rfl, h0p, h1p⟩ := gTable_rd.1 hp
 obtain ⟨b0_1p, c0_1p, rfl, h0_1p⟩ := gBag_rd.1 h1p
 refine ⟨fun x0 => ?_⟩
 refine ⟨fun q1 => ?_, fun q1 => ?_⟩
 ·simp at q1
  exact ⟨[], ⟨by rw [tab_no1 (by omega)], rfl⟩, .mem (by simp)⟩
 ·simp at q1
  refine ⟨fun q2 => ?_, fun q2 => ?_⟩
  ·simp at q2
   exact ⟨[], ⟨by rw [tab_no1 (by omega)], rfl⟩, .mem (by simp)⟩
  ·simp at q2
   refine call_val (areDistinct_ct _ _ _ (t.cols)) (Rp.mono _ (mem_at 0 rfl) h0p) ?_
   rintro _ rfl
   refine ⟨fun q4 => ?_, fun q4 => ?_⟩
   ·simp at q4
    exact ⟨[], ⟨by rw [tab_no2 (by assumption)], rfl⟩, .mem (by simp)⟩
   ·simp at q4
    refine call_val (implBagOk_ct _ (t.bag)) (Rp.mono _ (mem_at 0 rfl) h1p) ?_
    rintro _ rfl
    refine ⟨fun q6 => ?_, fun q6 => ?_⟩
    ·simp at q6
     exact ⟨[], ⟨by rw [table_no3 (by assumption)], rfl⟩, .mem (by simp)⟩
    ·simp at q6
     apply loop_mod (α := (Nat)) G_ok [31, 32, 33, 4, 34, 35, 36, 2, 37, 30] (fun z => [(30, .v (.int .i64 z))]) (fun z => [{ id := x0, cs := [Value.slice b0p t.cols.length c0p, Value.slice b0_1p t.bag.items.length c0_1p] ++ [], ty := (191 : Nat) }]) (fun z => [H]) (fun z => t.cols.length - z) (fun z => z ≤ t.cols.length ∧ allK (fun i => nameOk (t.cols[i]?.getD ByteArray.empty)) z = true) ((0))
     ·exact frI
     ·exact ⟨rfl, trivial⟩
     ·exact ⟨Nat.zero_le _, rfl⟩
     ·exact .refl _
     rintro k hI
     try dsimp only at hI
     obtain ⟨hk, ha⟩ := hI
     try dsimp only
     refine ⟨fun q7 => ?_, fun q7 => ?_⟩
     ·simp at q7
      refine idx_rd h0p ?_ ?_ fun b8 o8 hb8 => ?_
      ·omega
      ·omega
      refine load_allN ByteArray.empty (k) rfl h0p ?_ ?_ hb8 rfl (mem_at 0 rfl) fun l9 hl9 => ?_
      ·omega
      ·omega
      obtain ⟨rfl, hw9⟩ := hl9; simp only [flStr, flInt, okI] at hw9
      refine call_val (implQueryName_ct _ ?_) trivial ?_
      ·trivial
      rintro _ rfl
      refine ⟨fun q11 => ?_, fun q11 => ?_⟩
      ·simp at q11
       exact ⟨[], ⟨by rw [table_no2 (cols_no1 (k := k) (by omega) (by assumption))], rfl⟩, .mem (by simp)⟩
      ·simp at q11
       apply loop_stepA (k + 1)
       ·exact .refl _
       ·exact frI
       ·exact ⟨rfl, trivial⟩
       ·exact ⟨by omega, allK_step ha (by assumption)⟩
       omega
     ·simp at q7
      refine draw G_ok mixed none (.q 0 (.q 1 (.q 2 (.q 3 (.q 4 (.q 5 (.q 6 (.q 7 (.q 8 (.q 9 (.q 10 (.q 11 (.q 12 (.q 13 (.q 14 (.q 15 (.q 16 (.q 17 (.q 18 (.nil)))))))))))))))))))) (by decide +kernel) ?_
      refine ⟨fun q12 => ?_, fun q12 => ?_⟩
      ·simp at q12
       (have hke : k = t.cols.length := (by omega); subst hke; exact ⟨[], ⟨by rw [tab_nil ⟨by omega, by omega⟩ (by assumption) (by assumption) ha (by assumption)], rfl⟩, .mem (by simp)⟩)
      ·simp at q12
       refine idx_rd h0_1p ?_ ?_ fun b13 o13 hb13 => ?_
       ·trivial
       ·(have h9 := List.length_pos_iff.2 ‹¬ t.bag.items = []›; omega)
       refine load_partN default (0) 0 rfl h0_1p ?_ ?_ hb13 rfl (by decide) (mem_at 0 rfl) fun l14 hl14 => ?_
       ·trivial
       ·(have h9 := List.length_pos_iff.2 ‹¬ t.bag.items = []›; omega)
       obtain ⟨b0x14, c0x14, rfl, h0x14, w1x14⟩ := gItem_rd.1 hl14
       (have hke : k = t.cols.length := (by omega); subst hke; exact ⟨[], ⟨by rw [tab_cons ⟨by omega, by omega⟩ (by assumption) (by assumption) ha (by assumption)], rfl⟩, .mem (by simp)⟩)
end
section
attribute [local irreducible] IntKind.wrap
theorem exK_le (ca cb : List ByteArray) (y : List Int) (k : Nat) : (exK ca cb y k).length ≤ k := by
 unfold exK; rw [List.length_map]; exact Nat.le_trans (List.length_filter_le _ _) (by simp)
theorem t10_yes {a b : Int} (hb : 1 ≤ b ∧ b ≤ 1000000) (h : Int.tdiv 1000000 b < a) : 1000000 = min (a * b) 1000000 := by
 rw [Int.tdiv_eq_ediv_of_nonneg (by omega)] at h
 have h1 : 1000000 < b * (1000000 / b + 1) := by
  have h2 := Int.mul_ediv_add_emod 1000000 b
  have h3 := Int.emod_lt_of_pos 1000000 (show 0 < b by omega)
  rw [Int.mul_add, Int.mul_one]; omega
 have h4 : (1000000 / b + 1) * b ≤ a * b := Int.mul_le_mul_of_nonneg_right (by omega) (by omega)
 rw [Int.mul_comm] at h1
 omega
theorem t10_no {a b : Int} (ha : 1 ≤ a ∧ a ≤ 1000000) (hb : 1 ≤ b ∧ b ≤ 1000000) (h : a ≤ Int.tdiv 1000000 b) : IntKind.i64.wrap (a * b) = min (a * b) 1000000 := by
 rw [Int.tdiv_eq_ediv_of_nonneg (by omega)] at h
 have h2 := Int.mul_ediv_add_emod 1000000 b
 have h3 := Int.emod_nonneg 1000000 (show b ≠ 0 by omega)
 have h4 : a * b ≤ (1000000 / b) * b := Int.mul_le_mul_of_nonneg_right h (by omega)
 rw [Int.mul_comm (1000000 / b) b] at h4
 have h5 : 0 * b ≤ a * b := Int.mul_le_mul_of_nonneg_right (by omega) (by omega)
 rw [wrap_of (by omega) (by omega)]; omega
theorem l10Times_ct (a b : Int) (ha : 1 ≤ a ∧ a ≤ 1000000) (hb : 1 ≤ b ∧ b ≤ 1000000) : Ct prog 296 [.int .i64 a, .int .i64 b] [] (fun _ => True) (fun v A => v = .int .i64 (min (a * b) 1000000) ∧ A = []) := by
 refine Ct.intro0 G_ok func296 rfl rfl rfl fun E H hp => ?_
 have hq : IntKind.i64.wrap (Int.tdiv 1000000 b) = Int.tdiv 1000000 b := by
  have h1 := Int.ediv_nonneg (show (0 : Int) ≤ 1000000 by decide) (show 0 ≤ b by omega)
  have h2 := Int.ediv_le_self b (show (0 : Int) ≤ 1000000 by decide)
  rw [Int.tdiv_eq_ediv_of_nonneg (by omega)]
  exact wrap_of (by omega) (by omega)
 refine VC.intro ?_ ?_
 ·omega
 refine ⟨fun q0 => ?_, fun q0 => ?_⟩
 ·rw [hq] at q0
  simp at q0
  exact ⟨[], ⟨congrArg (Value.int .i64) (t10_yes hb (by omega)), rfl⟩, .mem (by simp)⟩
 ·rw [hq] at q0
  simp at q0
  exact ⟨[], ⟨congrArg (Value.int .i64) (t10_no ha hb (by omega)), rfl⟩, .mem (by simp)⟩
theorem l10Both_ct (la lb : List Value) (bx : Option Addr) (mx cx : Nat) (by' : Option Addr) (my cy : Nat) (a b : Table) (x y : List Int) (hx : a.cols.length ≤ x.length ∧ x.length ≤ 1000) (hy : b.cols.length ≤ y.length ∧ y.length ≤ 1000) :
  Ct prog 295 [.agg ⟨la⟩, .agg ⟨lb⟩, .slice bx mx cx, .slice by' my cy] [] (fun H => gTable.rd H la a ∧ gTable.rd H lb b ∧ (gSl 3 gI).rd H [.slice bx mx cx] x ∧ (gSl 3 gI).rd H [.slice by' my cy] y)
   (fun v D => ∃ (r : List Int) (b' : Option Addr) (c : Nat), v = .tuple #[.slice b' r.length c, .bool (matK a.cols b.cols x y b.cols.length)] ∧ (gSl 3 gI).ow [.slice b' r.length c] r D ∧ (matK a.cols b.cols x y b.cols.length = true → r = x ++ exK a.cols b.cols y b.cols.length)) := by
 refine Ct.intro0 G_ok func295 rfl rfl rfl fun E H hp => ?_
 obtain ⟨hp, hq, hx1, hy1⟩ := hp
 obtain ⟨rfl, hcx, hlx⟩ := sl_len hx1
 obtain ⟨rfl, hcy, hly⟩ := sl_len hy1
 obtain ⟨b0p, c0p, l1p, rfl, h0p, h1p⟩ := gTable_rd.1 hp
 obtain ⟨b0_1p, c0_1p, rfl, h0_1p⟩ := gBag_rd.1 h1p
 obtain ⟨b0q, c0q, l1q, rfl, h0q, h1q⟩ := gTable_rd.1 hq
 obtain ⟨b0_1q, c0_1q, rfl, h0_1q⟩ := gBag_rd.1 h1q
 have hl2 := (sl_len h0q).2.2
 refine ⟨fun x0 => ?_⟩
 refine ⟨fun x1 => ?_⟩
 refine ⟨fun x2 => ?_⟩
 refine append_allN (g := gI) (T := (3 : TypeId)) G_ok (by repeat (first | exact fl_plain | apply plain_iso | apply plain_pair)) [] [[(x2, Obj.cells { toList := zeros (0 : Nat) [Value.int IntKind.i64 (0 : Int)] } (3 : TypeId))], H] 1 ?_ (sl_nil _ _ _) rfl hx1 rfl rfl rfl rfl rfl rfl rfl rfl ?_ fun b3 c3 A3 o3 => ?_
 ·exact .refl _
 ·simp; omega
 apply loop_mod (α := (Nat) × (List Int) × (Hp) × (Option Addr) × (Nat)) G_ok [16, 17, 18, 19, 20, 23, 24, 25, 26, 27, 28, 29, 30, 12, 31, 32, 33, 34, 35, 36, 37, 38, 39, 10, 40, 41, 42, 43, 44, 45, 46, 47, 48, 49, 8, 9, 21, 22, 11] (fun z => [(11, .v (.int .i64 z.1)), (10, .v (.slice z.2.2.2.1 z.2.1.length z.2.2.2.2)), (9, .v (.bool false)), (8, .v (.slice none 0 0))]) (fun z => [{ id := x0, cs := [Value.slice b0p a.cols.length c0p, Value.slice b0_1p a.bag.items.length c0_1p] ++ [], ty := (191 : Nat) }, { id := x1, cs := [Value.slice b0q b.cols.length c0q, Value.slice b0_1q b.bag.items.length c0_1q] ++ [], ty := (191 : Nat) }]) (fun z => [z.2.2.1, H]) (fun z => b.cols.length - z.1) (fun z => z.1 ≤ b.cols.length ∧ z.2.1 = x ++ exK a.cols b.cols y z.1 ∧ z.2.1.length ≤ x.length + z.1 ∧ matK a.cols b.cols x y z.1 = true ∧ (gSl 3 gI).ow [.slice z.2.2.2.1 z.2.1.length z.2.2.2.2] z.2.1 z.2.2.1) ((0, [] ++ x, _, _, _))
 ·exact frI
 ·exact ⟨rfl, rfl, trivial⟩
 ·try dsimp only
  exact ⟨Nat.zero_le _, by simp [exK], by simp, rfl, by assumption⟩
 ·exact rlA
 rintro ⟨k, out, D, lb, lc⟩ hI
 try dsimp only at hI
 obtain ⟨hk, ho, hol, hm, oD⟩ := hI
 try dsimp only
 refine ⟨fun q4 => ?_, fun q4 => ?_⟩
 ·simp at q4
  refine draw G_ok mixed none (.q 0 (.q 1 (.q 2 (.q 3 (.q 4 (.q 5 (.q 6 (.f 7 (.q 8 (.nil)))))))))) (by decide +kernel) ?_
  refine idx_rd h0q ?_ ?_ fun b5 o5 hb5 => ?_
  ·omega
  ·omega
  refine load_allN ByteArray.empty (k) rfl h0q ?_ ?_ hb5 rfl (mem_at 1 rfl) fun l6 hl6 => ?_
  ·omega
  ·omega
  obtain ⟨rfl, hw6⟩ := hl6; simp only [flStr, flInt, okI] at hw6
  refine call_val (l09Place_ct _ _ _ (a.cols) _) (Rp.mono _ (mem_at 1 rfl) h0p) ?_
  rintro _ rfl
  refine VC.intro ?_ ?_
  ·exact fun _ h => h
  refine ⟨fun q8 => ?_, fun q8 => ?_⟩
  ·simp at q8
   refine idx_rd hy1 ?_ ?_ fun b9 o9 hb9 => ?_
   ·omega
   ·omega
   refine load_allN 0 (k) rfl hy1 ?_ ?_ hb9 rfl (mem_at 1 rfl) fun l10 hl10 => ?_
   ·omega
   ·omega
   obtain ⟨rfl, hw10⟩ := hl10; simp only [flStr, flInt, okI] at hw10
   refine ⟨fun x11 => ?_⟩
   refine gappend1 (g := gI) (T := (3 : TypeId)) G_ok D [] [H] ?_ oD (gI_ow ?_) (List.mem_of_getElem? (i := 0) rfl) rfl rfl rfl rfl rfl rfl rfl rfl ?_ fun b12 c12 A12 o12 => ?_
   ·exact .tl
   ·trivial
   ·omega
   apply loop_stepA (k + 1, _, _, _, _)
   ·exact .refl _
   ·exact frI
   ·exact ⟨rfl, rfl, trivial⟩
   ·try dsimp only
    exact ⟨by omega, by rw [exK_yes (idx_neg (by assumption)), ← List.append_assoc, ← ho], by rw [List.length_append, List.length_singleton]; omega, matK_step hm (.inl (idx_neg (by assumption))), by assumption⟩
   try dsimp only
   omega
  ·simp at q8
   have hir := idx_rng (idx_pos (l := a.cols) (s := b.cols[k]?.getD ByteArray.empty) (by omega))
   refine draw G_ok mixed none (.q 0 (.q 1 (.q 2 (.q 3 (.q 4 (.q 5 (.q 6 (.q 7 (.q 8 (.nil)))))))))) (by decide +kernel) ?_
   refine idx_rd hx1 ?_ ?_ fun b13 o13 hb13 => ?_
   ·trivial
   ·omega
   refine load_all 0 hx1 ?_ ?_ hb13 rfl (mem_at 1 rfl) fun l14 hl14 => ?_
   ·trivial
   ·omega
   obtain ⟨rfl, hw14⟩ := hl14; simp only [flStr, flInt, okI] at hw14
   refine idx_rd hy1 ?_ ?_ fun b15 o15 hb15 => ?_
   ·omega
   ·omega
   refine load_allN 0 (k) rfl hy1 ?_ ?_ hb15 rfl (mem_at 1 rfl) fun l16 hl16 => ?_
   ·omega
   ·omega
   obtain ⟨rfl, hw16⟩ := hl16; simp only [flStr, flInt, okI] at hw16
   refine ⟨fun q17 => ?_, fun q17 => ?_⟩
   ·simp at q17
    (rw [matK_no (k := k) (by omega) (idx_pos (by omega)) (by assumption)]; exact ⟨_, ⟨out, _, _, rfl, oD, fun h => by cases h⟩, rlB⟩)
   ·simp at q17
    apply loop_stepA (k + 1, out, D, lb, lc)
    ·exact .refl _
    ·exact frI
    ·exact ⟨rfl, rfl, trivial⟩
    ·try dsimp only
     exact ⟨by omega, by rw [exK_no (idx_pos (by omega))]; exact ho, by omega, matK_step hm (.inr (by assumption)), oD⟩
    try dsimp only
    omega
 ·simp at q4
  (have hke : k = b.cols.length := (by omega); subst hke; rw [hm]; exact ⟨_, ⟨out, _, _, rfl, oD, fun _ => ho⟩, rlB⟩)
end
section
attribute [local irreducible] IntKind.wrap
theorem filter_step9 {p : ByteArray → Bool} {xs : List ByteArray} {k : Nat} (h : k < xs.length) : (xs.take (k + 1)).filter p = (xs.take k).filter p ++ (if p (xs[k]?.getD ByteArray.empty) then [xs[k]?.getD ByteArray.empty] else []) := by
 cases hp : p (xs[k]?.getD ByteArray.empty) with
 | true => rw [filt_yes9 ByteArray.empty h hp]; rfl
 | false => rw [filt_no9 ByteArray.empty h hp]; simp
theorem colsJ_yes {ca cb : List ByteArray} {k : Nat} (hk : k < cb.length) (h : hasS ca (cb[k]?.getD ByteArray.empty) = false) : colsJ ca (cb.take (k + 1)) = colsJ ca (cb.take k) ++ [cb[k]?.getD ByteArray.empty] := by
 unfold colsJ; rw [filter_step9 hk, h, List.append_assoc]; rfl
theorem colsJ_no {ca cb : List ByteArray} {k : Nat} (hk : k < cb.length) (h : hasS ca (cb[k]?.getD ByteArray.empty) = true) : colsJ ca (cb.take (k + 1)) = colsJ ca (cb.take k) := by
 unfold colsJ; rw [filter_step9 hk, h]; simp
theorem itemJ_tOk {a b : Table} (ha : tableM a = true) (hb : tableM b = true) {x y : Item} (hx : x ∈ a.bag.items) (hy : y ∈ b.bag.items) : tOk (itemJ a.cols b.cols x y) := by
 obtain ⟨_, _, wa⟩ := tableM_iff.1 ha
 obtain ⟨_, _, wb⟩ := tableM_iff.1 hb
 obtain ⟨⟨tx1, tx2⟩, _, _⟩ := bw_items wa x hx
 obtain ⟨⟨ty1, ty2⟩, _, _⟩ := bw_items wb y hy
 have h1 : 1 * 1 ≤ x.times * y.times := Int.mul_le_mul tx1 ty1 (by omega) (by omega)
 show 1 ≤ min _ _ ∧ min _ _ ≤ _
 omega
theorem rowJ_mem {ca cb : List ByteArray} {x : Item} {ys : List Item} {p : Item} (h : p ∈ rowJ ca cb x ys) : ∃ y ∈ ys, p = itemJ ca cb x y := by
 obtain ⟨y, hy, rfl⟩ := List.mem_map.1 h
 exact ⟨y, (List.mem_filter.1 hy).1, rfl⟩
theorem rowJ_len (ca cb : List ByteArray) (x : Item) (ys : List Item) : (rowJ ca cb x ys).length ≤ ys.length := by
 unfold rowJ; rw [List.length_map]; exact List.length_filter_le _ _
theorem itemsIK_tOk {a b : Table} (ha : tableM a = true) (hb : tableM b = true) {i : Nat} (hi : i < a.bag.items.length) (k : Nat) : ∀ p ∈ itemsIK a b i k, tOk p := fun p hp => by
 unfold itemsIK at hp
 rcases List.mem_append.1 hp with h | h
 ·obtain ⟨x, hx, h2⟩ := List.mem_flatMap.1 h
  obtain ⟨y, hy, rfl⟩ := rowJ_mem h2
  exact itemJ_tOk ha hb (List.mem_of_mem_take hx) hy
 obtain ⟨y, hy, rfl⟩ := rowJ_mem h
 exact itemJ_tOk ha hb (by rw [List.getElem?_eq_getElem hi]; exact List.getElem_mem hi) (List.mem_of_mem_take hy)
theorem itemsIK_len (a b : Table) (hb : b.bag.items.length ≤ 300) (i k : Nat) : (itemsIK a b i k).length ≤ 300 * i + 300 := by
 unfold itemsIK
 rw [List.length_append]
 have h1 := Nat.le_trans (rowJ_len a.cols b.cols (a.bag.items[i]?.getD default) (b.bag.items.take k)) (List.length_take_le' ..)
 have h2 : ∀ xs : List Item, (xs.flatMap fun x => rowJ a.cols b.cols x b.bag.items).length ≤ 300 * xs.length := by
  intro xs
  induction xs with
  | nil => simp
  | cons x xs ih =>
   rw [List.flatMap_cons, List.length_append, List.length_cons]
   have := rowJ_len a.cols b.cols x b.bag.items
   omega
 have h3 := h2 (a.bag.items.take i)
 have h4 : (a.bag.items.take i).length ≤ i := List.length_take_le ..
 omega
theorem table_row {t : Table} (h : tableM t = true) {i : Nat} (hi : i < t.bag.items.length) : (t.bag.items[i]?.getD default).row.length = t.cols.length ∧ (1 ≤ (t.bag.items[i]?.getD default).times ∧ (t.bag.items[i]?.getD default).times ≤ 1000000) ∧ rowM (t.bag.items[i]?.getD default).row = true := by
 obtain ⟨_, _, w⟩ := tableM_iff.1 h
 have h1 := bw_items w (t.bag.items[i]?.getD default) (by rw [List.getElem?_eq_getElem hi]; exact List.getElem_mem hi)
 exact ⟨h1.2.2, h1.1, h1.2.1⟩
theorem table_len {t : Table} (h : tableM t = true) : (1 ≤ t.cols.length ∧ t.cols.length ≤ 4) ∧ t.bag.items.length ≤ 300 := ⟨(cols_parts (tableM_iff.1 h).1).1, (tableM_iff.1 h).2.1⟩
theorem putIK {a b : Table} (ha : tableM a = true) (hb : tableM b = true) {i : Nat} (hi : i < a.bag.items.length) (k : Nat) : InvT (putsI [] (itemsIK a b i k)) ∧ (putsI [] (itemsIK a b i k)).length ≤ 300 * i + 300 := by
 have h := putsI_inv (ps := itemsIK a b i k) invT_nil (itemsIK_tOk ha hb hi k)
 have h2 := itemsIK_len a b (table_len hb).2 i k
 have h3 : ([] : List Item).length = 0 := rfl
 exact ⟨h.1, by omega⟩
theorem joinIK_yes {a b : Table} {i k : Nat} {r : List Int} (hk : k < b.bag.items.length) (hm : matK a.cols b.cols (a.bag.items[i]?.getD default).row (b.bag.items[k]?.getD default).row b.cols.length = true) (er : r = (a.bag.items[i]?.getD default).row ++ exK a.cols b.cols (b.bag.items[k]?.getD default).row b.cols.length) :
  putZ (putsI [] (itemsIK a b i k)) r (min ((a.bag.items[i]?.getD default).times * (b.bag.items[k]?.getD default).times) 1000000) (plR (putsI [] (itemsIK a b i k)) r) = putsI [] (itemsIK a b i (k + 1)) := by
 subst er
 rw [itemsIK_yes hk hm, putsI_snoc]; rfl
theorem mul_rng9 {x y : Int} (hx : 1 ≤ x ∧ x ≤ 1000000) (hy : 1 ≤ y ∧ y ≤ 1000000) : 1 ≤ min (x * y) 1000000 ∧ min (x * y) 1000000 ≤ 1000000 := by
 have h1 : 1 * 1 ≤ x * y := Int.mul_le_mul hx.1 hy.1 (by omega) (by omega)
 omega
def OwT (b0 : Option Addr) (c0 : Nat) (b1 : Option Addr) (c1 : Nat) (t : Table) (D : Hp) : Prop := ∃ Ac Ab, D.Perm (Ac ++ Ab) ∧ (gSl 9 gS).ow [.slice b0 t.cols.length c0] t.cols Ac ∧ (gSl 218 gItem).ow [.slice b1 t.bag.items.length c1] t.bag.items Ab
theorem owT_nil : OwT none 0 none 0 ⟨[], ⟨[]⟩⟩ [] := ⟨[], [], .refl _, sl_nil _ _ _, sl_nil _ _ _⟩
theorem table_rd {b0 : Option Addr} {c0 : Nat} {b1 : Option Addr} {c1 : Nat} {cs : List ByteArray} {ys : List Item} {A B H : Hp} (h1 : (gSl 9 gS).ow [.slice b0 cs.length c0] cs A) (h2 : (gSl 218 gItem).ow [.slice b1 ys.length c1] ys B) (hA : ∀ p ∈ A, p ∈ H) (hB : ∀ p ∈ B, p ∈ H) : gTable.rd H [.slice b0 cs.length c0, .slice b1 ys.length c1] ⟨cs, ⟨ys⟩⟩ :=
 gTable_rd.2 ⟨b0, c0, _, rfl, Rp.mono _ hA (Gt.owrd _ h1), gBag_rd.2 ⟨b1, c1, rfl, Rp.mono _ hB (Gt.owrd _ h2)⟩⟩
theorem specJoin_ct (la lb : List Value) (a b : Table) :
  Ct prog 220 [.agg ⟨la⟩, .agg ⟨lb⟩] [] (fun H => gTable.rd H la a ∧ gTable.rd H lb b)
   (fun v D => ∃ (b0 : Option Addr) (c0 : Nat) (b1 : Option Addr) (c1 : Nat), v = .tuple #[.agg ⟨[.slice b0 (joinM a b).1.cols.length c0, .slice b1 (joinM a b).1.bag.items.length c1]⟩, .bool (joinM a b).2] ∧ OwT b0 c0 b1 c1 (joinM a b).1 D) := by
 refine Ct.intro0 G_ok func220 rfl rfl rfl fun E H hp => ?_
 obtain ⟨hp, hq⟩ := hp
 obtain ⟨b0p, c0p, l1p, rfl, h0p, h1p⟩ := gTable_rd.1 hp
 obtain ⟨b0_1p, c0_1p, rfl, h0_1p⟩ := gBag_rd.1 h1p
 obtain ⟨b0q, c0q, l1q, rfl, h0q, h1q⟩ := gTable_rd.1 hq
 obtain ⟨b0_1q, c0_1q, rfl, h0_1q⟩ := gBag_rd.1 h1q
 have hla := (sl_len h0p).2.2
 have hlb := (sl_len h0q).2.2
 refine ⟨fun x0 => ?_⟩
 refine ⟨fun x1 => ?_⟩
 refine ⟨fun x2 => ?_⟩
 refine call_val (specTableOk_ct _ _) (by (try exact Rp.mono _ (mem_at 0 rfl) hp); (try exact Rp.mono _ (mem_at 0 rfl) hq); (try exact table_rd oA oB (mem_at 1 rfl) (mem_at 0 rfl))) ?_
 rintro _ rfl
 refine ⟨fun q4 => ?_, fun q4 => ?_⟩
 ·simp at q4
  (rw [join_no1 (by assumption)]; exact ⟨[], ⟨_, _, _, _, rfl, owT_nil⟩, .mem (by simp)⟩)
 ·simp at q4
  refine call_val (specTableOk_ct _ _) (by (try exact Rp.mono _ (mem_at 0 rfl) hp); (try exact Rp.mono _ (mem_at 0 rfl) hq); (try exact table_rd oA oB (mem_at 1 rfl) (mem_at 0 rfl))) ?_
  rintro _ rfl
  refine ⟨fun q6 => ?_, fun q6 => ?_⟩
  ·simp at q6
   (rw [join_no2 (by assumption)]; exact ⟨[], ⟨_, _, _, _, rfl, owT_nil⟩, .mem (by simp)⟩)
  ·simp at q6
   obtain ⟨⟨ha1, ha2⟩, ha3⟩ := table_len ‹tableM a = true›
   obtain ⟨⟨hb1, hb2⟩, hb3⟩ := table_len ‹tableM b = true›
   refine ⟨fun x7 => ?_⟩
   refine append_allN (g := gS) (T := (9 : TypeId)) G_ok (by repeat (first | exact fl_plain | apply plain_iso | apply plain_pair)) [] [[(x7, Obj.cells { toList := zeros (0 : Nat) [Value.string ByteArray.empty] } (9 : TypeId))], H] 1 ?_ (sl_nil _ _ _) rfl h0p rfl rfl rfl rfl rfl rfl rfl rfl ?_ fun b8 c8 A8 o8 => ?_
   ·exact .refl _
   ·simp; omega
   refine ⟨fun x9 => ?_⟩
   apply loop_mod (α := (Nat) × (List ByteArray) × (Hp) × (Option Addr) × (Nat)) G_ok [26, 27, 28, 29, 30, 33, 34, 35, 36, 37, 38, 39, 40, 41, 42, 43, 44, 45, 46, 47, 48, 49, 50, 51, 31, 32, 7] (fun z => [(7, .v (.int .i64 z.1))]) (fun z => [⟨x0, [Value.slice b0p a.cols.length c0p, Value.slice b0_1p a.bag.items.length c0_1p], (191 : Nat)⟩, ⟨x1, [Value.slice b0q b.cols.length c0q, Value.slice b0_1q b.bag.items.length c0_1q], (191 : Nat)⟩, ⟨x2, [Value.slice none (0 : Nat) (0 : Nat), Value.slice none (0 : Nat) (0 : Nat)], (191 : Nat)⟩, ⟨x9, [.slice z.2.2.2.1 z.2.1.length z.2.2.2.2, Value.slice none (0 : Nat) (0 : Nat)], (191 : Nat)⟩]) (fun z => [z.2.2.1, H]) (fun z => b.cols.length - z.1) (fun z => z.1 ≤ b.cols.length ∧ z.2.1 = colsJ a.cols (b.cols.take z.1) ∧ z.2.1.length ≤ 4 + z.1 ∧ (gSl 9 gS).ow [.slice z.2.2.2.1 z.2.1.length z.2.2.2.2] z.2.1 z.2.2.1) ((0, [] ++ a.cols, _, _, _))
   ·exact frI
   ·exact ⟨rfl, rfl, rfl, rfl, trivial⟩
   ·try dsimp only
    exact ⟨Nat.zero_le _, by simp [colsJ], by rw [List.nil_append]; omega, by assumption⟩
   ·exact rlA
   rintro ⟨k, cs, A, lb, lc⟩ hI
   try dsimp only at hI
   obtain ⟨hk, hcs, hcl, oA⟩ := hI
   try dsimp only
   refine ⟨fun q10 => ?_, fun q10 => ?_⟩
   ·simp at q10
    refine draw G_ok mixed none (.q 0 (.q 1 (.q 2 (.q 3 (.q 4 (.q 5 (.q 6 (.f 7 (.q 8 (.nil)))))))))) (by decide +kernel) ?_
    refine idx_rd h0q ?_ ?_ fun b11 o11 hb11 => ?_
    ·omega
    ·omega
    refine load_allN ByteArray.empty (k) rfl h0q ?_ ?_ hb11 rfl (mem_at 1 rfl) fun l12 hl12 => ?_
    ·omega
    ·omega
    obtain ⟨rfl, hw12⟩ := hl12; simp only [flStr, flInt, okI] at hw12
    refine call_val (l08In_ct _ _ _ (a.cols) _) (Rp.mono _ (mem_at 1 rfl) h0p) ?_
    rintro _ rfl
    refine VC.intro ?_ ?_
    ·exact fun _ h => h
    refine ⟨fun q14 => ?_, fun q14 => ?_⟩
    ·simp at q14
     refine draw G_ok mixed (some 8) (.q 0 (.q 1 (.q 2 (.q 3 (.q 4 (.q 5 (.q 6 (.f 7 (.tl 8 (.f 9 (.f 10 (.nil)))))))))))) (by decide +kernel) ?_
     refine idx_rd h0q ?_ ?_ fun b15 o15 hb15 => ?_
     ·omega
     ·omega
     refine load_allN ByteArray.empty (k) rfl h0q ?_ ?_ hb15 rfl (mem_at 1 rfl) fun l16 hl16 => ?_
     ·omega
     ·omega
     obtain ⟨rfl, hw16⟩ := hl16; simp only [flStr, flInt, okI] at hw16
     refine ⟨fun x17 => ?_⟩
     refine VC.intro ?_ ?_
     ·exact keep_new
     refine gappend1 (g := gS) (T := (9 : TypeId)) G_ok A [] [H] ?_ oA (gS_ow ?_) (List.mem_of_getElem? (i := 0) rfl) rfl rfl rfl rfl rfl rfl rfl rfl ?_ fun b18 c18 A18 o18 => ?_
     ·exact .tl
     ·trivial
     ·omega
     apply loop_stepA (k + 1, _, _, _, _)
     ·exact .refl _
     ·exact frI
     ·exact ⟨rfl, rfl, rfl, rfl, trivial⟩
     ·try dsimp only
      exact ⟨by omega, by rw [colsJ_yes (by omega) (by assumption), ← hcs], by rw [List.length_append, List.length_singleton]; omega, by assumption⟩
     try dsimp only
     omega
    ·simp at q14
     apply loop_stepA (k + 1, _, _, _, _)
     ·exact .refl _
     ·exact frI
     ·exact ⟨rfl, rfl, rfl, rfl, trivial⟩
     ·try dsimp only
      exact ⟨by omega, by rw [colsJ_no (by omega) (by assumption)]; exact hcs, by omega, oA⟩
     try dsimp only
     omega
   ·simp at q10
    have hke : k = b.cols.length := (by omega)
    subst hke
    rw [List.take_length] at hcs
    apply loop_mod (α := (Nat) × (List Item) × (Hp) × (Option Addr) × (Nat)) G_ok [52, 53, 54, 55, 56, 57, 9, 60, 61, 62, 63, 64, 65, 69, 70, 71, 72, 73, 74, 75, 76, 77, 78, 79, 80, 81, 82, 83, 84, 85, 68, 86, 87, 10, 11, 88, 89, 90, 91, 92, 93, 94, 95, 96, 97, 98, 99, 100, 101, 102, 103, 104, 105, 106, 107, 108, 66, 67, 58, 59, 8] (fun z => [(8, .v (.int .i64 z.1))]) (fun z => [⟨x0, [Value.slice b0p a.cols.length c0p, Value.slice b0_1p a.bag.items.length c0_1p], (191 : Nat)⟩, ⟨x1, [Value.slice b0q b.cols.length c0q, Value.slice b0_1q b.bag.items.length c0_1q], (191 : Nat)⟩, ⟨x2, [Value.slice none (0 : Nat) (0 : Nat), Value.slice none (0 : Nat) (0 : Nat)], (191 : Nat)⟩, ⟨x9, [Value.slice lb cs.length lc, .slice z.2.2.2.1 z.2.1.length z.2.2.2.2], (191 : Nat)⟩]) (fun z => [z.2.2.1, A, H]) (fun z => a.bag.items.length - z.1) (fun z => z.1 ≤ a.bag.items.length ∧ z.2.1 = putsI [] (itemsIK a b z.1 0) ∧ (gSl 218 gItem).ow [.slice z.2.2.2.1 z.2.1.length z.2.2.2.2] z.2.1 z.2.2.1) ((0, [], [], none, 0))
    ·exact frI
    ·exact ⟨rfl, rfl, rfl, rfl, trivial⟩
    ·try dsimp only
     exact ⟨Nat.zero_le _, by rw [itemsIK_zero]; rfl, sl_nil _ _ _⟩
    ·exact .refl _
    rintro ⟨i, xs, B, ib, ic⟩ hI
    try dsimp only at hI
    obtain ⟨hi, hxs, oB⟩ := hI
    try dsimp only
    refine ⟨fun q19 => ?_, fun q19 => ?_⟩
    ·simp at q19
     apply loop_mod (α := (Nat) × (List Item) × (Hp) × (Option Addr) × (Nat)) G_ok [60, 61, 62, 63, 64, 65, 69, 70, 71, 72, 73, 74, 75, 76, 77, 78, 79, 80, 81, 82, 83, 84, 85, 68, 86, 87, 10, 11, 88, 89, 90, 91, 92, 93, 94, 95, 96, 97, 98, 99, 100, 101, 102, 103, 104, 105, 106, 107, 108, 66, 67, 9] (fun z => [(9, .v (.int .i64 z.1))]) (fun z => [⟨x0, [Value.slice b0p a.cols.length c0p, Value.slice b0_1p a.bag.items.length c0_1p], (191 : Nat)⟩, ⟨x1, [Value.slice b0q b.cols.length c0q, Value.slice b0_1q b.bag.items.length c0_1q], (191 : Nat)⟩, ⟨x2, [Value.slice none (0 : Nat) (0 : Nat), Value.slice none (0 : Nat) (0 : Nat)], (191 : Nat)⟩, ⟨x9, [Value.slice lb cs.length lc, .slice z.2.2.2.1 z.2.1.length z.2.2.2.2], (191 : Nat)⟩]) (fun z => [z.2.2.1, A, H]) (fun z => b.bag.items.length - z.1) (fun z => z.1 ≤ b.bag.items.length ∧ z.2.1 = putsI [] (itemsIK a b i z.1) ∧ (gSl 218 gItem).ow [.slice z.2.2.2.1 z.2.1.length z.2.2.2.2] z.2.1 z.2.2.1) ((0, xs, B, ib, ic))
     ·exact frI
     ·exact ⟨rfl, rfl, rfl, rfl, trivial⟩
     ·try dsimp only
      exact ⟨Nat.zero_le _, hxs, oB⟩
     ·exact .refl _
     rintro ⟨k, xs1, B1, ib1, ic1⟩ hI
     try dsimp only at hI
     obtain ⟨hk2, hxs1, oB1⟩ := hI
     try dsimp only
     refine ⟨fun q20 => ?_, fun q20 => ?_⟩
     ·simp at q20
      obtain ⟨ta1, ta2, ta3⟩ := table_row ‹tableM a = true› (i := i) (by omega)
      obtain ⟨tb1, tb2, tb3⟩ := table_row ‹tableM b = true› (i := k) (by omega)
      obtain ⟨hiv, hln⟩ := putIK ‹tableM a = true› ‹tableM b = true› (i := i) (by omega) k
      rw [← hxs1] at hiv hln
      refine draw G_ok mixed none (.q 0 (.q 1 (.q 2 (.q 3 (.q 4 (.q 5 (.q 6 (.q 7 (.q 8 (.q 9 (.q 10 (.q 11 (.q 12 (.q 13 (.q 14 (.q 15 (.f 16 (.q 17 (.q 18 (.q 19 (.q 20 (.q 21 (.nil))))))))))))))))))))))) (by decide +kernel) ?_
      refine idx_rd h0_1p ?_ ?_ fun b21 o21 hb21 => ?_
      ·omega
      ·omega
      refine load_partN default (i) 0 rfl h0_1p ?_ ?_ hb21 rfl (by decide) (mem_at 2 rfl) fun l22 hl22 => ?_
      ·omega
      ·omega
      obtain ⟨b0x22, c0x22, rfl, h0x22, w1x22⟩ := gItem_rd.1 hl22
      refine idx_rd h0_1q ?_ ?_ fun b23 o23 hb23 => ?_
      ·omega
      ·omega
      refine load_partN default (k) 0 rfl h0_1q ?_ ?_ hb23 rfl (by decide) (mem_at 2 rfl) fun l24 hl24 => ?_
      ·omega
      ·omega
      obtain ⟨b0x24, c0x24, rfl, h0x24, w1x24⟩ := gItem_rd.1 hl24
      refine call_new (l10Both_ct _ _ _ _ _ _ _ _ (a) (b) ((a.bag.items[i]?.getD default).row) ((b.bag.items[k]?.getD default).row) ?_ ?_) ⟨(Rp.mono _ (mem_at 2 rfl) hp), (Rp.mono _ (mem_at 2 rfl) hq), (Rp.mono _ (mem_at 2 rfl) h0x22), (Rp.mono _ (mem_at 2 rfl) h0x24)⟩ ?_
      ·omega
      ·omega
      rintro v25 A25 o25
      obtain ⟨r25, b25, c25, rfl, o25, e25⟩ := o25
      refine VC.intro ?_ ?_
      ·exact keep_new
      refine ⟨fun q26 => ?_, fun q26 => ?_⟩
      ·have er := e25 (by assumption)
       have hrl : r25.length ≤ 1000 := (by rw [er, List.length_append]; have := exK_le a.cols b.cols (b.bag.items[k]?.getD default).row b.cols.length; omega)
       refine draw G_ok mixed (some 18) (.q 0 (.q 1 (.q 2 (.q 3 (.q 4 (.q 5 (.q 6 (.q 7 (.q 8 (.q 9 (.q 10 (.q 11 (.q 12 (.q 13 (.q 14 (.q 15 (.q 16 (.f 17 (.tl 18 (.f 19 (.f 20 (.nil)))))))))))))))))))))) (by decide +kernel) ?_
       refine idx_rd h0_1p ?_ ?_ fun b27 o27 hb27 => ?_
       ·omega
       ·omega
       refine load_partN default (i) 1 rfl h0_1p ?_ ?_ hb27 rfl (by decide) (mem_at 3 rfl) fun l28 hl28 => ?_
       ·omega
       ·omega
       obtain ⟨b0x28, c0x28, rfl, h0x28, w1x28⟩ := gItem_rd.1 hl28
       refine idx_rd h0_1q ?_ ?_ fun b29 o29 hb29 => ?_
       ·omega
       ·omega
       refine load_partN default (k) 1 rfl h0_1q ?_ ?_ hb29 rfl (by decide) (mem_at 3 rfl) fun l30 hl30 => ?_
       ·omega
       ·omega
       obtain ⟨b0x30, c0x30, rfl, h0x30, w1x30⟩ := gItem_rd.1 hl30
       refine call_val (l10Times_ct _ _ ?_ ?_) trivial ?_
       ·trivial
       ·trivial
       rintro _ rfl
       refine VC.intro ?_ ?_
       ·exact fun _ h => h
       refine callR_part (B1) [A25, A, H] (l03Put_ct _ _ _ _ _ _ xs1 _ (r25) (min ((a.bag.items[i]?.getD default).times * (b.bag.items[k]?.getD default).times) 1000000) (plR xs1 (r25)) oB1 ?_ ?_ ?_ ?_ ?_) ?_ (Rp.mono _ (mem_at 0 rfl) (Gt.owrd _ o25)) ?_
       ·omega
       ·trivial
       ·exact mul_rng9 ta2 tb2
       ·exact hiv.2
       ·exact plR_at hiv.1
       ·exact rlA
       rintro _ A32 ⟨b32, c32, rfl, o32⟩
       refine ⟨[A32], by simp, ?_⟩
       apply loop_stepA (k + 1, _, _, _, _)
       ·exact .sub (by repeat (first | exact .slnil | apply List.Sublist.cons_cons | apply List.Sublist.cons))
       ·exact frI
       ·exact ⟨rfl, rfl, rfl, rfl, trivial⟩
       ·try dsimp only
        exact ⟨by omega, by rw [hxs1]; exact joinIK_yes (by omega) (by assumption) er, by assumption⟩
       try dsimp only
       omega
      ·apply loop_stepA (k + 1, xs1, B1, ib1, ic1)
       ·exact .sub (by repeat (first | exact .slnil | apply List.Sublist.cons_cons | apply List.Sublist.cons))
       ·exact frI
       ·exact ⟨rfl, rfl, rfl, rfl, trivial⟩
       ·try dsimp only
        exact ⟨by omega, by rw [itemsIK_no (by omega) (by assumption)]; exact hxs1, oB1⟩
       try dsimp only
       omega
     ·simp at q20
      apply loop_stepA (i + 1, _, _, _, _)
      ·exact .refl _
      ·exact frI
      ·exact ⟨rfl, rfl, rfl, rfl, trivial⟩
      ·try dsimp only
       exact ⟨by omega, by rw [itemsIK_next (k := k) (by omega) (by omega)]; exact hxs1, oB1⟩
      try dsimp only
      omega
    ·simp at q19
     have hie : i = a.bag.items.length := (by omega)
     subst hie
     rw [itemsIK_end _ _ (Nat.le_refl _)] at hxs
     refine call_val (specTableOk_ct _ _) (by (try exact Rp.mono _ (mem_at 0 rfl) hp); (try exact Rp.mono _ (mem_at 0 rfl) hq); (try exact table_rd oA oB (mem_at 1 rfl) (mem_at 0 rfl))) ?_
     rintro _ rfl
     refine ⟨fun q34 => ?_, fun q34 => ?_⟩
     ·simp at q34
      (subst hcs; subst hxs; rw [join_no3 (by assumption)]; exact ⟨[], ⟨_, _, _, _, rfl, owT_nil⟩, .mem (by simp)⟩)
     ·simp at q34
      (subst hcs; subst hxs; rw [join_yes ‹tableM a = true› ‹tableM b = true› (by assumption)]; exact ⟨A ++ B, ⟨_, _, _, _, rfl, A, B, .refl _, oA, oB⟩, rlB⟩)
end
section
attribute [local irreducible] IntKind.wrap
theorem map_step9 {f : ByteArray → Int} {xs : List ByteArray} {k : Nat} (hk : k < xs.length) : (xs.take (k + 1)).map f = (xs.take k).map f ++ [f (xs[k]?.getD ByteArray.empty)] := by
 rw [← List.take_append_getElem hk, List.map_append, List.getElem?_eq_getElem hk]; rfl
theorem okI_get9 {vs : List Int} (h : ∀ x ∈ vs, okI x) (i : Nat) : okI (vs[i]?.getD 0) := by
 by_cases hi : i < vs.length
 ·rw [List.getElem?_eq_getElem hi]; exact h _ (List.getElem_mem hi)
 rw [List.getElem?_eq_none (by omega)]; unfold okI; simp
theorem lookupRow_ct (b1 : Option Addr) (m1 c1 : Nat) (b2 : Option Addr) (m2 c2 : Nat) (b3 : Option Addr) (m3 c3 : Nat) (ns : List ByteArray) (vs : List Int) (nm : List ByteArray) (hh : ∀ s ∈ nm, hasS ns s = true) (hl : ns.length ≤ vs.length) (hn : nm.length ≤ 1000) (hv : ∀ x ∈ vs, okI x) :
  Ct prog 233 [.agg ⟨[.slice b1 m1 c1, .slice b2 m2 c2]⟩, .slice b3 m3 c3] [] (fun H => (gSl 9 gS).rd H [.slice b1 m1 c1] ns ∧ (gSl 3 gI).rd H [.slice b2 m2 c2] vs ∧ (gSl 9 gS).rd H [.slice b3 m3 c3] nm)
   (fun v D => ∃ b c, v = .slice b (nm.map (tv ns vs)).length c ∧ (gSl 3 gI).ow [.slice b (nm.map (tv ns vs)).length c] (nm.map (tv ns vs)) D) := by
 refine Ct.intro0 G_ok func233 rfl rfl rfl fun E H hp => ?_
 obtain ⟨hp, hq, hr⟩ := hp
 obtain ⟨rfl, hcl, hl1⟩ := sl_len hp
 obtain ⟨rfl, hcl2, hl2⟩ := sl_len hq
 obtain ⟨rfl, hcl3, hl3⟩ := sl_len hr
 refine ⟨fun x0 => ?_⟩
 apply loop_mod (α := (Nat) × (List Int) × (Hp) × (Option Addr) × (Nat)) G_ok [11, 12, 13, 7, 14, 15, 16, 17, 18, 19, 5, 20, 10] (fun z => [(10, .v (.int .i64 z.1)), (5, .v (.slice z.2.2.2.1 z.2.1.length z.2.2.2.2))]) (fun z => [{ id := x0, cs := [Value.slice b1 ns.length c1, Value.slice b2 vs.length c2], ty := (223 : Nat) }]) (fun z => [z.2.2.1, H]) (fun z => nm.length - z.1) (fun z => z.1 ≤ nm.length ∧ z.2.1 = (nm.take z.1).map (tv ns vs) ∧ (gSl 3 gI).ow [.slice z.2.2.2.1 z.2.1.length z.2.2.2.2] z.2.1 z.2.2.1) ((0, [], [], none, 0))
 ·exact frI
 ·exact ⟨rfl, trivial⟩
 ·try dsimp only
  exact ⟨Nat.zero_le _, rfl, sl_nil _ _ _⟩
 ·exact .refl _
 rintro ⟨k, out, D, lb, lc⟩ hI
 try dsimp only at hI
 obtain ⟨hk, ho, oD⟩ := hI
 try dsimp only
 refine ⟨fun q1 => ?_, fun q1 => ?_⟩
 ·simp at q1
  have hhk := hh (nm[k]?.getD ByteArray.empty) (by rw [List.getElem?_eq_getElem (by omega)]; exact List.getElem_mem _)
  have hol : out.length ≤ k := (by rw [ho, List.length_map]; exact List.length_take_le ..)
  refine idx_rd hr ?_ ?_ fun b2 o2 hb2 => ?_
  ·omega
  ·omega
  refine load_allN ByteArray.empty (k) rfl hr ?_ ?_ hb2 rfl (mem_at 1 rfl) fun l3 hl3 => ?_
  ·omega
  ·omega
  obtain ⟨rfl, hw3⟩ := hl3; simp only [flStr, flInt, okI] at hw3
  refine call_val (lookupOf_ct _ _ _ _ _ _ ns vs _ hhk hl) ⟨Rp.mono _ (sub_hall (by simp)) hp, Rp.mono _ (sub_hall (by simp)) hq⟩ ?_
  rintro _ rfl
  refine ⟨fun x5 => ?_⟩
  refine gappend1 (g := gI) (T := (3 : TypeId)) G_ok D [] [H] ?_ oD (gI_ow ?_) (List.mem_of_getElem? (i := 0) rfl) rfl rfl rfl rfl rfl rfl rfl rfl ?_ fun b6 c6 A6 o6 => ?_
  ·exact .tl
  ·exact okI_get9 hv _
  ·omega
  apply loop_stepA (k + 1, _, _, _, _)
  ·exact .refl _
  ·exact frI
  ·exact ⟨rfl, trivial⟩
  ·try dsimp only
   exact ⟨by omega, by rw [map_step9 (by omega), ho]; rfl, by assumption⟩
  try dsimp only
  omega
 ·simp at q1
  (have hke : k = nm.length := (by omega); subst hke; rw [List.take_length] at ho; subst ho; exact ⟨_, ⟨_, _, rfl, oD⟩, rlB⟩)
theorem ow_zero9 {α : Type} {f : Fl α} {T : TypeId} {b : Option Addr} {m c : Nat} {xs : List α} {A : Hp} (h : Ow f T (.slice b m c) xs A) : Ow f T (.slice b 0 c) [] A := by
 obtain ⟨h1, h2, base, cap, e, h3⟩ := h
 cases e
 refine ⟨by simp, by simp, b, c, rfl, ?_⟩
 rcases h3 with ⟨rfl, rfl, rfl⟩ | ⟨bb, sp, rfl, rfl, h4, h5⟩
 ·exact .inl ⟨rfl, rfl, rfl⟩
 refine .inr ⟨bb, xs.flatMap f.enc ++ sp, rfl, by simp, by simp, ?_⟩
 rw [List.length_append, flat_length]
 have e5 : (c - 0) * f.size = xs.length * f.size + (c - xs.length) * f.size := by rw [← Nat.add_mul]; congr 1; omega
 show (c - 0) * f.size ≤ _
 omega
theorem sb_ow9 {α : Type} {f : Fl α} {T : TypeId} {b : Option Addr} {m c : Nat} {xs : List α} {A : Hp} (h : Ow f T (.slice b m c) xs A) (sz : Nat) : subBase c 0 b sz = b := by
 obtain ⟨h1, h2, base, c0, e, h3⟩ := h
 cases e
 rcases h3 with ⟨rfl, rfl, rfl⟩ | ⟨bb, sp, rfl, rfl, h4, h5⟩
 ·rw [subBase_eq]; split
  ·rfl
  rename_i hh; exact absurd rfl hh
 rw [subBase_eq]; split
 ·rfl
 rw [Option.map_some, addr_add]; simp
theorem okI_zero9 : flInt.wf (0 : Int) := by show okI 0; unfold okI; omega
theorem growInt_ct (n : Nat) (hn : n ≤ 4000000) :
  Ct prog 405 [.slice none 0 0, .int .i64 (n : Int)] [] (fun _ => True) (fun v A => ∃ b c, v = .slice b 0 c ∧ (gSl 3 gI).ow [.slice b 0 c] [] A) := by
 refine Ct.intro0 G_ok func405 rfl rfl rfl fun E H hp => ?_
 have hwn : IntKind.i64.wrap ((n : Int) - IntKind.i64.wrap (((0 : Nat) : Int) - ((0 : Nat) : Int))) = (n : Int) := by
  have e1 : IntKind.i64.wrap (((0 : Nat) : Int) - ((0 : Nat) : Int)) = 0 := wrap_of (by omega) (by omega)
  rw [e1, wrap_of (by omega) (by omega)]; omega
 refine ⟨fun q0 => ?_, fun q0 => ?_⟩
 ·simp at q0
  exfalso; omega
 ·simp at q0
  refine ⟨fun q1 => ?_, fun q1 => ?_⟩
  ·simp at q1
   simp (disch := omega) only [wrap_of] at q1
   refine VC.intro ?_ ?_
   ·trivial
   refine append_zeros (f := flInt) (z := (0 : Int)) (xs := []) (base := none) (m := 0) (cap := 0) (k := n) G_ok rfl (congrArg (fun v => SV.v (Value.int .i64 v)) hwn) (Rp.mono _ (fun _ h => absurd h (by simp)) (Ow.rd (Ow.nil (f := flInt) 3 none))) (fun _ h => nomatch h) rfl rfl rfl rfl rfl okI_zero9 rfl ?_ ?_ ?_ fun b' c' A' o' => ?_
   ·omega
   ·omega
   ·omega
   refine VC.intro ?_ ?_
   ·omega
   exact ⟨A', ⟨b', c', congrArg (fun x => Value.slice x 0 c') (sb_ow9 o' _), ow_fl (ow_zero9 o')⟩, rlA⟩
  ·simp at q1
   simp (disch := omega) only [wrap_of] at q1
   exact ⟨[], ⟨none, 0, rfl, sl_nil _ _ _⟩, .mem (by simp)⟩
theorem flat_next9 {α : Type} {ys : List (List α)} {k : Nat} (hk : k < ys.length) : (ys.take (k + 1)).flatten = (ys.take k).flatten ++ ys[k]?.getD [] := by
 rw [← List.take_append_getElem hk, List.flatten_append, List.getElem?_eq_getElem hk]; simp
theorem flat_part9 {α : Type} {ys : List (List α)} {k : Nat} : (ys.take k).flatten.length ≤ ys.flatten.length := by
 conv => rhs; rw [← List.take_append_drop k ys]
 rw [List.flatten_append, List.length_append]; omega
theorem flat_one9 {α : Type} {ys : List (List α)} {k : Nat} (hk : k < ys.length) : (ys.take k).flatten.length + (ys[k]?.getD []).length ≤ ys.flatten.length := by
 have h1 := flat_next9 hk
 have h2 := flat_part9 (ys := ys) (k := k + 1)
 rw [h1, List.length_append] at h2; exact h2
theorem concatInt_ct (b : Option Addr) (m c : Nat) (ys : List (List Int)) (hn : ys.flatten.length ≤ 4000000) :
  Ct prog 368 [.slice b m c] [] (fun H => (gSl 27 (gSl 3 gI)).rd H [.slice b m c] ys) (fun v A => ∃ b c, v = .slice b ys.flatten.length c ∧ (gSl 3 gI).ow [.slice b ys.flatten.length c] ys.flatten A) := by
 refine Ct.intro0 G_ok func368 rfl rfl rfl fun E H hp => ?_
 obtain ⟨rfl, hcl, hl⟩ := sl_len hp
 apply loop_mod (α := (Nat)) G_ok [12, 13, 14, 5, 15, 16, 17, 18, 3, 19, 20, 21, 22, 11] (fun z => [(11, .v (.int .i64 z)), (3, .v (.int .i64 (((ys.take z).flatten.length : Nat) : Int)))]) (fun z => []) (fun z => [H]) (fun z => ys.length - z) (fun z => z ≤ ys.length) (0)
 ·repeat' (first | exact trivial | refine ⟨⟨_, rfl, by first | rfl | exact inc_eq _ (by omega) | (refine sl_eq ?_; simp; done) | exact congrArg (fun v => SV.v (Value.int .i64 v)) hf2 | exact congrArg (fun v => Value.int .i64 v) hf2 | (refine sl_eq ?_; rw [flat_next9 (by omega)]), by first | exact trivial | simp [SV.ok]⟩, ?_⟩)
 ·exact trivial
 ·omega
 ·exact .refl _
 rintro k hI
 obtain hk : k ≤ ys.length := hI
 try dsimp only
 refine ⟨fun q0 => ?_, fun q0 => ?_⟩
 ·simp at q0
  have hf1 := flat_one9 (by omega : k < ys.length)
  have hf2 : IntKind.i64.wrap ((((ys.take k).flatten.length : Nat) : Int) + (((ys[k]?.getD []).length : Nat) : Int)) = (((ys.take (k + 1)).flatten.length : Nat) : Int) := by (rw [wrap_of (by omega) (by omega), flat_next9 (by omega), List.length_append]; push_cast; rfl)
  refine idx_rd hp ?_ ?_ fun b1 o1 hb1 => ?_
  ·omega
  ·omega
  refine load_allN [] (k) rfl hp ?_ ?_ hb1 rfl (mem_at 0 rfl) fun l2 hl2 => ?_
  ·omega
  ·omega
  obtain ⟨u2, w2, rfl, hl2⟩ := sl_rd hl2
  refine ⟨fun q3 => ?_, fun q3 => ?_⟩
  ·rw [hf2] at q3
   simp at q3
   exfalso; omega
  ·rw [hf2] at q3
   simp at q3
   apply loop_stepA (k + 1)
   ·exact .refl _
   ·repeat' (first | exact trivial | refine ⟨⟨_, rfl, by first | rfl | exact inc_eq _ (by omega) | (refine sl_eq ?_; simp; done) | exact congrArg (fun v => SV.v (Value.int .i64 v)) hf2 | exact congrArg (fun v => Value.int .i64 v) hf2 | (refine sl_eq ?_; rw [flat_next9 (by omega)]), by first | exact trivial | simp [SV.ok]⟩, ?_⟩)
   ·exact trivial
   ·trivial
   omega
 ·simp at q0
  obtain rfl : k = ys.length := by omega
  rw [List.take_length]
  refine call_new (growInt_ct _ ?_) trivial ?_
  ·trivial
  rintro v4 A4 o4
  obtain ⟨b4, c4, rfl, o4⟩ := o4
  apply loop_mod (α := (Nat) × (Hp) × (Option Addr) × (Nat)) G_ok [28, 29, 30, 8, 31, 32, 33, 6, 34, 27] (fun z => [(27, .v (.int .i64 z.1)), (6, .v (.slice z.2.2.1 (ys.take z.1).flatten.length z.2.2.2))]) (fun z => []) (fun z => [z.2.1, H]) (fun z => ys.length - z.1) (fun z => z.1 ≤ ys.length ∧ (gSl 3 gI).ow [.slice z.2.2.1 (ys.take z.1).flatten.length z.2.2.2] (ys.take z.1).flatten z.2.1) ((0, _, _, _))
  ·repeat' (first | exact trivial | refine ⟨⟨_, rfl, by first | rfl | exact inc_eq _ (by omega) | (refine sl_eq ?_; simp; done) | exact congrArg (fun v => SV.v (Value.int .i64 v)) hf2 | exact congrArg (fun v => Value.int .i64 v) hf2 | (refine sl_eq ?_; rw [flat_next9 (by omega)]), by first | exact trivial | simp [SV.ok]⟩, ?_⟩)
  ·exact trivial
  ·try dsimp only
   exact ⟨Nat.zero_le _, by assumption⟩
  ·exact .refl _
  rintro ⟨k, A, lb, lc⟩ hI
  try dsimp only at hI
  obtain ⟨hk, oA⟩ := hI
  try dsimp only
  refine ⟨fun q5 => ?_, fun q5 => ?_⟩
  ·simp at q5
   have hf1 := flat_one9 (by omega : k < ys.length)
   refine idx_rd hp ?_ ?_ fun b6 o6 hb6 => ?_
   ·omega
   ·omega
   refine load_allN [] (k) rfl hp ?_ ?_ hb6 rfl (mem_at 1 rfl) fun l7 hl7 => ?_
   ·omega
   ·omega
   obtain ⟨u7, w7, rfl, hl7⟩ := sl_rd hl7
   refine append_allN (g := gI) (T := (3 : TypeId)) G_ok (by repeat (first | exact fl_plain | apply plain_iso | apply plain_pair)) A [H] 0 ?_ oA rfl hl7 rfl rfl rfl rfl rfl rfl rfl rfl ?_ fun b8 c8 A8 o8 => ?_
   ·exact .refl _
   ·omega
   apply loop_stepA (k + 1, _, _, _)
   ·exact .refl _
   ·repeat' (first | exact trivial | refine ⟨⟨_, rfl, by first | rfl | exact inc_eq _ (by omega) | (refine sl_eq ?_; simp; done) | exact congrArg (fun v => SV.v (Value.int .i64 v)) hf2 | exact congrArg (fun v => Value.int .i64 v) hf2 | (refine sl_eq ?_; rw [flat_next9 (by omega)]), by first | exact trivial | simp [SV.ok]⟩, ?_⟩)
   ·exact trivial
   ·try dsimp only
    (rw [flat_next9 (by omega)]; exact ⟨by omega, by assumption⟩)
   try dsimp only
   omega
  ·simp at q5
   (have hke : k = ys.length := (by omega); subst hke; rw [List.take_length] at oA ⊢; exact ⟨_, ⟨_, _, rfl, oA⟩, rlB⟩)
end
section
attribute [local irreducible] IntKind.wrap
theorem put_finT {xs ys : List Item} {r : List Int} {t : Int} {k q n : Nat} {w : Bool} {bc : Option Addr} {mc cc : Nat} {b : Option Addr} {c : Nat} {A : Hp} (e : putB xs r t k = (ys, w)) (hk : rowM r = true ∧ (0 < xs.length → (rowI xs 0).length = r.length) → atR xs r k) (hn : n = ys.length) (o : (gSl 218 gItem).ow [.slice b n c] ys A) :
  ∃ k b' c' A', (rowM r = true ∧ (0 < xs.length → (rowI xs 0).length = r.length) → atR xs r k) ∧ Value.bool w = .bool (putB xs r t k).2 ∧ (q, Obj.cells ⟨[.slice bc mc cc, .slice b n c]⟩ 191) :: A = (q, Obj.cells ⟨[.slice bc mc cc, .slice b' (putB xs r t k).1.length c']⟩ 191) :: A' ∧ (gSl 218 gItem).ow [.slice b' (putB xs r t k).1.length c'] (putB xs r t k).1 A' := by
 subst hn
 exact ⟨k, b, c, A, hk, by rw [e], by rw [e], by rw [e]; exact o⟩
theorem bagPutT_ct (q : Nat) (bc : Option Addr) (mc cc : Nat) (b : Option Addr) (c : Nat) (xs : List Item) (A : Hp) (b2 : Option Addr) (m2 c2 : Nat) (r : List Int) (t : Int) (ho : (gSl 218 gItem).ow [.slice b xs.length c] xs A) (hs : sortedR xs) (hx : xs.length ≤ 300) (ht : 1 ≤ t ∧ t ≤ 1000000) (hxt : ∀ i, i < xs.length → 1 ≤ (xs[i]?.getD default).times ∧ (xs[i]?.getD default).times ≤ 1000000) :
  CtR prog 79 [.pointer (some ⟨q, 1, none⟩), .slice b2 m2 c2, .int .i64 t] ((q, Obj.cells ⟨[.slice bc mc cc, .slice b xs.length c]⟩ 191) :: A) (fun H => (gSl 3 gI).rd H [.slice b2 m2 c2] r)
   (fun v D => ∃ k b c A, (rowM r = true ∧ (0 < xs.length → (rowI xs 0).length = r.length) → atR xs r k) ∧ v = .bool (putB xs r t k).2 ∧ D = (q, Obj.cells ⟨[.slice bc mc cc, .slice b (putB xs r t k).1.length c]⟩ 191) :: A ∧ (gSl 218 gItem).ow [.slice b (putB xs r t k).1.length c] (putB xs r t k).1 A) := by
 refine CtR.introB G_ok [.p 0 1, .v (.slice b2 m2 c2), .v (.int .i64 t)] [⟨q, [.slice bc mc cc, .slice b xs.length c], 191⟩] [A] func79 rfl rfl rfl rfl (by simp [SV.ok]) (by simp [Blk.ent]) fun E H hp => ?_
 obtain ⟨rfl, hcl2, hl2⟩ := sl_len hp
 have hrd := Gt.owrd _ ho
 refine call_val (implRowOk_ct _ _ _ (r)) (Rp.mono _ (mem_at 1 rfl) hp) ?_
 rintro _ rfl
 refine ⟨fun q1 => ?_, fun q1 => ?_⟩
 ·simp at q1
  exact ⟨_, put_finT (k := 0) (putB_no1 (by assumption)) (fun e => by rw [‹rowM r = false›] at e; cases e.1) rfl ho, rlB⟩
 ·simp at q1
  refine ⟨fun q2 => ?_, fun q2 => ?_⟩
  ·simp at q2
   refine idx_rd hrd ?_ ?_ fun b3 o3 hb3 => ?_
   ·trivial
   ·omega
   refine load_partN default (0) 0 rfl hrd ?_ ?_ hb3 rfl (by decide) (mem_at 0 rfl) fun l4 hl4 => ?_
   ·trivial
   ·omega
   obtain ⟨b0x4, c0x4, rfl, h0x4, w1x4⟩ := gItem_rd.1 hl4
   refine ⟨fun q5 => ?_, fun q5 => ?_⟩
   ·simp at q5
    exact ⟨_, put_finT (k := 0) (putB_no2 (by omega) (by show ¬ (xs[0]?.getD default).row.length = r.length; omega)) (fun e => absurd (e.2 (by omega)) (by show ¬ (xs[0]?.getD default).row.length = r.length; omega)) rfl ho, rlB⟩
   ·simp at q5
    refine call_val (placeOf_ct _ _ _ _ _ _ xs r hs (by omega)) ⟨(Rp.mono _ (mem_at 0 rfl) hrd), (Rp.mono _ (mem_at 1 rfl) hp)⟩ ?_
    rintro _ ⟨kk, hkk, rfl⟩
    refine ⟨fun q7 => ?_, fun q7 => ?_⟩
    ·simp at q7
     refine draw G_ok mixed (some 18) (.q 0 (.q 1 (.q 2 (.q 3 (.q 4 (.q 5 (.q 6 (.q 7 (.q 8 (.q 9 (.q 10 (.q 11 (.q 12 (.q 13 (.q 14 (.f 15 (.q 16 (.q 17 (.tl 18 (.nil)))))))))))))))))))) (by decide +kernel) ?_
     refine idx_rd hrd ?_ ?_ fun b8 o8 hb8 => ?_
     ·omega
     ·omega
     refine load_partN default (kk) 1 rfl hrd ?_ ?_ hb8 rfl (by decide) (mem_at 0 rfl) fun l9 hl9 => ?_
     ·omega
     ·omega
     obtain ⟨b0x9, c0x9, rfl, h0x9, w1x9⟩ := gItem_rd.1 hl9
     refine VC.intro ?_ ?_
     ·exact fun _ h => h
     refine idx_rd hrd ?_ ?_ fun b10 o10 hb10 => ?_
     ·omega
     ·omega
     refine gstoreN gItem_times default (kk) 0 rfl rfl ho ?_ ?_ hb10 rfl gI_pl _ (gI_ow ?_) fun A11 o11 => ?_
     ·omega
     ·omega
     ·exact min_ok9 (by have := hxt _ (‹_ ∧ rowI xs _ = r›).1; omega)
     exact ⟨_, put_finT (k := kk) (putB_hit (by assumption) (fun _ => by show (xs[0]?.getD default).row.length = r.length; omega) (by assumption)) (fun _ => hkk) (by rw [List.length_set]) (by rw [← min_eq9 (by have := hxt kk (‹_ ∧ rowI xs kk = r›).1; omega)]; assumption), rlB⟩
    ·simp at q7
     refine ⟨fun q12 => ?_, fun q12 => ?_⟩
     ·simp at q12
      exact ⟨_, put_finT (k := kk) (putB_full (by assumption) (fun h0 => by show (xs[0]?.getD default).row.length = r.length; omega) (by first | assumption | (exact fun e => absurd e.1 (by omega)) | (rintro ⟨h8, h9⟩; exact absurd h9 (by simp_all))) (by omega)) (fun _ => hkk) rfl ho, rlB⟩
     ·simp at q12
      refine draw G_ok mixed (some 11) (.q 0 (.q 1 (.q 2 (.q 3 (.q 4 (.q 5 (.q 6 (.q 8 (.f 7 (.q 9 (.f 10 (.tl 11 (.f 12 (.f 13 (.f 14 (.nil)))))))))))))))) (by decide +kernel) ?_
      refine call_new (cloneI_ct _ _ _ (r) ?_) (Rp.mono _ (mem_at 1 rfl) hp) ?_
      ·(rw [szI9]; have := rowM_len ‹rowM r = true›; omega)
      rintro v13 A13 o13
      obtain ⟨bR, cR, rfl, oR⟩ := o13
      generalize A13 = AR at *
      refine VC.intro ?_ ?_
      ·exact keep_new
      refine ⟨fun x14 => ?_⟩
      refine VC.intro ?_ ?_
      ·exact keep_new
      refine callR_part (A ++ AR) [[(_, Obj.cells ⟨.slice bR r.length cR :: .int .i64 t :: List.append [] (zeros 0 [.slice none 0 0, .int .i64 0])⟩ 218)], H] (insItem_ct _ _ _ _ _ xs ⟨r, t⟩ _ A AR ho (item_ow9 oR ht) ?_ ?_) ?_ (mem_at 0 rfl _ (List.mem_singleton.2 rfl)) ?_
      ·exact hkk.1
      ·omega
      ·exact rlA
      rintro _ AI ⟨bI, cI, rfl, oI⟩
      refine ⟨[AI], by simp, ?_⟩
      exact ⟨_, put_finT (k := kk) (putB_new (by assumption) (fun h0 => by show (xs[0]?.getD default).row.length = r.length; omega) (by first | assumption | (exact fun e => absurd e.1 (by omega)) | (rintro ⟨h8, h9⟩; exact absurd h9 (by simp_all))) (by omega)) (fun _ => hkk) rfl oI, rlB⟩
  ·simp at q2
   have hlz : xs.length = 0 := (congrArg List.length q2)
   refine call_val (placeOf_ct _ _ _ _ _ _ xs r hs (by omega)) ⟨(Rp.mono _ (mem_at 0 rfl) hrd), (Rp.mono _ (mem_at 1 rfl) hp)⟩ ?_
   rintro _ ⟨kk, hkk, rfl⟩
   refine ⟨fun q17 => ?_, fun q17 => ?_⟩
   ·simp at q17
    exfalso; omega
   ·simp at q17
    refine ⟨fun q18 => ?_, fun q18 => ?_⟩
    ·simp at q18
     exfalso; omega
    ·simp at q18
     refine draw G_ok mixed (some 11) (.q 0 (.q 1 (.q 2 (.q 3 (.q 4 (.q 5 (.q 6 (.q 8 (.f 7 (.q 9 (.f 10 (.tl 11 (.f 12 (.f 13 (.f 14 (.nil)))))))))))))))) (by decide +kernel) ?_
     refine call_new (cloneI_ct _ _ _ (r) ?_) (Rp.mono _ (mem_at 1 rfl) hp) ?_
     ·(rw [szI9]; have := rowM_len ‹rowM r = true›; omega)
     rintro v19 A19 o19
     obtain ⟨bR, cR, rfl, oR⟩ := o19
     generalize A19 = AR at *
     refine VC.intro ?_ ?_
     ·exact keep_new
     refine ⟨fun x20 => ?_⟩
     refine VC.intro ?_ ?_
     ·exact keep_new
     refine callR_part (A ++ AR) [[(_, Obj.cells ⟨.slice bR r.length cR :: .int .i64 t :: List.append [] (zeros 0 [.slice none 0 0, .int .i64 0])⟩ 218)], H] (insItem_ct _ _ _ _ _ xs ⟨r, t⟩ _ A AR ho (item_ow9 oR ht) ?_ ?_) ?_ (mem_at 0 rfl _ (List.mem_singleton.2 rfl)) ?_
     ·exact hkk.1
     ·omega
     ·exact rlA
     rintro _ AI ⟨bI, cI, rfl, oI⟩
     refine ⟨[AI], by simp, ?_⟩
     exact ⟨_, put_finT (k := kk) (putB_new (by assumption) (fun h0 => by show (xs[0]?.getD default).row.length = r.length; omega) (by first | assumption | (exact fun e => absurd e.1 (by omega)) | (rintro ⟨h8, h9⟩; exact absurd h9 (by simp_all))) (by omega)) (fun _ => hkk) rfl oI, rlB⟩
end
end Go.Proofs.YtjgehblllhkdbaaGreat
namespace Go.SX
open Go.Proofs Go.Sort Go.Shelf
section
variable {P : Program} {ρ : Ren} {γ : Type}
def OwZ (g : Gt γ) (zs : List (RawC g.size × γ)) (As : List Hp) : Prop := OwL g (zs.map (·.1)) (zs.map (·.2)) As
theorem OwZ.zip {g : Gt γ} {ls : List (RawC g.size)} {xs : List γ} {As : List Hp} (h : OwL g ls xs As) : OwZ g (ls.zip xs) As := by
 obtain ⟨e1, _⟩ := h.len
 unfold OwZ
 rw [List.map_fst_zip (by omega), List.map_snd_zip (by omega)]
 exact h
theorem OwZ.cons_inv {g : Gt γ} {z : RawC g.size × γ} {zs : List (RawC g.size × γ)} {As : List Hp} (h : OwZ g (z :: zs) As) : ∃ A Bs, As = A :: Bs ∧ g.ow z.1.1 z.2 A ∧ OwZ g zs Bs := by
 unfold OwZ at h
 rw [List.map_cons, List.map_cons] at h
 cases h with
 | cons h1 h2 => exact ⟨_, _, rfl, h1, h2⟩
theorem OwZ.cons {g : Gt γ} {z : RawC g.size × γ} {zs : List (RawC g.size × γ)} {A : Hp} {As : List Hp} (h : g.ow z.1.1 z.2 A) (h2 : OwZ g zs As) : OwZ g (z :: zs) (A :: As) := by
 unfold OwZ
 rw [List.map_cons, List.map_cons]
 exact .cons h h2
theorem OwZ.perm {g : Gt γ} {zs zs' : List (RawC g.size × γ)} (hp : zs.Perm zs') : ∀ {As : List Hp}, OwZ g zs As → ∃ Bs, OwZ g zs' Bs ∧ As.flatten.Perm Bs.flatten := by
 induction hp with
 | nil => intro As h; exact ⟨As, h, .refl _⟩
 | cons z _ ih =>
  intro As h
  obtain ⟨A, Bs, rfl, h1, h2⟩ := h.cons_inv
  obtain ⟨Cs, h3, h4⟩ := ih h2
  exact ⟨A :: Cs, .cons h1 h3, by simpa using h4.append_left A⟩
 | swap z y r =>
  intro As h
  obtain ⟨A, As, rfl, h1, h2⟩ := h.cons_inv
  obtain ⟨B, Bs, rfl, h3, h4⟩ := h2.cons_inv
  refine ⟨B :: A :: Bs, .cons h3 (.cons h1 h4), ?_⟩
  simp only [List.flatten_cons]
  rw [← List.append_assoc, ← List.append_assoc]
  exact List.perm_append_comm.append_right _
 | trans _ _ ih1 ih2 =>
  intro As h
  obtain ⟨Bs, h1, h2⟩ := ih1 h
  obtain ⟨Cs, h3, h4⟩ := ih2 h1
  exact ⟨Cs, h3, h2.trans h4⟩
theorem OwZ.sub {g : Gt γ} {zs zs' : List (RawC g.size × γ)} (hp : zs'.Sublist zs) : ∀ {As : List Hp}, OwZ g zs As → ∃ Bs L, OwZ g zs' Bs ∧ As.flatten.Perm (Bs.flatten ++ L) := by
 induction hp with
 | slnil => intro As h; exact ⟨As, [], h, by simp⟩
 | cons z _ ih =>
  intro As h
  obtain ⟨A, As, rfl, h1, h2⟩ := h.cons_inv
  obtain ⟨Bs, L, h3, h4⟩ := ih h2
  refine ⟨Bs, A ++ L, h3, ?_⟩
  rw [List.flatten_cons]
  refine (h4.append_left A).trans ?_
  rw [← List.append_assoc, ← List.append_assoc]
  exact List.perm_append_comm.append_right _
 | cons_cons z _ ih =>
  intro As h
  obtain ⟨A, As, rfl, h1, h2⟩ := h.cons_inv
  obtain ⟨Bs, L, h3, h4⟩ := ih h2
  refine ⟨A :: Bs, L, .cons h1 h3, ?_⟩
  rw [List.flatten_cons, List.flatten_cons, List.append_assoc]
  exact h4.append_left A
theorem OwZ.all {g : Gt γ} {T : TypeId} {base : Option Addr} {n cap : Nat} {zs : List (RawC g.size × γ)} {A0 A : Hp} {As : List Hp} (h : OwZ g zs As) (ho : Ow (flRaw g.size g.pos) T (.slice base n cap) (zs.map (·.1)) A0) (hp : A.Perm (A0 ++ As.flatten)) : (gSl T g).ow [.slice base n cap] (zs.map (·.2)) A :=
 ⟨_, _, A0, As, rfl, ho, hp, h⟩
end
end Go.SX
namespace Go.Proofs.YtjgehblllhkdbaaGreat
open Go.SX Go.Proofs
open Tryz
section
attribute [local irreducible] IntKind.wrap
theorem sEqualI_ct (b1 : Option Addr) (m1 c1 : Nat) (b2 : Option Addr) (m2 c2 : Nat) (a b : List Int) : Ct prog 183 [.slice b1 m1 c1, .slice b2 m2 c2] [] (fun H => (gSl 3 gI).rd H [.slice b1 m1 c1] a ∧ (gSl 3 gI).rd H [.slice b2 m2 c2] b) (fun v A => v = .bool (decide (a = b)) ∧ A = []) := by
 refine Ct.intro0 G_ok func183 rfl rfl rfl fun E H hp => ?_
 obtain ⟨hp, hq⟩ := hp
 obtain ⟨rfl, hc1, hl1⟩ := sl_len hp
 obtain ⟨rfl, hc2, hl2⟩ := sl_len hq
 refine ⟨fun q0 => ?_, fun q0 => ?_⟩
 ·simp at q0
  exact ⟨[], ⟨by rw [decide_eq_false (fun e => by subst e; exact absurd rfl (by assumption))], rfl⟩, .refl _⟩
 ·simp at q0
  apply loop_mod (α := (Nat)) G_ok [14, 15, 5, 16, 17, 18, 19, 20, 21, 22, 23, 24, 4, 25, 13] (fun z => [(13, .v (.int .i64 z))]) (fun z => []) (fun z => [H]) (fun z => a.length - z) (fun z => z ≤ a.length ∧ allK (fun i => decide ((a[i]?.getD 0) = (b[i]?.getD 0))) z = true) ((0))
  ·exact frI
  ·exact trivial
  ·exact ⟨Nat.zero_le _, rfl⟩
  ·exact .refl _
  rintro k hI
  try dsimp only at hI
  obtain ⟨hk, ha⟩ := hI
  try dsimp only
  refine ⟨fun q1 => ?_, fun q1 => ?_⟩
  ·simp at q1
   refine draw G_ok mixed none (.q 0 (.q 1 (.q 2 (.q 3 (.q 4 (.q 5 (.q 6 (.q 7 (.q 8 (.nil)))))))))) (by decide +kernel) ?_
   refine idx_rd hp ?_ ?_ fun b2 o2 hb2 => ?_
   ·omega
   ·omega
   refine load_allN 0 (k) rfl hp ?_ ?_ hb2 rfl (mem_at 0 rfl) fun l3 hl3 => ?_
   ·omega
   ·omega
   obtain ⟨rfl, hw3⟩ := hl3; simp only [flStr, flInt, okI] at hw3
   refine idx_rd hq ?_ ?_ fun b4 o4 hb4 => ?_
   ·omega
   ·omega
   refine load_allN 0 (k) rfl hq ?_ ?_ hb4 rfl (mem_at 0 rfl) fun l5 hl5 => ?_
   ·omega
   ·omega
   obtain ⟨rfl, hw5⟩ := hl5; simp only [flStr, flInt, okI] at hw5
   refine ⟨fun q6 => ?_, fun q6 => ?_⟩
   ·simp at q6
    exact ⟨[], ⟨by rw [decide_eq_false (fun e => by subst e; exact absurd rfl (by assumption))], rfl⟩, .refl _⟩
   ·simp at q6
    apply loop_stepA (k + 1)
    ·exact .refl _
    ·exact frI
    ·exact trivial
    ·exact ⟨by omega, allK_step ha (decide_eq_true (by assumption))⟩
    omega
  ·simp at q1
   (have hke : k = a.length := (by omega); subst hke; exact ⟨[], ⟨by rw [decide_eq_true (rows_eq (by omega) ha)], rfl⟩, .refl _⟩)
theorem OwZ.reads {γ : Type} {g : Gt γ} : ∀ {zs : List (RawC g.size × γ)} {As : List Hp}, OwZ g zs As → ∀ z ∈ zs, g.rd As.flatten z.1.1 z.2
 | [], _, _, z, hz => by cases hz
 | y :: zs, As, h, z, hz => by
  obtain ⟨A, Bs, rfl, h1, h2⟩ := h.cons_inv
  rw [List.flatten_cons]
  rcases List.mem_cons.1 hz with rfl | hz
  ·exact g.mono (fun p hp => List.mem_append_left _ hp) (g.owrd h1)
  exact g.mono (fun p hp => List.mem_append_right _ hp) (OwZ.reads h2 z hz)
end
section
attribute [local irreducible] IntKind.wrap
theorem comm_yes {ca cb : List ByteArray} {k : Nat} (hk : k < cb.length) (h : hasS ca (cb[k]?.getD ByteArray.empty) = true) : comm ca (cb.take (k + 1)) = comm ca (cb.take k) ++ [cb[k]?.getD ByteArray.empty] := by
 unfold comm; rw [filter_step9 hk, h]; rfl
theorem comm_no {ca cb : List ByteArray} {k : Nat} (hk : k < cb.length) (h : hasS ca (cb[k]?.getD ByteArray.empty) = false) : comm ca (cb.take (k + 1)) = comm ca (cb.take k) := by
 unfold comm; rw [filter_step9 hk, h]; simp
theorem extr_yes {ca cb : List ByteArray} {k : Nat} (hk : k < cb.length) (h : hasS ca (cb[k]?.getD ByteArray.empty) = false) : extr ca (cb.take (k + 1)) = extr ca (cb.take k) ++ [cb[k]?.getD ByteArray.empty] := by
 unfold extr; rw [filter_step9 hk, h]; rfl
theorem extr_no {ca cb : List ByteArray} {k : Nat} (hk : k < cb.length) (h : hasS ca (cb[k]?.getD ByteArray.empty) = true) : extr ca (cb.take (k + 1)) = extr ca (cb.take k) := by
 unfold extr; rw [filter_step9 hk, h]; simp
theorem szS9 : ∀ l : List ByteArray, (∀ s ∈ l, s.size ≤ 4) → szL gS l ≤ 5 * l.length
 | [], _ => Nat.le_refl _
 | s :: l, h => by
  have h1 := szS9 l fun x hx => h x (List.mem_cons_of_mem _ hx)
  have h2 := h s List.mem_cons_self
  show 1 + s.size + szL gS l ≤ _
  rw [List.length_cons]; omega
theorem name_size9 {s : ByteArray} (h : nameOk s = true) : s.size ≤ 4 := by
 unfold nameOk at h
 rw [Bool.and_eq_true, Bool.and_eq_true, inR_iff] at h
 omega
theorem cols_sz9 {cs : List ByteArray} (h : colsOk cs = true) : szL gS cs ≤ 1048576 := by
 obtain ⟨h1, _, h3⟩ := cols_parts h
 have := szS9 cs fun s hs => name_size9 (h3 s hs)
 omega
theorem itemsIK_pOk {a b : Table} (ha : tableM a = true) (hb : tableM b = true) (hc : (colsJ a.cols b.cols).length ≤ 4) {i : Nat} (hi : i < a.bag.items.length) (k : Nat) : ∀ p ∈ itemsIK a b i k, pOk (colsJ a.cols b.cols).length p := fun p hp => by
 unfold itemsIK at hp
 rcases List.mem_append.1 hp with h | h
 ·obtain ⟨x, hx, h2⟩ := List.mem_flatMap.1 h
  obtain ⟨y, hy, rfl⟩ := rowJ_mem h2
  exact itemJ_ok ha hb hc (List.mem_of_mem_take hx) hy
 obtain ⟨y, hy, rfl⟩ := rowJ_mem h
 exact itemJ_ok ha hb hc (by rw [List.getElem?_eq_getElem hi]; exact List.getElem_mem hi) (List.mem_of_mem_take hy)
theorem rowJ_two (ca cb : List ByteArray) (x : Item) (ys : List Item) (k : Nat) : rowJ ca cb x (ys.take k) ++ rowJ ca cb x (ys.drop k) = rowJ ca cb x ys := by
 unfold rowJ
 rw [← List.map_append, ← List.filter_append, List.take_append_drop]
theorem itemsJ_split {a b : Table} {i : Nat} (hi : i < a.bag.items.length) (k : Nat) : ∃ rest, itemsJ a b = itemsIK a b i k ++ rest := by
 have e : a.bag.items = a.bag.items.take i ++ (a.bag.items[i] :: a.bag.items.drop (i + 1)) := by rw [List.getElem_cons_drop, List.take_append_drop]
 refine ⟨rowJ a.cols b.cols (a.bag.items[i]?.getD default) (b.bag.items.drop k) ++ (a.bag.items.drop (i + 1)).flatMap fun x => rowJ a.cols b.cols x b.bag.items, ?_⟩
 unfold itemsIK itemsJ
 rw [List.append_assoc, ← List.append_assoc (rowJ a.cols b.cols (a.bag.items[i]?.getD default) (b.bag.items.take k)), rowJ_two]
 have h1 : (a.bag.items.flatMap fun x => rowJ a.cols b.cols x b.bag.items) = (a.bag.items.take i ++ (a.bag.items[i] :: a.bag.items.drop (i + 1))).flatMap fun x => rowJ a.cols b.cols x b.bag.items := by rw [← e]
 rw [h1, List.flatMap_append, List.flatMap_cons, List.getElem?_eq_getElem hi]; rfl
theorem putJ_mono {a b : Table} (ha : tableM a = true) (hb : tableM b = true) {i : Nat} (hi : i < a.bag.items.length) (k : Nat) : (putsI [] (itemsIK a b i k)).length ≤ (putsI [] (itemsJ a b)).length := by
 obtain ⟨rest, e⟩ := itemsJ_split (a := a) (b := b) hi k
 have ht : ∀ p ∈ itemsJ a b, tOk p := fun p hp => by
  obtain ⟨x, hx, h⟩ := List.mem_flatMap.1 hp
  obtain ⟨y, hy, rfl⟩ := rowJ_mem h
  exact itemJ_tOk ha hb hx hy
 have h1 := putsI_mono (ps := itemsJ a b) (ys := []) invT_nil ht (itemsIK a b i k).length
 rw [e, List.take_left] at h1
 rw [e]; exact h1
theorem joinP {a b : Table} (ha : tableM a = true) (hb : tableM b = true) (hc : (colsJ a.cols b.cols).length ≤ 4) {i k kp : Nat} {xs : List Item} (hi : i < a.bag.items.length) (hk : k < b.bag.items.length) (hx : xs = putsI [] (itemsIK a b i k)) (hl : xs.length ≤ 300)
  (hm : matK a.cols b.cols (a.bag.items[i]?.getD default).row (b.bag.items[k]?.getD default).row b.cols.length = true) {r : List Int} (er : r = (a.bag.items[i]?.getD default).row ++ exK a.cols b.cols (b.bag.items[k]?.getD default).row b.cols.length)
  (hat : rowM r = true ∧ (0 < xs.length → (rowI xs 0).length = r.length) → atR xs r kp) :
  putB xs r (min ((a.bag.items[i]?.getD default).times * (b.bag.items[k]?.getD default).times) 1000000) kp = if (putsI [] (itemsIK a b i (k + 1))).length ≤ 300 then (putsI [] (itemsIK a b i (k + 1)), true) else (xs, false) := by
 have hbw : BW (colsJ a.cols b.cols).length xs := by rw [hx]; exact putsI_bw (bw_nil _) (itemsIK_pOk ha hb hc hi k)
 have hp := itemJ_ok ha hb hc (x := a.bag.items[i]?.getD default) (y := b.bag.items[k]?.getD default) (by rw [List.getElem?_eq_getElem hi]; exact List.getElem_mem hi) (by rw [List.getElem?_eq_getElem hk]; exact List.getElem_mem hk)
 have e : putsI [] (itemsIK a b i (k + 1)) = putI xs (itemJ a.cols b.cols (a.bag.items[i]?.getD default) (b.bag.items[k]?.getD default)) := by rw [itemsIK_yes hk hm, putsI_snoc, hx]
 have hw : rowM r = true ∧ (0 < xs.length → (rowI xs 0).length = r.length) := by
  subst er
  exact ⟨hp.2.1, fun h0 => by
   have h1 := hp.2.2
   rw [(hbw.rows _ (mem_rowsI.2 ⟨0, h0, rfl⟩)).2]
   exact h1.symm⟩
 subst er
 have h2 := putB_put hbw hl hp (k := kp) (hat hw)
 rw [e]; exact h2
theorem joinP_no {a b : Table} (ha : tableM a = true) (hb : tableM b = true) (hc : (colsJ a.cols b.cols).length ≤ 4) {i k kp : Nat} {xs : List Item} (hi : i < a.bag.items.length) (hk : k < b.bag.items.length) (hx : xs = putsI [] (itemsIK a b i k)) (hl : xs.length ≤ 300)
  (hm : matK a.cols b.cols (a.bag.items[i]?.getD default).row (b.bag.items[k]?.getD default).row b.cols.length = true) {r : List Int} (er : r = (a.bag.items[i]?.getD default).row ++ exK a.cols b.cols (b.bag.items[k]?.getD default).row b.cols.length)
  (hat : rowM r = true ∧ (0 < xs.length → (rowI xs 0).length = r.length) → atR xs r kp) (h : (putB xs r (min ((a.bag.items[i]?.getD default).times * (b.bag.items[k]?.getD default).times) 1000000) kp).2 = false) : tableM (tableJ a b) = false := by
 rw [joinP ha hb hc hi hk hx hl hm er hat] at h
 split at h
 ·cases h
 rename_i h1
 rw [← Bool.not_eq_true, tableJ_iff ha hb]
 rintro ⟨_, h2⟩
 have := putJ_mono ha hb hi (k + 1)
 omega
theorem joinP_yes {a b : Table} (ha : tableM a = true) (hb : tableM b = true) (hc : (colsJ a.cols b.cols).length ≤ 4) {i k kp : Nat} {xs : List Item} (hi : i < a.bag.items.length) (hk : k < b.bag.items.length) (hx : xs = putsI [] (itemsIK a b i k)) (hl : xs.length ≤ 300)
  (hm : matK a.cols b.cols (a.bag.items[i]?.getD default).row (b.bag.items[k]?.getD default).row b.cols.length = true) {r : List Int} (er : r = (a.bag.items[i]?.getD default).row ++ exK a.cols b.cols (b.bag.items[k]?.getD default).row b.cols.length)
  (hat : rowM r = true ∧ (0 < xs.length → (rowI xs 0).length = r.length) → atR xs r kp) (h : (putB xs r (min ((a.bag.items[i]?.getD default).times * (b.bag.items[k]?.getD default).times) 1000000) kp).2 = true) :
  (putB xs r (min ((a.bag.items[i]?.getD default).times * (b.bag.items[k]?.getD default).times) 1000000) kp).1 = putsI [] (itemsIK a b i (k + 1)) ∧ (putB xs r (min ((a.bag.items[i]?.getD default).times * (b.bag.items[k]?.getD default).times) 1000000) kp).1.length ≤ 300 := by
 rw [joinP ha hb hc hi hk hx hl hm er hat] at h ⊢
 split at h
 ·rename_i h1; rw [if_pos h1]; exact ⟨rfl, h1⟩
 cases h
theorem mulcap9 {x y : Int} (hx : 1 ≤ x ∧ x ≤ 1000000) (hy : 1 ≤ y ∧ y ≤ 1000000) : (if 1000000 < IntKind.i64.wrap (x * y) then 1000000 else IntKind.i64.wrap (x * y)) = min (x * y) 1000000 := by
 have h1 : x * y ≤ 1000000 * 1000000 := Int.mul_le_mul hx.2 hy.2 (by omega) (by omega)
 have h2 : 1 * 1 ≤ x * y := Int.mul_le_mul hx.1 hy.1 (by omega) (by omega)
 rw [wrap_of (by omega) (by omega)]
 split <;> omega
theorem bagPutX_ct (q : Nat) (bc : Option Addr) (mc cc : Nat) (b : Option Addr) (c : Nat) (xs : List Item) (A : Hp) (b2 : Option Addr) (m2 c2 : Nat) (r : List Int) (t t' : Int) (et : t' = t) (ho : (gSl 218 gItem).ow [.slice b xs.length c] xs A) (hs : sortedR xs) (hx : xs.length ≤ 300) (ht : 1 ≤ t ∧ t ≤ 1000000) (hxt : ∀ i, i < xs.length → 1 ≤ (xs[i]?.getD default).times ∧ (xs[i]?.getD default).times ≤ 1000000) :
  CtR prog 79 [.pointer (some ⟨q, 1, none⟩), .slice b2 m2 c2, .int .i64 t'] ((q, Obj.cells ⟨[.slice bc mc cc, .slice b xs.length c]⟩ 191) :: A) (fun H => (gSl 3 gI).rd H [.slice b2 m2 c2] r)
   (fun v D => ∃ k b c A, (rowM r = true ∧ (0 < xs.length → (rowI xs 0).length = r.length) → atR xs r k) ∧ v = .bool (putB xs r t k).2 ∧ D = (q, Obj.cells ⟨[.slice bc mc cc, .slice b (putB xs r t k).1.length c]⟩ 191) :: A ∧ (gSl 218 gItem).ow [.slice b (putB xs r t k).1.length c] (putB xs r t k).1 A) := by
 subst et; exact bagPutT_ct q bc mc cc b c xs A b2 m2 c2 r t' ho hs hx ht hxt
theorem lit2_rd9 {H : Hp} {x : Nat} {b1 b2 : Option Addr} {c1 c2 : Nat} {r1 r2 : List Int} {T : TypeId} (h : (x, Obj.cells ⟨[.slice b1 r1.length c1, .slice b2 r2.length c2]⟩ T) ∈ H) (h1 : (gSl 3 gI).rd H [.slice b1 r1.length c1] r1) (h2 : (gSl 3 gI).rd H [.slice b2 r2.length c2] r2) :
  (gSl 27 (gSl 3 gI)).rd H [.slice (some ⟨x, 0, none⟩) 2 2] [r1, r2] := by
 refine ⟨some ⟨x, 0, none⟩, 2, rfl, by simp, fun i hi => ?_⟩
 have hi2 : i < 2 := hi
 rcases i with _ | _ | i
 ·exact ⟨x, 0, _, rfl, ⟨rfl, _, _, _, h, fun j hj => by have h9 : j = 0 := Nat.lt_one_iff.1 hj; subst h9; rfl⟩, h1⟩
 ·exact ⟨x, 0, _, rfl, ⟨rfl, _, _, _, h, fun j hj => by have h9 : j = 0 := Nat.lt_one_iff.1 hj; subst h9; rfl⟩, h2⟩
 omega
theorem row_okI9 {r : List Int} (h : rowM r = true) : ∀ x ∈ r, okI x := fun x hx => by have := rowM_at h hx; unfold okI; omega
theorem two_flat9 (r1 r2 : List Int) : [r1, r2].flatten = r1 ++ r2 := by simp
theorem comm_yes9 {ca cb cc : List ByteArray} {x y : List Int} (hd : distM cb = true) (hcc : cc = comm ca cb) (h : ∀ s, s ∈ cc → tv ca x s = tv cb y s) : matK ca cb x y cb.length = true := (comm_same hd).1 (by rw [← hcc]; exact List.map_congr_left h)
theorem comm_no9 {ca cb cc : List ByteArray} {x y : List Int} (hd : distM cb = true) (hcc : cc = comm ca cb) (h : ∃ s, s ∈ cc ∧ ¬ tv ca x s = tv cb y s) : matK ca cb x y cb.length = false := by
 rw [← Bool.not_eq_true]
 intro h2
 obtain ⟨s, hs, hn⟩ := h
 have h3 := (comm_same hd).2 h2
 rw [← hcc, List.map_inj_left] at h3
 exact hn (h3 s hs)
theorem join_fin {a b : Table} {ce : List ByteArray} {b18 ib : Option Addr} {c18 ic : Nat} {A B : Hp} (h1 : tableM a = true) (h2 : tableM b = true) (h3 : tableM (tableJ a b) = true) (hcJ : colsJ a.cols b.cols = a.cols ++ ce) (o : (gSl 9 gS).ow [.slice b18 (a.cols ++ ce).length c18] (a.cols ++ ce) A) (oB : (gSl 218 gItem).ow [.slice ib (putsI [] (itemsJ a b)).length ic] (putsI [] (itemsJ a b)) B) :
  ∃ (b0 : Option Addr) (c0 : Nat) (b1 : Option Addr) (c1 : Nat), Value.tuple ⟨[.agg ⟨[.slice b18 (a.cols ++ ce).length c18, .slice ib (putsI [] (itemsJ a b)).length ic]⟩, .bool true]⟩ = .tuple #[.agg ⟨[.slice b0 (joinM a b).1.cols.length c0, .slice b1 (joinM a b).1.bag.items.length c1]⟩, .bool (joinM a b).2] ∧ OwT b0 c0 b1 c1 (joinM a b).1 (A ++ B) := by
 rw [join_yes h1 h2 h3]
 refine ⟨b18, c18, ib, ic, ?_, A, B, .refl _, ?_, oB⟩
 ·show _ = Value.tuple #[.agg ⟨[.slice b18 (colsJ a.cols b.cols).length c18, .slice ib (putsI [] (itemsJ a b)).length ic]⟩, .bool true]
  rw [hcJ]
 show (gSl 9 gS).ow [.slice b18 (colsJ a.cols b.cols).length c18] (colsJ a.cols b.cols) A
 rw [hcJ]; exact o
theorem implJoin_ct (la lb : List Value) (a b : Table) :
  Ct prog 303 [.agg ⟨la⟩, .agg ⟨lb⟩] [] (fun H => gTable.rd H la a ∧ gTable.rd H lb b)
   (fun v D => ∃ (b0 : Option Addr) (c0 : Nat) (b1 : Option Addr) (c1 : Nat), v = .tuple #[.agg ⟨[.slice b0 (joinM a b).1.cols.length c0, .slice b1 (joinM a b).1.bag.items.length c1]⟩, .bool (joinM a b).2] ∧ OwT b0 c0 b1 c1 (joinM a b).1 D) := by
 refine Ct.intro0 G_ok func303 rfl rfl rfl fun E H hp => ?_
 obtain ⟨hp, hq⟩ := hp
 obtain ⟨b0p, c0p, l1p, rfl, h0p, h1p⟩ := gTable_rd.1 hp
 obtain ⟨b0_1p, c0_1p, rfl, h0_1p⟩ := gBag_rd.1 h1p
 obtain ⟨b0q, c0q, l1q, rfl, h0q, h1q⟩ := gTable_rd.1 hq
 obtain ⟨b0_1q, c0_1q, rfl, h0_1q⟩ := gBag_rd.1 h1q
 have hla := (sl_len h0p).2.2
 have hlb := (sl_len h0q).2.2
 refine ⟨fun x0 => ?_⟩
 refine ⟨fun x1 => ?_⟩
 refine ⟨fun x2 => ?_⟩
 refine call_val (implTableOk_ct _ (a)) (Rp.mono _ (mem_at 0 rfl) hp) ?_
 rintro _ rfl
 refine ⟨fun q4 => ?_, fun q4 => ?_⟩
 ·simp at q4
  (rw [join_no1 (by assumption)]; exact ⟨[], ⟨_, _, _, _, rfl, owT_nil⟩, .mem (by simp)⟩)
 ·simp at q4
  refine call_val (implTableOk_ct _ (b)) (Rp.mono _ (mem_at 0 rfl) hq) ?_
  rintro _ rfl
  refine ⟨fun q6 => ?_, fun q6 => ?_⟩
  ·simp at q6
   (rw [join_no2 (by assumption)]; exact ⟨[], ⟨_, _, _, _, rfl, owT_nil⟩, .mem (by simp)⟩)
  ·simp at q6
   obtain ⟨⟨ha1, ha2⟩, ha3⟩ := table_len ‹tableM a = true›
   obtain ⟨⟨hb1, hb2⟩, hb3⟩ := table_len ‹tableM b = true›
   refine call_new (cloneS_ct _ _ _ (a.cols) ?_) (Rp.mono _ (mem_at 0 rfl) h0p) ?_
   ·exact cols_sz9 (tableM_iff.1 ‹tableM a = true›).1
   rintro v7 A7 o7
   obtain ⟨b7, c7, rfl, o7⟩ := o7
   refine ⟨fun x8 => ?_⟩
   apply loop_mod (α := (Nat) × (List ByteArray) × (Hp) × (Option Addr) × (Nat) × (List ByteArray) × (Hp) × (Option Addr) × (Nat)) G_ok [35, 36, 37, 10, 38, 39, 40, 41, 42, 43, 44, 45, 7, 46, 47, 48, 49, 8, 50, 34] (fun z => [(34, .v (.int .i64 z.1)), (8, .v (.slice z.2.2.2.1 z.2.1.length z.2.2.2.2.1)), (7, .v (.slice z.2.2.2.2.2.2.2.1 z.2.2.2.2.2.1.length z.2.2.2.2.2.2.2.2))]) (fun z => [{ id := x0, cs := [Value.slice b0p a.cols.length c0p, Value.slice b0_1p a.bag.items.length c0_1p] ++ [], ty := (191 : Nat) }, { id := x1, cs := [Value.slice b0q b.cols.length c0q, Value.slice b0_1q b.bag.items.length c0_1q] ++ [], ty := (191 : Nat) }, { id := x2, cs := [Value.slice none (0 : Nat) (0 : Nat), Value.slice none (0 : Nat) (0 : Nat)], ty := (191 : Nat) }, { id := x8, cs := [Value.slice b7 a.cols.length c7, Value.slice none (0 : Nat) (0 : Nat)], ty := (191 : Nat) }]) (fun z => [z.2.2.1, z.2.2.2.2.2.2.1, A7, H]) (fun z => b.cols.length - z.1) (fun z => z.1 ≤ b.cols.length ∧ z.2.1 = extr a.cols (b.cols.take z.1) ∧ z.2.2.2.2.2.1 = comm a.cols (b.cols.take z.1) ∧ z.2.1.length ≤ z.1 ∧ z.2.2.2.2.2.1.length ≤ z.1 ∧ (gSl 9 gS).ow [.slice z.2.2.2.1 z.2.1.length z.2.2.2.2.1] z.2.1 z.2.2.1 ∧ (gSl 9 gS).ow [.slice z.2.2.2.2.2.2.2.1 z.2.2.2.2.2.1.length z.2.2.2.2.2.2.2.2] z.2.2.2.2.2.1 z.2.2.2.2.2.2.1) ((0, [], [], none, 0, [], [], none, 0))
   ·exact frI
   ·exact ⟨rfl, rfl, rfl, rfl, trivial⟩
   ·try dsimp only
    exact ⟨Nat.zero_le _, rfl, rfl, Nat.le_refl _, Nat.le_refl _, sl_nil _ _ _, sl_nil _ _ _⟩
   ·exact .refl _
   rintro ⟨k, ce, Ae, eb, ec, cc, Ac, cb, cn⟩ hI
   try dsimp only at hI
   obtain ⟨hk, hce, hcc, hel, hcl, oE, oC⟩ := hI
   try dsimp only
   refine ⟨fun q9 => ?_, fun q9 => ?_⟩
   ·simp at q9
    refine idx_rd h0q ?_ ?_ fun b10 o10 hb10 => ?_
    ·omega
    ·omega
    refine load_allN ByteArray.empty (k) rfl h0q ?_ ?_ hb10 rfl (mem_at 3 rfl) fun l11 hl11 => ?_
    ·omega
    ·omega
    obtain ⟨rfl, hw11⟩ := hl11; simp only [flStr, flInt, okI] at hw11
    refine call_val (sContainsS_ct _ _ _ (a.cols) _) (Rp.mono _ (mem_at 3 rfl) h0p) ?_
    rintro _ rfl
    refine ⟨fun q13 => ?_, fun q13 => ?_⟩
    ·refine ⟨fun x14 => ?_⟩
     refine gappend1 (g := gS) (T := (9 : TypeId)) G_ok Ac [] [Ae, A7, H] ?_ oC (gS_ow ?_) (List.mem_of_getElem? (i := 0) rfl) rfl rfl rfl rfl rfl rfl rfl rfl ?_ fun b15 c15 A15 o15 => ?_
     ·exact rlA
     ·trivial
     ·omega
     apply loop_stepI (k + 1, ce, Ae, eb, ec, _, _, _, _)
     ·exact frI
     ·exact ⟨rfl, rfl, rfl, rfl, trivial⟩
     ·try dsimp only
      exact ⟨by omega, by rw [extr_no (by omega) (by assumption)]; exact hce, by rw [comm_yes (by omega) (by assumption), ← hcc], by omega, by rw [List.length_append, List.length_singleton]; omega, oE, by assumption⟩
     ·exact rlA
     try dsimp only
     omega
    ·refine ⟨fun x16 => ?_⟩
     refine gappend1 (g := gS) (T := (9 : TypeId)) G_ok Ae [] [Ac, A7, H] ?_ oE (gS_ow ?_) (List.mem_of_getElem? (i := 0) rfl) rfl rfl rfl rfl rfl rfl rfl rfl ?_ fun b17 c17 A17 o17 => ?_
     ·exact .tl
     ·trivial
     ·omega
     apply loop_stepA (k + 1, _, _, _, _, cc, Ac, cb, cn)
     ·exact .refl _
     ·exact frI
     ·exact ⟨rfl, rfl, rfl, rfl, trivial⟩
     ·try dsimp only
      exact ⟨by omega, by rw [extr_yes (by omega) (by assumption), ← hce], by rw [comm_no (by omega) (by assumption)]; exact hcc, by rw [List.length_append, List.length_singleton]; omega, by omega, by assumption, oC⟩
     try dsimp only
     omega
   ·simp at q9
    have hke : k = b.cols.length := (by omega)
    subst hke
    rw [List.take_length] at hce hcc
    have hcJ : colsJ a.cols b.cols = a.cols ++ ce := (by rw [hce]; rfl)
    have hc1 : ∀ s ∈ cc, hasS a.cols s = true := (fun s hs => by rw [hcc] at hs; exact (List.mem_filter.1 hs).2)
    have hc2 : ∀ s ∈ cc, hasS b.cols s = true := (fun s hs => by rw [hcc] at hs; exact hasS_iff.2 (List.mem_filter.1 hs).1)
    have he1 : ∀ s ∈ ce, hasS b.cols s = true := (fun s hs => by rw [hce] at hs; exact hasS_iff.2 (List.mem_filter.1 hs).1)
    have hdb := (cols_parts (tableM_iff.1 ‹tableM b = true›).1).2.1
    refine append_allN (g := gS) (T := (9 : TypeId)) G_ok (by repeat (first | exact fl_plain | apply plain_iso | apply plain_pair)) A7 [Ae, Ac, H] 0 ?_ o7 rfl (Gt.owrd _ oE) rfl rfl rfl rfl rfl rfl rfl rfl ?_ fun b18 c18 A18 o18 => ?_
    ·exact rlA
    ·omega
    refine ⟨fun q19 => ?_, fun q19 => ?_⟩
    ·simp at q19
     (rw [join_no3 (table_no2 (colsOk_long (by show 4 < (colsJ a.cols b.cols).length; rw [hcJ, List.length_append]; omega)))]; exact ⟨[], ⟨_, _, _, _, rfl, owT_nil⟩, .mem (by simp)⟩)
    ·simp at q19
     have hcl4 : (colsJ a.cols b.cols).length ≤ 4 := (by rw [hcJ, List.length_append]; omega)
     apply loop_mod (α := (Nat) × (List Item) × (Hp) × (Option Addr) × (Nat)) G_ok [66, 67, 68, 12, 69, 70, 71, 72, 73, 13, 74, 75, 76, 77, 78, 79, 80, 81, 15, 82, 83, 84, 85, 86, 16, 87, 88, 89, 90, 91, 92, 93, 94, 95, 96, 97, 98, 99, 100, 101, 17, 102, 103, 104, 105, 106, 107, 108, 109, 110, 111, 112, 5, 113, 114, 65] (fun z => [(65, .v (.int .i64 z.1)), (5, .v (.bool false))]) (fun z => [⟨x0, [Value.slice b0p a.cols.length c0p, Value.slice b0_1p a.bag.items.length c0_1p], (191 : Nat)⟩, ⟨x1, [Value.slice b0q b.cols.length c0q, Value.slice b0_1q b.bag.items.length c0_1q], (191 : Nat)⟩, ⟨x2, [Value.slice none (0 : Nat) (0 : Nat), Value.slice none (0 : Nat) (0 : Nat)], (191 : Nat)⟩, ⟨x8, [Value.slice b18 (a.cols ++ ce).length c18, .slice z.2.2.2.1 z.2.1.length z.2.2.2.2], (191 : Nat)⟩]) (fun z => [z.2.2.1, A18, Ae, Ac, H]) (fun z => a.bag.items.length - z.1) (fun z => z.1 ≤ a.bag.items.length ∧ z.2.1 = putsI [] (itemsIK a b z.1 0) ∧ z.2.1.length ≤ 300 ∧ (gSl 218 gItem).ow [.slice z.2.2.2.1 z.2.1.length z.2.2.2.2] z.2.1 z.2.2.1) ((0, [], [], none, 0))
     ·exact frI
     ·exact ⟨rfl, rfl, rfl, rfl, trivial⟩
     ·try dsimp only
      exact ⟨Nat.zero_le _, by rw [itemsIK_zero]; rfl, by simp, sl_nil _ _ _⟩
     ·exact .refl _
     rintro ⟨i, xs, B, ib, ic⟩ hI
     try dsimp only at hI
     obtain ⟨hi, hxs, hxl, oB⟩ := hI
     try dsimp only
     refine ⟨fun q20 => ?_, fun q20 => ?_⟩
     ·simp at q20
      refine idx_rd h0_1p ?_ ?_ fun b21 o21 hb21 => ?_
      ·omega
      ·omega
      refine load_allN default (i) rfl h0_1p ?_ ?_ hb21 rfl (mem_at 4 rfl) fun l22 hl22 => ?_
      ·omega
      ·omega
      obtain ⟨b0x22, c0x22, rfl, h0x22, w1x22⟩ := gItem_rd.1 hl22
      refine ⟨fun x23 => ?_⟩
      refine ⟨fun x24 => ?_⟩
      apply loop_mod (α := (Nat) × (List Item) × (Hp) × (Option Addr) × (Nat)) G_ok [79, 80, 81, 15, 82, 83, 84, 85, 86, 16, 87, 88, 89, 90, 91, 92, 93, 94, 95, 96, 97, 98, 99, 100, 101, 17, 102, 103, 104, 105, 106, 107, 108, 109, 110, 111, 112, 5, 113, 78] (fun z => [(78, .v (.int .i64 z.1)), (5, .v (.bool false))]) (fun z => [⟨x0, [Value.slice b0p a.cols.length c0p, Value.slice b0_1p a.bag.items.length c0_1p], (191 : Nat)⟩, ⟨x1, [Value.slice b0q b.cols.length c0q, Value.slice b0_1q b.bag.items.length c0_1q], (191 : Nat)⟩, ⟨x2, [Value.slice none (0 : Nat) (0 : Nat), Value.slice none (0 : Nat) (0 : Nat)], (191 : Nat)⟩, ⟨x8, [Value.slice b18 (a.cols ++ ce).length c18, .slice z.2.2.2.1 z.2.1.length z.2.2.2.2], (191 : Nat)⟩, ⟨x23, [Value.slice b0x22 (a.bag.items[i]?.getD default).row.length c0x22, Value.int IntKind.i64 (a.bag.items[i]?.getD default).times], (218 : Nat)⟩, ⟨x24, [Value.slice b0p a.cols.length c0p, Value.slice b0x22 (a.bag.items[i]?.getD default).row.length c0x22], (223 : Nat)⟩]) (fun z => [z.2.2.1, A18, Ae, Ac, H]) (fun z => b.bag.items.length - z.1) (fun z => z.1 ≤ b.bag.items.length ∧ z.2.1 = putsI [] (itemsIK a b i z.1) ∧ z.2.1.length ≤ 300 ∧ (gSl 218 gItem).ow [.slice z.2.2.2.1 z.2.1.length z.2.2.2.2] z.2.1 z.2.2.1) ((0, xs, B, ib, ic))
      ·exact frI
      ·repeat' (first | exact trivial | refine ⟨by first | rfl | simp [Blk.ent], ?_⟩)
      ·try dsimp only
       exact ⟨Nat.zero_le _, hxs, hxl, oB⟩
      ·exact .refl _
      rintro ⟨j, xs1, B1, ib1, ic1⟩ hI
      try dsimp only at hI
      obtain ⟨hj, hxs1, hxl1, oB1⟩ := hI
      try dsimp only
      refine ⟨fun q25 => ?_, fun q25 => ?_⟩
      ·simp at q25
       obtain ⟨ta1, ta2, ta3⟩ := table_row ‹tableM a = true› (i := i) (by omega)
       obtain ⟨tb1, tb2, tb3⟩ := table_row ‹tableM b = true› (i := j) (by omega)
       obtain ⟨hiv, hln⟩ := putIK ‹tableM a = true› ‹tableM b = true› (i := i) (by omega) j
       rw [← hxs1] at hiv hln
       have hokx := row_okI9 ta3
       have hoky := row_okI9 tb3
       refine idx_rd h0_1q ?_ ?_ fun b26 o26 hb26 => ?_
       ·omega
       ·omega
       refine load_allN default (j) rfl h0_1q ?_ ?_ hb26 rfl (mem_at 4 rfl) fun l27 hl27 => ?_
       ·omega
       ·omega
       obtain ⟨b0x27, c0x27, rfl, h0x27, w1x27⟩ := gItem_rd.1 hl27
       refine ⟨fun x28 => ?_⟩
       refine ⟨fun x29 => ?_⟩
       refine draw G_ok mixed none (.q 0 (.q 1 (.q 3 (.q 4 (.f 2 (.f 5 (.f 6 (.q 7 (.nil))))))))) (by decide +kernel) ?_
       refine call_new (lookupRow_ct _ _ _ _ _ _ _ _ _ _ _ (cc) ?_ ?_ ?_ ?_) ⟨(by (try exact Rp.mono _ (sub_hall (by simp)) h0p); (try exact Rp.mono _ (sub_hall (by simp)) h0q)), (by (try exact Rp.mono _ (sub_hall (by simp)) ‹(gSl 3 gI).rd H [Value.slice _ (a.bag.items[i]?.getD default).row.length _] _›); (try exact Rp.mono _ (sub_hall (by simp)) ‹(gSl 3 gI).rd H [Value.slice _ (b.bag.items[j]?.getD default).row.length _] _›)), (Rp.mono _ (mem_at 3 rfl) (Gt.owrd _ oC))⟩ ?_
       ·trivial
       ·omega
       ·omega
       ·trivial
       rintro v30 A30 o30
       obtain ⟨b30, c30, rfl, o30⟩ := o30
       refine VC.intro ?_ ?_
       ·exact keep_new
       refine call_new (lookupRow_ct _ _ _ _ _ _ _ _ _ _ _ (cc) ?_ ?_ ?_ ?_) ⟨(by (try exact Rp.mono _ (sub_hall (by simp)) h0p); (try exact Rp.mono _ (sub_hall (by simp)) h0q)), (by (try exact Rp.mono _ (sub_hall (by simp)) ‹(gSl 3 gI).rd H [Value.slice _ (a.bag.items[i]?.getD default).row.length _] _›); (try exact Rp.mono _ (sub_hall (by simp)) ‹(gSl 3 gI).rd H [Value.slice _ (b.bag.items[j]?.getD default).row.length _] _›)), (Rp.mono _ (mem_at 4 rfl) (Gt.owrd _ oC))⟩ ?_
       ·trivial
       ·omega
       ·omega
       ·trivial
       rintro v31 A31 o31
       obtain ⟨b31, c31, rfl, o31⟩ := o31
       refine VC.intro ?_ ?_
       ·exact keep_sub (by simp) (by simp)
       refine call_val (sEqualI_ct _ _ _ _ _ _ (List.map (tv a.cols (a.bag.items[i]?.getD default).row) cc) (List.map (tv b.cols (b.bag.items[j]?.getD default).row) cc)) ⟨(Rp.mono _ (mem_at 1 rfl) (Gt.owrd _ o30)), (Rp.mono _ (mem_at 0 rfl) (Gt.owrd _ o31))⟩ ?_
       rintro _ rfl
       refine VC.intro ?_ ?_
       ·exact keep_sub (by simp) (by simp)
       refine ⟨fun q33 => ?_, fun q33 => ?_⟩
       ·simp at q33
        have hmk := comm_no9 (x := (a.bag.items[i]?.getD default).row) (y := (b.bag.items[j]?.getD default).row) hdb hcc (by assumption)
        apply loop_stepA (j + 1, xs1, B1, ib1, ic1)
        ·exact .sub (by repeat (first | exact .slnil | apply List.Sublist.cons_cons | apply List.Sublist.cons))
        ·exact frI
        ·repeat' (first | exact trivial | refine ⟨by first | rfl | simp [Blk.ent], ?_⟩)
        ·try dsimp only
         exact ⟨by omega, by rw [itemsIK_no (by omega) hmk]; exact hxs1, hxl1, oB1⟩
        try dsimp only
        omega
       ·simp at q33
        have hmk := comm_yes9 (x := (a.bag.items[i]?.getD default).row) (y := (b.bag.items[j]?.getD default).row) hdb hcc (by assumption)
        have hex : ce.map (tv b.cols (b.bag.items[j]?.getD default).row) = exK a.cols b.cols (b.bag.items[j]?.getD default).row b.cols.length := (by rw [hce]; exact extr_row hdb)
        have hek := exK_le a.cols b.cols (b.bag.items[j]?.getD default).row b.cols.length
        have er : (a.bag.items[i]?.getD default).row ++ ce.map (tv b.cols (b.bag.items[j]?.getD default).row) = (a.bag.items[i]?.getD default).row ++ exK a.cols b.cols (b.bag.items[j]?.getD default).row b.cols.length := (by rw [hex])
        refine draw G_ok mixed none (.q 0 (.q 1 (.q 2 (.q 3 (.f 4 (.f 5 (.f 6 (.q 7 (.nil))))))))) (by decide +kernel) ?_
        refine call_new (lookupRow_ct _ _ _ _ _ _ _ _ _ _ _ (ce) ?_ ?_ ?_ ?_) ⟨(by (try exact Rp.mono _ (sub_hall (by simp)) h0p); (try exact Rp.mono _ (sub_hall (by simp)) h0q)), (by (try exact Rp.mono _ (sub_hall (by simp)) ‹(gSl 3 gI).rd H [Value.slice _ (a.bag.items[i]?.getD default).row.length _] _›); (try exact Rp.mono _ (sub_hall (by simp)) ‹(gSl 3 gI).rd H [Value.slice _ (b.bag.items[j]?.getD default).row.length _] _›)), (Rp.mono _ (mem_at 4 rfl) (Gt.owrd _ oE))⟩ ?_
        ·trivial
        ·omega
        ·omega
        ·trivial
        rintro v34 A34 o34
        obtain ⟨b34, c34, rfl, o34⟩ := o34
        refine VC.intro ?_ ?_
        ·exact keep_new
        refine ⟨fun x35 => ?_⟩
        refine VC.intro ?_ ?_
        ·exact keep_sub (by simp) (by simp)
        refine call_new (concatInt_ct _ _ _ [(a.bag.items[i]?.getD default).row, ce.map (tv b.cols (b.bag.items[j]?.getD default).row)] ?_) (lit2_rd9 (mem_at 0 rfl _ (List.mem_singleton.2 rfl)) (Rp.mono _ (sub_hall (by simp)) ‹(gSl 3 gI).rd H [Value.slice _ (a.bag.items[i]?.getD default).row.length _] _›) (Rp.mono _ (mem_at 1 rfl) (Gt.owrd _ o34))) ?_
        ·simp; omega
        rintro v36 A36 o36
        obtain ⟨b36, c36, rfl, o36⟩ := o36
        rw [two_flat9] at o36 ⊢
        refine VC.intro ?_ ?_
        ·exact keep_sub (by simp) (by simp)
        refine callR_blk 3 (B1) [A36, [(x35, Obj.cells { toList := Value.slice b0x22 (a.bag.items[i]?.getD default).row.length c0x22 :: Value.slice b34 (List.map (tv b.cols (b.bag.items[j]?.getD default).row) ce).length c34 :: [].append (zeros (nat_lit 0) [Value.slice none (0 : Nat) (0 : Nat)]) } (27 : TypeId))], A34, A31, A30, A18, Ae, Ac, H] rfl ?_ (bagPutX_ct _ _ _ _ _ _ xs1 _ _ _ _ ((a.bag.items[i]?.getD default).row ++ ce.map (tv b.cols (b.bag.items[j]?.getD default).row)) (min ((a.bag.items[i]?.getD default).times * (b.bag.items[j]?.getD default).times) 1000000) _ (mulcap9 ta2 tb2) oB1 ?_ ?_ ?_ ?_) (Rp.mono _ (mem_at 0 rfl) (Gt.owrd _ o36)) ?_
        ·exact rlA
        ·exact hiv.1
        ·trivial
        ·exact mul_rng9 ta2 tb2
        ·exact hiv.2
        rintro _ A37 ⟨kp, bP, cP, AP, hat, rfl, rfl, oP⟩
        refine ⟨_, _, [AP], rfl, perm1, ?_⟩
        refine ⟨fun q38 => ?_, fun q38 => ?_⟩
        ·simp at q38
         try dsimp only
         (rw [join_no3 (joinP_no ‹tableM a = true› ‹tableM b = true› hcl4 (by omega) (by omega) hxs1 hxl1 hmk er hat (by assumption))]; exact ⟨[], ⟨_, _, _, _, rfl, owT_nil⟩, .mem (by simp)⟩)
        ·simp at q38
         apply loop_stepA (j + 1, _, _, _, _)
         ·exact .sub (by repeat (first | exact .slnil | apply List.Sublist.cons_cons | apply List.Sublist.cons))
         ·exact frI
         ·repeat' (first | exact trivial | refine ⟨by first | rfl | simp [Blk.ent], ?_⟩)
         ·try dsimp only
          (obtain ⟨e1, e2⟩ := joinP_yes ‹tableM a = true› ‹tableM b = true› hcl4 (by omega) (by omega) hxs1 hxl1 hmk er hat (by assumption); exact ⟨by omega, e1, e2, by assumption⟩)
         try dsimp only
         omega
      ·simp at q25
       apply loop_stepA (i + 1, xs1, B1, ib1, ic1)
       ·exact .refl _
       ·exact frI
       ·exact ⟨rfl, rfl, rfl, rfl, trivial⟩
       ·try dsimp only
        exact ⟨by omega, by rw [itemsIK_next (k := j) (by omega) (by omega)]; exact hxs1, hxl1, oB1⟩
       try dsimp only
       omega
     ·simp at q20
      (have hie : i = a.bag.items.length := (by omega); subst hie; rw [itemsIK_end _ _ (Nat.le_refl _)] at hxs; subst hxs; exact ⟨A18 ++ B, join_fin ‹tableM a = true› ‹tableM b = true› ((tableJ_iff ‹tableM a = true› ‹tableM b = true›).2 ⟨hcl4, hxl⟩) hcJ o18 oB, rlB⟩)
end
section
attribute [local irreducible] IntKind.wrap ownerOf
def fitF (ns : List ByteArray) (f : Filter) : Prop := hasS ns f.left = true ∧ (f.right.size = 0 ∨ hasS ns f.right = true) ∧ inR 1 2 f.op = true
theorem passM_less {cs : List ByteArray} {row : List Int} {f : Filter} (h : f.op = 1) : passM cs row f = decide (tv cs row f.left < rightV cs row f) := if_pos h
theorem passM_same {cs : List ByteArray} {row : List Int} {f : Filter} (h : ¬ f.op = 1) : passM cs row f = decide (tv cs row f.left = rightV cs row f) := if_neg h
theorem right_num {cs : List ByteArray} {row : List Int} {f : Filter} (h : f.right.toList = []) : rightV cs row f = f.num := if_pos (toL_nil8.1 h)
theorem right_val {cs : List ByteArray} {row : List Int} {f : Filter} (h : ¬ f.right.toList = []) : rightV cs row f = tv cs row f.right := if_neg fun e => h (toL_nil8.2 e)
theorem fit_right {ns : List ByteArray} {f : Filter} (h : fitF ns f) (h2 : ¬ f.right.toList = []) : hasS ns f.right = true := h.2.1.resolve_left fun e => h2 (toL_nil8.2 e)
theorem l09Sieve_ct (l : List Value) (b : Option Addr) (m c : Nat) (b2 : Option Addr) (m2 c2 : Nat) (f : Filter) (ns : List ByteArray) (vs : List Int) (hf : fitF ns f) (hl : ns.length ≤ vs.length) :
  Ct prog 367 [.agg ⟨l⟩, .slice b m c, .slice b2 m2 c2] [] (fun H => gFilter.rd H l f ∧ (gSl 9 gS).rd H [.slice b m c] ns ∧ (gSl 3 gI).rd H [.slice b2 m2 c2] vs) (fun v A => v = .bool (passM ns vs f) ∧ A = []) := by
 refine Ct.intro0 G_ok func367 rfl rfl rfl fun E H hp => ?_
 obtain ⟨hp, hq, hr⟩ := hp
 obtain ⟨rfl, hcl, hl1⟩ := sl_len hq
 obtain ⟨rfl, hcl2, hl2⟩ := sl_len hr
 obtain ⟨rfl, w0p, w1p, w2p, w3p⟩ := gFilter_rd.1 hp
 have hi := idx_rng hf.1
 refine ⟨fun x0 => ?_⟩
 refine ⟨fun q1 => ?_, fun q1 => ?_⟩
 ·simp at q1
  refine call_val (l09Place_ct _ _ _ (ns) _) (Rp.mono _ (mem_at 0 rfl) hq) ?_
  rintro _ rfl
  refine idx_rd hr ?_ ?_ fun b3 o3 hb3 => ?_
  ·(have h9 := idx_rng (fit_right hf (by assumption)); omega)
  ·(have h9 := idx_rng (fit_right hf (by assumption)); omega)
  refine load_all 0 hr ?_ ?_ hb3 rfl (mem_at 0 rfl) fun l4 hl4 => ?_
  ·(have h9 := idx_rng (fit_right hf (by assumption)); omega)
  ·(have h9 := idx_rng (fit_right hf (by assumption)); omega)
  obtain ⟨rfl, hw4⟩ := hl4; simp only [flStr, flInt, okI] at hw4
  refine call_val (l09Place_ct _ _ _ (ns) _) (Rp.mono _ (mem_at 0 rfl) hq) ?_
  rintro _ rfl
  refine idx_rd hr ?_ ?_ fun b6 o6 hb6 => ?_
  ·omega
  ·omega
  refine load_all 0 hr ?_ ?_ hb6 rfl (mem_at 0 rfl) fun l7 hl7 => ?_
  ·omega
  ·omega
  obtain ⟨rfl, hw7⟩ := hl7; simp only [flStr, flInt, okI] at hw7
  refine ⟨fun q8 => ?_, fun q8 => ?_⟩
  ·simp at q8
   exact ⟨[], ⟨by first | (rw [passM_less (by assumption), right_num (by assumption)]; rfl) | (rw [passM_less (by assumption), right_val (by assumption)]; rfl) | (rw [passM_same (by assumption), right_num (by assumption), ← beq_dec]; rfl) | (rw [passM_same (by assumption), right_val (by assumption), ← beq_dec]; rfl), rfl⟩, .mem (by simp)⟩
  ·simp at q8
   exact ⟨[], ⟨by first | (rw [passM_less (by assumption), right_num (by assumption)]; rfl) | (rw [passM_less (by assumption), right_val (by assumption)]; rfl) | (rw [passM_same (by assumption), right_num (by assumption), ← beq_dec]; rfl) | (rw [passM_same (by assumption), right_val (by assumption), ← beq_dec]; rfl), rfl⟩, .mem (by simp)⟩
 ·simp at q1
  refine call_val (l09Place_ct _ _ _ (ns) _) (Rp.mono _ (mem_at 0 rfl) hq) ?_
  rintro _ rfl
  refine idx_rd hr ?_ ?_ fun b10 o10 hb10 => ?_
  ·omega
  ·omega
  refine load_all 0 hr ?_ ?_ hb10 rfl (mem_at 0 rfl) fun l11 hl11 => ?_
  ·omega
  ·omega
  obtain ⟨rfl, hw11⟩ := hl11; simp only [flStr, flInt, okI] at hw11
  refine ⟨fun q12 => ?_, fun q12 => ?_⟩
  ·simp at q12
   exact ⟨[], ⟨by first | (rw [passM_less (by assumption), right_num (by assumption)]; rfl) | (rw [passM_less (by assumption), right_val (by assumption)]; rfl) | (rw [passM_same (by assumption), right_num (by assumption), ← beq_dec]; rfl) | (rw [passM_same (by assumption), right_val (by assumption), ← beq_dec]; rfl), rfl⟩, .mem (by simp)⟩
  ·simp at q12
   exact ⟨[], ⟨by first | (rw [passM_less (by assumption), right_num (by assumption)]; rfl) | (rw [passM_less (by assumption), right_val (by assumption)]; rfl) | (rw [passM_same (by assumption), right_num (by assumption), ← beq_dec]; rfl) | (rw [passM_same (by assumption), right_val (by assumption), ← beq_dec]; rfl), rfl⟩, .mem (by simp)⟩
theorem cell_no1 {s row : List Int} (h : cellsM s = 0) : cellOf s row = -1 := if_pos (.inl h)
theorem cell_no2 {s row : List Int} (h : ¬ row.length = s.length) : cellOf s row = -1 := if_pos (.inr h)
theorem cell_yes {s row : List Int} (h1 : ¬ cellsM s = 0) (h2 : row.length = s.length) : cellOf s row = cellK s row s.length := if_neg fun e => e.elim h1 fun e => e h2
theorem cells_sh {s : List Int} (h : ¬ cellsM s = 0) : shK s s.length = true ∧ prodK s s.length ≤ 8 ∧ s.length ≤ 4 := by
 unfold cellsM at h
 split at h
 ·rename_i h1
  have h2 := h1.2.2
  unfold shOk at h2
  rw [Bool.and_eq_true, decide_eq_true_iff] at h2
  exact ⟨h2.1, h2.2, h1.2.1⟩
 exact absurd rfl h
theorem cell_step {s row : List Int} {k : Nat} (h : ¬ cellsM s = 0) (hk : k < s.length) : IntKind.i64.wrap (IntKind.i64.wrap (cellK s row k * (s[k]?.getD 0)) + ownerOf (row[k]?.getD 0) (s[k]?.getD 0)) = cellK s row (k + 1) := by
 obtain ⟨h1, h2, h3⟩ := cells_sh h
 have h4 := cellK_rng (row := row) h1 k (by omega)
 have h5 := cellK_rng (row := row) h1 (k + 1) (by omega)
 have h6 := prod_mono (j := k + 1) h1 (by omega)
 have h7 := inR_iff.1 (allK_at h1 k hk)
 have h8 := own_rng9 (v := row[k]?.getD 0) h7.1
 have e : cellK s row (k + 1) = cellK s row k * (s[k]?.getD 0) + ownerOf (row[k]?.getD 0) (s[k]?.getD 0) := rfl
 have h9 : 0 * (s[k]?.getD 0) ≤ cellK s row k * (s[k]?.getD 0) := Int.mul_le_mul_of_nonneg_right h4.1 (by omega)
 rw [wrap_of (x := cellK s row k * (s[k]?.getD 0)) (by omega) (by omega), wrap_of (by omega) (by omega)]; rfl
theorem specCellOf_ct (b : Option Addr) (m c : Nat) (b2 : Option Addr) (m2 c2 : Nat) (s row : List Int) :
  Ct prog 222 [.slice b m c, .slice b2 m2 c2] [] (fun H => (gSl 3 gI).rd H [.slice b m c] s ∧ (gSl 3 gI).rd H [.slice b2 m2 c2] row) (fun v A => v = .int .i64 (cellOf s row) ∧ A = []) := by
 refine Ct.intro0 G_ok func222 rfl rfl rfl fun E H hp => ?_
 obtain ⟨hp, hq⟩ := hp
 obtain ⟨rfl, hcl, hl⟩ := sl_len hp
 obtain ⟨rfl, hcl2, hl2⟩ := sl_len hq
 refine call_val (specCellsOf_ct _ _ _ (s)) (Rp.mono _ (mem_at 0 rfl) hp) ?_
 rintro _ rfl
 refine ⟨fun q1 => ?_, fun q1 => ?_⟩
 ·simp at q1
  exact ⟨[], ⟨by rw [cell_no1 (by assumption)], rfl⟩, .mem (by simp)⟩
 ·simp at q1
  refine ⟨fun q2 => ?_, fun q2 => ?_⟩
  ·simp at q2
   exact ⟨[], ⟨by rw [cell_no2 (by omega)], rfl⟩, .mem (by simp)⟩
  ·simp at q2
   apply loop_mod (α := (Nat)) G_ok [17, 18, 19, 20, 23, 24, 25, 26, 27, 28, 29, 30, 31, 32, 33, 34, 35, 36, 37, 38, 5, 21, 22, 6] (fun z => [(6, .v (.int .i64 z)), (5, .v (.int .i64 (cellK s row z)))]) (fun z => []) (fun z => [H]) (fun z => s.length - z) (fun z => z ≤ s.length) ((0))
   ·repeat' (first | exact trivial | refine ⟨⟨_, rfl, by first | rfl | exact inc_eq _ (by omega) | (refine sl_eq ?_; simp; done) | exact congrArg (fun v => SV.v (Value.int .i64 v)) (cell_step (by assumption) (by omega)) | exact congrArg (fun v => Value.int .i64 v) (cell_step (by assumption) (by omega)), by first | exact trivial | simp [SV.ok]⟩, ?_⟩)
   ·exact trivial
   ·exact Nat.zero_le _
   ·exact .refl _
   rintro k hI
   obtain hk : k ≤ s.length := hI
   try dsimp only
   refine ⟨fun q3 => ?_, fun q3 => ?_⟩
   ·simp at q3
    refine draw G_ok mixed none (.q 0 (.q 1 (.q 2 (.q 3 (.q 4 (.q 5 (.q 6 (.q 7 (.q 8 (.q 9 (.q 10 (.q 11 (.q 12 (.q 13 (.f 14 (.q 15 (.q 16 (.nil)))))))))))))))))) (by decide +kernel) ?_
    refine idx_rd hp ?_ ?_ fun b4 o4 hb4 => ?_
    ·omega
    ·omega
    refine load_allN 0 (k) rfl hp ?_ ?_ hb4 rfl (mem_at 0 rfl) fun l5 hl5 => ?_
    ·omega
    ·omega
    obtain ⟨rfl, hw5⟩ := hl5; simp only [flStr, flInt, okI] at hw5
    refine idx_rd hq ?_ ?_ fun b6 o6 hb6 => ?_
    ·omega
    ·omega
    refine load_allN 0 (k) rfl hq ?_ ?_ hb6 rfl (mem_at 0 rfl) fun l7 hl7 => ?_
    ·omega
    ·omega
    obtain ⟨rfl, hw7⟩ := hl7; simp only [flStr, flInt, okI] at hw7
    refine idx_rd hp ?_ ?_ fun b8 o8 hb8 => ?_
    ·omega
    ·omega
    refine load_allN 0 (k) rfl hp ?_ ?_ hb8 rfl (mem_at 0 rfl) fun l9 hl9 => ?_
    ·omega
    ·omega
    obtain ⟨rfl, hw9⟩ := hl9; simp only [flStr, flInt, okI] at hw9
    refine call_val (specOwnerOf_ct _ _) trivial ?_
    rintro _ rfl
    refine VC.intro ?_ ?_
    ·exact fun _ h => h
    apply loop_stepA (k + 1)
    ·exact .refl _
    ·repeat' (first | exact trivial | refine ⟨⟨_, rfl, by first | rfl | exact inc_eq _ (by omega) | (refine sl_eq ?_; simp; done) | exact congrArg (fun v => SV.v (Value.int .i64 v)) (cell_step (by assumption) (by omega)) | exact congrArg (fun v => Value.int .i64 v) (cell_step (by assumption) (by omega)), by first | exact trivial | simp [SV.ok]⟩, ?_⟩)
    ·exact trivial
    ·omega
    omega
   ·simp at q3
    (have hke : k = s.length := (by omega); subst hke; exact ⟨[], ⟨by rw [cell_yes (by assumption) (by omega)], rfl⟩, .mem (by simp)⟩)
theorem implCellOf_ct (b : Option Addr) (m c : Nat) (b2 : Option Addr) (m2 c2 : Nat) (s row : List Int) :
  Ct prog 232 [.slice b m c, .slice b2 m2 c2] [] (fun H => (gSl 3 gI).rd H [.slice b m c] s ∧ (gSl 3 gI).rd H [.slice b2 m2 c2] row) (fun v A => v = .int .i64 (cellOf s row) ∧ A = []) := by
 refine Ct.intro0 G_ok func232 rfl rfl rfl fun E H hp => ?_
 obtain ⟨hp, hq⟩ := hp
 obtain ⟨rfl, hcl, hl⟩ := sl_len hp
 obtain ⟨rfl, hcl2, hl2⟩ := sl_len hq
 refine call_val (implCellsOf_ct _ _ _ (s)) (Rp.mono _ (mem_at 0 rfl) hp) ?_
 rintro _ rfl
 refine ⟨fun q1 => ?_, fun q1 => ?_⟩
 ·simp at q1
  exact ⟨[], ⟨by rw [cell_no1 (by assumption)], rfl⟩, .mem (by simp)⟩
 ·simp at q1
  refine ⟨fun q2 => ?_, fun q2 => ?_⟩
  ·simp at q2
   exact ⟨[], ⟨by rw [cell_no2 (by omega)], rfl⟩, .mem (by simp)⟩
  ·simp at q2
   apply loop_mod (α := (Nat)) G_ok [21, 22, 23, 24, 6, 7, 25, 26, 27, 28, 29, 30, 31, 32, 33, 34, 5, 35, 20] (fun z => [(20, .v (.int .i64 z)), (5, .v (.int .i64 (cellK s row z)))]) (fun z => []) (fun z => [H]) (fun z => s.length - z) (fun z => z ≤ s.length) ((0))
   ·repeat' (first | exact trivial | refine ⟨⟨_, rfl, by first | rfl | exact inc_eq _ (by omega) | (refine sl_eq ?_; simp; done) | exact congrArg (fun v => SV.v (Value.int .i64 v)) (cell_step (by assumption) (by omega)) | exact congrArg (fun v => Value.int .i64 v) (cell_step (by assumption) (by omega)), by first | exact trivial | simp [SV.ok]⟩, ?_⟩)
   ·exact trivial
   ·exact Nat.zero_le _
   ·exact .refl _
   rintro k hI
   obtain hk : k ≤ s.length := hI
   try dsimp only
   refine ⟨fun q3 => ?_, fun q3 => ?_⟩
   ·simp at q3
    refine idx_rd hp ?_ ?_ fun b4 o4 hb4 => ?_
    ·omega
    ·omega
    refine load_allN 0 (k) rfl hp ?_ ?_ hb4 rfl (mem_at 0 rfl) fun l5 hl5 => ?_
    ·omega
    ·omega
    obtain ⟨rfl, hw5⟩ := hl5; simp only [flStr, flInt, okI] at hw5
    refine idx_rd hq ?_ ?_ fun b6 o6 hb6 => ?_
    ·omega
    ·omega
    refine load_allN 0 (k) rfl hq ?_ ?_ hb6 rfl (mem_at 0 rfl) fun l7 hl7 => ?_
    ·omega
    ·omega
    obtain ⟨rfl, hw7⟩ := hl7; simp only [flStr, flInt, okI] at hw7
    refine call_val (implOwnerOf_ct _ _) trivial ?_
    rintro _ rfl
    apply loop_stepA (k + 1)
    ·exact .refl _
    ·repeat' (first | exact trivial | refine ⟨⟨_, rfl, by first | rfl | exact inc_eq _ (by omega) | (refine sl_eq ?_; simp; done) | exact congrArg (fun v => SV.v (Value.int .i64 v)) (cell_step (by assumption) (by omega)) | exact congrArg (fun v => Value.int .i64 v) (cell_step (by assumption) (by omega)), by first | exact trivial | simp [SV.ok]⟩, ?_⟩)
    ·exact trivial
    ·omega
    omega
   ·simp at q3
    (have hke : k = s.length := (by omega); subst hke; exact ⟨[], ⟨by rw [cell_yes (by assumption) (by omega)], rfl⟩, .mem (by simp)⟩)
end
section
attribute [local irreducible] IntKind.wrap ownerOf
theorem texts_next {aa bb : List ByteArray} {k : Nat} (ha : k < aa.length) (hb : k < bb.length) (h : aa.take k = bb.take k) (h2 : (aa[k]?.getD ByteArray.empty) = (bb[k]?.getD ByteArray.empty)) : aa.take (k + 1) = bb.take (k + 1) := by
 rw [← List.take_append_getElem ha, ← List.take_append_getElem hb, h]
 rw [List.getElem?_eq_getElem ha, List.getElem?_eq_getElem hb] at h2
 rw [show aa[k] = bb[k] from h2]
theorem texts_no {aa bb : List ByteArray} {k : Nat} (h : ¬ (aa[k]?.getD ByteArray.empty) = (bb[k]?.getD ByteArray.empty)) : decide (aa = bb) = false := decide_eq_false fun e => h (by rw [e])
theorem texts_len {aa bb : List ByteArray} (h : ¬ aa.length = bb.length) : decide (aa = bb) = false := decide_eq_false fun e => h (by rw [e])
theorem texts_yes {aa bb : List ByteArray} {k : Nat} (h : aa.take k = bb.take k) (ha : aa.length ≤ k) (hb : bb.length ≤ k) : decide (aa = bb) = true := by
 rw [List.take_of_length_le ha, List.take_of_length_le hb] at h
 exact decide_eq_true h
theorem l08Texts_ct (b1 : Option Addr) (m1 c1 : Nat) (b2 : Option Addr) (m2 c2 : Nat) (aa bb : List ByteArray) : Ct prog 218 [.slice b1 m1 c1, .slice b2 m2 c2] [] (fun H => (gSl 9 gS).rd H [.slice b1 m1 c1] aa ∧ (gSl 9 gS).rd H [.slice b2 m2 c2] bb) (fun v A => v = .bool (decide (aa = bb)) ∧ A = []) := by
 refine Ct.intro0 G_ok func218 rfl rfl rfl fun E H hp => ?_
 obtain ⟨hp, hq⟩ := hp
 obtain ⟨rfl, hcp, hlp⟩ := sl_len hp
 obtain ⟨rfl, hcq, hlq⟩ := sl_len hq
 refine ⟨fun q0 => ?_, fun q0 => ?_⟩
 ·simp at q0
  exact ⟨[], ⟨by rw [texts_len (by omega)], rfl⟩, .mem (by simp)⟩
 ·simp at q0
  apply loop_mod (α := (Nat)) G_ok [11, 12, 13, 14, 17, 18, 19, 20, 21, 22, 23, 24, 25, 4, 15, 16, 5] (fun z => [(5, .v (.int .i64 z))]) (fun z => []) (fun z => [H]) (fun z => aa.length - z) (fun z => z ≤ aa.length ∧ aa.take z = bb.take z) ((0))
  ·exact frI
  ·exact trivial
  ·exact ⟨Nat.zero_le _, rfl⟩
  ·exact .refl _
  rintro k hI
  obtain ⟨hk, he⟩ : k ≤ aa.length ∧ aa.take k = bb.take k := hI
  try dsimp only
  refine ⟨fun q1 => ?_, fun q1 => ?_⟩
  ·simp at q1
   refine draw G_ok mixed none (.q 0 (.q 1 (.q 2 (.q 3 (.q 4 (.q 5 (.q 6 (.q 7 (.q 8 (.nil)))))))))) (by decide +kernel) ?_
   refine idx_rd hp ?_ ?_ fun b2 o2 hb2 => ?_
   ·omega
   ·omega
   refine load_allN ByteArray.empty (k) rfl hp ?_ ?_ hb2 rfl (mem_at 0 rfl) fun l3 hl3 => ?_
   ·omega
   ·omega
   obtain ⟨rfl, hw3⟩ := hl3; simp only [flStr, flInt, okI] at hw3
   refine idx_rd hq ?_ ?_ fun b4 o4 hb4 => ?_
   ·omega
   ·omega
   refine load_allN ByteArray.empty (k) rfl hq ?_ ?_ hb4 rfl (mem_at 0 rfl) fun l5 hl5 => ?_
   ·omega
   ·omega
   obtain ⟨rfl, hw5⟩ := hl5; simp only [flStr, flInt, okI] at hw5
   refine ⟨fun q6 => ?_, fun q6 => ?_⟩
   ·simp at q6
    simp only [str_inj, u8_inj, u8_wrap] at q6
    exact ⟨[], ⟨by rw [texts_no (k := k) (by assumption)], rfl⟩, .mem (by simp)⟩
   ·simp at q6
    simp only [str_inj, u8_inj, u8_wrap] at q6
    apply loop_stepA (k + 1)
    ·exact .refl _
    ·exact frI
    ·exact trivial
    ·exact ⟨by omega, texts_next (by omega) (by omega) he (by assumption)⟩
    omega
  ·simp at q1
   exact ⟨[], ⟨by rw [texts_yes (k := k) he (by omega) (by omega)], rfl⟩, .mem (by simp)⟩
theorem l10Copy_ct (l : List Value) (t : Table) (ht : tableM t = true) : Ct prog 219 [.agg ⟨l⟩] [] (fun H => gTable.rd H l t)
   (fun v D => ∃ (b0 : Option Addr) (c0 : Nat) (b1 : Option Addr) (c1 : Nat), v = .agg ⟨[.slice b0 t.cols.length c0, .slice b1 t.bag.items.length c1]⟩ ∧ OwT b0 c0 b1 c1 t D) := by
 refine Ct.intro0 G_ok func219 rfl rfl rfl fun E H hp => ?_
 obtain ⟨b0p, c0p, l1p, rfl, h0p, h1p⟩ := gTable_rd.1 hp
 obtain ⟨b0_1p, c0_1p, rfl, h0_1p⟩ := gBag_rd.1 h1p
 obtain ⟨⟨ha1, ha2⟩, ha3⟩ := table_len ht
 have hbM : bagM t.bag = true := bagM_iff.2 ⟨(tableM_iff.1 ht).2.1, _, (tableM_iff.1 ht).2.2⟩
 refine ⟨fun x0 => ?_⟩
 refine ⟨fun x1 => ?_⟩
 refine draw G_ok mixed (some 8) (.q 1 (.q 2 (.q 4 (.q 5 (.f 0 (.f 3 (.f 6 (.q 7 (.tl 8 (.nil)))))))))) (by decide +kernel) ?_
 refine ⟨fun x2 => ?_⟩
 refine VC.intro ?_ ?_
 ·exact keep_new
 refine append_allN (g := gS) (T := (9 : TypeId)) G_ok (by repeat (first | exact fl_plain | apply plain_iso | apply plain_pair)) [] [[(x2, Obj.cells { toList := zeros (0 : Nat) [Value.string ByteArray.empty] } (9 : TypeId))], H] 1 ?_ (sl_nil _ _ _) rfl h0p rfl rfl rfl rfl rfl rfl rfl rfl ?_ fun b3 c3 A3 o3 => ?_
 ·exact .refl _
 ·simp; omega
 refine VC.intro ?_ ?_
 ·exact keep_sub (by simp) (by simp)
 refine call_newP (s_l03Copy_ct _ (t.bag) ?_) (Rp.mono _ (mem_at 2 rfl) h1p) ?_
 ·exact bagM_sz hbM
 rintro v4 A4 o4
 obtain ⟨l4, rfl, o4⟩ := o4
 obtain ⟨bs, cs, As, rfl, hpm, os⟩ := gBag_ow.1 o4
 refine ⟨[As], by simpa using hpm, ?_⟩
 refine VC.intro ?_ ?_
 ·exact keep_sub (by simp) (by simp)
 exact ⟨A3 ++ As, ⟨_, _, _, _, rfl, A3, As, .refl _, o3, os⟩, rlB⟩
theorem filt_putI {w : Nat} {ys : List Item} (h : BW w ys) (p : Item → Bool) {i : Nat} (hi : i < ys.length) : InvT (putsI [] ((ys.take i).filter p)) ∧ (putsI [] ((ys.take i).filter p)).length ≤ i := by
 have h1 : ∀ q ∈ (ys.take i).filter p, tOk q := fun q hq => (bw_items h q (List.mem_of_mem_take (List.mem_filter.1 hq).1)).1
 have h2 := putsI_inv (ys := []) invT_nil h1
 have h3 : ((ys.take i).filter p).length ≤ i := Nat.le_trans (List.length_filter_le _ _) (List.length_take_le ..)
 have h4 : ([] : List Item).length = 0 := rfl
 exact ⟨h2.1, by omega⟩
theorem filt_yesP {ys : List Item} {p : Item → Bool} {i : Nat} (hi : i < ys.length) (h : p (ys[i]?.getD default) = true) : putZ (putsI [] ((ys.take i).filter p)) (ys[i]?.getD default).row (ys[i]?.getD default).times (plR (putsI [] ((ys.take i).filter p)) (ys[i]?.getD default).row) = putsI [] ((ys.take (i + 1)).filter p) := by
 rw [filt_yes9 default hi h, putsI_snoc]; rfl
theorem filt_noP {ys : List Item} {p : Item → Bool} {i : Nat} (hi : i < ys.length) (h : p (ys[i]?.getD default) = false) : putsI [] ((ys.take i).filter p) = putsI [] ((ys.take (i + 1)).filter p) := by
 rw [filt_no9 default hi h]
def sieveT (t : Table) (f : Filter) : Table := ⟨t.cols, ⟨t.bag.items.filter fun p => passM t.cols p.row f⟩⟩
theorem specSieve_ct (l l2 : List Value) (t : Table) (f : Filter) (ht : tableM t = true) (hf : fitF t.cols f) :
  Ct prog 297 [.agg ⟨l⟩, .agg ⟨l2⟩] [] (fun H => gTable.rd H l t ∧ gFilter.rd H l2 f)
   (fun v D => ∃ (b0 : Option Addr) (c0 : Nat) (b1 : Option Addr) (c1 : Nat), v = .tuple #[.agg ⟨[.slice b0 (sieveT t f).cols.length c0, .slice b1 (sieveT t f).bag.items.length c1]⟩, .bool true] ∧ OwT b0 c0 b1 c1 (sieveT t f) D) := by
 refine Ct.intro0 G_ok func297 rfl rfl rfl fun E H hp => ?_
 obtain ⟨hp, hq⟩ := hp
 obtain ⟨b0p, c0p, l1p, rfl, h0p, h1p⟩ := gTable_rd.1 hp
 obtain ⟨b0_1p, c0_1p, rfl, h0_1p⟩ := gBag_rd.1 h1p
 obtain ⟨rfl, w0q, w1q, w2q, w3q⟩ := gFilter_rd.1 hq
 obtain ⟨⟨ha1, ha2⟩, ha3⟩ := table_len ht
 have hW := (tableM_iff.1 ht).2.2
 refine ⟨fun x0 => ?_⟩
 refine ⟨fun x1 => ?_⟩
 refine ⟨fun x2 => ?_⟩
 refine call_val (specTableOk_ct _ (t)) (Rp.mono _ (mem_at 0 rfl) hp) ?_
 rintro _ rfl
 refine ⟨fun q4 => ?_, fun q4 => ?_⟩
 ·simp at q4
  exact absurd (ht.symm.trans ‹tableM t = false›) (by decide)
 ·simp at q4
  refine call_val (l08In_ct _ _ _ (t.cols) _) (Rp.mono _ (mem_at 0 rfl) h0p) ?_
  rintro _ rfl
  refine ⟨fun q6 => ?_, fun q6 => ?_⟩
  ·simp at q6
   exact absurd (hf.1.symm.trans ‹hasS t.cols f.left = false›) (by decide)
  ·simp at q6
   refine ⟨fun q7 => ?_, fun q7 => ?_⟩
   ·simp at q7
    refine call_val (l08In_ct _ _ _ (t.cols) _) (Rp.mono _ (mem_at 0 rfl) h0p) ?_
    rintro _ rfl
    refine ⟨fun q9 => ?_, fun q9 => ?_⟩
    ·simp at q9
     exact absurd ((fit_right hf (by assumption)).symm.trans ‹hasS t.cols f.right = false›) (by decide)
    ·simp at q9
     refine call_val (l01In_ct _ _ _) trivial ?_
     rintro _ rfl
     refine ⟨fun q11 => ?_, fun q11 => ?_⟩
     ·simp at q11
      exact absurd (hf.2.2.symm.trans ‹inR 1 2 f.op = false›) (by decide)
     ·simp at q11
      refine ⟨fun x12 => ?_⟩
      refine append_allN (g := gS) (T := (9 : TypeId)) G_ok (by repeat (first | exact fl_plain | apply plain_iso | apply plain_pair)) [] [[(x12, Obj.cells { toList := zeros (0 : Nat) [Value.string ByteArray.empty] } (9 : TypeId))], H] 1 ?_ (sl_nil _ _ _) rfl h0p rfl rfl rfl rfl rfl rfl rfl rfl ?_ fun b13 c13 A13 o13 => ?_
      ·exact .refl _
      ·simp; omega
      refine ⟨fun x14 => ?_⟩
      apply loop_mod (α := (Nat) × (List Item) × (Hp) × (Option Addr) × (Nat)) G_ok [44, 45, 46, 47, 48, 49, 52, 53, 54, 55, 56, 57, 58, 59, 60, 61, 62, 63, 64, 65, 66, 67, 68, 69, 70, 71, 72, 73, 74, 75, 76, 77, 78, 79, 80, 50, 51, 7] (fun z => [(7, .v (.int .i64 z.1))]) (fun z => [⟨x0, [Value.slice b0p t.cols.length c0p, Value.slice b0_1p t.bag.items.length c0_1p], (191 : Nat)⟩, ⟨x1, [Value.string f.left, Value.int IntKind.i64 f.op, Value.string f.right, Value.int IntKind.i64 f.num], (220 : Nat)⟩, ⟨x2, [Value.slice none (0 : Nat) (0 : Nat), Value.slice none (0 : Nat) (0 : Nat)], (191 : Nat)⟩, ⟨x14, [Value.slice b13 ([] ++ t.cols).length c13, .slice z.2.2.2.1 z.2.1.length z.2.2.2.2], (191 : Nat)⟩]) (fun z => [z.2.2.1, A13, [(x12, Obj.cells { toList := zeros (0 : Nat) [Value.string ByteArray.empty] } (9 : TypeId))], H]) (fun z => t.bag.items.length - z.1) (fun z => z.1 ≤ t.bag.items.length ∧ z.2.1 = putsI [] ((t.bag.items.take z.1).filter fun p => passM t.cols p.row f) ∧ (gSl 218 gItem).ow [.slice z.2.2.2.1 z.2.1.length z.2.2.2.2] z.2.1 z.2.2.1) ((0, [], [], none, 0))
      ·exact frI
      ·exact ⟨rfl, rfl, rfl, rfl, trivial⟩
      ·try dsimp only
       exact ⟨Nat.zero_le _, rfl, sl_nil _ _ _⟩
      ·exact .refl _
      rintro ⟨i, xs, B, ib, ic⟩ hI
      try dsimp only at hI
      obtain ⟨hi, hxs, oB⟩ := hI
      try dsimp only
      refine ⟨fun q15 => ?_, fun q15 => ?_⟩
      ·simp at q15
       obtain ⟨ta1, ta2, ta3⟩ := table_row ht (i := i) (by omega)
       obtain ⟨hiv, hln⟩ := filt_putI hW (fun p => passM t.cols p.row f) (i := i) (by omega)
       rw [← hxs] at hiv hln
       refine draw G_ok mixed none (.q 0 (.q 1 (.q 2 (.q 3 (.q 4 (.q 5 (.q 6 (.q 7 (.q 8 (.q 9 (.f 10 (.nil)))))))))))) (by decide +kernel) ?_
       refine idx_rd h0_1p ?_ ?_ fun b16 o16 hb16 => ?_
       ·omega
       ·omega
       refine load_partN default (i) 0 rfl h0_1p ?_ ?_ hb16 rfl (by decide) (mem_at 3 rfl) fun l17 hl17 => ?_
       ·omega
       ·omega
       obtain ⟨b0x17, c0x17, rfl, h0x17, w1x17⟩ := gItem_rd.1 hl17
       refine call_val (l09Sieve_ct _ _ _ _ _ _ _ (f) (t.cols) ((t.bag.items[i]?.getD default).row) ?_ ?_) ⟨(Rp.mono _ (mem_at 3 rfl) hq), (Rp.mono _ (mem_at 3 rfl) h0p), (Rp.mono _ (mem_at 3 rfl) h0x17)⟩ ?_
       ·trivial
       ·omega
       rintro _ rfl
       refine VC.intro ?_ ?_
       ·exact fun _ h => h
       refine ⟨fun q19 => ?_, fun q19 => ?_⟩
       ·refine draw G_ok mixed (some 16) (.q 0 (.q 1 (.q 2 (.q 3 (.q 4 (.q 5 (.q 6 (.q 7 (.q 8 (.q 9 (.q 10 (.q 11 (.q 12 (.q 13 (.q 14 (.q 15 (.tl 16 (.f 17 (.f 18 (.nil)))))))))))))))))))) (by decide +kernel) ?_
        refine idx_rd h0_1p ?_ ?_ fun b20 o20 hb20 => ?_
        ·omega
        ·omega
        refine load_partN default (i) 0 rfl h0_1p ?_ ?_ hb20 rfl (by decide) (mem_at 3 rfl) fun l21 hl21 => ?_
        ·omega
        ·omega
        obtain ⟨b0x21, c0x21, rfl, h0x21, w1x21⟩ := gItem_rd.1 hl21
        refine idx_rd h0_1p ?_ ?_ fun b22 o22 hb22 => ?_
        ·omega
        ·omega
        refine load_partN default (i) 1 rfl h0_1p ?_ ?_ hb22 rfl (by decide) (mem_at 3 rfl) fun l23 hl23 => ?_
        ·omega
        ·omega
        obtain ⟨b0x23, c0x23, rfl, h0x23, w1x23⟩ := gItem_rd.1 hl23
        refine callR_part (B) [A13, [(x12, Obj.cells { toList := zeros (0 : Nat) [Value.string ByteArray.empty] } (9 : TypeId))], H] (l03Put_ct _ _ _ _ _ _ xs _ ((t.bag.items[i]?.getD default).row) (t.bag.items[i]?.getD default).times (plR xs ((t.bag.items[i]?.getD default).row)) oB ?_ ?_ ?_ ?_ ?_) ?_ (Rp.mono _ (mem_at 2 rfl) h0x21) ?_
        ·omega
        ·omega
        ·trivial
        ·exact hiv.2
        ·exact plR_at hiv.1
        ·exact .refl _
        rintro _ A24 ⟨b24, c24, rfl, o24⟩
        refine ⟨[A24], by simp, ?_⟩
        apply loop_stepA (i + 1, _, _, _, _)
        ·exact .refl _
        ·exact frI
        ·exact ⟨rfl, rfl, rfl, rfl, trivial⟩
        ·try dsimp only
         exact ⟨by omega, by rw [hxs]; exact filt_yesP (by omega) (by assumption), by assumption⟩
        try dsimp only
        omega
       ·apply loop_stepA (i + 1, xs, B, ib, ic)
        ·exact .refl _
        ·exact frI
        ·exact ⟨rfl, rfl, rfl, rfl, trivial⟩
        ·try dsimp only
         exact ⟨by omega, by rw [← filt_noP (by omega) (by assumption)]; exact hxs, oB⟩
        try dsimp only
        omega
      ·simp at q15
       (have hie : i = t.bag.items.length := (by omega); subst hie; rw [List.take_length, keep_items hW] at hxs; subst hxs; first | exact ⟨A13 ++ B, ⟨_, _, _, _, rfl, A13, B, .refl _, o13, oB⟩, rlB⟩ | exact ⟨A28 ++ B, ⟨_, _, _, _, rfl, A28, B, .refl _, o28, oB⟩, rlB⟩)
   ·simp at q7
    refine call_val (l01In_ct _ _ _) trivial ?_
    rintro _ rfl
    refine ⟨fun q26 => ?_, fun q26 => ?_⟩
    ·simp at q26
     exact absurd (hf.2.2.symm.trans ‹inR 1 2 f.op = false›) (by decide)
    ·simp at q26
     refine ⟨fun x27 => ?_⟩
     refine append_allN (g := gS) (T := (9 : TypeId)) G_ok (by repeat (first | exact fl_plain | apply plain_iso | apply plain_pair)) [] [[(x27, Obj.cells { toList := zeros (0 : Nat) [Value.string ByteArray.empty] } (9 : TypeId))], H] 1 ?_ (sl_nil _ _ _) rfl h0p rfl rfl rfl rfl rfl rfl rfl rfl ?_ fun b28 c28 A28 o28 => ?_
     ·exact .refl _
     ·simp; omega
     refine ⟨fun x29 => ?_⟩
     apply loop_mod (α := (Nat) × (List Item) × (Hp) × (Option Addr) × (Nat)) G_ok [44, 45, 46, 47, 48, 49, 52, 53, 54, 55, 56, 57, 58, 59, 60, 61, 62, 63, 64, 65, 66, 67, 68, 69, 70, 71, 72, 73, 74, 75, 76, 77, 78, 79, 80, 50, 51, 7] (fun z => [(7, .v (.int .i64 z.1))]) (fun z => [⟨x0, [Value.slice b0p t.cols.length c0p, Value.slice b0_1p t.bag.items.length c0_1p], (191 : Nat)⟩, ⟨x1, [Value.string f.left, Value.int IntKind.i64 f.op, Value.string f.right, Value.int IntKind.i64 f.num], (220 : Nat)⟩, ⟨x2, [Value.slice none (0 : Nat) (0 : Nat), Value.slice none (0 : Nat) (0 : Nat)], (191 : Nat)⟩, ⟨x29, [Value.slice b28 ([] ++ t.cols).length c28, .slice z.2.2.2.1 z.2.1.length z.2.2.2.2], (191 : Nat)⟩]) (fun z => [z.2.2.1, A28, [(x27, Obj.cells { toList := zeros (0 : Nat) [Value.string ByteArray.empty] } (9 : TypeId))], H]) (fun z => t.bag.items.length - z.1) (fun z => z.1 ≤ t.bag.items.length ∧ z.2.1 = putsI [] ((t.bag.items.take z.1).filter fun p => passM t.cols p.row f) ∧ (gSl 218 gItem).ow [.slice z.2.2.2.1 z.2.1.length z.2.2.2.2] z.2.1 z.2.2.1) ((0, [], [], none, 0))
     ·exact frI
     ·exact ⟨rfl, rfl, rfl, rfl, trivial⟩
     ·try dsimp only
      exact ⟨Nat.zero_le _, rfl, sl_nil _ _ _⟩
     ·exact .refl _
     rintro ⟨i, xs, B, ib, ic⟩ hI
     try dsimp only at hI
     obtain ⟨hi, hxs, oB⟩ := hI
     try dsimp only
     refine ⟨fun q30 => ?_, fun q30 => ?_⟩
     ·simp at q30
      obtain ⟨ta1, ta2, ta3⟩ := table_row ht (i := i) (by omega)
      obtain ⟨hiv, hln⟩ := filt_putI hW (fun p => passM t.cols p.row f) (i := i) (by omega)
      rw [← hxs] at hiv hln
      refine draw G_ok mixed none (.q 0 (.q 1 (.q 2 (.q 3 (.q 4 (.q 5 (.q 6 (.q 7 (.q 8 (.q 9 (.f 10 (.nil)))))))))))) (by decide +kernel) ?_
      refine idx_rd h0_1p ?_ ?_ fun b31 o31 hb31 => ?_
      ·omega
      ·omega
      refine load_partN default (i) 0 rfl h0_1p ?_ ?_ hb31 rfl (by decide) (mem_at 3 rfl) fun l32 hl32 => ?_
      ·omega
      ·omega
      obtain ⟨b0x32, c0x32, rfl, h0x32, w1x32⟩ := gItem_rd.1 hl32
      refine call_val (l09Sieve_ct _ _ _ _ _ _ _ (f) (t.cols) ((t.bag.items[i]?.getD default).row) ?_ ?_) ⟨(Rp.mono _ (mem_at 3 rfl) hq), (Rp.mono _ (mem_at 3 rfl) h0p), (Rp.mono _ (mem_at 3 rfl) h0x32)⟩ ?_
      ·trivial
      ·omega
      rintro _ rfl
      refine VC.intro ?_ ?_
      ·exact fun _ h => h
      refine ⟨fun q34 => ?_, fun q34 => ?_⟩
      ·refine draw G_ok mixed (some 16) (.q 0 (.q 1 (.q 2 (.q 3 (.q 4 (.q 5 (.q 6 (.q 7 (.q 8 (.q 9 (.q 10 (.q 11 (.q 12 (.q 13 (.q 14 (.q 15 (.tl 16 (.f 17 (.f 18 (.nil)))))))))))))))))))) (by decide +kernel) ?_
       refine idx_rd h0_1p ?_ ?_ fun b35 o35 hb35 => ?_
       ·omega
       ·omega
       refine load_partN default (i) 0 rfl h0_1p ?_ ?_ hb35 rfl (by decide) (mem_at 3 rfl) fun l36 hl36 => ?_
       ·omega
       ·omega
       obtain ⟨b0x36, c0x36, rfl, h0x36, w1x36⟩ := gItem_rd.1 hl36
       refine idx_rd h0_1p ?_ ?_ fun b37 o37 hb37 => ?_
       ·omega
       ·omega
       refine load_partN default (i) 1 rfl h0_1p ?_ ?_ hb37 rfl (by decide) (mem_at 3 rfl) fun l38 hl38 => ?_
       ·omega
       ·omega
       obtain ⟨b0x38, c0x38, rfl, h0x38, w1x38⟩ := gItem_rd.1 hl38
       refine callR_part (B) [A28, [(x27, Obj.cells { toList := zeros (0 : Nat) [Value.string ByteArray.empty] } (9 : TypeId))], H] (l03Put_ct _ _ _ _ _ _ xs _ ((t.bag.items[i]?.getD default).row) (t.bag.items[i]?.getD default).times (plR xs ((t.bag.items[i]?.getD default).row)) oB ?_ ?_ ?_ ?_ ?_) ?_ (Rp.mono _ (mem_at 2 rfl) h0x36) ?_
       ·omega
       ·omega
       ·trivial
       ·exact hiv.2
       ·exact plR_at hiv.1
       ·exact .refl _
       rintro _ A39 ⟨b39, c39, rfl, o39⟩
       refine ⟨[A39], by simp, ?_⟩
       apply loop_stepA (i + 1, _, _, _, _)
       ·exact .refl _
       ·exact frI
       ·exact ⟨rfl, rfl, rfl, rfl, trivial⟩
       ·try dsimp only
        exact ⟨by omega, by rw [hxs]; exact filt_yesP (by omega) (by assumption), by assumption⟩
       try dsimp only
       omega
      ·apply loop_stepA (i + 1, xs, B, ib, ic)
       ·exact .refl _
       ·exact frI
       ·exact ⟨rfl, rfl, rfl, rfl, trivial⟩
       ·try dsimp only
        exact ⟨by omega, by rw [← filt_noP (by omega) (by assumption)]; exact hxs, oB⟩
       try dsimp only
       omega
     ·simp at q30
      (have hie : i = t.bag.items.length := (by omega); subst hie; rw [List.take_length, keep_items hW] at hxs; subst hxs; first | exact ⟨A13 ++ B, ⟨_, _, _, _, rfl, A13, B, .refl _, o13, oB⟩, rlB⟩ | exact ⟨A28 ++ B, ⟨_, _, _, _, rfl, A28, B, .refl _, o28, oB⟩, rlB⟩)
end
section
attribute [local irreducible] IntKind.wrap ownerOf
def outFit (cs out : List ByteArray) : Prop := (1 ≤ out.length ∧ out.length ≤ 4) ∧ inAll cs out = true ∧ distM out = true
noncomputable def projK (t : Table) (out : List ByteArray) (k : Nat) : List Item := putsI [] ((t.bag.items.take k).map (projI t.cols out))
theorem outFit_has {cs out : List ByteArray} (h : outFit cs out) {i : Nat} (hi : i < out.length) : hasS cs (out[i]?.getD ByteArray.empty) = true := allK_at h.2.1 i hi
theorem outFit_new {cs out : List ByteArray} (h : outFit cs out) {i : Nat} (hi : i < out.length) : hasS (out.take i) (out[i]?.getD ByteArray.empty) = false := by
 have := allK_at h.2.2 i hi
 simpa using this
theorem projK_pOk {t : Table} {out : List ByteArray} (h : tableM t = true) (ho : outFit t.cols out) (k : Nat) : ∀ p ∈ (t.bag.items.take k).map (projI t.cols out), pOk out.length p := fun p hp => by
 obtain ⟨x, hx, rfl⟩ := List.mem_map.1 hp
 exact proj_ok h ho.1.2 _ (List.mem_map.2 ⟨x, List.mem_of_mem_take hx, rfl⟩)
theorem projK_bw {t : Table} {out : List ByteArray} (h : tableM t = true) (ho : outFit t.cols out) (k : Nat) : BW out.length (projK t out k) ∧ (projK t out k).length ≤ 300 := by
 have h1 := putsI_inv (ps := (t.bag.items.take k).map (projI t.cols out)) invT_nil fun p hp => (projK_pOk h ho k p hp).1
 have h2 := (table_len h).2
 have h3 : ([] : List Item).length = 0 := rfl
 have h4 : ((t.bag.items.take k).map (projI t.cols out)).length ≤ t.bag.items.length := by rw [List.length_map]; exact List.length_take_le' ..
 refine ⟨putsI_bw (bw_nil _) (projK_pOk h ho k), ?_⟩
 unfold projK; omega
theorem projK_put {t : Table} {out : List ByteArray} {k : Nat} (hk : k < t.bag.items.length) : projK t out (k + 1) = putI (projK t out k) (projI t.cols out (t.bag.items[k]?.getD default)) := by
 unfold projK
 rw [← List.take_append_getElem hk, List.map_append, List.map_singleton, putsI_snoc, List.getElem?_eq_getElem hk]; rfl
theorem projK_step {t : Table} {out : List ByteArray} {k : Nat} (hk : k < t.bag.items.length) {r : List Int} (er : r = out.map (tv t.cols (t.bag.items[k]?.getD default).row)) : putZ (projK t out k) r (t.bag.items[k]?.getD default).times (plR (projK t out k) r) = projK t out (k + 1) := by
 rw [projK_put hk, er]; rfl
theorem projK_putB {t : Table} {out : List ByteArray} (h : tableM t = true) (ho : outFit t.cols out) {k kp : Nat} (hk : k < t.bag.items.length) {r : List Int} (er : r = out.map (tv t.cols (t.bag.items[k]?.getD default).row))
  (hat : rowM r = true ∧ (0 < (projK t out k).length → (rowI (projK t out k) 0).length = r.length) → atR (projK t out k) r kp) : putB (projK t out k) r (t.bag.items[k]?.getD default).times kp = (projK t out (k + 1), true) := by
 have hbw := projK_bw h ho k
 have hb2 := projK_bw h ho (k + 1)
 have hp : pOk out.length (projI t.cols out (t.bag.items[k]?.getD default)) := proj_ok h ho.1.2 _ (List.mem_map.2 ⟨t.bag.items[k]?.getD default, by rw [List.getElem?_eq_getElem hk]; exact List.getElem_mem hk, rfl⟩)
 have hw : rowM r = true ∧ (0 < (projK t out k).length → (rowI (projK t out k) 0).length = r.length) := by
  subst er
  exact ⟨hp.2.1, fun h0 => by
   have h1 := hp.2.2
   rw [(hbw.1.rows _ (mem_rowsI.2 ⟨0, h0, rfl⟩)).2]
   exact h1.symm⟩
 subst er
 have h2 := putB_put hbw.1 hbw.2 hp (k := kp) (hat hw)
 rw [projK_put hk] at hb2 ⊢
 rw [if_pos hb2.2] at h2
 exact h2
theorem projK_end (t : Table) (out : List ByteArray) : projM t out = ⟨out, ⟨projK t out t.bag.items.length⟩⟩ := by
 unfold projM projK; rw [List.take_length]
theorem map_take9 {α : Type} (f : ByteArray → α) {out : List ByteArray} {k : Nat} (hk : k < out.length) : (out.take (k + 1)).map f = (out.take k).map f ++ [f (out[k]?.getD ByteArray.empty)] := by
 rw [← List.take_append_getElem hk, List.map_append, List.map_singleton, List.getElem?_eq_getElem hk]; rfl
theorem owT_rd {b0 : Option Addr} {c0 : Nat} {b1 : Option Addr} {c1 : Nat} {t : Table} {D H : Hp} (h : OwT b0 c0 b1 c1 t D) (hD : ∀ p ∈ D, p ∈ H) : gTable.rd H [.slice b0 t.cols.length c0, .slice b1 t.bag.items.length c1] t := by
 obtain ⟨Ac, Ab, hP, oc, ob⟩ := h
 exact table_rd oc ob (fun p hp => hD p (hP.mem_iff.2 (List.mem_append_left _ hp))) (fun p hp => hD p (hP.mem_iff.2 (List.mem_append_right _ hp)))
theorem out_sz {cs out : List ByteArray} (h : colsOk cs = true) (ho : outFit cs out) : szL gS out ≤ 1048576 := by
 have h1 := (cols_parts h).2.2
 have := szS9 out fun s hs => name_size9 (h1 s (by
  obtain ⟨i, hi, rfl⟩ := List.mem_iff_getElem.1 hs
  have := hasS_iff.1 (outFit_has ho hi)
  rwa [List.getElem?_eq_getElem hi] at this))
 have := ho.1.2
 omega
theorem specProject_ct (l : List Value) (b : Option Addr) (m c : Nat) (t : Table) (out : List ByteArray) (ht : tableM t = true) (ho : outFit t.cols out) :
  Ct prog 221 [.agg ⟨l⟩, .slice b m c] [] (fun H => gTable.rd H l t ∧ (gSl 9 gS).rd H [.slice b m c] out)
   (fun v D => ∃ (b0 : Option Addr) (c0 : Nat) (b1 : Option Addr) (c1 : Nat), v = .tuple #[.agg ⟨[.slice b0 (projM t out).cols.length c0, .slice b1 (projM t out).bag.items.length c1]⟩, .bool true] ∧ OwT b0 c0 b1 c1 (projM t out) D) := by
 refine Ct.intro0 G_ok func221 rfl rfl rfl fun E H hp => ?_
 obtain ⟨hp, hq⟩ := hp
 obtain ⟨rfl, hcq, hlq⟩ := sl_len hq
 obtain ⟨b0p, c0p, l1p, rfl, h0p, h1p⟩ := gTable_rd.1 hp
 obtain ⟨b0_1p, c0_1p, rfl, h0_1p⟩ := gBag_rd.1 h1p
 obtain ⟨⟨ha1, ha2⟩, ha3⟩ := table_len ht
 have hon := ho.1
 have hoz := out_sz (tableM_iff.1 ht).1 ho
 refine ⟨fun x0 => ?_⟩
 refine ⟨fun x1 => ?_⟩
 refine call_val (specTableOk_ct _ (t)) (Rp.mono _ (mem_at 0 rfl) hp) ?_
 rintro _ rfl
 refine ⟨fun q3 => ?_, fun q3 => ?_⟩
 ·simp at q3
  exact absurd (ht.symm.trans ‹tableM t = false›) (by decide)
 ·simp at q3
  refine ⟨fun q4 => ?_, fun q4 => ?_⟩
  ·simp at q4
   (have h9 := congrArg List.length ‹out = ([] : List ByteArray)›; rw [List.length_nil] at h9; omega)
  ·simp at q4
   apply loop_mod (α := (Nat)) G_ok [20, 21, 22, 23, 26, 27, 28, 29, 30, 31, 32, 33, 34, 35, 36, 37, 38, 39, 40, 41, 42, 43, 44, 5, 24, 25, 6] (fun z => [(6, .v (.int .i64 z))]) (fun z => [{ id := x0, cs := [Value.slice b0p t.cols.length c0p, Value.slice b0_1p t.bag.items.length c0_1p] ++ [], ty := (191 : Nat) }, { id := x1, cs := [Value.slice none (0 : Nat) (0 : Nat), Value.slice none (0 : Nat) (0 : Nat)], ty := (191 : Nat) }]) (fun z => [H]) (fun z => out.length - z) (fun z => z ≤ out.length) ((0))
   ·exact frI
   ·exact ⟨rfl, rfl, trivial⟩
   ·exact Nat.zero_le _
   ·exact .refl _
   rintro i hI
   obtain hi : i ≤ out.length := hI
   try dsimp only
   refine ⟨fun q5 => ?_, fun q5 => ?_⟩
   ·simp at q5
    refine draw G_ok mixed none (.q 0 (.q 1 (.q 2 (.q 3 (.q 4 (.q 5 (.f 6 (.q 7 (.q 8 (.q 9 (.q 10 (.q 11 (.q 12 (.q 13 (.q 14 (.q 15 (.f 16 (.q 17 (.nil))))))))))))))))))) (by decide +kernel) ?_
    refine idx_rd hq ?_ ?_ fun b6 o6 hb6 => ?_
    ·omega
    ·omega
    refine load_allN ByteArray.empty (i) rfl hq ?_ ?_ hb6 rfl (mem_at 0 rfl) fun l7 hl7 => ?_
    ·omega
    ·omega
    obtain ⟨rfl, hw7⟩ := hl7; simp only [flStr, flInt, okI] at hw7
    refine call_val (l08In_ct _ _ _ (t.cols) _) (Rp.mono _ (mem_at 0 rfl) h0p) ?_
    rintro _ rfl
    refine VC.intro ?_ ?_
    ·exact fun _ h => h
    refine ⟨fun q9 => ?_, fun q9 => ?_⟩
    ·simp at q9
     exact absurd ((outFit_has ho (by assumption)).symm.trans ‹hasS t.cols _ = false›) (by decide)
    ·simp at q9
     have hsub : (gSl 9 gS).rd H [.slice (subBase c 0 b ty9.size) (((i : Nat) : Int).toNat - 0) (c - 0)] ((out.take ((i : Nat) : Int).toNat).drop 0) := rd_sub (r := gS.toRp) (l := 0) (h := ((i : Nat) : Int).toNat) hq (by omega) (by omega)
     refine VC.intro ?_ ?_
     ·omega
     refine idx_rd hq ?_ ?_ fun b10 o10 hb10 => ?_
     ·omega
     ·omega
     refine load_allN ByteArray.empty (i) rfl hq ?_ ?_ hb10 rfl (mem_at 0 rfl) fun l11 hl11 => ?_
     ·omega
     ·omega
     obtain ⟨rfl, hw11⟩ := hl11; simp only [flStr, flInt, okI] at hw11
     refine call_val (l08In_ct _ _ _ (List.drop (0 : Nat) (List.take (↑i : Int).toNat out)) _) (Rp.mono _ (mem_at 0 rfl) hsub) ?_
     rintro _ rfl
     refine VC.intro ?_ ?_
     ·exact fun _ h => h
     refine ⟨fun q13 => ?_, fun q13 => ?_⟩
     ·simp at q13
      exact absurd ((outFit_new ho (by assumption)).symm.trans ‹hasS (out.take _) _ = true›) (by decide)
     ·simp at q13
      apply loop_stepA (i + 1)
      ·exact .refl _
      ·exact frI
      ·exact ⟨rfl, rfl, trivial⟩
      ·omega
      omega
   ·simp at q5
    refine ⟨fun x14 => ?_⟩
    refine append_allN (g := gS) (T := (9 : TypeId)) G_ok (by repeat (first | exact fl_plain | apply plain_iso | apply plain_pair)) [] [[(x14, Obj.cells { toList := zeros (0 : Nat) [Value.string ByteArray.empty] } (9 : TypeId))], H] 1 ?_ (sl_nil _ _ _) rfl hq rfl rfl rfl rfl rfl rfl rfl rfl ?_ fun b15 c15 A15 o15 => ?_
    ·exact .refl _
    ·simp; omega
    refine ⟨fun x16 => ?_⟩
    apply loop_mod (α := (Nat) × (List Item) × (Hp) × (Option Addr) × (Nat)) G_ok [49, 50, 51, 52, 53, 54, 57, 9, 10, 58, 59, 60, 61, 64, 65, 66, 67, 68, 69, 70, 71, 72, 73, 74, 75, 76, 77, 78, 79, 80, 81, 82, 62, 63, 83, 84, 85, 86, 87, 88, 89, 90, 91, 92, 93, 94, 55, 56, 8] (fun z => [(8, .v (.int .i64 z.1))]) (fun z => [⟨x0, [Value.slice b0p t.cols.length c0p, Value.slice b0_1p t.bag.items.length c0_1p], (191 : Nat)⟩, ⟨x1, [Value.slice none (0 : Nat) (0 : Nat), Value.slice none (0 : Nat) (0 : Nat)], (191 : Nat)⟩, ⟨x16, [Value.slice b15 ([] ++ out).length c15, .slice z.2.2.2.1 z.2.1.length z.2.2.2.2], (191 : Nat)⟩]) (fun z => [z.2.2.1, A15, [(x14, Obj.cells { toList := zeros (0 : Nat) [Value.string ByteArray.empty] } (9 : TypeId))], H]) (fun z => t.bag.items.length - z.1) (fun z => z.1 ≤ t.bag.items.length ∧ z.2.1 = projK t out z.1 ∧ (gSl 218 gItem).ow [.slice z.2.2.2.1 z.2.1.length z.2.2.2.2] z.2.1 z.2.2.1) ((0, [], [], none, 0))
    ·exact frI
    ·exact ⟨rfl, rfl, rfl, trivial⟩
    ·try dsimp only
     exact ⟨Nat.zero_le _, rfl, sl_nil _ _ _⟩
    ·exact .refl _
    rintro ⟨k, xs, B, ib, ic⟩ hI
    try dsimp only at hI
    obtain ⟨hk, hxs, oB⟩ := hI
    try dsimp only
    refine ⟨fun q17 => ?_, fun q17 => ?_⟩
    ·simp at q17
     obtain ⟨ta1, ta2, ta3⟩ := table_row ht (i := k) (by omega)
     obtain ⟨hbw, hln⟩ := projK_bw ht ho k
     rw [← hxs] at hbw hln
     refine ⟨fun x18 => ?_⟩
     apply loop_mod (α := (Nat) × (List Int) × (Hp) × (Option Addr) × (Nat)) G_ok [58, 59, 60, 61, 64, 65, 66, 67, 68, 69, 70, 71, 72, 73, 74, 75, 76, 77, 78, 79, 80, 81, 82, 9, 62, 63, 10] (fun z => [(10, .v (.int .i64 z.1)), (9, .v (.slice z.2.2.2.1 z.2.1.length z.2.2.2.2))]) (fun z => [{ id := x0, cs := [Value.slice b0p t.cols.length c0p, Value.slice b0_1p t.bag.items.length c0_1p], ty := (191 : Nat) }, { id := x1, cs := [Value.slice none (0 : Nat) (0 : Nat), Value.slice none (0 : Nat) (0 : Nat)], ty := (191 : Nat) }, { id := x16, cs := [Value.slice b15 ([] ++ out).length c15, Value.slice ib xs.length ic], ty := (191 : Nat) }]) (fun z => [z.2.2.1, [(x18, Obj.cells { toList := zeros (0 : Nat) [Value.int IntKind.i64 (0 : Int)] } (3 : TypeId))], B, A15, [(x14, Obj.cells { toList := zeros (0 : Nat) [Value.string ByteArray.empty] } (9 : TypeId))], H]) (fun z => out.length - z.1) (fun z => z.1 ≤ out.length ∧ z.2.1 = (out.take z.1).map (tv t.cols (t.bag.items[k]?.getD default).row) ∧ z.2.1.length = z.1 ∧ (gSl 3 gI).ow [.slice z.2.2.2.1 z.2.1.length z.2.2.2.2] z.2.1 z.2.2.1) ((0, [], [], _, 0))
     ·exact frI
     ·exact ⟨rfl, rfl, rfl, trivial⟩
     ·try dsimp only
      exact ⟨Nat.zero_le _, rfl, rfl, sl_nil _ _ _⟩
     ·exact .refl _
     rintro ⟨j, r, A, rb, rc⟩ hI
     try dsimp only at hI
     obtain ⟨hj, hr, hrl, oA⟩ := hI
     try dsimp only
     refine ⟨fun q19 => ?_, fun q19 => ?_⟩
     ·simp at q19
      have hix := idx_rng (outFit_has ho (i := j) (by omega))
      refine draw G_ok mixed (some 18) (.q 0 (.q 1 (.q 2 (.q 3 (.q 4 (.q 5 (.q 6 (.q 7 (.q 8 (.q 9 (.q 10 (.q 11 (.q 12 (.q 13 (.f 14 (.q 15 (.q 16 (.f 17 (.tl 18 (.f 19 (.nil))))))))))))))))))))) (by decide +kernel) ?_
      refine idx_rd h0_1p ?_ ?_ fun b20 o20 hb20 => ?_
      ·omega
      ·omega
      refine load_partN default (k) 0 rfl h0_1p ?_ ?_ hb20 rfl (by decide) (mem_at 5 rfl) fun l21 hl21 => ?_
      ·omega
      ·omega
      obtain ⟨b0x21, c0x21, rfl, h0x21, w1x21⟩ := gItem_rd.1 hl21
      refine idx_rd hq ?_ ?_ fun b22 o22 hb22 => ?_
      ·omega
      ·omega
      refine load_allN ByteArray.empty (j) rfl hq ?_ ?_ hb22 rfl (mem_at 5 rfl) fun l23 hl23 => ?_
      ·omega
      ·omega
      obtain ⟨rfl, hw23⟩ := hl23; simp only [flStr, flInt, okI] at hw23
      refine call_val (l09Place_ct _ _ _ (t.cols) _) (Rp.mono _ (mem_at 5 rfl) h0p) ?_
      rintro _ rfl
      refine VC.intro ?_ ?_
      ·exact fun _ h => h
      refine idx_rd h0x21 ?_ ?_ fun b25 o25 hb25 => ?_
      ·omega
      ·omega
      refine load_all 0 h0x21 ?_ ?_ hb25 rfl (mem_at 5 rfl) fun l26 hl26 => ?_
      ·omega
      ·omega
      obtain ⟨rfl, hw26⟩ := hl26; simp only [flStr, flInt, okI] at hw26
      refine ⟨fun x27 => ?_⟩
      refine VC.intro ?_ ?_
      ·exact keep_new
      refine gappend1 (g := gI) (T := (3 : TypeId)) G_ok A [] [[(x18, Obj.cells { toList := zeros (0 : Nat) [Value.int IntKind.i64 (0 : Int)] } (3 : TypeId))], B, A15, [(x14, Obj.cells { toList := zeros (0 : Nat) [Value.string ByteArray.empty] } (9 : TypeId))], H] ?_ oA (gI_ow ?_) (List.mem_of_getElem? (i := 0) rfl) rfl rfl rfl rfl rfl rfl rfl rfl ?_ fun b28 c28 A28 o28 => ?_
      ·exact .tl
      ·trivial
      ·omega
      apply loop_stepA (j + 1, _, _, _, _)
      ·exact .refl _
      ·exact frI
      ·exact ⟨rfl, rfl, rfl, trivial⟩
      ·try dsimp only
       exact ⟨by omega, by rw [map_take9 _ (by omega), ← hr]; rfl, by rw [List.length_append, List.length_singleton]; omega, by assumption⟩
      try dsimp only
      omega
     ·simp at q19
      have hje : j = out.length := (by omega)
      subst hje
      rw [List.take_length] at hr
      refine draw G_ok mixed (some 10) (.q 0 (.q 1 (.q 2 (.q 3 (.q 4 (.q 5 (.q 6 (.q 7 (.q 8 (.q 9 (.tl 10 (.f 11 (.f 12 (.nil)))))))))))))) (by decide +kernel) ?_
      refine idx_rd h0_1p ?_ ?_ fun b29 o29 hb29 => ?_
      ·omega
      ·omega
      refine load_partN default (k) 1 rfl h0_1p ?_ ?_ hb29 rfl (by decide) (mem_at 5 rfl) fun l30 hl30 => ?_
      ·omega
      ·omega
      obtain ⟨b0x30, c0x30, rfl, h0x30, w1x30⟩ := gItem_rd.1 hl30
      refine callR_part (B) [A, [(x18, Obj.cells { toList := zeros (0 : Nat) [Value.int IntKind.i64 (0 : Int)] } (3 : TypeId))], A15, [(x14, Obj.cells { toList := zeros (0 : Nat) [Value.string ByteArray.empty] } (9 : TypeId))], H] (l03Put_ct _ _ _ _ _ _ xs _ (r) (t.bag.items[k]?.getD default).times (plR xs (r)) oB ?_ ?_ ?_ ?_ ?_) ?_ (Rp.mono _ (mem_at 0 rfl) (Gt.owrd _ oA)) ?_
      ·omega
      ·omega
      ·trivial
      ·exact hbw.inv.2
      ·exact plR_at hbw.inv.1
      ·exact rlA
      rintro _ A31 ⟨b31, c31, rfl, o31⟩
      refine ⟨[A31], by simp, ?_⟩
      apply loop_stepA (k + 1, _, _, _, _)
      ·exact .sub (by repeat (first | exact .slnil | apply List.Sublist.cons_cons | apply List.Sublist.cons))
      ·exact frI
      ·exact ⟨rfl, rfl, rfl, trivial⟩
      ·try dsimp only
       exact ⟨by omega, by rw [hxs]; exact projK_step (by omega) hr, by assumption⟩
      try dsimp only
      omega
    ·simp at q17
     (have hke : k = t.bag.items.length := (by omega); subst hke; rw [projK_end]; subst hxs; exact ⟨A15 ++ B, ⟨_, _, _, _, rfl, A15, B, .refl _, o15, oB⟩, rlB⟩)
end
section
attribute [local irreducible] IntKind.wrap ownerOf
theorem projK_put1 {t : Table} {out : List ByteArray} (h : tableM t = true) (ho : outFit t.cols out) {k kp : Nat} (hk : k < t.bag.items.length) {xs : List Item} (hx : xs = projK t out k)
  (hat : rowM (out.map (tv t.cols (t.bag.items[k]?.getD default).row)) = true ∧ (0 < xs.length → (rowI xs 0).length = (out.map (tv t.cols (t.bag.items[k]?.getD default).row)).length) → atR xs (out.map (tv t.cols (t.bag.items[k]?.getD default).row)) kp) : (putB xs (out.map (tv t.cols (t.bag.items[k]?.getD default).row)) (t.bag.items[k]?.getD default).times kp).1 = projK t out (k + 1) := by
 subst hx
 rw [projK_putB h ho hk rfl hat]
theorem outFit_all {cs out : List ByteArray} (h : outFit cs out) : ∀ s ∈ out, hasS cs s = true := fun s hs => by
 obtain ⟨i, hi, rfl⟩ := List.mem_iff_getElem.1 hs
 have := outFit_has h hi
 rwa [List.getElem?_eq_getElem hi] at this
theorem implProject_ct (l : List Value) (b : Option Addr) (m c : Nat) (t : Table) (out : List ByteArray) (ht : tableM t = true) (ho : outFit t.cols out) :
  Ct prog 234 [.agg ⟨l⟩, .slice b m c] [] (fun H => gTable.rd H l t ∧ (gSl 9 gS).rd H [.slice b m c] out)
   (fun v D => ∃ (b0 : Option Addr) (c0 : Nat) (b1 : Option Addr) (c1 : Nat), v = .tuple #[.agg ⟨[.slice b0 (projM t out).cols.length c0, .slice b1 (projM t out).bag.items.length c1]⟩, .bool true] ∧ OwT b0 c0 b1 c1 (projM t out) D) := by
 refine Ct.intro0 G_ok func234 rfl rfl rfl fun E H hp => ?_
 obtain ⟨hp, hq⟩ := hp
 obtain ⟨rfl, hcq, hlq⟩ := sl_len hq
 obtain ⟨b0p, c0p, l1p, rfl, h0p, h1p⟩ := gTable_rd.1 hp
 obtain ⟨b0_1p, c0_1p, rfl, h0_1p⟩ := gBag_rd.1 h1p
 obtain ⟨⟨ha1, ha2⟩, ha3⟩ := table_len ht
 have hon := ho.1
 have hoz := out_sz (tableM_iff.1 ht).1 ho
 refine ⟨fun x0 => ?_⟩
 refine ⟨fun x1 => ?_⟩
 refine call_val (implTableOk_ct _ (t)) (Rp.mono _ (mem_at 0 rfl) hp) ?_
 rintro _ rfl
 refine ⟨fun q3 => ?_, fun q3 => ?_⟩
 ·simp at q3
  exact absurd (ht.symm.trans ‹tableM t = false›) (by decide)
 ·simp at q3
  refine ⟨fun q4 => ?_, fun q4 => ?_⟩
  ·simp at q4
   (have h9 := congrArg List.length ‹out = ([] : List ByteArray)›; rw [List.length_nil] at h9; omega)
  ·simp at q4
   refine call_val (containsAll_ct _ _ _ _ _ _ (t.cols) (out)) ⟨(Rp.mono _ (mem_at 0 rfl) h0p), (Rp.mono _ (mem_at 0 rfl) hq)⟩ ?_
   rintro _ rfl
   refine ⟨fun q6 => ?_, fun q6 => ?_⟩
   ·simp at q6
    exact absurd (ho.2.1.symm.trans ‹inAll t.cols out = false›) (by decide)
   ·simp at q6
    refine call_val (areDistinct_ct _ _ _ (out)) (Rp.mono _ (mem_at 0 rfl) hq) ?_
    rintro _ rfl
    refine ⟨fun q8 => ?_, fun q8 => ?_⟩
    ·simp at q8
     exact absurd (ho.2.2.symm.trans ‹distM out = false›) (by decide)
    ·simp at q8
     refine call_new (cloneS_ct _ _ _ (out) ?_) (Rp.mono _ (mem_at 0 rfl) hq) ?_
     ·trivial
     rintro v9 A9 o9
     obtain ⟨b9, c9, rfl, o9⟩ := o9
     refine ⟨fun x10 => ?_⟩
     apply loop_mod (α := (Nat) × (List Item) × (Hp) × (Option Addr) × (Nat)) G_ok [38, 39, 40, 8, 41, 42, 43, 44, 45, 46, 47, 48, 49, 50, 51, 52, 37] (fun z => [(37, .v (.int .i64 z.1))]) (fun z => [⟨x0, [Value.slice b0p t.cols.length c0p, Value.slice b0_1p t.bag.items.length c0_1p], (191 : Nat)⟩, ⟨x1, [Value.slice none (0 : Nat) (0 : Nat), Value.slice none (0 : Nat) (0 : Nat)], (191 : Nat)⟩, ⟨x10, [Value.slice b9 out.length c9, .slice z.2.2.2.1 z.2.1.length z.2.2.2.2], (191 : Nat)⟩]) (fun z => [z.2.2.1, A9, H]) (fun z => t.bag.items.length - z.1) (fun z => z.1 ≤ t.bag.items.length ∧ z.2.1 = projK t out z.1 ∧ (gSl 218 gItem).ow [.slice z.2.2.2.1 z.2.1.length z.2.2.2.2] z.2.1 z.2.2.1) ((0, [], [], none, 0))
     ·exact frI
     ·exact ⟨rfl, rfl, rfl, trivial⟩
     ·try dsimp only
      exact ⟨Nat.zero_le _, rfl, sl_nil _ _ _⟩
     ·exact .refl _
     rintro ⟨k, xs, B, ib, ic⟩ hI
     try dsimp only at hI
     obtain ⟨hk, hxs, oB⟩ := hI
     try dsimp only
     refine ⟨fun q11 => ?_, fun q11 => ?_⟩
     ·simp at q11
      obtain ⟨ta1, ta2, ta3⟩ := table_row ht (i := k) (by omega)
      obtain ⟨hbw, hln⟩ := projK_bw ht ho k
      rw [← hxs] at hbw hln
      have hokx := row_okI9 ta3
      refine idx_rd h0_1p ?_ ?_ fun b12 o12 hb12 => ?_
      ·omega
      ·omega
      refine load_allN default (k) rfl h0_1p ?_ ?_ hb12 rfl (mem_at 2 rfl) fun l13 hl13 => ?_
      ·omega
      ·omega
      obtain ⟨b0x13, c0x13, rfl, h0x13, w1x13⟩ := gItem_rd.1 hl13
      refine ⟨fun x14 => ?_⟩
      refine draw G_ok mixed (some 10) (.q 0 (.q 1 (.q 2 (.q 3 (.q 4 (.q 5 (.q 6 (.q 8 (.q 9 (.f 7 (.tl 10 (.nil)))))))))))) (by decide +kernel) ?_
      refine call_new (lookupRow_ct _ _ _ _ _ _ _ _ _ _ _ (out) ?_ ?_ ?_ ?_) ⟨Rp.mono _ (sub_hall (by simp)) h0p, Rp.mono _ (sub_hall (by simp)) ‹(gSl 3 gI).rd H [Value.slice _ (t.bag.items[k]?.getD default).row.length _] _›, (Rp.mono _ (mem_at 2 rfl) hq)⟩ ?_
      ·exact outFit_all ho
      ·omega
      ·omega
      ·trivial
      rintro v15 A15 o15
      obtain ⟨b15, c15, rfl, o15⟩ := o15
      refine VC.intro ?_ ?_
      ·exact keep_new
      refine callR_blk 2 (B) [A15, A9, H] rfl ?_ (bagPutX_ct _ _ _ _ _ _ xs _ _ _ _ (out.map (tv t.cols (t.bag.items[k]?.getD default).row)) (t.bag.items[k]?.getD default).times _ rfl oB ?_ ?_ ?_ ?_) (Rp.mono _ (mem_at 0 rfl) (Gt.owrd _ o15)) ?_
      ·exact rlA
      ·exact hbw.inv.1
      ·trivial
      ·trivial
      ·exact hbw.inv.2
      rintro _ A16 ⟨kp, bP, cP, AP, hat, rfl, rfl, oP⟩
      refine ⟨_, _, [AP], rfl, perm1, ?_⟩
      apply loop_stepA (k + 1, _, _, _, _)
      ·exact .sub (by repeat (first | exact .slnil | apply List.Sublist.cons_cons | apply List.Sublist.cons))
      ·exact frI
      ·exact ⟨rfl, rfl, rfl, trivial⟩
      ·try dsimp only
       exact ⟨by omega, projK_put1 ht ho (by omega) hxs hat, by assumption⟩
      try dsimp only
      omega
     ·simp at q11
      (have hke : k = t.bag.items.length := (by omega); subst hke; rw [projK_end]; subst hxs; exact ⟨A9 ++ B, ⟨_, _, _, _, rfl, A9, B, .refl _, o9, oB⟩, rlB⟩)
end
section
attribute [local irreducible] IntKind.wrap ownerOf
noncomputable def sievesT (t : Table) (fs : List Filter) : Nat → Table
 | 0 => t
 | k + 1 => sieveT (sievesT t fs k) (fs[k]?.getD default)
theorem sieves_cols (t : Table) (fs : List Filter) : ∀ k, (sievesT t fs k).cols = t.cols
 | 0 => rfl
 | k + 1 => sieves_cols t fs k
theorem sieves_ok {t : Table} (h : tableM t = true) (fs : List Filter) : ∀ k, tableM (sievesT t fs k) = true
 | 0 => h
 | k + 1 => table_sub (sieves_ok h fs k) _
noncomputable def l11P (x : Query) (t : Table) (ok : Bool) : List Item := if ok = true then (projM (sievesT t x.filters x.filters.length) x.out).bag.items else []
theorem mem_app9 {A B X : Hp} (h1 : ∀ p ∈ A, p ∈ X) (h2 : ∀ p ∈ B, p ∈ X) : ∀ p ∈ A ++ B, p ∈ X := fun p hp => (List.mem_append.1 hp).elim (h1 p) (h2 p)
theorem l11End_ct (l l2 : List Value) (ok : Bool) (x : Query) (t : Table) (he : x.each = false) (hok : ok = true → tableM t = true ∧ (∀ i, i < x.filters.length → fitF t.cols (x.filters[i]?.getD default)) ∧ outFit t.cols x.out) :
  Ct prog 224 [.agg ⟨l⟩, .agg ⟨l2⟩, .bool ok] [] (fun H => gQuery.rd H l x ∧ gTable.rd H l2 t)
   (fun v D => ∃ (b1 : Option Addr) (c1 : Nat), v = .tuple #[.agg ⟨[.slice b1 (l11P x t ok).length c1]⟩, .bool ok] ∧ (gSl 218 gItem).ow [.slice b1 (l11P x t ok).length c1] (l11P x t ok) D) := by
 refine Ct.intro0 G_ok func224 rfl rfl rfl fun E H hp => ?_
 obtain ⟨hp, hq⟩ := hp
 obtain ⟨b1p, c1p, b2p, c2p, b3p, c3p, rfl, h1p, h2p, h3p⟩ := gQuery_rd.1 hp
 obtain ⟨b0q, c0q, l1q, rfl, h0q, h1q⟩ := gTable_rd.1 hq
 obtain ⟨b0_1q, c0_1q, rfl, h0_1q⟩ := gBag_rd.1 h1q
 have hfl := (sl_len h3p).2.2
 cases ok
 ·skip
  refine ⟨fun x0 => ?_⟩
  refine ⟨fun x1 => ?_⟩
  refine ⟨fun x2 => ?_⟩
  apply loop_mod (α := (Nat)) G_ok [9, 10, 11, 12, 13, 14, 15, 16, 20, 21, 22, 23, 24, 25, 26, 19, 27, 28, 2, 17, 18, 8] (fun z => [(8, .v (.int .i64 z)), (2, .v (.bool false))]) (fun z => [{ id := x0, cs := [Value.bool x.each, Value.slice b1p x.out.length c1p, Value.slice b2p x.atoms.length c2p, Value.slice b3p x.filters.length c3p], ty := (39 : Nat) }, { id := x1, cs := [Value.slice b0q t.cols.length c0q, Value.slice b0_1q t.bag.items.length c0_1q] ++ [], ty := (191 : Nat) }, { id := x2, cs := [Value.slice none (0 : Nat) (0 : Nat)], ty := (33 : Nat) }]) (fun z => [H]) (fun z => 0) (fun z => z = 0) ((0))
  ·exact frI
  ·exact ⟨rfl, rfl, rfl, trivial⟩
  ·dsimp only
  ·exact .refl _
  rintro k hI
  obtain hk : k = 0 := hI
  try dsimp only
  refine ⟨fun q3 => ?_, fun q3 => ?_⟩
  ·simp at q3
   refine ⟨fun q4 => ?_, fun q4 => ?_⟩
   ·simp at q4
   ·simp at q4
    refine ⟨fun q5 => ?_, fun q5 => ?_⟩
    ·simp at q5
    ·simp at q5
     refine ⟨fun q6 => ?_, fun q6 => ?_⟩
     ·simp at q6
      exact ⟨[], ⟨_, _, rfl, sl_nil _ _ _⟩, .mem (by simp)⟩
     ·simp at q6
  ·simp at q3
   refine ⟨fun q7 => ?_, fun q7 => ?_⟩
   ·simp at q7
   ·simp at q7
    refine ⟨fun q8 => ?_, fun q8 => ?_⟩
    ·simp at q8
     exact ⟨[], ⟨_, _, rfl, sl_nil _ _ _⟩, .mem (by simp)⟩
    ·simp at q8
 obtain ⟨ht, hf, ho⟩ := hok rfl
 refine ⟨fun x0 => ?_⟩
 refine ⟨fun x1 => ?_⟩
 refine ⟨fun x2 => ?_⟩
 apply loop_mod (α := (Nat) × (Table) × (Hp) × (Option Addr) × (Nat) × (Option Addr) × (Nat)) G_ok [9, 10, 11, 12, 13, 14, 15, 16, 20, 21, 22, 23, 24, 25, 26, 19, 27, 28, 2, 17, 18, 8] (fun z => [(8, .v (.int .i64 z.1)), (2, .v (.bool true))]) (fun z => [⟨x0, [Value.bool x.each, Value.slice b1p x.out.length c1p, Value.slice b2p x.atoms.length c2p, Value.slice b3p x.filters.length c3p], (39 : Nat)⟩, ⟨x1, [.slice z.2.2.2.1 z.2.1.cols.length z.2.2.2.2.1, .slice z.2.2.2.2.2.1 z.2.1.bag.items.length z.2.2.2.2.2.2], (191 : Nat)⟩, ⟨x2, [Value.slice none (0 : Nat) (0 : Nat)], (33 : Nat)⟩]) (fun z => [z.2.2.1, H]) (fun z => x.filters.length - z.1) (fun z => z.1 ≤ x.filters.length ∧ z.2.1 = sievesT t x.filters z.1 ∧ gTable.rd (z.2.2.1 ++ H) [.slice z.2.2.2.1 z.2.1.cols.length z.2.2.2.2.1, .slice z.2.2.2.2.2.1 z.2.1.bag.items.length z.2.2.2.2.2.2] z.2.1) ((0, t, [], _, _, _, _))
 ·exact frI
 ·exact ⟨rfl, rfl, rfl, trivial⟩
 ·try dsimp only
  exact ⟨Nat.zero_le _, rfl, by simpa using hq⟩
 ·exact .refl _
 rintro ⟨k, T, D, tb, tc, ib, ic⟩ hI
 try dsimp only at hI
 obtain ⟨hk, hT, hr⟩ := hI
 try dsimp only
 refine ⟨fun q3 => ?_, fun q3 => ?_⟩
 ·simp at q3
  refine ⟨fun q4 => ?_, fun q4 => ?_⟩
  ·simp at q4
   refine draw G_ok mixed (some 10) (.q 0 (.q 1 (.q 2 (.q 3 (.q 4 (.q 5 (.f 6 (.q 7 (.q 8 (.q 9 (.tl 10 (.f 11 (.nil))))))))))))) (by decide +kernel) ?_
   refine idx_rd h3p ?_ ?_ fun b5 o5 hb5 => ?_
   ·omega
   ·omega
   refine load_allN default (k) rfl h3p ?_ ?_ hb5 rfl (mem_at 1 rfl) fun l6 hl6 => ?_
   ·omega
   ·omega
   obtain ⟨rfl, w0x6, w1x6, w2x6, w3x6⟩ := gFilter_rd.1 hl6
   refine call_new (specSieve_ct _ _ T (x.filters[k]?.getD default) ?_ ?_) ⟨Rp.mono _ (mem_app9 (mem_at 0 rfl) (mem_at 1 rfl)) hr, (Rp.mono _ (mem_at 1 rfl) hl6)⟩ ?_
   ·(rw [hT]; exact sieves_ok ht _ _)
   ·(rw [hT, sieves_cols]; exact hf k (by omega))
   rintro v7 A7 o7
   obtain ⟨b07, c07, b17, c17, rfl, o7⟩ := o7
   refine VC.intro ?_ ?_
   ·exact keep_new
   apply loop_stepA (k + 1, sieveT T (x.filters[k]?.getD default), _, _, _, _, _)
   ·exact .sub (by repeat (first | exact .slnil | apply List.Sublist.cons_cons | apply List.Sublist.cons))
   ·exact frI
   ·exact ⟨rfl, rfl, rfl, trivial⟩
   ·try dsimp only
    exact ⟨by omega, by rw [hT]; rfl, owT_rd (by assumption) fun p hp => List.mem_append_left _ hp⟩
   try dsimp only
   omega
  ·simp at q4
 ·simp at q3
  refine ⟨fun q8 => ?_, fun q8 => ?_⟩
  ·simp at q8
   refine call_newP (specProject_ct _ _ _ _ T x.out ?_ ?_) ⟨Rp.mono _ (mem_app9 (mem_at 0 rfl) (mem_at 1 rfl)) hr, (Rp.mono _ (mem_at 1 rfl) h1p)⟩ ?_
   ·(rw [hT]; exact sieves_ok ht _ _)
   ·(rw [hT, sieves_cols]; exact ho)
   rintro v9 A9 o9
   obtain ⟨b09, c09, b19, c19, rfl, Ac9, Ab9, hP9, oc9, ob9⟩ := o9
   refine ⟨[Ac9, Ab9], by simpa using hP9, ?_⟩
   refine ⟨fun q10 => ?_, fun q10 => ?_⟩
   ·simp at q10
   ·simp at q10
    refine ⟨fun q11 => ?_, fun q11 => ?_⟩
    ·exact absurd (he.symm.trans q11) (by decide)
    ·(have hke : k = x.filters.length := (by omega); subst hke; subst hT; exact ⟨Ab9, ⟨_, _, rfl, ob9⟩, rlB⟩)
  ·simp at q8
end
section
attribute [local irreducible] IntKind.wrap ownerOf namesM queryM
theorem query_parts {x : Query} (h : queryM x = true) : (1 ≤ x.atoms.length ∧ x.atoms.length ≤ 4 ∧ x.filters.length ≤ 3) ∧ outFit (namesM x.atoms) x.out ∧ ∀ k, k < x.filters.length → fitF (namesM x.atoms) (x.filters[k]?.getD default) := by
 have h1 : queryP x := by
  apply Classical.byContradiction
  intro e
  rw [q_no e] at h; cases h
 refine ⟨⟨h1.1.1, h1.1.2.1, h1.1.2.2.1⟩, ⟨⟨h1.1.2.2.2.1, h1.1.2.2.2.2.1⟩, h1.2.2.2.1, h1.2.2.1⟩, fun k hk => ?_⟩
 have h2 := h1.2.2.2.2 k hk
 unfold filterM at h2
 rw [Bool.and_eq_true, Bool.and_eq_true] at h2
 obtain ⟨a1, a2, a3⟩ := h2
 refine ⟨a1, ?_, a2⟩
 by_cases h0 : (x.filters[k]?.getD default).right.size = 0
 ·exact .inl h0
 rw [if_neg h0, Bool.and_eq_true] at a3
 exact .inr a3.2
theorem shares_parts {x : Query} {s : List Int} (h : sharesM x s = true) : queryM x = true ∧ s.length = (namesM x.atoms).length := by
 unfold sharesM at h
 rw [Bool.and_eq_true, Bool.and_eq_true, decide_eq_true_iff] at h
 exact ⟨h.1, h.2.2⟩
theorem jk_next {ts : List Table} {i : Nat} (h1 : 1 ≤ i) (h : (jk ts (i - 1)).2 = true) : jk ts i = joinM (jk ts (i - 1)).1 (ts[i]?.getD default) := by
 obtain ⟨j, rfl⟩ : ∃ j, i = j + 1 := ⟨i - 1, by omega⟩
 rw [Nat.add_sub_cancel] at h ⊢
 conv => lhs; unfold jk
 rw [if_pos h]
theorem jk_stop {ts : List Table} {i : Nat} (h1 : 1 ≤ i) (hi : i ≤ ts.length) (h : (jk ts (i - 1)).2 = false) : (jk ts (ts.length - 1)).2 = false := by
 by_cases h2 : i = 1
 ·subst h2
  have h3 : (jk ts 0).2 = true := rfl
  rw [show (1 : Nat) - 1 = 0 from rfl, h3] at h; cases h
 rw [jk_all h (by omega) (by omega : i - 1 ≤ ts.length - 1)]
theorem sieves_here (x : Query) (s : List Int) (c : Int) {t : Table} (hc : t.cols = namesM x.atoms) : ∀ k, sievesT (hereK x s c t 0) x.filters k = hereK x s c t k
 | 0 => rfl
 | k + 1 => by
  have e : (hereK x s c t k).cols = namesM x.atoms := hc
  rw [hereK_step, ← e]
  show sieveT (sievesT (hereK x s c t 0) x.filters k) _ = _
  rw [sieves_here x s c hc k]; rfl
theorem all_names {ts : List Table} {x : Query} {s : List Int} (hs : sharesM x s = true) (hf : fitM x ts) (hj : (jk ts (ts.length - 1)).2 = true) : tableM (jk ts (ts.length - 1)).1 = true ∧ (jk ts (ts.length - 1)).1.cols = namesM x.atoms := by
 have h1 := (query_parts (shares_parts hs).1).1
 have h2 := hf.1
 have h3 := jk_ok hf (ts.length - 1) (by omega) hj
 rw [show ts.length - 1 + 1 = x.atoms.length by omega, List.take_length] at h3
 exact h3
theorem names_fit {cs : List ByteArray} (h : colsOk cs = true) : outFit cs cs := by
 obtain ⟨h1, h2, h3⟩ := cols_parts h
 refine ⟨h1, ?_, h2⟩
 have : ∀ n, allK (fun i => hasS cs (cs[i]?.getD ByteArray.empty)) n = true ∨ cs.length < n := by
  intro n
  induction n with
  | zero => exact .inl rfl
  | succ n ih =>
   by_cases hn : n < cs.length
   ·rcases ih with ih | ih
    ·exact .inl (allK_step ih (hasS_iff.2 (by rw [List.getElem?_eq_getElem hn]; exact List.getElem_mem hn)))
    omega
   exact .inr (by omega)
 exact (this cs.length).resolve_right (by omega)
theorem ca_val {x : Query} {s : List Int} {c : Int} {ts : List Table} (h1 : sharesM x s = true) (h2 : inR 0 (cellsM s - 1) c = true) (h3 : fitM x ts) (h4 : (jk ts (ts.length - 1)).2 = true) {e : Bool} :
  (caM x s c ts).1.items = l11P ⟨e, x.out, x.atoms, x.filters⟩ (hereK x s c (jk ts (ts.length - 1)).1 0) true := by
 rw [ca_yes h1 h2 h3 h4]
 show (endM x s c _).items = _
 unfold endM l11P
 rw [if_pos rfl]
 dsimp only
 rw [sieves_here x s c (all_names h1 h3 h4).2]
theorem fit_no1 {x : Query} {ts : List Table} (h : ¬ ts.length = x.atoms.length) : ¬ fitM x ts := fun e => h e.1
theorem fit_no2 {x : Query} {ts : List Table} {i : Nat} (hi : i < ts.length) (h : tableM (ts[i]?.getD default) = false) : ¬ fitM x ts := fun e => by rw [(e.2 i hi).1] at h; cases h
theorem fit_no3 {x : Query} {ts : List Table} {i : Nat} (hi : i < ts.length) (h : ¬ (ts[i]?.getD default).cols = colsM (x.atoms[i]?.getD default)) : ¬ fitM x ts := fun e => h (e.2 i hi).2
theorem ca_no1 {x : Query} {s : List Int} {c : Int} {ts : List Table} (h : sharesM x s = false) : caM x s c ts = (⟨[]⟩, false) := ca_no fun e => by rw [h] at e; cases e.1
theorem ca_no2 {x : Query} {s : List Int} {c : Int} {ts : List Table} (h : inR 0 (cellsM s - 1) c = false) : caM x s c ts = (⟨[]⟩, false) := ca_no fun e => by rw [h] at e; cases e.2.1
theorem ca_no3 {x : Query} {s : List Int} {c : Int} {ts : List Table} (h : ¬ fitM x ts) : caM x s c ts = (⟨[]⟩, false) := ca_no fun e => h e.2.2.1
theorem ca_no4 {x : Query} {s : List Int} {c : Int} {ts : List Table} (h : (jk ts (ts.length - 1)).2 = false) : caM x s c ts = (⟨[]⟩, false) := ca_no fun e => by rw [h] at e; cases e.2.2.2
theorem all_step9 {P : Nat → Prop} {i : Nat} (h : ∀ j, j < i → P j) (h2 : P i) : ∀ j, j < i + 1 → P j := fun j hj => by
 rcases Nat.lt_succ_iff_lt_or_eq.1 hj with h3 | rfl
 ·exact h j h3
 exact h2
theorem owT_cols {b0 : Option Addr} {c0 : Nat} {b1 : Option Addr} {c1 : Nat} {t : Table} {D : Hp} (h : OwT b0 c0 b1 c1 t D) : (gSl 9 gS).rd D [.slice b0 t.cols.length c0] t.cols := by
 obtain ⟨Ac, Ab, hP, oc, ob⟩ := h
 exact Rp.mono _ (fun p hp => hP.mem_iff.2 (List.mem_append_left _ hp)) (Gt.owrd _ oc)
theorem table_rd2 {b0 : Option Addr} {c0 : Nat} {b1 : Option Addr} {c1 : Nat} {cs : List ByteArray} {ys : List Item} {H : Hp} (h1 : (gSl 9 gS).rd H [.slice b0 cs.length c0] cs) (h2 : (gSl 218 gItem).rd H [.slice b1 ys.length c1] ys) : gTable.rd H [.slice b0 cs.length c0, .slice b1 ys.length c1] ⟨cs, ⟨ys⟩⟩ :=
 gTable_rd.2 ⟨b0, c0, _, rfl, h1, gBag_rd.2 ⟨b1, c1, rfl, h2⟩⟩
theorem ca_leaf {x : Query} {s : List Int} {ce : Int} {ts : List Table} {q : Query} {T : Table} {ok : Bool} {b1 : Option Addr} {c1 : Nat} {D : Hp} (h1 : l11P q T ok = (caM x s ce ts).1.items) (h2 : (caM x s ce ts).2 = ok) (o : (gSl 218 gItem).ow [.slice b1 (l11P q T ok).length c1] (l11P q T ok) D) :
  ∃ (b : Option Addr) (c : Nat), Value.tuple ⟨[.agg ⟨[.slice b1 (l11P q T ok).length c1]⟩, .bool ok]⟩ = .tuple #[.agg ⟨[.slice b (caM x s ce ts).1.items.length c]⟩, .bool (caM x s ce ts).2] ∧ (gSl 218 gItem).ow [.slice b (caM x s ce ts).1.items.length c] (caM x s ce ts).1.items D := by
 rw [h1] at o
 exact ⟨b1, c1, by rw [h1, h2], o⟩
theorem ca_low {x : Query} {s : List Int} {ce : Int} {ts : List Table} {q : Query} {T : Table} {ok : Bool} (h : (jk ts (ts.length - 1)).2 = false) (hk : ok = false) : l11P q T ok = (caM x s ce ts).1.items ∧ (caM x s ce ts).2 = ok := by
 rw [ca_no4 h, hk]; exact ⟨rfl, rfl⟩
theorem specCellAnswer_ct (l : List Value) (b : Option Addr) (m c : Nat) (b2 : Option Addr) (m2 c2 : Nat) (x : Query) (s : List Int) (ce : Int) (ts : List Table) (hx : gQuery.sz x ≤ 1048576) :
  Ct prog 128 [.agg ⟨l⟩, .slice b m c, .int .i64 ce, .slice b2 m2 c2] [] (fun H => gQuery.rd H l x ∧ (gSl 3 gI).rd H [.slice b m c] s ∧ (gSl 191 gTable).rd H [.slice b2 m2 c2] ts)
   (fun v D => ∃ (b1 : Option Addr) (c1 : Nat), v = .tuple #[.agg ⟨[.slice b1 (caM x s ce ts).1.items.length c1]⟩, .bool (caM x s ce ts).2] ∧ (gSl 218 gItem).ow [.slice b1 (caM x s ce ts).1.items.length c1] (caM x s ce ts).1.items D) := by
 refine Ct.intro0 G_ok func128 rfl rfl rfl fun E H hp => ?_
 obtain ⟨hp, hs, ht⟩ := hp
 obtain ⟨rfl, hcs, hls⟩ := sl_len hs
 obtain ⟨rfl, hct, hlt⟩ := sl_len ht
 obtain ⟨b1p, c1p, b2p, c2p, b3p, c3p, rfl, h1p, h2p, h3p⟩ := gQuery_rd.1 hp
 have hal := atoms_len hx
 have hcr := cells_rng s
 have hcw : IntKind.i64.wrap (cellsM s - 1) = cellsM s - 1 := wrap_of (by omega) (by omega)
 refine ⟨fun x0 => ?_⟩
 refine ⟨fun x1 => ?_⟩
 refine call_val (specSharesOk_ct _ _ _ _ (x) (s) ?_) ⟨(Rp.mono _ (mem_at 0 rfl) hp), (Rp.mono _ (mem_at 0 rfl) hs)⟩ ?_
 ·trivial
 rintro _ rfl
 refine ⟨fun q3 => ?_, fun q3 => ?_⟩
 ·simp at q3
  exact ⟨[], ⟨none, 0, by rw [ca_no1 (by assumption)]; rfl, by rw [ca_no1 (by assumption)]; exact sl_nil _ _ _⟩, .mem (by simp)⟩
 ·simp at q3
  refine call_val (specCellsOf_ct _ _ _ (s)) (Rp.mono _ (mem_at 0 rfl) hs) ?_
  rintro _ rfl
  refine call_val (l01In_ct _ _ _) trivial ?_
  rintro _ rfl
  refine ⟨fun q6 => ?_, fun q6 => ?_⟩
  ·simp at q6
   simp (disch := omega) only [wrap_of] at q6
   exact ⟨[], ⟨none, 0, by rw [ca_no2 (x := x) (s := s) (c := ce) (ts := ts) (by first | assumption | (rw [← hcw]; assumption))]; rfl, by rw [ca_no2 (x := x) (s := s) (c := ce) (ts := ts) (by first | assumption | (rw [← hcw]; assumption))]; exact sl_nil _ _ _⟩, .mem (by simp)⟩
  ·simp at q6
   simp (disch := omega) only [wrap_of] at q6
   refine ⟨fun q7 => ?_, fun q7 => ?_⟩
   ·simp at q7
    exact ⟨[], ⟨none, 0, by rw [ca_no3 (fit_no1 (by omega))]; rfl, by rw [ca_no3 (fit_no1 (by omega))]; exact sl_nil _ _ _⟩, .mem (by simp)⟩
   ·simp at q7
    obtain ⟨⟨hq1, hq2, hq3⟩, hqo, hqf⟩ := query_parts (shares_parts ‹sharesM x s = true›).1
    have hQ : inR 0 (cellsM s - 1) ce = true := (by first | assumption | (rw [← hcw]; assumption))
    apply loop_mod (α := (Nat)) G_ok [38, 39, 40, 41, 44, 45, 46, 47, 48, 49, 50, 51, 52, 53, 54, 55, 56, 57, 58, 59, 60, 61, 62, 63, 64, 65, 9, 42, 43, 10] (fun z => [(10, .v (.int .i64 z)), (9, .v (.bool false))]) (fun z => [{ id := x0, cs := [Value.bool x.each, Value.slice b1p x.out.length c1p, Value.slice b2p x.atoms.length c2p, Value.slice b3p x.filters.length c3p], ty := (39 : Nat) }, { id := x1, cs := [Value.slice none (0 : Nat) (0 : Nat)], ty := (33 : Nat) }]) (fun z => [H]) (fun z => ts.length - z) (fun z => z ≤ ts.length ∧ ∀ j, j < z → tableM (ts[j]?.getD default) = true ∧ (ts[j]?.getD default).cols = colsM (x.atoms[j]?.getD default)) ((0))
    ·exact frI
    ·exact ⟨rfl, rfl, trivial⟩
    ·exact ⟨Nat.zero_le _, fun j hj => absurd hj (Nat.not_lt_zero _)⟩
    ·exact .refl _
    rintro i hI
    try dsimp only at hI
    obtain ⟨hi, hf⟩ := hI
    try dsimp only
    refine ⟨fun q8 => ?_, fun q8 => ?_⟩
    ·simp at q8
     refine draw G_ok mixed none (.q 0 (.q 1 (.q 2 (.q 3 (.f 4 (.q 5 (.q 6 (.q 7 (.q 8 (.q 9 (.q 10 (.q 11 (.q 12 (.q 13 (.q 14 (.q 15 (.q 16 (.f 17 (.f 18 (.q 19 (.q 20 (.nil)))))))))))))))))))))) (by decide +kernel) ?_
     refine idx_rd ht ?_ ?_ fun b9 o9 hb9 => ?_
     ·omega
     ·omega
     refine load_allN default (i) rfl ht ?_ ?_ hb9 rfl (mem_at 0 rfl) fun l10 hl10 => ?_
     ·omega
     ·omega
     obtain ⟨b0x10, c0x10, l1x10, rfl, h0x10, h1x10⟩ := gTable_rd.1 hl10 ; obtain ⟨b0_1x10, c0_1x10, rfl, h0_1x10⟩ := gBag_rd.1 h1x10
     refine call_val (specTableOk_ct _ (ts[i]?.getD default)) (Rp.mono _ (mem_at 0 rfl) hl10) ?_
     rintro _ rfl
     refine VC.intro ?_ ?_
     ·exact fun _ h => h
     refine ⟨fun q12 => ?_, fun q12 => ?_⟩
     ·simp at q12
      exact ⟨[], ⟨none, 0, by rw [ca_no3 (fit_no2 (i := i) (by omega) (by assumption))]; rfl, by rw [ca_no3 (fit_no2 (i := i) (by omega) (by assumption))]; exact sl_nil _ _ _⟩, .mem (by simp)⟩
     ·simp at q12
      refine idx_rd ht ?_ ?_ fun b13 o13 hb13 => ?_
      ·omega
      ·omega
      refine load_partN default (i) 0 rfl ht ?_ ?_ hb13 rfl (by decide) (mem_at 0 rfl) fun l14 hl14 => ?_
      ·omega
      ·omega
      obtain ⟨b0x14, c0x14, l1x14, rfl, h0x14, h1x14⟩ := gTable_rd.1 hl14 ; obtain ⟨b0_1x14, c0_1x14, rfl, h0_1x14⟩ := gBag_rd.1 h1x14
      refine idx_rd h2p ?_ ?_ fun b15 o15 hb15 => ?_
      ·omega
      ·omega
      refine load_allN default (i) rfl h2p ?_ ?_ hb15 rfl (mem_at 0 rfl) fun l16 hl16 => ?_
      ·omega
      ·omega
      obtain ⟨rfl, w0x16, w1x16, w2x16⟩ := gAtom_rd.1 hl16
      refine call_new (specColsOf_ct _ (x.atoms[i]?.getD default)) (Rp.mono _ (mem_at 0 rfl) hl16) ?_
      rintro v17 A17 o17
      obtain ⟨b17, c17, rfl, o17⟩ := o17
      refine VC.intro ?_ ?_
      ·exact keep_new
      refine call_val (l08Texts_ct _ _ _ _ _ _ ((ts[i]?.getD default).cols) (colsM (x.atoms[i]?.getD default))) ⟨(Rp.mono _ (mem_at 1 rfl) h0x14), (Rp.mono _ (mem_at 0 rfl) (Gt.owrd _ o17))⟩ ?_
      rintro _ rfl
      refine VC.intro ?_ ?_
      ·exact keep_new
      refine ⟨fun q19 => ?_, fun q19 => ?_⟩
      ·simp at q19
       exact ⟨[], ⟨none, 0, by rw [ca_no3 (fit_no3 (i := i) (by omega) (by assumption))]; rfl, by rw [ca_no3 (fit_no3 (i := i) (by omega) (by assumption))]; exact sl_nil _ _ _⟩, .mem (by simp)⟩
      ·simp at q19
       apply loop_stepA (i + 1)
       ·exact .sub (by repeat (first | exact .slnil | apply List.Sublist.cons_cons | apply List.Sublist.cons))
       ·exact frI
       ·exact ⟨rfl, rfl, trivial⟩
       ·exact ⟨by omega, all_step9 hf ⟨by assumption, by assumption⟩⟩
       omega
    ·simp at q8
     have hie : i = ts.length := (by omega)
     subst hie
     have hF : fitM x ts := ⟨by omega, hf⟩
     have h0t : 0 < ts.length := (by omega)
     refine idx_rd ht ?_ ?_ fun b20 o20 hb20 => ?_
     ·trivial
     ·omega
     refine load_allN default (0) rfl ht ?_ ?_ hb20 rfl (mem_at 0 rfl) fun l21 hl21 => ?_
     ·trivial
     ·omega
     obtain ⟨b0x21, c0x21, l1x21, rfl, h0x21, h1x21⟩ := gTable_rd.1 hl21 ; obtain ⟨b0_1x21, c0_1x21, rfl, h0_1x21⟩ := gBag_rd.1 h1x21
     refine call_new (l10Copy_ct _ (ts[0]?.getD default) ?_) (Rp.mono _ (mem_at 0 rfl) hl21) ?_
     ·simp_all
     rintro v22 A22 o22
     obtain ⟨b022, c022, b122, c122, rfl, o22⟩ := o22
     refine ⟨fun x23 => ?_⟩
     apply loop_mod (α := (Nat) × (Table × Bool) × (Hp) × (Option Addr) × (Nat) × (Option Addr) × (Nat)) G_ok [70, 71, 72, 73, 74, 75, 76, 80, 81, 82, 83, 84, 85, 79, 86, 87, 12, 77, 78, 13] (fun z => [(13, .v (.int .i64 z.1)), (12, .v (.bool z.2.1.2))]) (fun z => [⟨x0, [Value.bool x.each, Value.slice b1p x.out.length c1p, Value.slice b2p x.atoms.length c2p, Value.slice b3p x.filters.length c3p], (39 : Nat)⟩, ⟨x1, [Value.slice none (0 : Nat) (0 : Nat)], (33 : Nat)⟩, ⟨x23, [.slice z.2.2.2.1 z.2.1.1.cols.length z.2.2.2.2.1, .slice z.2.2.2.2.2.1 z.2.1.1.bag.items.length z.2.2.2.2.2.2], (191 : Nat)⟩]) (fun z => [z.2.2.1, H]) (fun z => ts.length - z.1) (fun z => 1 ≤ z.1 ∧ z.1 ≤ ts.length ∧ z.2.1 = jk ts (z.1 - 1) ∧ OwT z.2.2.2.1 z.2.2.2.2.1 z.2.2.2.2.2.1 z.2.2.2.2.2.2 z.2.1.1 z.2.2.1) ((1, (ts[0]?.getD default, true), _, _, _, _, _))
     ·exact frI
     ·exact ⟨rfl, rfl, rfl, trivial⟩
     ·try dsimp only
      exact ⟨Nat.le_refl _, by omega, rfl, by assumption⟩
     ·exact .refl _
     rintro ⟨i2, J, D, tb, tc, ib, ic⟩ hI
     try dsimp only at hI
     obtain ⟨h1, h2, hJ, oJ⟩ := hI
     try dsimp only
     refine ⟨fun q24 => ?_, fun q24 => ?_⟩
     ·simp at q24
      refine ⟨fun q25 => ?_, fun q25 => ?_⟩
      ·refine draw G_ok mixed (some 9) (.q 0 (.q 1 (.q 2 (.q 3 (.q 4 (.f 5 (.q 6 (.q 7 (.q 8 (.tl 9 (.f 10 (.nil)))))))))))) (by decide +kernel) ?_
       refine idx_rd ht ?_ ?_ fun b26 o26 hb26 => ?_
       ·omega
       ·omega
       refine load_allN default (i2) rfl ht ?_ ?_ hb26 rfl (mem_at 1 rfl) fun l27 hl27 => ?_
       ·omega
       ·omega
       obtain ⟨b0x27, c0x27, l1x27, rfl, h0x27, h1x27⟩ := gTable_rd.1 hl27 ; obtain ⟨b0_1x27, c0_1x27, rfl, h0_1x27⟩ := gBag_rd.1 h1x27
       refine call_new (specJoin_ct _ _ J.1 (ts[i2]?.getD default)) ⟨owT_rd oJ (mem_at 0 rfl), (Rp.mono _ (mem_at 1 rfl) hl27)⟩ ?_
       rintro v28 A28 o28
       obtain ⟨b028, c028, b128, c128, rfl, o28⟩ := o28
       refine VC.intro ?_ ?_
       ·exact keep_new
       apply loop_stepA (i2 + 1, joinM J.1 (ts[i2]?.getD default), _, _, _, _, _)
       ·exact .sub (by repeat (first | exact .slnil | apply List.Sublist.cons_cons | apply List.Sublist.cons))
       ·exact frI
       ·exact ⟨rfl, rfl, rfl, trivial⟩
       ·try dsimp only
        exact ⟨by omega, by omega, by rw [Nat.add_sub_cancel, jk_next h1 (by rw [← hJ]; assumption), ← hJ], by assumption⟩
       try dsimp only
       omega
      ·refine ⟨fun q29 => ?_, fun q29 => ?_⟩
       ·exact absurd (‹J.2 = true›.symm.trans ‹J.2 = false›) (by decide)
       ·have hJ2 := ‹J.2 = false›
        have hst := jk_stop h1 h2 (by rw [← hJ]; exact hJ2)
        have rcJ := owT_cols oJ
        refine ⟨fun x30 => ?_⟩
        apply loop_mod (α := (Nat) × (List Item) × (Hp) × (Option Addr) × (Nat)) G_ok [99, 100, 101, 102, 103, 104, 105, 106, 107, 110, 111, 112, 113, 114, 115, 116, 117, 118, 119, 120, 121, 122, 123, 124, 125, 126, 127, 128, 129, 130, 131, 132, 133, 134, 135, 136, 137, 138, 108, 109, 15] (fun z => [(15, .v (.int .i64 z.1))]) (fun z => [⟨x0, [Value.bool x.each, Value.slice b1p x.out.length c1p, Value.slice b2p x.atoms.length c2p, Value.slice b3p x.filters.length c3p], (39 : Nat)⟩, ⟨x1, [Value.slice none (0 : Nat) (0 : Nat)], (33 : Nat)⟩, ⟨x23, [Value.slice tb J.fst.cols.length tc, Value.slice ib J.fst.bag.items.length ic], (191 : Nat)⟩, ⟨x30, [Value.slice tb J.fst.cols.length tc, .slice z.2.2.2.1 z.2.1.length z.2.2.2.2], (191 : Nat)⟩]) (fun z => [z.2.2.1, D, H]) (fun z => 0) (fun z => z.1 = 0 ∧ (gSl 218 gItem).ow [.slice z.2.2.2.1 z.2.1.length z.2.2.2.2] z.2.1 z.2.2.1) ((0, [], [], none, 0))
        ·exact frI
        ·exact ⟨rfl, rfl, rfl, rfl, trivial⟩
        ·try dsimp only
         exact ⟨rfl, sl_nil _ _ _⟩
        ·exact .refl _
        rintro ⟨k, xs, B, ib2, ic2⟩ hI
        obtain ⟨hk, oB⟩ : k = 0 ∧ (gSl 218 gItem).ow [.slice ib2 xs.length ic2] xs B := hI
        try dsimp only
        refine ⟨fun q31 => ?_, fun q31 => ?_⟩
        ·simp at q31
         refine ⟨fun q32 => ?_, fun q32 => ?_⟩
         ·exact absurd (‹J.2 = true›.symm.trans ‹J.2 = false›) (by decide)
         ·refine call_new (s_l08Copy_ct _ x ?_) (Rp.mono _ (mem_at 2 rfl) hp) ?_
          ·trivial
          rintro v33 A33 o33
          obtain ⟨l33, rfl, o33⟩ := o33
          have r33 := Gt.owrd _ o33
          obtain ⟨b1x33, c1x33, b2x33, c2x33, b3x33, c3x33, rfl, h1x33, h2x33, h3x33⟩ := gQuery_rd.1 r33
          have rqF : gQuery.rd A33 [.bool false, .slice b1x33 x.out.length c1x33, .slice b2x33 x.atoms.length c2x33, .slice b3x33 x.filters.length c3x33] ⟨false, x.out, x.atoms, x.filters⟩ := gQuery_rd.2 ⟨_, _, _, _, _, _, rfl, h1x33, h2x33, h3x33⟩
          refine ⟨fun x34 => ?_⟩
          refine call_new (l11End_ct _ _ _ (⟨false, x.out, x.atoms, x.filters⟩ : Query) ⟨J.1.cols, ⟨xs⟩⟩ rfl ?_) ⟨Rp.mono _ (sub_hall (by simp)) rqF, table_rd2 (Rp.mono _ (sub_hall (by simp)) rcJ) (Rp.mono _ (sub_hall (by simp)) (Gt.owrd _ oB))⟩ ?_
          ·simp_all
          rintro v35 A35 o35
          obtain ⟨b135, c135, rfl, o35⟩ := o35
          exact ⟨_, ca_leaf (q := ⟨false, x.out, x.atoms, x.filters⟩) (T := ⟨J.1.cols, ⟨xs⟩⟩) (ca_low hst hJ2).1 (ca_low (q := ⟨false, x.out, x.atoms, x.filters⟩) (T := ⟨J.1.cols, ⟨xs⟩⟩) hst hJ2).2 (by assumption), rlB⟩
        ·simp at q31
         refine call_new (s_l08Copy_ct _ x ?_) (Rp.mono _ (mem_at 2 rfl) hp) ?_
         ·trivial
         rintro v36 A36 o36
         obtain ⟨l36, rfl, o36⟩ := o36
         have r36 := Gt.owrd _ o36
         obtain ⟨b1x36, c1x36, b2x36, c2x36, b3x36, c3x36, rfl, h1x36, h2x36, h3x36⟩ := gQuery_rd.1 r36
         have rqF : gQuery.rd A36 [.bool false, .slice b1x36 x.out.length c1x36, .slice b2x36 x.atoms.length c2x36, .slice b3x36 x.filters.length c3x36] ⟨false, x.out, x.atoms, x.filters⟩ := gQuery_rd.2 ⟨_, _, _, _, _, _, rfl, h1x36, h2x36, h3x36⟩
         refine ⟨fun x37 => ?_⟩
         refine call_new (l11End_ct _ _ _ (⟨false, x.out, x.atoms, x.filters⟩ : Query) ⟨J.1.cols, ⟨xs⟩⟩ rfl ?_) ⟨Rp.mono _ (sub_hall (by simp)) rqF, table_rd2 (Rp.mono _ (sub_hall (by simp)) rcJ) (Rp.mono _ (sub_hall (by simp)) (Gt.owrd _ oB))⟩ ?_
         ·simp_all
         rintro v38 A38 o38
         obtain ⟨b138, c138, rfl, o38⟩ := o38
         exact ⟨_, ca_leaf (q := ⟨false, x.out, x.atoms, x.filters⟩) (T := ⟨J.1.cols, ⟨xs⟩⟩) (ca_low hst hJ2).1 (ca_low (q := ⟨false, x.out, x.atoms, x.filters⟩) (T := ⟨J.1.cols, ⟨xs⟩⟩) hst hJ2).2 (by assumption), rlB⟩
     ·simp at q24
      refine ⟨fun q39 => ?_, fun q39 => ?_⟩
      ·have hie2 : i2 = ts.length := (by omega)
       subst hie2
       have hj2 : (jk ts (ts.length - 1)).2 = true := (by rw [← hJ]; assumption)
       obtain ⟨hTJ, hcJ⟩ := all_names ‹sharesM x s = true› hF hj2
       have hps : projM J.1 (namesM x.atoms) = J.1 := (by rw [hJ, ← hcJ]; exact proj_same hTJ)
       have hTK : tableM J.1 = true := (by rw [hJ]; exact hTJ)
       have hcK : J.1.cols = namesM x.atoms := (by rw [hJ]; exact hcJ)
       have hW := (tableM_iff.1 hTK).2.2
       obtain ⟨⟨ha1, ha2⟩, ha3⟩ := table_len hTK
       refine draw G_ok mixed (some 7) (.q 0 (.q 1 (.f 2 (.f 3 (.q 4 (.q 5 (.q 6 (.tl 7 (.f 8 (.nil)))))))))) (by decide +kernel) ?_
       refine call_new (specNamesOf_ct _ (x) ?_) (Rp.mono _ (mem_at 1 rfl) hp) ?_
       ·trivial
       rintro v40 A40 o40
       obtain ⟨b40, c40, rfl, o40⟩ := o40
       refine VC.intro ?_ ?_
       ·exact keep_new
       refine call_newP (specProject_ct _ _ _ _ J.1 (namesM x.atoms) ?_ ?_) ⟨owT_rd oJ (mem_at 1 rfl), (Rp.mono _ (mem_at 0 rfl) (Gt.owrd _ o40))⟩ ?_
       ·trivial
       ·(rw [← hcK]; exact names_fit (tableM_iff.1 hTK).1)
       rintro v41 A41 o41
       rw [hps] at o41
       obtain ⟨b041, c041, b141, c141, rfl, Ac41, Ab41, hP41, oc41, ob41⟩ := o41
       refine ⟨[Ac41, Ab41], by simpa using hP41, ?_⟩
       have rb41 := Gt.owrd _ ob41
       have rcJ := Gt.owrd _ oc41
       refine VC.intro ?_ ?_
       ·exact keep_sub (by simp) (by simp)
       refine ⟨fun x42 => ?_⟩
       apply loop_mod (α := (Nat) × (List Item) × (Hp) × (Option Addr) × (Nat)) G_ok [99, 100, 101, 102, 103, 104, 105, 106, 107, 110, 111, 112, 113, 114, 115, 116, 117, 118, 119, 120, 121, 122, 123, 124, 125, 126, 127, 128, 129, 130, 131, 132, 133, 134, 135, 136, 137, 138, 108, 109, 15] (fun z => [(15, .v (.int .i64 z.1))]) (fun z => [⟨x0, [Value.bool x.each, Value.slice b1p x.out.length c1p, Value.slice b2p x.atoms.length c2p, Value.slice b3p x.filters.length c3p], (39 : Nat)⟩, ⟨x1, [Value.slice none (0 : Nat) (0 : Nat)], (33 : Nat)⟩, ⟨x23, [Value.slice b041 J.fst.cols.length c041, Value.slice b141 J.fst.bag.items.length c141], (191 : Nat)⟩, ⟨x42, [Value.slice b041 J.fst.cols.length c041, .slice z.2.2.2.1 z.2.1.length z.2.2.2.2], (191 : Nat)⟩]) (fun z => [z.2.2.1, Ac41, Ab41, A40, D, H]) (fun z => J.1.bag.items.length - z.1) (fun z => z.1 ≤ J.1.bag.items.length ∧ z.2.1 = putsI [] ((J.1.bag.items.take z.1).filter fun p => decide (cellOf s p.row = ce)) ∧ (gSl 218 gItem).ow [.slice z.2.2.2.1 z.2.1.length z.2.2.2.2] z.2.1 z.2.2.1) ((0, [], [], none, 0))
       ·exact frI
       ·exact ⟨rfl, rfl, rfl, rfl, trivial⟩
       ·try dsimp only
        exact ⟨Nat.zero_le _, rfl, sl_nil _ _ _⟩
       ·exact .refl _
       rintro ⟨k, xs, B, ib2, ic2⟩ hI
       try dsimp only at hI
       obtain ⟨hk, hxs, oB⟩ := hI
       try dsimp only
       refine ⟨fun q43 => ?_, fun q43 => ?_⟩
       ·simp at q43
        obtain ⟨ta1, ta2, ta3⟩ := table_row hTK (i := k) (by omega)
        obtain ⟨hiv, hln⟩ := filt_putI hW (fun p => decide (cellOf s p.row = ce)) (i := k) (by omega)
        rw [← hxs] at hiv hln
        refine ⟨fun q44 => ?_, fun q44 => ?_⟩
        ·simp at q44
         refine idx_rd rb41 ?_ ?_ fun b45 o45 hb45 => ?_
         ·omega
         ·omega
         refine load_partN default (k) 0 rfl rb41 ?_ ?_ hb45 rfl (by decide) (mem_at 2 rfl) fun l46 hl46 => ?_
         ·omega
         ·omega
         obtain ⟨b0x46, c0x46, rfl, h0x46, w1x46⟩ := gItem_rd.1 hl46
         refine call_val (specCellOf_ct _ _ _ _ _ _ (s) ((J.fst.bag.items[k]?.getD default).row)) ⟨(Rp.mono _ (mem_at 5 rfl) hs), (Rp.mono _ (mem_at 2 rfl) h0x46)⟩ ?_
         rintro _ rfl
         refine ⟨fun q48 => ?_, fun q48 => ?_⟩
         ·simp at q48
          refine draw G_ok mixed (some 16) (.q 0 (.q 1 (.q 2 (.q 3 (.q 4 (.q 5 (.q 6 (.q 7 (.q 8 (.q 9 (.q 10 (.q 11 (.q 12 (.q 13 (.q 14 (.q 15 (.tl 16 (.f 17 (.f 18 (.nil)))))))))))))))))))) (by decide +kernel) ?_
          refine idx_rd rb41 ?_ ?_ fun b49 o49 hb49 => ?_
          ·omega
          ·omega
          refine load_partN default (k) 0 rfl rb41 ?_ ?_ hb49 rfl (by decide) (mem_at 2 rfl) fun l50 hl50 => ?_
          ·omega
          ·omega
          obtain ⟨b0x50, c0x50, rfl, h0x50, w1x50⟩ := gItem_rd.1 hl50
          refine idx_rd rb41 ?_ ?_ fun b51 o51 hb51 => ?_
          ·omega
          ·omega
          refine load_partN default (k) 1 rfl rb41 ?_ ?_ hb51 rfl (by decide) (mem_at 2 rfl) fun l52 hl52 => ?_
          ·omega
          ·omega
          obtain ⟨b0x52, c0x52, rfl, h0x52, w1x52⟩ := gItem_rd.1 hl52
          refine callR_part (B) [Ac41, Ab41, A40, D, H] (l03Put_ct _ _ _ _ _ _ xs _ ((J.fst.bag.items[k]?.getD default).row) (J.1.bag.items[k]?.getD default).times (plR xs ((J.fst.bag.items[k]?.getD default).row)) oB ?_ ?_ ?_ ?_ ?_) ?_ (Rp.mono _ (mem_at 1 rfl) h0x50) ?_
          ·omega
          ·omega
          ·trivial
          ·exact hiv.2
          ·exact plR_at hiv.1
          ·exact .refl _
          rintro _ A53 ⟨b53, c53, rfl, o53⟩
          refine ⟨[A53], by simp, ?_⟩
          apply loop_stepA (k + 1, _, _, _, _)
          ·exact .refl _
          ·exact frI
          ·exact ⟨rfl, rfl, rfl, rfl, trivial⟩
          ·try dsimp only
           exact ⟨by omega, by rw [hxs]; exact filt_yesP (p := fun p => decide (cellOf s p.row = ce)) (by omega) (decide_eq_true (by assumption)), by assumption⟩
          try dsimp only
          omega
         ·simp at q48
          apply loop_stepA (k + 1, xs, B, ib2, ic2)
          ·exact .refl _
          ·exact frI
          ·exact ⟨rfl, rfl, rfl, rfl, trivial⟩
          ·try dsimp only
           exact ⟨by omega, by rw [← filt_noP (p := fun p => decide (cellOf s p.row = ce)) (by omega) (decide_eq_false (by assumption))]; exact hxs, oB⟩
          try dsimp only
          omega
        ·simp at q44
       ·simp at q43
        have hke : k = J.1.bag.items.length := (by omega)
        rw [hke, List.take_length, keep_items hW] at hxs
        have hT9 : (⟨J.1.cols, ⟨xs⟩⟩ : Table) = hereK x s ce J.1 0 := (by rw [hereK_zero, hxs])
        have hfin : l11P ⟨false, x.out, x.atoms, x.filters⟩ ⟨J.1.cols, ⟨xs⟩⟩ true = (caM x s ce ts).1.items := (by rw [hT9, ca_val ‹sharesM x s = true› hQ hF hj2 (e := false), hJ])
        have hfin2 : (caM x s ce ts).2 = true := (by rw [ca_yes ‹sharesM x s = true› hQ hF hj2])
        refine call_new (s_l08Copy_ct _ x ?_) (Rp.mono _ (mem_at 5 rfl) hp) ?_
        ·trivial
        rintro v54 A54 o54
        obtain ⟨l54, rfl, o54⟩ := o54
        have r54 := Gt.owrd _ o54
        obtain ⟨b1x54, c1x54, b2x54, c2x54, b3x54, c3x54, rfl, h1x54, h2x54, h3x54⟩ := gQuery_rd.1 r54
        have rqF : gQuery.rd A54 [.bool false, .slice b1x54 x.out.length c1x54, .slice b2x54 x.atoms.length c2x54, .slice b3x54 x.filters.length c3x54] ⟨false, x.out, x.atoms, x.filters⟩ := gQuery_rd.2 ⟨_, _, _, _, _, _, rfl, h1x54, h2x54, h3x54⟩
        refine ⟨fun x55 => ?_⟩
        refine call_new (l11End_ct _ _ _ (⟨false, x.out, x.atoms, x.filters⟩ : Query) ⟨J.1.cols, ⟨xs⟩⟩ rfl ?_) ⟨Rp.mono _ (sub_hall (by simp)) rqF, table_rd2 (Rp.mono _ (sub_hall (by simp)) rcJ) (Rp.mono _ (sub_hall (by simp)) (Gt.owrd _ oB))⟩ ?_
        ·exact fun _ => (by rw [hT9]; exact ⟨hereK_ok hTK 0, fun i hi => by (show fitF J.1.cols _; rw [hcK]; exact hqf i hi), by (show outFit J.1.cols x.out; rw [hcK]; exact hqo)⟩)
        rintro v56 A56 o56
        obtain ⟨b156, c156, rfl, o56⟩ := o56
        exact ⟨_, ca_leaf hfin hfin2 (by assumption), rlB⟩
      ·have hJ2 := ‹J.2 = false›
       have hst := jk_stop h1 h2 (by rw [← hJ]; exact hJ2)
       have rcJ := owT_cols oJ
       refine ⟨fun x57 => ?_⟩
       apply loop_mod (α := (Nat) × (List Item) × (Hp) × (Option Addr) × (Nat)) G_ok [99, 100, 101, 102, 103, 104, 105, 106, 107, 110, 111, 112, 113, 114, 115, 116, 117, 118, 119, 120, 121, 122, 123, 124, 125, 126, 127, 128, 129, 130, 131, 132, 133, 134, 135, 136, 137, 138, 108, 109, 15] (fun z => [(15, .v (.int .i64 z.1))]) (fun z => [⟨x0, [Value.bool x.each, Value.slice b1p x.out.length c1p, Value.slice b2p x.atoms.length c2p, Value.slice b3p x.filters.length c3p], (39 : Nat)⟩, ⟨x1, [Value.slice none (0 : Nat) (0 : Nat)], (33 : Nat)⟩, ⟨x23, [Value.slice tb J.fst.cols.length tc, Value.slice ib J.fst.bag.items.length ic], (191 : Nat)⟩, ⟨x57, [Value.slice tb J.fst.cols.length tc, .slice z.2.2.2.1 z.2.1.length z.2.2.2.2], (191 : Nat)⟩]) (fun z => [z.2.2.1, D, H]) (fun z => 0) (fun z => z.1 = 0 ∧ (gSl 218 gItem).ow [.slice z.2.2.2.1 z.2.1.length z.2.2.2.2] z.2.1 z.2.2.1) ((0, [], [], none, 0))
       ·exact frI
       ·exact ⟨rfl, rfl, rfl, rfl, trivial⟩
       ·try dsimp only
        exact ⟨rfl, sl_nil _ _ _⟩
       ·exact .refl _
       rintro ⟨k, xs, B, ib2, ic2⟩ hI
       obtain ⟨hk, oB⟩ : k = 0 ∧ (gSl 218 gItem).ow [.slice ib2 xs.length ic2] xs B := hI
       try dsimp only
       refine ⟨fun q58 => ?_, fun q58 => ?_⟩
       ·simp at q58
        refine ⟨fun q59 => ?_, fun q59 => ?_⟩
        ·exact absurd (‹J.2 = true›.symm.trans ‹J.2 = false›) (by decide)
        ·refine call_new (s_l08Copy_ct _ x ?_) (Rp.mono _ (mem_at 2 rfl) hp) ?_
         ·trivial
         rintro v60 A60 o60
         obtain ⟨l60, rfl, o60⟩ := o60
         have r60 := Gt.owrd _ o60
         obtain ⟨b1x60, c1x60, b2x60, c2x60, b3x60, c3x60, rfl, h1x60, h2x60, h3x60⟩ := gQuery_rd.1 r60
         have rqF : gQuery.rd A60 [.bool false, .slice b1x60 x.out.length c1x60, .slice b2x60 x.atoms.length c2x60, .slice b3x60 x.filters.length c3x60] ⟨false, x.out, x.atoms, x.filters⟩ := gQuery_rd.2 ⟨_, _, _, _, _, _, rfl, h1x60, h2x60, h3x60⟩
         refine ⟨fun x61 => ?_⟩
         refine call_new (l11End_ct _ _ _ (⟨false, x.out, x.atoms, x.filters⟩ : Query) ⟨J.1.cols, ⟨xs⟩⟩ rfl ?_) ⟨Rp.mono _ (sub_hall (by simp)) rqF, table_rd2 (Rp.mono _ (sub_hall (by simp)) rcJ) (Rp.mono _ (sub_hall (by simp)) (Gt.owrd _ oB))⟩ ?_
         ·simp_all
         rintro v62 A62 o62
         obtain ⟨b162, c162, rfl, o62⟩ := o62
         exact ⟨_, ca_leaf (q := ⟨false, x.out, x.atoms, x.filters⟩) (T := ⟨J.1.cols, ⟨xs⟩⟩) (ca_low hst hJ2).1 (ca_low (q := ⟨false, x.out, x.atoms, x.filters⟩) (T := ⟨J.1.cols, ⟨xs⟩⟩) hst hJ2).2 (by assumption), rlB⟩
       ·simp at q58
        refine call_new (s_l08Copy_ct _ x ?_) (Rp.mono _ (mem_at 2 rfl) hp) ?_
        ·trivial
        rintro v63 A63 o63
        obtain ⟨l63, rfl, o63⟩ := o63
        have r63 := Gt.owrd _ o63
        obtain ⟨b1x63, c1x63, b2x63, c2x63, b3x63, c3x63, rfl, h1x63, h2x63, h3x63⟩ := gQuery_rd.1 r63
        have rqF : gQuery.rd A63 [.bool false, .slice b1x63 x.out.length c1x63, .slice b2x63 x.atoms.length c2x63, .slice b3x63 x.filters.length c3x63] ⟨false, x.out, x.atoms, x.filters⟩ := gQuery_rd.2 ⟨_, _, _, _, _, _, rfl, h1x63, h2x63, h3x63⟩
        refine ⟨fun x64 => ?_⟩
        refine call_new (l11End_ct _ _ _ (⟨false, x.out, x.atoms, x.filters⟩ : Query) ⟨J.1.cols, ⟨xs⟩⟩ rfl ?_) ⟨Rp.mono _ (sub_hall (by simp)) rqF, table_rd2 (Rp.mono _ (sub_hall (by simp)) rcJ) (Rp.mono _ (sub_hall (by simp)) (Gt.owrd _ oB))⟩ ?_
        ·simp_all
        rintro v65 A65 o65
        obtain ⟨b165, c165, rfl, o65⟩ := o65
        exact ⟨_, ca_leaf (q := ⟨false, x.out, x.atoms, x.filters⟩) (T := ⟨J.1.cols, ⟨xs⟩⟩) (ca_low hst hJ2).1 (ca_low (q := ⟨false, x.out, x.atoms, x.filters⟩) (T := ⟨J.1.cols, ⟨xs⟩⟩) hst hJ2).2 (by assumption), rlB⟩
end
section
attribute [local irreducible] IntKind.wrap ownerOf namesM queryM
theorem passes_ct (b : Option Addr) (m c : Nat) (b2 : Option Addr) (m2 c2 : Nat) (l : List Value) (ns : List ByteArray) (vs : List Int) (f : Filter) (hf : fitF ns f) (hl : ns.length ≤ vs.length) (hv : ∀ x ∈ vs, okI x) :
  Ct prog 305 [.agg ⟨[.slice b m c, .slice b2 m2 c2]⟩, .agg ⟨l⟩] [] (fun H => (gSl 9 gS).rd H [.slice b m c] ns ∧ (gSl 3 gI).rd H [.slice b2 m2 c2] vs ∧ gFilter.rd H l f) (fun v A => v = .bool (passM ns vs f) ∧ A = []) := by
 refine Ct.intro0 G_ok func305 rfl rfl rfl fun E H hp => ?_
 obtain ⟨hq, hr, hp⟩ := hp
 obtain ⟨rfl, w0p, w1p, w2p, w3p⟩ := gFilter_rd.1 hp
 refine ⟨fun x0 => ?_⟩
 refine ⟨fun x1 => ?_⟩
 refine ⟨fun q2 => ?_, fun q2 => ?_⟩
 ·simp at q2
  refine call_val (lookupOf_ct _ _ _ _ _ _ ns vs _ ?_ hl) ⟨Rp.mono _ (sub_hall (by simp)) hq, Rp.mono _ (sub_hall (by simp)) hr⟩ ?_
  ·exact fit_right hf (by assumption)
  rintro _ rfl
  refine ⟨fun q4 => ?_, fun q4 => ?_⟩
  ·simp at q4
   refine call_val (lookupOf_ct _ _ _ _ _ _ ns vs _ ?_ hl) ⟨Rp.mono _ (sub_hall (by simp)) hq, Rp.mono _ (sub_hall (by simp)) hr⟩ ?_
   ·exact hf.1
   rintro _ rfl
   exact ⟨[], ⟨by first | (rw [passM_less (by assumption), right_num (by assumption)]; rfl) | (rw [passM_less (by assumption), right_val (by assumption)]; rfl) | (rw [passM_same (by assumption), right_num (by assumption), ← beq_dec]; rfl) | (rw [passM_same (by assumption), right_val (by assumption), ← beq_dec]; rfl), rfl⟩, .mem (by simp)⟩
  ·simp at q4
   refine call_val (lookupOf_ct _ _ _ _ _ _ ns vs _ ?_ hl) ⟨Rp.mono _ (sub_hall (by simp)) hq, Rp.mono _ (sub_hall (by simp)) hr⟩ ?_
   ·exact hf.1
   rintro _ rfl
   exact ⟨[], ⟨by first | (rw [passM_less (by assumption), right_num (by assumption)]; rfl) | (rw [passM_less (by assumption), right_val (by assumption)]; rfl) | (rw [passM_same (by assumption), right_num (by assumption), ← beq_dec]; rfl) | (rw [passM_same (by assumption), right_val (by assumption), ← beq_dec]; rfl), rfl⟩, .mem (by simp)⟩
 ·simp at q2
  refine ⟨fun q7 => ?_, fun q7 => ?_⟩
  ·simp at q7
   refine call_val (lookupOf_ct _ _ _ _ _ _ ns vs _ ?_ hl) ⟨Rp.mono _ (sub_hall (by simp)) hq, Rp.mono _ (sub_hall (by simp)) hr⟩ ?_
   ·exact hf.1
   rintro _ rfl
   exact ⟨[], ⟨by first | (rw [passM_less (by assumption), right_num (by assumption)]; rfl) | (rw [passM_less (by assumption), right_val (by assumption)]; rfl) | (rw [passM_same (by assumption), right_num (by assumption), ← beq_dec]; rfl) | (rw [passM_same (by assumption), right_val (by assumption), ← beq_dec]; rfl), rfl⟩, .mem (by simp)⟩
  ·simp at q7
   refine call_val (lookupOf_ct _ _ _ _ _ _ ns vs _ ?_ hl) ⟨Rp.mono _ (sub_hall (by simp)) hq, Rp.mono _ (sub_hall (by simp)) hr⟩ ?_
   ·exact hf.1
   rintro _ rfl
   exact ⟨[], ⟨by first | (rw [passM_less (by assumption), right_num (by assumption)]; rfl) | (rw [passM_less (by assumption), right_val (by assumption)]; rfl) | (rw [passM_same (by assumption), right_num (by assumption), ← beq_dec]; rfl) | (rw [passM_same (by assumption), right_val (by assumption), ← beq_dec]; rfl), rfl⟩, .mem (by simp)⟩
theorem passK_no {cs : List ByteArray} {fs : List Filter} {row : List Int} {k n : Nat} (hk : k < n) (h : passM cs row (fs[k]?.getD default) = false) : passK cs fs row n = false := allK_no h _ hk
theorem passesAll_ct (b : Option Addr) (m c : Nat) (b2 : Option Addr) (m2 c2 : Nat) (b3 : Option Addr) (m3 c3 : Nat) (ns : List ByteArray) (vs : List Int) (fs : List Filter) (hf : ∀ i, i < fs.length → fitF ns (fs[i]?.getD default)) (hl : ns.length ≤ vs.length) (hv : ∀ x ∈ vs, okI x) :
  Ct prog 231 [.agg ⟨[.slice b m c, .slice b2 m2 c2]⟩, .slice b3 m3 c3] [] (fun H => (gSl 9 gS).rd H [.slice b m c] ns ∧ (gSl 3 gI).rd H [.slice b2 m2 c2] vs ∧ (gSl 220 gFilter).rd H [.slice b3 m3 c3] fs) (fun v A => v = .bool (passK ns fs vs fs.length) ∧ A = []) := by
 refine Ct.intro0 G_ok func231 rfl rfl rfl fun E H hp => ?_
 obtain ⟨hq, hr, hp⟩ := hp
 obtain ⟨rfl, hcp, hlp⟩ := sl_len hp
 refine ⟨fun x0 => ?_⟩
 apply loop_mod (α := (Nat)) G_ok [10, 11, 12, 6, 13, 14, 15, 16, 4, 17, 9] (fun z => [(9, .v (.int .i64 z))]) (fun z => [{ id := x0, cs := [Value.slice b m c, Value.slice b2 m2 c2], ty := (223 : Nat) }]) (fun z => [H]) (fun z => fs.length - z) (fun z => z ≤ fs.length ∧ passK ns fs vs z = true) ((0))
 ·exact frI
 ·exact ⟨rfl, trivial⟩
 ·exact ⟨Nat.zero_le _, rfl⟩
 ·exact .refl _
 rintro k hI
 obtain ⟨hk, ha⟩ : k ≤ fs.length ∧ passK ns fs vs k = true := hI
 try dsimp only
 refine ⟨fun q1 => ?_, fun q1 => ?_⟩
 ·simp at q1
  refine idx_rd hp ?_ ?_ fun b2 o2 hb2 => ?_
  ·omega
  ·omega
  refine load_allN default (k) rfl hp ?_ ?_ hb2 rfl (mem_at 0 rfl) fun l3 hl3 => ?_
  ·omega
  ·omega
  obtain ⟨rfl, w0x3, w1x3, w2x3, w3x3⟩ := gFilter_rd.1 hl3
  refine ⟨fun x4 => ?_⟩
  refine call_val (passes_ct _ _ _ _ _ _ _ ns vs (fs[k]?.getD default) (hf k (by omega)) hl hv) ⟨Rp.mono _ (sub_hall (by simp)) hq, Rp.mono _ (sub_hall (by simp)) hr, (Rp.mono _ (mem_at 0 rfl) hl3)⟩ ?_
  rintro _ rfl
  refine ⟨fun q6 => ?_, fun q6 => ?_⟩
  ·simp at q6
   exact ⟨[], ⟨by rw [passK_no (k := k) (by omega) (by assumption)], rfl⟩, .mem (by simp)⟩
  ·simp at q6
   apply loop_stepA (k + 1)
   ·exact .refl _
   ·exact frI
   ·exact ⟨rfl, trivial⟩
   ·exact ⟨by omega, by rw [passK_step, ha, ‹passM ns vs _ = true›]; rfl⟩
   omega
 ·simp at q1
  (have hke : k = fs.length := (by omega); subst hke; exact ⟨[], ⟨by rw [ha], rfl⟩, .mem (by simp)⟩)
theorem caFn_ct (q1 q2 q3 q4 : Nat) (b : Option Addr) (c : Nat) (b2 : Option Addr) (m2 c2 : Nat) (e1 : Bool) (b3 : Option Addr) (m3 c3 : Nat) (b4 : Option Addr) (m4 c4 : Nat) (b5 : Option Addr) (c5 : Nat) (b6 : Option Addr) (m6 c6 : Nat) (b7 : Option Addr) (c7 : Nat) (ce : Int) (ns : List ByteArray) (vs : List Int) (fs : List Filter) (s : List Int)
  (hf : ∀ i, i < fs.length → fitF ns (fs[i]?.getD default)) (hd : distM ns = true) (hn : ns.length ≤ 4) (hl : vs.length = ns.length) (hv : ∀ x ∈ vs, okI x) :
  Ct prog 230 [.agg ⟨[.slice b ns.length c, .slice b2 m2 c2]⟩, .pointer (some ⟨q1, 0, none⟩), .pointer (some ⟨q2, 0, none⟩), .pointer (some ⟨q3, 0, none⟩), .pointer (some ⟨q4, 0, none⟩)] []
   (fun H => ((gSl 9 gS).rd H [.slice b ns.length c] ns ∧ (gSl 3 gI).rd H [.slice b2 m2 c2] vs ∧ (gSl 220 gFilter).rd H [.slice b5 fs.length c5] fs ∧ (gSl 3 gI).rd H [.slice b6 m6 c6] s ∧ (gSl 9 gS).rd H [.slice b7 ns.length c7] ns) ∧
    (q1, Obj.cells ⟨[.bool e1, .slice b3 m3 c3, .slice b4 m4 c4, .slice b5 fs.length c5]⟩ 39) ∈ H ∧ (q2, Obj.cells ⟨[.slice b6 m6 c6]⟩ 27) ∈ H ∧ (q3, Obj.cells ⟨[.slice b7 ns.length c7]⟩ 22) ∈ H ∧ (q4, Obj.cells ⟨[.int .i64 ce]⟩ 3) ∈ H)
   (fun v A => v = .bool (passK ns fs vs fs.length && decide (cellOf s vs = ce)) ∧ A = []) := by
 refine Ct.intro0 G_ok func230 rfl rfl rfl fun E H hp => ?_
 obtain ⟨⟨hq, hr, hp, hs, hns⟩, hm1, hm2, hm3, hm4⟩ := hp
 refine ⟨fun x0 => ?_⟩
 refine draw G_ok mixed none (.q 0 (.q 1 (.q 2 (.f 3 (.q 4 (.q 5 (.q 6 (.q 7 (.q 10 (.f 8 (.f 9 (.q 11 (.q 12 (.q 13 (.nil))))))))))))))) (by decide +kernel) ?_
 refine load_ent (l := [.slice b5 fs.length c5]) (by first | exact mem_at 0 rfl _ hm1 | exact mem_at 1 rfl _ hm1 | exact mem_at 2 rfl _ hm1) (by simp) rfl ?_
 refine call_val (passesAll_ct _ _ _ _ _ _ _ _ _ ns vs fs hf (by omega) hv) ⟨Rp.mono _ (sub_hall (by simp)) hq, Rp.mono _ (sub_hall (by simp)) hr, Rp.mono _ (sub_hall (by simp)) hp⟩ ?_
 rintro _ rfl
 refine VC.intro ?_ ?_
 ·exact fun _ h => h
 refine ⟨fun q2 => ?_, fun q2 => ?_⟩
 ·refine load_ent (l := [.slice b6 m6 c6]) (by first | exact mem_at 0 rfl _ hm2 | exact mem_at 1 rfl _ hm2 | exact mem_at 2 rfl _ hm2) (by simp) rfl ?_
  refine load_ent (l := [.slice b7 ns.length c7]) (by first | exact mem_at 0 rfl _ hm3 | exact mem_at 1 rfl _ hm3 | exact mem_at 2 rfl _ hm3) (by simp) rfl ?_
  refine load_ent (l := [.int .i64 ce]) (by first | exact mem_at 0 rfl _ hm4 | exact mem_at 1 rfl _ hm4 | exact mem_at 2 rfl _ hm4) (by simp) rfl ?_
  refine call_new (lookupRow_ct _ _ _ _ _ _ _ _ _ ns vs ns (fun s hs => hasS_iff.2 hs) (by omega) (by omega) hv) ⟨Rp.mono _ (sub_hall (by simp)) hq, Rp.mono _ (sub_hall (by simp)) hr, Rp.mono _ (sub_hall (by simp)) hns⟩ ?_
  rintro v3 A3 o3
  obtain ⟨b3, c3, rfl, o3⟩ := o3
  rw [tv_self hd hl] at *
  refine VC.intro ?_ ?_
  ·exact keep_new
  refine call_val (implCellOf_ct _ _ _ _ _ _ (s) (vs)) ⟨(Rp.mono _ (mem_at 1 rfl) hs), (Rp.mono _ (mem_at 0 rfl) (Gt.owrd _ o3))⟩ ?_
  rintro _ rfl
  refine VC.intro ?_ ?_
  ·exact keep_new
  exact ⟨[], ⟨by rw [‹passK ns fs vs fs.length = true›, Bool.true_and]; first | rfl | rw [beq_dec], rfl⟩, .mem (by simp)⟩
 ·exact ⟨[], ⟨by rw [‹passK ns fs vs fs.length = false›]; rfl, rfl⟩, .mem (by simp)⟩
end
section
attribute [local irreducible] IntKind.wrap ownerOf namesM queryM
theorem filt_putB {w : Nat} {ys : List Item} (h : BW w ys) (hl : ys.length ≤ 300) (p : Item → Bool) {i k : Nat} (hi : i < ys.length) {xs : List Item} (hx : xs = putsI [] ((ys.take i).filter p)) (hp : p (ys[i]?.getD default) = true)
  (hat : rowM (ys[i]?.getD default).row = true ∧ (0 < xs.length → (rowI xs 0).length = (ys[i]?.getD default).row.length) → atR xs (ys[i]?.getD default).row k) : (putB xs (ys[i]?.getD default).row (ys[i]?.getD default).times k).1 = putsI [] ((ys.take (i + 1)).filter p) := by
 subst hx
 have hm : ys[i]?.getD default ∈ ys := by rw [List.getElem?_eq_getElem hi]; exact List.getElem_mem hi
 have hok := bw_items h _ hm
 have hb : BW w (putsI [] ((ys.take i).filter p)) := putsI_bw (bw_nil _) fun q hq => bw_items h q (List.mem_of_mem_take (List.mem_filter.1 hq).1)
 have hlen := filt_putI h p (i := i) hi
 have hw : rowM (ys[i]?.getD default).row = true ∧ (0 < (putsI [] ((ys.take i).filter p)).length → (rowI (putsI [] ((ys.take i).filter p)) 0).length = (ys[i]?.getD default).row.length) :=
  ⟨hok.2.1, fun h0 => by rw [(hb.rows _ (mem_rowsI.2 ⟨0, h0, rfl⟩)).2]; exact hok.2.2.symm⟩
 have e : putsI [] ((ys.take (i + 1)).filter p) = putI (putsI [] ((ys.take i).filter p)) (ys[i]?.getD default) := by rw [filt_yes9 default hi hp, putsI_snoc]
 have h2 := putB_put hb (by omega) hok (k := k) (hat hw)
 have h3 := putI_len (p := ys[i]?.getD default) hb.inv
 rw [if_pos (by omega)] at h2
 rw [h2, e]
theorem keep_yes {a : Bool} {P : Prop} [Decidable P] (h : a = true ∧ P) : (a && decide P) = true := by rw [h.1, decide_eq_true h.2]; rfl
theorem keep_no {a : Bool} {P : Prop} [Decidable P] (h : a = true → ¬ P) : (a && decide P) = false := by
 cases a with
 | false => rfl
 | true => rw [decide_eq_false (h rfl)]; rfl
def keepT (t : Table) (fs : List Filter) (s : List Int) (ce : Int) : Table := ⟨t.cols, ⟨t.bag.items.filter fun p => passK t.cols fs p.row fs.length && decide (cellOf s p.row = ce)⟩⟩
theorem keepRows_ct (l : List Value) (qa qb qc qd : Nat) (e1 : Bool) (u3 : Option Addr) (v3 w3 : Nat) (u4 : Option Addr) (v4 w4 : Nat) (u5 : Option Addr) (w5 : Nat) (u6 : Option Addr) (v6 w6 : Nat) (u7 : Option Addr) (w7 : Nat) (ce : Int) (t : Table) (fs : List Filter) (s : List Int)
  (ht : tableM t = true) (hf : ∀ i, i < fs.length → fitF t.cols (fs[i]?.getD default)) :
  Ct prog 229 [.agg ⟨l⟩, .func (.func 230) ⟨[]⟩ ⟨[.pointer (some ⟨qa, 0, none⟩), .pointer (some ⟨qb, 0, none⟩), .pointer (some ⟨qc, 0, none⟩), .pointer (some ⟨qd, 0, none⟩)]⟩] []
   (fun H => (gTable.rd H l t ∧ (gSl 220 gFilter).rd H [.slice u5 fs.length w5] fs ∧ (gSl 3 gI).rd H [.slice u6 v6 w6] s ∧ (gSl 9 gS).rd H [.slice u7 t.cols.length w7] t.cols) ∧
    (qa, Obj.cells ⟨[.bool e1, .slice u3 v3 w3, .slice u4 v4 w4, .slice u5 fs.length w5]⟩ 39) ∈ H ∧ (qb, Obj.cells ⟨[.slice u6 v6 w6]⟩ 27) ∈ H ∧ (qc, Obj.cells ⟨[.slice u7 t.cols.length w7]⟩ 22) ∈ H ∧ (qd, Obj.cells ⟨[.int .i64 ce]⟩ 3) ∈ H)
   (fun v D => ∃ (b0 : Option Addr) (c0 : Nat) (b1 : Option Addr) (c1 : Nat), v = .agg ⟨[.slice b0 (keepT t fs s ce).cols.length c0, .slice b1 (keepT t fs s ce).bag.items.length c1]⟩ ∧ OwT b0 c0 b1 c1 (keepT t fs s ce) D) := by
 refine Ct.intro0 G_ok func229 rfl rfl rfl fun E H hp => ?_
 obtain ⟨⟨hp, hr5, hr6, hr7⟩, hm1, hm2, hm3, hm4⟩ := hp
 obtain ⟨b0p, c0p, l1p, rfl, h0p, h1p⟩ := gTable_rd.1 hp
 obtain ⟨b0_1p, c0_1p, rfl, h0_1p⟩ := gBag_rd.1 h1p
 obtain ⟨⟨ha1, ha2⟩, ha3⟩ := table_len ht
 have hW := (tableM_iff.1 ht).2.2
 obtain ⟨hcl1, hcl2, hcl3⟩ := cols_parts (tableM_iff.1 ht).1
 have hcz := cols_sz9 (tableM_iff.1 ht).1
 refine ⟨fun x0 => ?_⟩
 refine ⟨fun x1 => ?_⟩
 refine call_new (cloneS_ct _ _ _ (t.cols) ?_) (Rp.mono _ (mem_at 0 rfl) h0p) ?_
 ·trivial
 rintro v2 A2 o2
 obtain ⟨b2, c2, rfl, o2⟩ := o2
 refine ⟨fun x3 => ?_⟩
 apply loop_mod (α := (Nat) × (List Item) × (Hp) × (Option Addr) × (Nat)) G_ok [17, 18, 19, 7, 20, 21, 22, 23, 24, 25, 26, 27, 28, 29, 30, 31, 32, 33, 16] (fun z => [(16, .v (.int .i64 z.1))]) (fun z => [⟨x0, [Value.slice b0p t.cols.length c0p, Value.slice b0_1p t.bag.items.length c0_1p], (191 : Nat)⟩, ⟨x1, [Value.slice none (0 : Nat) (0 : Nat), Value.slice none (0 : Nat) (0 : Nat)], (191 : Nat)⟩, ⟨x3, [Value.slice b2 t.cols.length c2, .slice z.2.2.2.1 z.2.1.length z.2.2.2.2], (191 : Nat)⟩]) (fun z => [z.2.2.1, A2, H]) (fun z => t.bag.items.length - z.1) (fun z => z.1 ≤ t.bag.items.length ∧ z.2.1 = putsI [] ((t.bag.items.take z.1).filter fun p => passK t.cols fs p.row fs.length && decide (cellOf s p.row = ce)) ∧ (gSl 218 gItem).ow [.slice z.2.2.2.1 z.2.1.length z.2.2.2.2] z.2.1 z.2.2.1) ((0, [], [], none, 0))
 ·exact frI
 ·exact ⟨rfl, rfl, rfl, trivial⟩
 ·try dsimp only
  exact ⟨Nat.zero_le _, rfl, sl_nil _ _ _⟩
 ·exact .refl _
 rintro ⟨k, xs, B, ib, ic⟩ hI
 try dsimp only at hI
 obtain ⟨hk, hxs, oB⟩ := hI
 try dsimp only
 refine ⟨fun q4 => ?_, fun q4 => ?_⟩
 ·simp at q4
  obtain ⟨ta1, ta2, ta3⟩ := table_row ht (i := k) (by omega)
  obtain ⟨hiv, hln⟩ := filt_putI hW (fun p => passK t.cols fs p.row fs.length && decide (cellOf s p.row = ce)) (i := k) (by omega)
  rw [← hxs] at hiv hln
  refine idx_rd h0_1p ?_ ?_ fun b5 o5 hb5 => ?_
  ·omega
  ·omega
  refine load_allN default (k) rfl h0_1p ?_ ?_ hb5 rfl (mem_at 2 rfl) fun l6 hl6 => ?_
  ·omega
  ·omega
  obtain ⟨b0x6, c0x6, rfl, h0x6, w1x6⟩ := gItem_rd.1 hl6
  refine ⟨fun x7 => ?_⟩
  refine call_val (caFn_ct _ _ _ _ _ _ _ _ _ e1 u3 v3 w3 u4 v4 w4 u5 w5 u6 v6 w6 u7 w7 ce t.cols (t.bag.items[k]?.getD default).row fs s hf hcl2 (by omega) ta1 (row_okI9 ta3)) ⟨⟨Rp.mono _ (sub_hall (by simp)) h0p, Rp.mono _ (sub_hall (by simp)) ‹(gSl 3 gI).rd H [Value.slice _ (t.bag.items[k]?.getD default).row.length _] _›, Rp.mono _ (sub_hall (by simp)) hr5, Rp.mono _ (sub_hall (by simp)) hr6, Rp.mono _ (sub_hall (by simp)) hr7⟩, mem_at 2 rfl _ hm1, mem_at 2 rfl _ hm2, mem_at 2 rfl _ hm3, mem_at 2 rfl _ hm4⟩ ?_
  rintro _ rfl
  refine ⟨fun q9 => ?_, fun q9 => ?_⟩
  ·simp at q9
   refine callR_blk 2 (B) [A2, H] rfl ?_ (bagPutX_ct _ _ _ _ _ _ xs _ _ _ _ (t.bag.items[k]?.getD default).row (t.bag.items[k]?.getD default).times _ rfl oB ?_ ?_ ?_ ?_) (Rp.mono _ (mem_at 1 rfl) h0x6) ?_
   ·exact .refl _
   ·exact hiv.1
   ·omega
   ·trivial
   ·exact hiv.2
   rintro _ A10 ⟨kp, bP, cP, AP, hat, rfl, rfl, oP⟩
   refine ⟨_, _, [AP], rfl, perm1, ?_⟩
   apply loop_stepA (k + 1, _, _, _, _)
   ·exact .refl _
   ·exact frI
   ·exact ⟨rfl, rfl, rfl, trivial⟩
   ·try dsimp only
    exact ⟨by omega, filt_putB hW ha3 (fun p => passK t.cols fs p.row fs.length && decide (cellOf s p.row = ce)) (by omega) hxs (keep_yes (by assumption)) hat, by assumption⟩
   try dsimp only
   omega
  ·simp at q9
   apply loop_stepA (k + 1, xs, B, ib, ic)
   ·exact .refl _
   ·exact frI
   ·exact ⟨rfl, rfl, rfl, trivial⟩
   ·try dsimp only
    exact ⟨by omega, by rw [← filt_noP (p := fun p => passK t.cols fs p.row fs.length && decide (cellOf s p.row = ce)) (by omega) (keep_no (by assumption))]; exact hxs, oB⟩
   try dsimp only
   omega
 ·simp at q4
  (have hke : k = t.bag.items.length := (by omega); rw [hke, List.take_length, keep_items hW] at hxs; subst hxs; exact ⟨A2 ++ B, ⟨_, _, _, _, rfl, A2, B, .refl _, o2, oB⟩, rlB⟩)
end
section
attribute [local irreducible] IntKind.wrap ownerOf namesM queryM
theorem equalS9_ct (b1 : Option Addr) (m1 c1 : Nat) (b2 : Option Addr) (m2 c2 : Nat) (aa bb : List ByteArray) :
  Ct prog 302 [.slice b1 m1 c1, .slice b2 m2 c2] [] (fun H => (gSl 9 gS).rd H [.slice b1 m1 c1] aa ∧ (gSl 9 gS).rd H [.slice b2 m2 c2] bb) (fun v A => v = .bool (decide (aa = bb)) ∧ A = []) := by
 refine Ct.intro0 G_ok func302 rfl rfl rfl fun E H hp => ?_
 obtain ⟨hp, hq⟩ := hp
 obtain ⟨rfl, hcp, hlp⟩ := sl_len hp
 obtain ⟨rfl, hcq, hlq⟩ := sl_len hq
 refine ⟨fun q0 => ?_, fun q0 => ?_⟩
 ·simp at q0
  exact ⟨[], ⟨by rw [texts_len (by omega)], rfl⟩, .mem (by simp)⟩
 ·simp at q0
  apply loop_mod (α := (Nat)) G_ok [14, 15, 5, 16, 17, 18, 19, 20, 21, 22, 23, 24, 4, 25, 13] (fun z => [(13, .v (.int .i64 z))]) (fun z => []) (fun z => [H]) (fun z => aa.length - z) (fun z => z ≤ aa.length ∧ aa.take z = bb.take z) ((0))
  ·exact frI
  ·exact trivial
  ·exact ⟨Nat.zero_le _, rfl⟩
  ·exact .refl _
  rintro k hI
  obtain ⟨hk, he⟩ : k ≤ aa.length ∧ aa.take k = bb.take k := hI
  try dsimp only
  refine ⟨fun q1 => ?_, fun q1 => ?_⟩
  ·simp at q1
   refine draw G_ok mixed none (.q 0 (.q 1 (.q 2 (.q 3 (.q 4 (.q 5 (.q 6 (.q 7 (.q 8 (.nil)))))))))) (by decide +kernel) ?_
   refine idx_rd hp ?_ ?_ fun b2 o2 hb2 => ?_
   ·omega
   ·omega
   refine load_allN ByteArray.empty (k) rfl hp ?_ ?_ hb2 rfl (mem_at 0 rfl) fun l3 hl3 => ?_
   ·omega
   ·omega
   obtain ⟨rfl, hw3⟩ := hl3; simp only [flStr, flInt, okI] at hw3
   refine idx_rd hq ?_ ?_ fun b4 o4 hb4 => ?_
   ·omega
   ·omega
   refine load_allN ByteArray.empty (k) rfl hq ?_ ?_ hb4 rfl (mem_at 0 rfl) fun l5 hl5 => ?_
   ·omega
   ·omega
   obtain ⟨rfl, hw5⟩ := hl5; simp only [flStr, flInt, okI] at hw5
   refine ⟨fun q6 => ?_, fun q6 => ?_⟩
   ·simp at q6
    simp only [str_inj, u8_inj, u8_wrap] at q6
    exact ⟨[], ⟨by rw [texts_no (k := k) (by assumption)], rfl⟩, .mem (by simp)⟩
   ·simp at q6
    simp only [str_inj, u8_inj, u8_wrap] at q6
    apply loop_stepA (k + 1)
    ·exact .refl _
    ·exact frI
    ·exact trivial
    ·exact ⟨by omega, texts_next (by omega) (by omega) he (by assumption)⟩
    omega
  ·simp at q1
   exact ⟨[], ⟨by rw [texts_yes (k := k) he (by omega) (by omega)], rfl⟩, .mem (by simp)⟩
open Classical in
theorem fit_yes9 {x : Query} {ts : List Table} (h : fitM x ts) : decide (fitM x ts) = true := decide_eq_true h
open Classical in
theorem fit_no9 {x : Query} {ts : List Table} (h : ¬ fitM x ts) : decide (fitM x ts) = false := decide_eq_false h
open Classical in
noncomputable def fitB (x : Query) (ts : List Table) : Bool := decide (fitM x ts)
theorem fitB_yes {x : Query} {ts : List Table} (h : fitM x ts) : fitB x ts = true := fit_yes9 h
theorem fitB_no {x : Query} {ts : List Table} (h : ¬ fitM x ts) : fitB x ts = false := fit_no9 h
open Classical in
theorem fitB_iff {x : Query} {ts : List Table} : fitB x ts = true ↔ fitM x ts := decide_eq_true_iff
theorem tablesFit_ct (l : List Value) (b2 : Option Addr) (m2 c2 : Nat) (x : Query) (ts : List Table) :
  Ct prog 227 [.agg ⟨l⟩, .slice b2 m2 c2] [] (fun H => gQuery.rd H l x ∧ (gSl 191 gTable).rd H [.slice b2 m2 c2] ts) (fun v A => v = .bool (fitB x ts) ∧ A = []) := by
 refine Ct.intro0 G_ok func227 rfl rfl rfl fun E H hp => ?_
 obtain ⟨hp, ht⟩ := hp
 obtain ⟨rfl, hct, hlt⟩ := sl_len ht
 obtain ⟨b1p, c1p, b2p, c2p, b3p, c3p, rfl, h1p, h2p, h3p⟩ := gQuery_rd.1 hp
 refine ⟨fun x0 => ?_⟩
 refine ⟨fun q1 => ?_, fun q1 => ?_⟩
 ·simp at q1
  exact ⟨[], ⟨by rw [fitB_no (fit_no1 (by omega))], rfl⟩, .mem (by simp)⟩
 ·simp at q1
  apply loop_mod (α := (Nat)) G_ok [16, 17, 18, 19, 6, 5, 20, 21, 22, 23, 24, 25, 26, 27, 28, 29, 30, 31, 32, 33, 34, 4, 35, 15] (fun z => [(15, .v (.int .i64 z)), (4, .v (.bool false))]) (fun z => [{ id := x0, cs := [Value.bool x.each, Value.slice b1p x.out.length c1p, Value.slice b2p x.atoms.length c2p, Value.slice b3p x.filters.length c3p], ty := (39 : Nat) }]) (fun z => [H]) (fun z => ts.length - z) (fun z => z ≤ ts.length ∧ ∀ j, j < z → tableM (ts[j]?.getD default) = true ∧ (ts[j]?.getD default).cols = colsM (x.atoms[j]?.getD default)) ((0))
  ·exact frI
  ·exact ⟨rfl, trivial⟩
  ·exact ⟨Nat.zero_le _, fun j hj => absurd hj (Nat.not_lt_zero _)⟩
  ·exact .refl _
  rintro i hI
  try dsimp only at hI
  obtain ⟨hi, hf⟩ := hI
  try dsimp only
  refine ⟨fun q2 => ?_, fun q2 => ?_⟩
  ·simp at q2
   refine idx_rd ht ?_ ?_ fun b3 o3 hb3 => ?_
   ·omega
   ·omega
   refine load_allN default (i) rfl ht ?_ ?_ hb3 rfl (mem_at 0 rfl) fun l4 hl4 => ?_
   ·omega
   ·omega
   obtain ⟨b0x4, c0x4, l1x4, rfl, h0x4, h1x4⟩ := gTable_rd.1 hl4 ; obtain ⟨b0_1x4, c0_1x4, rfl, h0_1x4⟩ := gBag_rd.1 h1x4
   refine ⟨fun x5 => ?_⟩
   refine draw G_ok mixed (some 12) (.q 0 (.f 1 (.q 2 (.q 3 (.q 4 (.q 5 (.q 6 (.q 7 (.q 8 (.q 9 (.q 10 (.f 11 (.tl 12 (.f 13 (.f 14 (.nil)))))))))))))))) (by decide +kernel) ?_
   refine call_val (implTableOk_ct _ (ts[i]?.getD default)) (Rp.mono _ (mem_at 0 rfl) hl4) ?_
   rintro _ rfl
   refine VC.intro ?_ ?_
   ·exact fun _ h => h
   refine ⟨fun q7 => ?_, fun q7 => ?_⟩
   ·simp at q7
    exact ⟨[], ⟨by rw [fitB_no (fit_no2 (i := i) (by omega) (by assumption))], rfl⟩, .mem (by simp)⟩
   ·simp at q7
    refine idx_rd h2p ?_ ?_ fun b8 o8 hb8 => ?_
    ·omega
    ·omega
    refine load_allN default (i) rfl h2p ?_ ?_ hb8 rfl (mem_at 0 rfl) fun l9 hl9 => ?_
    ·omega
    ·omega
    obtain ⟨rfl, w0x9, w1x9, w2x9⟩ := gAtom_rd.1 hl9
    refine call_new (implColsOf_ct _ (x.atoms[i]?.getD default)) (Rp.mono _ (mem_at 0 rfl) hl9) ?_
    rintro v10 A10 o10
    obtain ⟨b10, c10, rfl, o10⟩ := o10
    refine VC.intro ?_ ?_
    ·exact keep_new
    refine call_val (equalS9_ct _ _ _ _ _ _ ((ts[i]?.getD default).cols) (colsM (x.atoms[i]?.getD default))) ⟨(Rp.mono _ (mem_at 1 rfl) h0x4), (Rp.mono _ (mem_at 0 rfl) (Gt.owrd _ o10))⟩ ?_
    rintro _ rfl
    refine ⟨fun q12 => ?_, fun q12 => ?_⟩
    ·simp at q12
     exact ⟨[], ⟨by rw [fitB_no (fit_no3 (i := i) (by omega) (by assumption))], rfl⟩, .mem (by simp)⟩
    ·simp at q12
     apply loop_stepA (i + 1)
     ·exact .sub (by repeat (first | exact .slnil | apply List.Sublist.cons_cons | apply List.Sublist.cons))
     ·exact frI
     ·exact ⟨rfl, trivial⟩
     ·exact ⟨by omega, all_step9 hf ⟨by assumption, by assumption⟩⟩
     omega
  ·simp at q2
   exact ⟨[], ⟨by rw [fitB_yes ⟨by omega, fun j hj => hf j (by omega)⟩], rfl⟩, .mem (by simp)⟩
theorem jk_step9 {ts : List Table} {j : Nat} (h : (jk ts j).2 = true) : jk ts (j + 1) = joinM (jk ts j).1 (ts[j + 1]?.getD default) := by
 conv => lhs; unfold jk
 rw [if_pos h]
theorem drop_at9 (ts : List Table) (j : Nat) : (ts.drop 1)[j]?.getD default = ts[j + 1]?.getD default := by rw [List.getElem?_drop, Nat.add_comm]
theorem nilT_rd (H : Hp) : gTable.rd H [.slice none 0 0, .slice none 0 0] ⟨[], ⟨[]⟩⟩ := owT_rd owT_nil fun p hp => nomatch hp
theorem fit_no9' {x : Query} {ts : List Table} (h : fitB x ts = false) : ¬ fitM x ts := fun e => by rw [fitB_yes e] at h; cases h
theorem joinAll_ct (H0 : Hp) (b : Option Addr) (c : Nat) (ts : List Table) (h1 : 1 ≤ ts.length) (ht : (gSl 191 gTable).rd H0 [.slice b ts.length c] ts) :
  CtR prog 228 [.slice b ts.length c] H0 (fun _ => True) (fun v D => ∃ (b0 : Option Addr) (c0 : Nat) (b1 : Option Addr) (c1 : Nat) (A : Hp), v = .tuple #[.agg ⟨[.slice b0 (jk ts (ts.length - 1)).1.cols.length c0, .slice b1 (jk ts (ts.length - 1)).1.bag.items.length c1]⟩, .bool (jk ts (ts.length - 1)).2] ∧ D = A ++ H0 ∧ gTable.rd (A ++ H0) [.slice b0 (jk ts (ts.length - 1)).1.cols.length c0, .slice b1 (jk ts (ts.length - 1)).1.bag.items.length c1] (jk ts (ts.length - 1)).1) := by
 refine CtR.intro G_ok [H0] func228 rfl rfl rfl (by simp) fun E H _ => ?_
 obtain ⟨_, hct, hlt⟩ := sl_len ht
 have hsub : (gSl 191 gTable).rd H0 [.slice (subBase c (1 : Int).toNat b ty191.size) (ts.length - (1 : Int).toNat) (c - (1 : Int).toNat)] (ts.drop 1) := by
  have h := rd_sub (r := gTable.toRp) (l := 1) (h := ts.length) ht (by omega) (by omega)
  rwa [List.take_length] at h
 have hdl : (ts.drop 1).length = ts.length - 1 := List.length_drop ..
 refine ⟨fun x0 => ?_⟩
 refine idx_rd ht ?_ ?_ fun b1 o1 hb1 => ?_
 ·trivial
 ·omega
 refine load_allN default (0) rfl ht ?_ ?_ hb1 rfl (mem_at 0 rfl) fun l2 hl2 => ?_
 ·trivial
 ·omega
 obtain ⟨b0x2, c0x2, l1x2, rfl, h0x2, h1x2⟩ := gTable_rd.1 hl2 ; obtain ⟨b0_1x2, c0_1x2, rfl, h0_1x2⟩ := gBag_rd.1 h1x2
 refine ⟨fun x3 => ?_⟩
 refine VC.intro ?_ ?_
 ·omega
 apply loop_mod (α := (Nat) × (Table) × (Hp) × (Option Addr) × (Nat) × (Option Addr) × (Nat)) G_ok [16, 17, 18, 6, 20, 21, 22, 19, 23, 24, 7, 8, 25, 26, 27, 3, 28, 29, 15] (fun z => [(15, .v (.int .i64 z.1)), (3, .v (.bool false))]) (fun z => [⟨x0, [Value.slice none (0 : Nat) (0 : Nat), Value.slice none (0 : Nat) (0 : Nat)], (191 : Nat)⟩, ⟨x3, [.slice z.2.2.2.1 z.2.1.cols.length z.2.2.2.2.1, .slice z.2.2.2.2.2.1 z.2.1.bag.items.length z.2.2.2.2.2.2], (191 : Nat)⟩]) (fun z => [z.2.2.1, H0, H]) (fun z => ts.length - z.1) (fun z => z.1 + 1 ≤ ts.length ∧ z.2.1 = (jk ts z.1).1 ∧ (jk ts z.1).2 = true ∧ gTable.rd (z.2.2.1 ++ H0) [.slice z.2.2.2.1 z.2.1.cols.length z.2.2.2.2.1, .slice z.2.2.2.2.2.1 z.2.1.bag.items.length z.2.2.2.2.2.2] z.2.1) ((0, ts[0]?.getD default, [], _, _, _, _))
 ·exact frI
 ·exact ⟨rfl, rfl, trivial⟩
 ·try dsimp only
  exact ⟨by omega, rfl, rfl, by assumption⟩
 ·exact .refl _
 rintro ⟨j, T, D, tb, tc, ib, ic⟩ hI
 try dsimp only at hI
 obtain ⟨hj, hT, hok, hr⟩ := hI
 try dsimp only
 refine ⟨fun q4 => ?_, fun q4 => ?_⟩
 ·simp at q4
  refine idx_rd hsub ?_ ?_ fun b5 o5 hb5 => ?_
  ·omega
  ·omega
  refine load_allN default (j) rfl hsub ?_ ?_ hb5 rfl (mem_at 1 rfl) fun l6 hl6 => ?_
  ·omega
  ·omega
  obtain ⟨b0x6, c0x6, l1x6, rfl, h0x6, h1x6⟩ := gTable_rd.1 hl6 ; obtain ⟨b0_1x6, c0_1x6, rfl, h0_1x6⟩ := gBag_rd.1 h1x6
  refine ⟨fun x7 => ?_⟩
  refine call_new (implJoin_ct _ _ T ((ts.drop 1)[j]?.getD default)) ⟨Rp.mono _ (mem_app9 (mem_at 0 rfl) (mem_at 1 rfl)) hr, (Rp.mono _ (mem_at 1 rfl) hl6)⟩ ?_
  rintro v8 A8 o8
  obtain ⟨b08, c08, b18, c18, rfl, o8⟩ := o8
  refine ⟨fun x9 => ?_⟩
  refine ⟨fun q10 => ?_, fun q10 => ?_⟩
  ·simp at q10
   (have hj9 := jk_step9 hok; rw [← hT] at hj9; have hj8 : (jk ts (j + 1)).2 = false := (by rw [hj9]; assumption); rw [jk_all hj8 (by omega) (by omega : j + 1 ≤ ts.length - 1)]; exact ⟨[] ++ H0, ⟨none, 0, none, 0, [], rfl, rfl, nilT_rd _⟩, rlB⟩)
  ·simp at q10
   apply loop_stepA (j + 1, (joinM T ((ts.drop 1)[j]?.getD default)).1, _, _, _, _, _)
   ·exact .sub (by repeat (first | exact .slnil | apply List.Sublist.cons_cons | apply List.Sublist.cons))
   ·exact frI
   ·exact ⟨rfl, rfl, trivial⟩
   ·try dsimp only
    (have hj9 := jk_step9 hok; rw [← hT] at hj9; exact ⟨by omega, by rw [hj9, drop_at9], by rw [hj9]; assumption, owT_rd (by assumption) fun p hp => List.mem_append_left _ hp⟩)
   try dsimp only
   omega
 ·simp at q4
  (have hje : j = ts.length - 1 := (by omega); subst hje; subst hT; exact ⟨D ++ H0, ⟨tb, tc, ib, ic, D, by rw [hok], rfl, hr⟩, rlB⟩)
end
section
attribute [local irreducible] IntKind.wrap ownerOf namesM queryM
theorem keepRows2_ct (l : List Value) (qa qb qc qd : Nat) (e1 : Bool) (u3 : Option Addr) (v3 w3 : Nat) (u4 : Option Addr) (v4 w4 : Nat) (u5 : Option Addr) (w5 : Nat) (u6 : Option Addr) (v6 w6 : Nat) (u7 : Option Addr) (w7 : Nat) (ce : Int) (t : Table) (fs : List Filter) (s : List Int) (ns : List ByteArray) (hc : t.cols = ns)
  (ht : tableM t = true) (hf : ∀ i, i < fs.length → fitF ns (fs[i]?.getD default)) :
  Ct prog 229 [.agg ⟨l⟩, .func (.func 230) ⟨[]⟩ ⟨[.pointer (some ⟨qa, 0, none⟩), .pointer (some ⟨qb, 0, none⟩), .pointer (some ⟨qc, 0, none⟩), .pointer (some ⟨qd, 0, none⟩)]⟩] []
   (fun H => (gTable.rd H l t ∧ (gSl 220 gFilter).rd H [.slice u5 fs.length w5] fs ∧ (gSl 3 gI).rd H [.slice u6 v6 w6] s ∧ (gSl 9 gS).rd H [.slice u7 ns.length w7] ns) ∧
    (qa, Obj.cells ⟨[.bool e1, .slice u3 v3 w3, .slice u4 v4 w4, .slice u5 fs.length w5]⟩ 39) ∈ H ∧ (qb, Obj.cells ⟨[.slice u6 v6 w6]⟩ 27) ∈ H ∧ (qc, Obj.cells ⟨[.slice u7 ns.length w7]⟩ 22) ∈ H ∧ (qd, Obj.cells ⟨[.int .i64 ce]⟩ 3) ∈ H)
   (fun v D => ∃ (b0 : Option Addr) (c0 : Nat) (b1 : Option Addr) (c1 : Nat), v = .agg ⟨[.slice b0 (keepT t fs s ce).cols.length c0, .slice b1 (keepT t fs s ce).bag.items.length c1]⟩ ∧ OwT b0 c0 b1 c1 (keepT t fs s ce) D) := by
 subst hc
 exact keepRows_ct l qa qb qc qd e1 u3 v3 w3 u4 v4 w4 u5 w5 u6 v6 w6 u7 w7 ce t fs s ht hf
theorem keep_here {x : Query} {s : List Int} {ce : Int} {t : Table} (hc : t.cols = namesM x.atoms) : keepT t x.filters s ce = hereK x s ce t x.filters.length := by
 unfold keepT hereK
 congr 2
 refine List.filter_congr fun p _ => ?_
 unfold hereP
 rw [hc, Bool.and_comm]
theorem ca_leaf2 {x : Query} {s : List Int} {ce : Int} {ts : List Table} {b1 : Option Addr} {c1 : Nat} {D : Hp} (h1 : sharesM x s = true) (h2 : inR 0 (cellsM s - 1) ce = true) (h3 : fitM x ts) (h4 : (jk ts (ts.length - 1)).2 = true)
  (o : (gSl 218 gItem).ow [.slice b1 (projM (keepT (jk ts (ts.length - 1)).1 x.filters s ce) x.out).bag.items.length c1] (projM (keepT (jk ts (ts.length - 1)).1 x.filters s ce) x.out).bag.items D) :
  ∃ (b : Option Addr) (c : Nat), Value.tuple ⟨[.agg ⟨[.slice b1 (projM (keepT (jk ts (ts.length - 1)).1 x.filters s ce) x.out).bag.items.length c1]⟩, .bool true]⟩ = .tuple #[.agg ⟨[.slice b (caM x s ce ts).1.items.length c]⟩, .bool (caM x s ce ts).2] ∧ (gSl 218 gItem).ow [.slice b (caM x s ce ts).1.items.length c] (caM x s ce ts).1.items D := by
 rw [keep_here (all_names h1 h3 h4).2] at o ⊢
 rw [ca_yes h1 h2 h3 h4]
 exact ⟨b1, c1, rfl, o⟩
theorem implCellAnswer_ct (l : List Value) (b : Option Addr) (m c : Nat) (b2 : Option Addr) (m2 c2 : Nat) (x : Query) (s : List Int) (ce : Int) (ts : List Table) (hx : gQuery.sz x ≤ 1048576) :
  Ct prog 133 [.agg ⟨l⟩, .slice b m c, .int .i64 ce, .slice b2 m2 c2] [] (fun H => gQuery.rd H l x ∧ (gSl 3 gI).rd H [.slice b m c] s ∧ (gSl 191 gTable).rd H [.slice b2 m2 c2] ts)
   (fun v D => ∃ (b1 : Option Addr) (c1 : Nat), v = .tuple #[.agg ⟨[.slice b1 (caM x s ce ts).1.items.length c1]⟩, .bool (caM x s ce ts).2] ∧ (gSl 218 gItem).ow [.slice b1 (caM x s ce ts).1.items.length c1] (caM x s ce ts).1.items D) := by
 refine Ct.intro0 G_ok func133 rfl rfl rfl fun E H hp => ?_
 obtain ⟨hp, hs, ht⟩ := hp
 obtain ⟨rfl, hcs, hls⟩ := sl_len hs
 obtain ⟨rfl, hct, hlt⟩ := sl_len ht
 obtain ⟨b1p, c1p, b2p, c2p, b3p, c3p, rfl, h1p, h2p, h3p⟩ := gQuery_rd.1 hp
 have hal := atoms_len hx
 refine ⟨fun x0 => ?_⟩
 refine ⟨fun x1 => ?_⟩
 refine ⟨fun x2 => ?_⟩
 refine ⟨fun x3 => ?_⟩
 refine call_val (implSharesOk_ct _ _ _ _ (x) (s) ?_) ⟨(Rp.mono _ (mem_at 0 rfl) hp), (Rp.mono _ (mem_at 0 rfl) hs)⟩ ?_
 ·trivial
 rintro _ rfl
 refine ⟨fun q5 => ?_, fun q5 => ?_⟩
 ·simp at q5
  exact ⟨[], ⟨none, 0, by rw [ca_no1 (by assumption)]; rfl, by rw [ca_no1 (by assumption)]; exact sl_nil _ _ _⟩, .mem (by simp)⟩
 ·simp at q5
  refine call_val (isCell_ct _ _ _ (s) _) (Rp.mono _ (mem_at 0 rfl) hs) ?_
  rintro _ rfl
  refine ⟨fun q7 => ?_, fun q7 => ?_⟩
  ·simp at q7
   exact ⟨[], ⟨none, 0, by rw [ca_no2 (by assumption)]; rfl, by rw [ca_no2 (by assumption)]; exact sl_nil _ _ _⟩, .mem (by simp)⟩
  ·simp at q7
   refine call_val (tablesFit_ct _ _ _ _ (x) (ts)) ⟨(Rp.mono _ (mem_at 0 rfl) hp), (Rp.mono _ (mem_at 0 rfl) ht)⟩ ?_
   rintro _ rfl
   refine ⟨fun q9 => ?_, fun q9 => ?_⟩
   ·simp at q9
    exact ⟨[], ⟨none, 0, by rw [ca_no3 (fit_no9' (by assumption))]; rfl, by rw [ca_no3 (fit_no9' (by assumption))]; exact sl_nil _ _ _⟩, .mem (by simp)⟩
   ·simp at q9
    refine callR_part H [] (joinAll_ct H _ _ ts ?_ ht) ?_ trivial ?_
    ·exact (by have h9 := (fitB_iff.1 ‹fitB x ts = true›).1; have h8 := (query_parts (shares_parts ‹sharesM x s = true›).1).1; omega)
    ·exact rlA
    rintro _ D10 ⟨b010, c010, b110, c110, A, rfl, rfl, rT⟩
    refine ⟨[A, H], by simp, ?_⟩
    refine ⟨fun x11 => ?_⟩
    refine ⟨fun q12 => ?_, fun q12 => ?_⟩
    ·simp at q12
     exact ⟨[], ⟨none, 0, by rw [ca_no4 (by assumption)]; rfl, by rw [ca_no4 (by assumption)]; exact sl_nil _ _ _⟩, .mem (by simp)⟩
    ·simp at q12
     have hF := fitB_iff.1 ‹fitB x ts = true›
     have hj2 := ‹(jk ts (ts.length - 1)).2 = true›
     obtain ⟨hTJ, hcJ⟩ := all_names ‹sharesM x s = true› hF hj2
     obtain ⟨⟨hq1, hq2, hq3⟩, hqo, hqf⟩ := query_parts (shares_parts ‹sharesM x s = true›).1
     refine call_new (implNamesOf_ct _ x ?_) (Rp.mono _ (mem_at 1 rfl) hp) ?_
     ·trivial
     rintro v13 A13 o13
     obtain ⟨bN, cN, rfl, oN⟩ := o13
     have rN := Gt.owrd _ oN
     refine ⟨fun x14 => ?_⟩
     refine call_new (keepRows2_ct _ _ _ _ _ x.each b1p x.out.length c1p b2p x.atoms.length c2p b3p c3p b s.length c bN cN ce (jk ts (ts.length - 1)).1 x.filters s (namesM x.atoms) hcJ hTJ hqf) ⟨⟨Rp.mono _ (mem_app9 (mem_at 1 rfl) (mem_at 2 rfl)) rT, Rp.mono _ (mem_at 2 rfl) h3p, Rp.mono _ (mem_at 2 rfl) hs, Rp.mono _ (mem_at 0 rfl) rN⟩, (by simp [St.hall, Blk.ent, idOf]), (by simp [St.hall, Blk.ent, idOf]), (by simp [St.hall, Blk.ent, idOf]), (by simp [St.hall, Blk.ent, idOf])⟩ ?_
     rintro v15 A15 o15
     obtain ⟨b015, c015, b115, c115, rfl, oK⟩ := o15
     refine call_newP (implProject_ct _ _ _ _ (keepT (jk ts (ts.length - 1)).1 x.filters s ce) x.out (table_sub hTJ _) (by show outFit (jk ts (ts.length - 1)).1.cols x.out; rw [hcJ]; exact hqo)) ⟨owT_rd oK (mem_at 0 rfl), (Rp.mono _ (mem_at 3 rfl) h1p)⟩ ?_
     rintro v16 A16 o16
     obtain ⟨b016, c016, b116, c116, rfl, Ac16, Ab16, hP16, oc16, ob16⟩ := o16
     refine ⟨[Ac16, Ab16], by simpa using hP16, ?_⟩
     exact ⟨_, ca_leaf2 ‹sharesM x s = true› ‹inR 0 (cellsM s - 1) ce = true› hF hj2 (by assumption), rlB⟩
end
end Go.Proofs.YtjgehblllhkdbaaGreat
