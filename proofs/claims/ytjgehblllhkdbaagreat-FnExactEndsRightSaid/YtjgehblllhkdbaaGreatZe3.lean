/-
 Parts of the law, put together. Conditions: none.
-/
import Derived.Test.YtjgehblllhkdbaaGreatZe2
set_option maxHeartbeats 4000000
set_option linter.unusedSimpArgs false
set_option linter.unusedVariables false
namespace Go.Proofs.YtjgehblllhkdbaaGreat
open Go.SX Go.Proofs
open Tryz
section
theorem szIntS_ct (b : Option Addr) (m c : Nat) (xs : List Int) (left : Int) (h0 : 0 ≤ left) (h1 : left ≤ 1048576) :
  Ct prog 59 [.slice b m c, .int .i64 left] [] (fun H => (gSl 3 gI).rd H [.slice b m c] xs) (fun v A => (∃ r : Int, v = .int .i64 r ∧ ((r = -1 ∧ left < (szL gI xs : Int)) ∨ (r = left - (szL gI xs : Int) ∧ (szL gI xs : Int) ≤ left))) ∧ A = []) := by
 refine Ct.intro0 G_ok func59 rfl rfl rfl fun E H hp => ?_
 obtain ⟨rfl, hcl, hl⟩ := sl_len hp
 have hq := szL_eq gI xs
 have hz := szE_zero gI (fun _ => rfl) xs
 refine ⟨fun q0 => ?_, fun q0 => ?_⟩
 ·simp at q0
  simp (disch := omega) only [wrap_of] at q0
  exact ⟨[], ⟨⟨-1, rfl, .inl ⟨rfl, woI⟩⟩, rfl⟩, .mem (by simp)⟩
 ·simp at q0
  simp (disch := omega) only [wrap_of] at q0
  exact ⟨[], ⟨⟨_, rfl, .inr ⟨woI, by omega⟩⟩, rfl⟩, .mem (by simp)⟩
theorem toIntS_ct (b : Option Addr) (m c : Nat) (xs : List Int) (hx : szL gI xs ≤ 1048576) :
  Ct prog 13 [.slice b m c] [] (fun H => (gSl 3 gI).rd H [.slice b m c] xs) (fun v A => ∃ b c, v = .slice b xs.length c ∧ (gSl 3 gI).ow [.slice b xs.length c] xs A) := by
 refine Ct.intro0 G_ok func13 rfl rfl rfl fun E H hp => ?_
 obtain ⟨rfl, hcl, hl⟩ := sl_len hp
 have hls := len_szL gI xs
 refine VCmake.intro ?_ ?_ ?_ ?_ fun x0 => ?_
 ·omega
 ·omega
 ·omega
 ·omega
 apply loop_mod (α := (Nat) × (Hp)) G_ok [8, 9, 10, 11, 14, 15, 16, 17, 18, 19, 20, 12, 13, 4] (fun z => [(4, .v (.int .i64 z.1))]) (fun z => []) (fun z => [z.2, H]) (fun z => xs.length - z.1) (fun z => z.1 ≤ xs.length ∧ (gSl 3 gI).ow [.slice (some ⟨x0, 0, none⟩) xs.length xs.length] (xs.take z.1 ++ List.replicate (xs.length - z.1) 0) z.2) ((0, _))
 ·exact frI
 ·exact trivial
 ·try dsimp only
  exact ⟨by omega, by simpa using gmake (g := gI) (T := 3) (b := x0) (gI_ow (by unfold okI; decide)) (Nat.le_refl xs.length) (by omega)⟩
 ·exact .refl _
 rintro ⟨k, A⟩ hI
 try dsimp only at hI
 obtain ⟨hk, oA⟩ := hI
 try dsimp only
 refine ⟨fun q1 => ?_, fun q1 => ?_⟩
 ·simp at q1
  refine idx_rd hp ?_ ?_ fun b2 o2 hb2 => ?_
  ·omega
  ·omega
  refine load_allN 0 (k) rfl hp ?_ ?_ hb2 rfl (mem_at 1 rfl) fun l3 hl3 => ?_
  ·omega
  ·omega
  obtain ⟨rfl, hw3⟩ := hl3; simp only [flStr, flInt, okI] at hw3
  refine idx_rd (Gt.owrd _ oA) ?_ ?_ fun b4 o4 hb4 => ?_
  ·omega
  ·simp; omega
  refine gstoreN (Fld.id _) 0 (k) 0 rfl rfl oA ?_ ?_ hb4 rfl gI_pl _ (gI_ow ?_) fun A5 o5 => ?_
  ·omega
  ·simp; omega
  ·trivial
  apply loop_stepA (k + 1, _)
  ·exact .refl _
  ·exact frI
  ·exact trivial
  ·try dsimp only
   exact ⟨by omega, by rw [← take_step xs k 0 (by omega)] ; assumption⟩
  try dsimp only
  omega
 ·simp at q1
  obtain rfl : k = xs.length := by omega
  rw [List.take_length, Nat.sub_self, List.replicate_zero, List.append_nil] at oA
  exact ⟨_, ⟨_, _, rfl, oA⟩, rlA⟩
theorem eqIntS_ct (b1 : Option Addr) (m1 c1 : Nat) (b2 : Option Addr) (m2 c2 : Nat) (xs ys : List Int) :
  Ct prog 18 [.slice b1 m1 c1, .slice b2 m2 c2] [] (fun H => (gSl 3 gI).rd H [.slice b1 m1 c1] xs ∧ (gSl 3 gI).rd H [.slice b2 m2 c2] ys) (fun v A => v = .bool (decide (xs = ys)) ∧ A = []) := by
 refine Ct.intro0 G_ok func18 rfl rfl rfl fun E H hp => ?_
 obtain ⟨hp1, hp2⟩ := hp
 obtain ⟨rfl, hc1, hl1⟩ := sl_len hp1
 obtain ⟨rfl, hc2, hl2⟩ := sl_len hp2
 refine ⟨fun q0 => ?_, fun q0 => ?_⟩
 ·simp at q0
  exact ⟨[], ⟨by rw [decide_eq_false (fun e => by subst e; omega)], rfl⟩, .mem (by simp)⟩
 ·simp at q0
  apply loop_mod (α := (Nat)) G_ok [11, 12, 13, 14, 17, 18, 19, 20, 21, 22, 23, 24, 25, 4, 15, 16, 5] (fun z => [(5, .v (.int .i64 z))]) (fun z => []) (fun z => [H]) (fun z => xs.length - z) (fun z => z ≤ xs.length ∧ xs.take z = ys.take z) (0)
  ·exact frI
  ·exact trivial
  ·exact ⟨by omega, by simp⟩
  ·exact .refl _
  rintro k hI
  obtain ⟨hk, he⟩ : k ≤ xs.length ∧ xs.take k = ys.take k := hI
  try dsimp only
  refine ⟨fun q1 => ?_, fun q1 => ?_⟩
  ·simp at q1
   refine draw G_ok mixed none (.q 0 (.q 1 (.q 2 (.q 3 (.q 4 (.q 5 (.q 6 (.q 7 (.q 8 (.nil)))))))))) (by decide +kernel) ?_
   refine idx_rd hp1 ?_ ?_ fun b2 o2 hb2 => ?_
   ·omega
   ·omega
   refine load_allN 0 (k) rfl hp1 ?_ ?_ hb2 rfl (mem_at 0 rfl) fun l3 hl3 => ?_
   ·omega
   ·omega
   obtain ⟨rfl, hw3⟩ := hl3; simp only [flStr, flInt, okI] at hw3
   refine idx_rd hp2 ?_ ?_ fun b4 o4 hb4 => ?_
   ·omega
   ·omega
   refine load_allN 0 (k) rfl hp2 ?_ ?_ hb4 rfl (mem_at 0 rfl) fun l5 hl5 => ?_
   ·omega
   ·omega
   obtain ⟨rfl, hw5⟩ := hl5; simp only [flStr, flInt, okI] at hw5
   refine ⟨fun q6 => ?_, fun q6 => ?_⟩
   ·simp at q6
    exact ⟨[], ⟨by rw [decide_eq_false (fun e => by subst e; omega)], rfl⟩, .mem (by simp)⟩
   ·simp at q6
    apply loop_stepA (k + 1)
    ·exact .refl _
    ·exact frI
    ·exact trivial
    ·exact ⟨by omega, eq_step 0 (by omega) he (by omega) (by simpa using ‹_›)⟩
    omega
  ·simp at q1
   exact ⟨[], ⟨by rw [decide_eq_true]; rw [← List.take_length (l := xs), ← List.take_length (l := ys), ← (by omega : xs.length = ys.length), show xs.length = k by omega]; exact he, rfl⟩, .mem (by simp)⟩
theorem szStringS_ct (b : Option Addr) (m c : Nat) (xs : List ByteArray) (left : Int) (h0 : 0 ≤ left) (h1 : left ≤ 1048576) :
  Ct prog 56 [.slice b m c, .int .i64 left] [] (fun H => (gSl 9 gS).rd H [.slice b m c] xs) (fun v A => (∃ r : Int, v = .int .i64 r ∧ ((r = -1 ∧ left < (szL gS xs : Int)) ∨ (r = left - (szL gS xs : Int) ∧ (szL gS xs : Int) ≤ left))) ∧ A = []) := by
 refine Ct.intro0 G_ok func56 rfl rfl rfl fun E H hp => ?_
 obtain ⟨rfl, hcl, hl⟩ := sl_len hp
 have hq := szL_eq gS xs
 have ht := List.take_length (l := xs)
 refine ⟨fun q0 => ?_, fun q0 => ?_⟩
 ·simp at q0
  simp (disch := omega) only [wrap_of] at q0
  exact ⟨[], ⟨⟨-1, rfl, .inl ⟨rfl, woI⟩⟩, rfl⟩, .mem (by simp)⟩
 ·simp at q0
  simp (disch := omega) only [wrap_of] at q0
  apply loop_mod (α := (Nat) × (Int)) G_ok [12, 13, 14, 15, 18, 19, 20, 21, 22, 23, 24, 1, 25, 26, 4, 16, 17, 5] (fun z => [(5, .v (.int .i64 z.1)), (1, .v (.int .i64 z.2))]) (fun z => []) (fun z => [H]) (fun z => xs.length - z.1) (fun z => z.1 ≤ xs.length ∧ z.2 = left - xs.length - szE gS (xs.take z.1) ∧ 0 ≤ z.2) ((0, left - xs.length))
  ·repeat' (first | exact trivial | refine ⟨⟨_, rfl, by first | rfl | exact inc_eq _ (by omega) | (refine sl_eq ?_; simp; done) | (simp (disch := omega) only [wrap_of]), by first | exact trivial | simp [SV.ok]⟩, ?_⟩)
  ·exact trivial
  ·try dsimp only
   exact ⟨by omega, by simp [szE], by omega⟩
  ·exact .refl _
  rintro ⟨k, lf⟩ hI
  try dsimp only at hI
  obtain ⟨hk, hlf, hnn⟩ := hI
  try dsimp only
  refine ⟨fun q1 => ?_, fun q1 => ?_⟩
  ·simp at q1
   have hs := szE_step gS xs k ByteArray.empty (by omega)
   have hs2 := szE_le gS xs (k + 1)
   refine idx_rd hp ?_ ?_ fun b2 o2 hb2 => ?_
   ·omega
   ·omega
   refine load_allN ByteArray.empty (k) rfl hp ?_ ?_ hb2 rfl (mem_at 0 rfl) fun l3 hl3 => ?_
   ·omega
   ·omega
   have hss : gS.sz (xs[k]?.getD ByteArray.empty) = (xs[k]?.getD ByteArray.empty).size := rfl
   obtain ⟨rfl, hw3⟩ := hl3; simp only [flStr, flInt, okI] at hw3
   refine ⟨fun q4 => ?_, fun q4 => ?_⟩
   ·simp at q4
    simp (disch := omega) only [wrap_of] at q4
    exact ⟨[], ⟨⟨-1, rfl, .inl ⟨rfl, woI⟩⟩, rfl⟩, .mem (by simp)⟩
   ·simp at q4
    simp (disch := omega) only [wrap_of] at q4
    apply loop_stepA (k + 1, lf - ((xs[k]?.getD ByteArray.empty).size : Int))
    ·exact .refl _
    ·repeat' (first | exact trivial | refine ⟨⟨_, rfl, by first | rfl | exact inc_eq _ (by omega) | (refine sl_eq ?_; simp; done) | (simp (disch := omega) only [wrap_of]), by first | exact trivial | simp [SV.ok]⟩, ?_⟩)
    ·exact trivial
    ·try dsimp only
     ((try simp (disch := omega) only [wrap_of] at *); refine ⟨by omega, by omega, by omega⟩)
    try dsimp only
    omega
  ·simp at q1
   obtain rfl : k = xs.length := by omega
   rw [List.take_length] at hlf
   exact ⟨[], ⟨⟨_, rfl, .inr ⟨woI, by omega⟩⟩, rfl⟩, .mem (by simp)⟩
theorem toStringS_ct (b : Option Addr) (m c : Nat) (xs : List ByteArray) (hx : szL gS xs ≤ 1048576) :
  Ct prog 69 [.slice b m c] [] (fun H => (gSl 9 gS).rd H [.slice b m c] xs) (fun v A => ∃ b c, v = .slice b xs.length c ∧ (gSl 9 gS).ow [.slice b xs.length c] xs A) := by
 refine Ct.intro0 G_ok func69 rfl rfl rfl fun E H hp => ?_
 obtain ⟨rfl, hcl, hl⟩ := sl_len hp
 have hls := len_szL gS xs
 refine VCmake.intro ?_ ?_ ?_ ?_ fun x0 => ?_
 ·omega
 ·omega
 ·omega
 ·omega
 apply loop_mod (α := (Nat) × (Hp)) G_ok [8, 9, 10, 11, 14, 15, 16, 17, 18, 19, 20, 12, 13, 4] (fun z => [(4, .v (.int .i64 z.1))]) (fun z => []) (fun z => [z.2, H]) (fun z => xs.length - z.1) (fun z => z.1 ≤ xs.length ∧ (gSl 9 gS).ow [.slice (some ⟨x0, 0, none⟩) xs.length xs.length] (xs.take z.1 ++ List.replicate (xs.length - z.1) ByteArray.empty) z.2) ((0, _))
 ·exact frI
 ·exact trivial
 ·try dsimp only
  exact ⟨by omega, by simpa using gmake (g := gS) (T := 9) (b := x0) (gS_ow (by decide)) (Nat.le_refl xs.length) (by omega)⟩
 ·exact .refl _
 rintro ⟨k, A⟩ hI
 try dsimp only at hI
 obtain ⟨hk, oA⟩ := hI
 try dsimp only
 refine ⟨fun q1 => ?_, fun q1 => ?_⟩
 ·simp at q1
  refine idx_rd hp ?_ ?_ fun b2 o2 hb2 => ?_
  ·omega
  ·omega
  refine load_allN ByteArray.empty (k) rfl hp ?_ ?_ hb2 rfl (mem_at 1 rfl) fun l3 hl3 => ?_
  ·omega
  ·omega
  obtain ⟨rfl, hw3⟩ := hl3; simp only [flStr, flInt, okI] at hw3
  refine idx_rd (Gt.owrd _ oA) ?_ ?_ fun b4 o4 hb4 => ?_
  ·omega
  ·simp; omega
  refine gstoreN (Fld.id _) ByteArray.empty (k) 0 rfl rfl oA ?_ ?_ hb4 rfl fl_pl _ (gS_ow ?_) fun A5 o5 => ?_
  ·omega
  ·simp; omega
  ·trivial
  apply loop_stepA (k + 1, _)
  ·exact .refl _
  ·exact frI
  ·exact trivial
  ·try dsimp only
   exact ⟨by omega, by rw [← take_step xs k ByteArray.empty (by omega)] ; assumption⟩
  try dsimp only
  omega
 ·simp at q1
  obtain rfl : k = xs.length := by omega
  rw [List.take_length, Nat.sub_self, List.replicate_zero, List.append_nil] at oA
  exact ⟨_, ⟨_, _, rfl, oA⟩, rlA⟩
theorem eqStringS_ct (b1 : Option Addr) (m1 c1 : Nat) (b2 : Option Addr) (m2 c2 : Nat) (xs ys : List ByteArray) :
  Ct prog 82 [.slice b1 m1 c1, .slice b2 m2 c2] [] (fun H => (gSl 9 gS).rd H [.slice b1 m1 c1] xs ∧ (gSl 9 gS).rd H [.slice b2 m2 c2] ys) (fun v A => v = .bool (decide (xs = ys)) ∧ A = []) := by
 refine Ct.intro0 G_ok func82 rfl rfl rfl fun E H hp => ?_
 obtain ⟨hp1, hp2⟩ := hp
 obtain ⟨rfl, hc1, hl1⟩ := sl_len hp1
 obtain ⟨rfl, hc2, hl2⟩ := sl_len hp2
 refine ⟨fun q0 => ?_, fun q0 => ?_⟩
 ·simp at q0
  exact ⟨[], ⟨by rw [decide_eq_false (fun e => by subst e; omega)], rfl⟩, .mem (by simp)⟩
 ·simp at q0
  apply loop_mod (α := (Nat)) G_ok [11, 12, 13, 14, 17, 18, 19, 20, 21, 22, 23, 24, 25, 4, 15, 16, 5] (fun z => [(5, .v (.int .i64 z))]) (fun z => []) (fun z => [H]) (fun z => xs.length - z) (fun z => z ≤ xs.length ∧ xs.take z = ys.take z) (0)
  ·exact frI
  ·exact trivial
  ·exact ⟨by omega, by simp⟩
  ·exact .refl _
  rintro k hI
  obtain ⟨hk, he⟩ : k ≤ xs.length ∧ xs.take k = ys.take k := hI
  try dsimp only
  refine ⟨fun q1 => ?_, fun q1 => ?_⟩
  ·simp at q1
   refine draw G_ok mixed none (.q 0 (.q 1 (.q 2 (.q 3 (.q 4 (.q 5 (.q 6 (.q 7 (.q 8 (.nil)))))))))) (by decide +kernel) ?_
   refine idx_rd hp1 ?_ ?_ fun b2 o2 hb2 => ?_
   ·omega
   ·omega
   refine load_allN ByteArray.empty (k) rfl hp1 ?_ ?_ hb2 rfl (mem_at 0 rfl) fun l3 hl3 => ?_
   ·omega
   ·omega
   obtain ⟨rfl, hw3⟩ := hl3; simp only [flStr, flInt, okI] at hw3
   refine idx_rd hp2 ?_ ?_ fun b4 o4 hb4 => ?_
   ·omega
   ·omega
   refine load_allN ByteArray.empty (k) rfl hp2 ?_ ?_ hb4 rfl (mem_at 0 rfl) fun l5 hl5 => ?_
   ·omega
   ·omega
   obtain ⟨rfl, hw5⟩ := hl5; simp only [flStr, flInt, okI] at hw5
   refine ⟨fun q6 => ?_, fun q6 => ?_⟩
   ·simp at q6
    simp only [str_inj, u8_inj, u8_wrap] at q6
    exact ⟨[], ⟨by rw [decide_eq_false (fun e => by subst e; simp at *)], rfl⟩, .mem (by simp)⟩
   ·simp at q6
    simp only [str_inj, u8_inj, u8_wrap] at q6
    apply loop_stepA (k + 1)
    ·exact .refl _
    ·exact frI
    ·exact trivial
    ·exact ⟨by omega, eq_step ByteArray.empty (by omega) he (by omega) (by simpa using ‹_›)⟩
    omega
  ·simp at q1
   exact ⟨[], ⟨by rw [decide_eq_true]; rw [← List.take_length (l := xs), ← List.take_length (l := ys), ← (by omega : xs.length = ys.length), show xs.length = k by omega]; exact he, rfl⟩, .mem (by simp)⟩
theorem szItem_ct (l : List Value) (x : Item) (left : Int) (h0 : 0 ≤ left) (h1 : left ≤ 1048576) :
  Ct prog 345 [.agg ⟨l⟩, .int .i64 left] [] (fun H => gItem.rd H l x) (fun v A => (∃ r : Int, v = .int .i64 r ∧ ((r = -1 ∧ left < (gItem.sz x : Int)) ∨ (r = left - (gItem.sz x : Int) ∧ (gItem.sz x : Int) ≤ left))) ∧ A = []) := by
 refine Ct.intro0 G_ok func345 rfl rfl rfl fun E H hp => ?_
 obtain ⟨b0, c0, rfl, h0, w1⟩ := gItem_rd.1 hp
 have hz := gItem_sz x
 refine ⟨fun x0 => ?_⟩
 refine call_q (szIntS_ct _ _ _ (x.row) _ ?_ ?_) (Rp.mono _ (mem_at 0 rfl) h0) ?_
 ·trivial
 ·trivial
 rintro _ ⟨r1, rfl, hr1⟩
 refine ⟨fun q2 => ?_, fun q2 => ?_⟩
 ·simp at q2
  exact ⟨[], ⟨⟨-1, rfl, .inl ⟨rfl, woI⟩⟩, rfl⟩, .mem (by simp)⟩
 ·simp at q2
  exact ⟨[], ⟨⟨_, rfl, .inr ⟨woI, by omega⟩⟩, rfl⟩, .mem (by simp)⟩
theorem toItem_ct (l : List Value) (x : Item) (hx : gItem.sz x ≤ 1048576) :
  Ct prog 352 [.agg ⟨l⟩] [] (fun H => gItem.rd H l x) (fun v A => ∃ l, v = .agg ⟨l⟩ ∧ gItem.ow l x A) := by
 refine Ct.intro0 G_ok func352 rfl rfl rfl fun E H hp => ?_
 obtain ⟨b0, c0, rfl, h0, w1⟩ := gItem_rd.1 hp
 have hz := gItem_sz x
 refine ⟨fun x0 => ?_⟩
 refine ⟨fun x1 => ?_⟩
 refine ⟨fun x2 => ?_⟩
 refine call_new (toIntS_ct _ _ _ (x.row) ?_) (Rp.mono _ (mem_at 0 rfl) h0) ?_
 ·trivial
 rintro v3 A3 o3
 obtain ⟨b3, c3, rfl, o3⟩ := o3
 exact ⟨_, ⟨_, rfl, gItem_ow.2 ⟨_, _, _, rfl, .refl _, by assumption, by assumption⟩⟩, rlA⟩
theorem eqItem_ct (l1 l2 : List Value) (x y : Item) :
  Ct prog 170 [.agg ⟨l1⟩, .agg ⟨l2⟩] [] (fun H => gItem.rd H l1 x ∧ gItem.rd H l2 y) (fun v A => v = .bool (decide (x = y)) ∧ A = []) := by
 refine Ct.intro0 G_ok func170 rfl rfl rfl fun E H hp => ?_
 obtain ⟨hp1, hp2⟩ := hp
 obtain ⟨b0p, c0p, rfl, h0p, w1p⟩ := gItem_rd.1 hp1
 obtain ⟨b0q, c0q, rfl, h0q, w1q⟩ := gItem_rd.1 hp2
 refine ⟨fun x0 => ?_⟩
 refine ⟨fun x1 => ?_⟩
 refine call_val (eqIntS_ct _ _ _ _ _ _ (x.row) (y.row)) ⟨(Rp.mono _ (mem_at 0 rfl) h0p), (Rp.mono _ (mem_at 0 rfl) h0q)⟩ ?_
 rintro _ rfl
 refine ⟨fun q3 => ?_, fun q3 => ?_⟩
 ·simp at q3
  exact ⟨[], ⟨by rw [decide_eq_false (fun e => by subst e; simp at *)], rfl⟩, .mem (by simp)⟩
 ·simp at q3
  refine ⟨fun q4 => ?_, fun q4 => ?_⟩
  ·simp at q4
   exact ⟨[], ⟨by rw [decide_eq_false (fun e => by subst e; simp at *)], rfl⟩, .mem (by simp)⟩
  ·simp at q4
   exact ⟨[], ⟨by rw [decide_eq_true (Item.eq_iff.2 (by simp_all))], rfl⟩, .mem (by simp)⟩
theorem szItemS_ct (b : Option Addr) (m c : Nat) (xs : List Item) (left : Int) (h0 : 0 ≤ left) (h1 : left ≤ 1048576) :
  Ct prog 268 [.slice b m c, .int .i64 left] [] (fun H => (gSl 218 gItem).rd H [.slice b m c] xs) (fun v A => (∃ r : Int, v = .int .i64 r ∧ ((r = -1 ∧ left < (szL gItem xs : Int)) ∨ (r = left - (szL gItem xs : Int) ∧ (szL gItem xs : Int) ≤ left))) ∧ A = []) := by
 refine Ct.intro0 G_ok func268 rfl rfl rfl fun E H hp => ?_
 obtain ⟨rfl, hcl, hl⟩ := sl_len hp
 have hq := szL_eq gItem xs
 have ht := List.take_length (l := xs)
 refine ⟨fun q0 => ?_, fun q0 => ?_⟩
 ·simp at q0
  simp (disch := omega) only [wrap_of] at q0
  exact ⟨[], ⟨⟨-1, rfl, .inl ⟨rfl, woI⟩⟩, rfl⟩, .mem (by simp)⟩
 ·simp at q0
  simp (disch := omega) only [wrap_of] at q0
  apply loop_mod (α := (Nat) × (Int)) G_ok [12, 13, 14, 15, 18, 19, 20, 21, 22, 23, 1, 24, 25, 4, 16, 17, 5] (fun z => [(5, .v (.int .i64 z.1)), (1, .v (.int .i64 z.2))]) (fun z => []) (fun z => [H]) (fun z => xs.length - z.1) (fun z => z.1 ≤ xs.length ∧ z.2 = left - xs.length - szE gItem (xs.take z.1) ∧ 0 ≤ z.2) ((0, left - xs.length))
  ·repeat' (first | exact trivial | refine ⟨⟨_, rfl, by first | rfl | exact inc_eq _ (by omega) | (refine sl_eq ?_; simp; done) | (simp (disch := omega) only [wrap_of]), by first | exact trivial | simp [SV.ok]⟩, ?_⟩)
  ·exact trivial
  ·try dsimp only
   exact ⟨by omega, by simp [szE], by omega⟩
  ·exact .refl _
  rintro ⟨k, lf⟩ hI
  try dsimp only at hI
  obtain ⟨hk, hlf, hnn⟩ := hI
  try dsimp only
  refine ⟨fun q1 => ?_, fun q1 => ?_⟩
  ·simp at q1
   have hs := szE_step gItem xs k default (by omega)
   have hs2 := szE_le gItem xs (k + 1)
   refine idx_rd hp ?_ ?_ fun b2 o2 hb2 => ?_
   ·omega
   ·omega
   refine load_allN default (k) rfl hp ?_ ?_ hb2 rfl (mem_at 0 rfl) fun l3 hl3 => ?_
   ·omega
   ·omega
   obtain ⟨b0x3, c0x3, rfl, h0x3, w1x3⟩ := gItem_rd.1 hl3
   refine call_q (szItem_ct _ (xs[k]?.getD default) _ ?_ ?_) (Rp.mono _ (mem_at 0 rfl) hl3) ?_
   ·trivial
   ·omega
   rintro _ ⟨r4, rfl, hr4⟩
   refine ⟨fun q5 => ?_, fun q5 => ?_⟩
   ·simp at q5
    exact ⟨[], ⟨⟨-1, rfl, .inl ⟨rfl, woI⟩⟩, rfl⟩, .mem (by simp)⟩
   ·simp at q5
    apply loop_stepA (k + 1, _)
    ·exact .refl _
    ·repeat' (first | exact trivial | refine ⟨⟨_, rfl, by first | rfl | exact inc_eq _ (by omega) | (refine sl_eq ?_; simp; done) | (simp (disch := omega) only [wrap_of]), by first | exact trivial | simp [SV.ok]⟩, ?_⟩)
    ·exact trivial
    ·try dsimp only
     ((try simp (disch := omega) only [wrap_of] at *); refine ⟨by omega, by omega, by omega⟩)
    try dsimp only
    omega
  ·simp at q1
   obtain rfl : k = xs.length := by omega
   rw [List.take_length] at hlf
   exact ⟨[], ⟨⟨_, rfl, .inr ⟨woI, by omega⟩⟩, rfl⟩, .mem (by simp)⟩
theorem toItemS_ct (b : Option Addr) (m c : Nat) (xs : List Item) (hx : szL gItem xs ≤ 1048576) :
  Ct prog 279 [.slice b m c] [] (fun H => (gSl 218 gItem).rd H [.slice b m c] xs) (fun v A => ∃ b c, v = .slice b xs.length c ∧ (gSl 218 gItem).ow [.slice b xs.length c] xs A) := by
 refine Ct.intro0 G_ok func279 rfl rfl rfl fun E H hp => ?_
 obtain ⟨rfl, hcl, hl⟩ := sl_len hp
 have hls := len_szL gItem xs
 have hq := szL_eq gItem xs
 refine VCmake.intro ?_ ?_ ?_ ?_ fun x0 => ?_
 ·omega
 ·omega
 ·omega
 ·omega
 apply loop_mod (α := (Nat) × (Hp)) G_ok [8, 9, 10, 11, 14, 15, 16, 17, 18, 19, 20, 21, 12, 13, 4] (fun z => [(4, .v (.int .i64 z.1))]) (fun z => []) (fun z => [z.2, H]) (fun z => xs.length - z.1) (fun z => z.1 ≤ xs.length ∧ (gSl 218 gItem).ow [.slice (some ⟨x0, 0, none⟩) xs.length xs.length] (xs.take z.1 ++ List.replicate (xs.length - z.1) zItem) z.2) ((0, _))
 ·exact frI
 ·exact trivial
 ·try dsimp only
  exact ⟨by omega, by simpa using gmake (g := gItem) (T := 218) (b := x0) (zItem_ow) (Nat.le_refl xs.length) (by omega)⟩
 ·exact .refl _
 rintro ⟨k, A⟩ hI
 try dsimp only at hI
 obtain ⟨hk, oA⟩ := hI
 try dsimp only
 refine ⟨fun q1 => ?_, fun q1 => ?_⟩
 ·simp at q1
  have hs := szE_step gItem xs k default (by omega)
  have hs2 := szE_le gItem xs (k + 1)
  refine idx_rd hp ?_ ?_ fun b2 o2 hb2 => ?_
  ·omega
  ·omega
  refine load_allN default (k) rfl hp ?_ ?_ hb2 rfl (mem_at 1 rfl) fun l3 hl3 => ?_
  ·omega
  ·omega
  obtain ⟨b0x3, c0x3, rfl, h0x3, w1x3⟩ := gItem_rd.1 hl3
  refine call_new (toItem_ct _ (xs[k]?.getD default) ?_) (Rp.mono _ (mem_at 1 rfl) hl3) ?_
  ·omega
  rintro v4 A4 o4
  obtain ⟨l4, rfl, o4⟩ := o4
  have r4 := Gt.owrd _ o4
  obtain ⟨b0x4, c0x4, rfl, h0x4, w1x4⟩ := gItem_rd.1 r4
  refine idx_rd (Gt.owrd _ oA) ?_ ?_ fun b5 o5 hb5 => ?_
  ·omega
  ·simp; omega
  refine gstore1N (k) (A) (A4) [H] rlA rfl oA ?_ ?_ hb5 rfl _ o4 fun A6 o6 => ?_
  ·omega
  ·simp; omega
  apply loop_stepA (k + 1, _)
  ·exact .refl _
  ·exact frI
  ·exact trivial
  ·try dsimp only
   exact ⟨by omega, by rw [← take_stepz xs k default zItem (by omega)] ; assumption⟩
  try dsimp only
  omega
 ·simp at q1
  obtain rfl : k = xs.length := by omega
  rw [List.take_length, Nat.sub_self, List.replicate_zero, List.append_nil] at oA
  exact ⟨_, ⟨_, _, rfl, oA⟩, rlA⟩
theorem eqItemS_ct (b1 : Option Addr) (m1 c1 : Nat) (b2 : Option Addr) (m2 c2 : Nat) (xs ys : List Item) :
  Ct prog 81 [.slice b1 m1 c1, .slice b2 m2 c2] [] (fun H => (gSl 218 gItem).rd H [.slice b1 m1 c1] xs ∧ (gSl 218 gItem).rd H [.slice b2 m2 c2] ys) (fun v A => v = .bool (decide (xs = ys)) ∧ A = []) := by
 refine Ct.intro0 G_ok func81 rfl rfl rfl fun E H hp => ?_
 obtain ⟨hp1, hp2⟩ := hp
 obtain ⟨rfl, hc1, hl1⟩ := sl_len hp1
 obtain ⟨rfl, hc2, hl2⟩ := sl_len hp2
 refine ⟨fun q0 => ?_, fun q0 => ?_⟩
 ·simp at q0
  exact ⟨[], ⟨by rw [decide_eq_false (fun e => by subst e; omega)], rfl⟩, .mem (by simp)⟩
 ·simp at q0
  apply loop_mod (α := (Nat)) G_ok [11, 12, 13, 14, 17, 18, 19, 20, 21, 22, 23, 24, 25, 26, 4, 15, 16, 5] (fun z => [(5, .v (.int .i64 z))]) (fun z => []) (fun z => [H]) (fun z => xs.length - z) (fun z => z ≤ xs.length ∧ xs.take z = ys.take z) (0)
  ·exact frI
  ·exact trivial
  ·exact ⟨by omega, by simp⟩
  ·exact .refl _
  rintro k hI
  obtain ⟨hk, he⟩ : k ≤ xs.length ∧ xs.take k = ys.take k := hI
  try dsimp only
  refine ⟨fun q1 => ?_, fun q1 => ?_⟩
  ·simp at q1
   refine draw G_ok mixed none (.q 0 (.q 1 (.q 2 (.q 3 (.q 4 (.q 5 (.q 6 (.q 7 (.f 8 (.q 9 (.nil))))))))))) (by decide +kernel) ?_
   refine idx_rd hp1 ?_ ?_ fun b2 o2 hb2 => ?_
   ·omega
   ·omega
   refine load_allN default (k) rfl hp1 ?_ ?_ hb2 rfl (mem_at 0 rfl) fun l3 hl3 => ?_
   ·omega
   ·omega
   obtain ⟨b0x3, c0x3, rfl, h0x3, w1x3⟩ := gItem_rd.1 hl3
   refine idx_rd hp2 ?_ ?_ fun b4 o4 hb4 => ?_
   ·omega
   ·omega
   refine load_allN default (k) rfl hp2 ?_ ?_ hb4 rfl (mem_at 0 rfl) fun l5 hl5 => ?_
   ·omega
   ·omega
   obtain ⟨b0x5, c0x5, rfl, h0x5, w1x5⟩ := gItem_rd.1 hl5
   refine call_val (eqItem_ct _ _ (xs[k]?.getD default) (ys[k]?.getD default)) ⟨(Rp.mono _ (mem_at 0 rfl) hl3), (Rp.mono _ (mem_at 0 rfl) hl5)⟩ ?_
   rintro _ rfl
   refine VC.intro ?_ ?_
   ·exact fun _ h => h
   refine ⟨fun q7 => ?_, fun q7 => ?_⟩
   ·simp at q7
    exact ⟨[], ⟨by rw [decide_eq_false (fun e => by subst e; simp at *)], rfl⟩, .mem (by simp)⟩
   ·simp at q7
    apply loop_stepA (k + 1)
    ·exact .refl _
    ·exact frI
    ·exact trivial
    ·exact ⟨by omega, eq_step default (by omega) he (by omega) (by simpa using ‹_›)⟩
    omega
  ·simp at q1
   exact ⟨[], ⟨by rw [decide_eq_true]; rw [← List.take_length (l := xs), ← List.take_length (l := ys), ← (by omega : xs.length = ys.length), show xs.length = k by omega]; exact he, rfl⟩, .mem (by simp)⟩
theorem szBag_ct (l : List Value) (x : Bag) (left : Int) (h0 : 0 ≤ left) (h1 : left ≤ 1048576) :
  Ct prog 187 [.agg ⟨l⟩, .int .i64 left] [] (fun H => gBag.rd H l x) (fun v A => (∃ r : Int, v = .int .i64 r ∧ ((r = -1 ∧ left < (gBag.sz x : Int)) ∨ (r = left - (gBag.sz x : Int) ∧ (gBag.sz x : Int) ≤ left))) ∧ A = []) := by
 refine Ct.intro0 G_ok func187 rfl rfl rfl fun E H hp => ?_
 obtain ⟨b0, c0, rfl, h0⟩ := gBag_rd.1 hp
 have hz := gBag_sz x
 refine ⟨fun x0 => ?_⟩
 refine call_q (szItemS_ct _ _ _ (x.items) _ ?_ ?_) (Rp.mono _ (mem_at 0 rfl) h0) ?_
 ·trivial
 ·trivial
 rintro _ ⟨r1, rfl, hr1⟩
 refine ⟨fun q2 => ?_, fun q2 => ?_⟩
 ·simp at q2
  exact ⟨[], ⟨⟨-1, rfl, .inl ⟨rfl, woI⟩⟩, rfl⟩, .mem (by simp)⟩
 ·simp at q2
  exact ⟨[], ⟨⟨_, rfl, .inr ⟨woI, by omega⟩⟩, rfl⟩, .mem (by simp)⟩
theorem toBag_ct (l : List Value) (x : Bag) (hx : gBag.sz x ≤ 1048576) :
  Ct prog 195 [.agg ⟨l⟩] [] (fun H => gBag.rd H l x) (fun v A => ∃ l, v = .agg ⟨l⟩ ∧ gBag.ow l x A) := by
 refine Ct.intro0 G_ok func195 rfl rfl rfl fun E H hp => ?_
 obtain ⟨b0, c0, rfl, h0⟩ := gBag_rd.1 hp
 have hz := gBag_sz x
 refine ⟨fun x0 => ?_⟩
 refine ⟨fun x1 => ?_⟩
 refine ⟨fun x2 => ?_⟩
 refine call_new (toItemS_ct _ _ _ (x.items) ?_) (Rp.mono _ (mem_at 0 rfl) h0) ?_
 ·trivial
 rintro v3 A3 o3
 obtain ⟨b3, c3, rfl, o3⟩ := o3
 exact ⟨_, ⟨_, rfl, gBag_ow.2 ⟨_, _, _, rfl, .refl _, by assumption⟩⟩, rlA⟩
theorem eqBag_ct (l1 l2 : List Value) (x y : Bag) :
  Ct prog 16 [.agg ⟨l1⟩, .agg ⟨l2⟩] [] (fun H => gBag.rd H l1 x ∧ gBag.rd H l2 y) (fun v A => v = .bool (decide (x = y)) ∧ A = []) := by
 refine Ct.intro0 G_ok func16 rfl rfl rfl fun E H hp => ?_
 obtain ⟨hp1, hp2⟩ := hp
 obtain ⟨b0p, c0p, rfl, h0p⟩ := gBag_rd.1 hp1
 obtain ⟨b0q, c0q, rfl, h0q⟩ := gBag_rd.1 hp2
 refine ⟨fun x0 => ?_⟩
 refine ⟨fun x1 => ?_⟩
 refine call_val (eqItemS_ct _ _ _ _ _ _ (x.items) (y.items)) ⟨(Rp.mono _ (mem_at 0 rfl) h0p), (Rp.mono _ (mem_at 0 rfl) h0q)⟩ ?_
 rintro _ rfl
 refine ⟨fun q3 => ?_, fun q3 => ?_⟩
 ·simp at q3
  exact ⟨[], ⟨by rw [decide_eq_false (fun e => by subst e; simp at *)], rfl⟩, .mem (by simp)⟩
 ·simp at q3
  exact ⟨[], ⟨by rw [decide_eq_true (Bag.eq_iff.2 (by simp_all))], rfl⟩, .mem (by simp)⟩
theorem toEdge_ct (l : List Value) (x : Edge) (hx : gEdge.sz x ≤ 1048576) :
  Ct prog 196 [.agg ⟨l⟩] [] (fun H => gEdge.rd H l x) (fun v A => ∃ l, v = .agg ⟨l⟩ ∧ gEdge.ow l x A) := by
 refine Ct.intro0 G_ok func196 rfl rfl rfl fun E H hp => ?_
 obtain ⟨rfl, w0, w2⟩ := gEdge_rd.1 hp
 have hz := gEdge_sz x
 refine ⟨fun x0 => ?_⟩
 refine ⟨fun x1 => ?_⟩
 refine ⟨fun x2 => ?_⟩
 exact ⟨_, ⟨_, rfl, gEdge_ow.2 ⟨rfl, .refl _, by assumption, by assumption⟩⟩, rlA⟩
theorem eqEdge_ct (l1 l2 : List Value) (x y : Edge) :
  Ct prog 208 [.agg ⟨l1⟩, .agg ⟨l2⟩] [] (fun H => gEdge.rd H l1 x ∧ gEdge.rd H l2 y) (fun v A => v = .bool (decide (x = y)) ∧ A = []) := by
 refine Ct.intro0 G_ok func208 rfl rfl rfl fun E H hp => ?_
 obtain ⟨hp1, hp2⟩ := hp
 obtain ⟨rfl, w0p, w2p⟩ := gEdge_rd.1 hp1
 obtain ⟨rfl, w0q, w2q⟩ := gEdge_rd.1 hp2
 refine ⟨fun x0 => ?_⟩
 refine ⟨fun x1 => ?_⟩
 refine ⟨fun q2 => ?_, fun q2 => ?_⟩
 ·simp at q2
  exact ⟨[], ⟨by rw [decide_eq_false (fun e => by subst e; simp at *)], rfl⟩, .mem (by simp)⟩
 ·simp at q2
  refine ⟨fun q3 => ?_, fun q3 => ?_⟩
  ·simp at q3
   simp only [str_inj, u8_inj, u8_wrap] at q3
   exact ⟨[], ⟨by rw [decide_eq_false (fun e => by subst e; simp at *)], rfl⟩, .mem (by simp)⟩
  ·simp at q3
   simp only [str_inj, u8_inj, u8_wrap] at q3
   refine ⟨fun q4 => ?_, fun q4 => ?_⟩
   ·simp at q4
    exact ⟨[], ⟨by rw [decide_eq_false (fun e => by subst e; simp at *)], rfl⟩, .mem (by simp)⟩
   ·simp at q4
    exact ⟨[], ⟨by rw [decide_eq_true (Edge.eq_iff.2 (by simp_all))], rfl⟩, .mem (by simp)⟩
theorem szEdgeS_ct (b : Option Addr) (m c : Nat) (xs : List Edge) (left : Int) (h0 : 0 ≤ left) (h1 : left ≤ 1048576) :
  Ct prog 103 [.slice b m c, .int .i64 left] [] (fun H => (gSl 209 gEdge).rd H [.slice b m c] xs) (fun v A => (∃ r : Int, v = .int .i64 r ∧ ((r = -1 ∧ left < (szL gEdge xs : Int)) ∨ (r = left - (szL gEdge xs : Int) ∧ (szL gEdge xs : Int) ≤ left))) ∧ A = []) := by
 refine Ct.intro0 G_ok func103 rfl rfl rfl fun E H hp => ?_
 obtain ⟨rfl, hcl, hl⟩ := sl_len hp
 have hq := szL_eq gEdge xs
 have hz := szE_zero gEdge (fun _ => rfl) xs
 refine ⟨fun q0 => ?_, fun q0 => ?_⟩
 ·simp at q0
  simp (disch := omega) only [wrap_of] at q0
  exact ⟨[], ⟨⟨-1, rfl, .inl ⟨rfl, woI⟩⟩, rfl⟩, .mem (by simp)⟩
 ·simp at q0
  simp (disch := omega) only [wrap_of] at q0
  exact ⟨[], ⟨⟨_, rfl, .inr ⟨woI, by omega⟩⟩, rfl⟩, .mem (by simp)⟩
theorem toEdgeS_ct (b : Option Addr) (m c : Nat) (xs : List Edge) (hx : szL gEdge xs ≤ 1048576) :
  Ct prog 112 [.slice b m c] [] (fun H => (gSl 209 gEdge).rd H [.slice b m c] xs) (fun v A => ∃ b c, v = .slice b xs.length c ∧ (gSl 209 gEdge).ow [.slice b xs.length c] xs A) := by
 refine Ct.intro0 G_ok func112 rfl rfl rfl fun E H hp => ?_
 obtain ⟨rfl, hcl, hl⟩ := sl_len hp
 have hls := len_szL gEdge xs
 refine VCmake.intro ?_ ?_ ?_ ?_ fun x0 => ?_
 ·omega
 ·omega
 ·omega
 ·omega
 apply loop_mod (α := (Nat) × (Hp)) G_ok [8, 9, 10, 11, 14, 15, 16, 17, 18, 19, 20, 21, 12, 13, 4] (fun z => [(4, .v (.int .i64 z.1))]) (fun z => []) (fun z => [z.2, H]) (fun z => xs.length - z.1) (fun z => z.1 ≤ xs.length ∧ (gSl 209 gEdge).ow [.slice (some ⟨x0, 0, none⟩) xs.length xs.length] (xs.take z.1 ++ List.replicate (xs.length - z.1) zEdge) z.2) ((0, _))
 ·exact frI
 ·exact trivial
 ·try dsimp only
  exact ⟨by omega, by simpa using gmake (g := gEdge) (T := 209) (b := x0) (zEdge_ow) (Nat.le_refl xs.length) (by omega)⟩
 ·exact .refl _
 rintro ⟨k, A⟩ hI
 try dsimp only at hI
 obtain ⟨hk, oA⟩ := hI
 try dsimp only
 refine ⟨fun q1 => ?_, fun q1 => ?_⟩
 ·simp at q1
  refine idx_rd hp ?_ ?_ fun b2 o2 hb2 => ?_
  ·omega
  ·omega
  refine load_allN default (k) rfl hp ?_ ?_ hb2 rfl (mem_at 1 rfl) fun l3 hl3 => ?_
  ·omega
  ·omega
  obtain ⟨rfl, w0x3, w2x3⟩ := gEdge_rd.1 hl3
  refine call_new (toEdge_ct _ (xs[k]?.getD default) ?_) (Rp.mono _ (mem_at 1 rfl) hl3) ?_
  ·exact Nat.zero_le 1048576
  rintro v4 A4 o4
  obtain ⟨l4, rfl, o4⟩ := o4
  have r4 := Gt.owrd _ o4
  obtain ⟨rfl, w0x4, w2x4⟩ := gEdge_rd.1 r4
  refine idx_rd (Gt.owrd _ oA) ?_ ?_ fun b5 o5 hb5 => ?_
  ·omega
  ·simp; omega
  refine gstore1N (k) (A) (A4) [H] rlA rfl oA ?_ ?_ hb5 rfl _ o4 fun A6 o6 => ?_
  ·omega
  ·simp; omega
  apply loop_stepA (k + 1, _)
  ·exact .refl _
  ·exact frI
  ·exact trivial
  ·try dsimp only
   exact ⟨by omega, by rw [← take_stepz xs k default zEdge (by omega)] ; assumption⟩
  try dsimp only
  omega
 ·simp at q1
  obtain rfl : k = xs.length := by omega
  rw [List.take_length, Nat.sub_self, List.replicate_zero, List.append_nil] at oA
  exact ⟨_, ⟨_, _, rfl, oA⟩, rlA⟩
theorem eqEdgeS_ct (b1 : Option Addr) (m1 c1 : Nat) (b2 : Option Addr) (m2 c2 : Nat) (xs ys : List Edge) :
  Ct prog 120 [.slice b1 m1 c1, .slice b2 m2 c2] [] (fun H => (gSl 209 gEdge).rd H [.slice b1 m1 c1] xs ∧ (gSl 209 gEdge).rd H [.slice b2 m2 c2] ys) (fun v A => v = .bool (decide (xs = ys)) ∧ A = []) := by
 refine Ct.intro0 G_ok func120 rfl rfl rfl fun E H hp => ?_
 obtain ⟨hp1, hp2⟩ := hp
 obtain ⟨rfl, hc1, hl1⟩ := sl_len hp1
 obtain ⟨rfl, hc2, hl2⟩ := sl_len hp2
 refine ⟨fun q0 => ?_, fun q0 => ?_⟩
 ·simp at q0
  exact ⟨[], ⟨by rw [decide_eq_false (fun e => by subst e; omega)], rfl⟩, .mem (by simp)⟩
 ·simp at q0
  apply loop_mod (α := (Nat)) G_ok [11, 12, 13, 14, 17, 18, 19, 20, 21, 22, 23, 24, 25, 26, 4, 15, 16, 5] (fun z => [(5, .v (.int .i64 z))]) (fun z => []) (fun z => [H]) (fun z => xs.length - z) (fun z => z ≤ xs.length ∧ xs.take z = ys.take z) (0)
  ·exact frI
  ·exact trivial
  ·exact ⟨by omega, by simp⟩
  ·exact .refl _
  rintro k hI
  obtain ⟨hk, he⟩ : k ≤ xs.length ∧ xs.take k = ys.take k := hI
  try dsimp only
  refine ⟨fun q1 => ?_, fun q1 => ?_⟩
  ·simp at q1
   refine draw G_ok mixed none (.q 0 (.q 1 (.q 2 (.q 3 (.q 4 (.q 5 (.q 6 (.q 7 (.f 8 (.q 9 (.nil))))))))))) (by decide +kernel) ?_
   refine idx_rd hp1 ?_ ?_ fun b2 o2 hb2 => ?_
   ·omega
   ·omega
   refine load_allN default (k) rfl hp1 ?_ ?_ hb2 rfl (mem_at 0 rfl) fun l3 hl3 => ?_
   ·omega
   ·omega
   obtain ⟨rfl, w0x3, w2x3⟩ := gEdge_rd.1 hl3
   refine idx_rd hp2 ?_ ?_ fun b4 o4 hb4 => ?_
   ·omega
   ·omega
   refine load_allN default (k) rfl hp2 ?_ ?_ hb4 rfl (mem_at 0 rfl) fun l5 hl5 => ?_
   ·omega
   ·omega
   obtain ⟨rfl, w0x5, w2x5⟩ := gEdge_rd.1 hl5
   refine call_val (eqEdge_ct _ _ (xs[k]?.getD default) (ys[k]?.getD default)) ⟨(Rp.mono _ (mem_at 0 rfl) hl3), (Rp.mono _ (mem_at 0 rfl) hl5)⟩ ?_
   rintro _ rfl
   refine VC.intro ?_ ?_
   ·exact fun _ h => h
   refine ⟨fun q7 => ?_, fun q7 => ?_⟩
   ·simp at q7
    exact ⟨[], ⟨by rw [decide_eq_false (fun e => by subst e; simp at *)], rfl⟩, .mem (by simp)⟩
   ·simp at q7
    apply loop_stepA (k + 1)
    ·exact .refl _
    ·exact frI
    ·exact trivial
    ·exact ⟨by omega, eq_step default (by omega) he (by omega) (by simpa using ‹_›)⟩
    omega
  ·simp at q1
   exact ⟨[], ⟨by rw [decide_eq_true]; rw [← List.take_length (l := xs), ← List.take_length (l := ys), ← (by omega : xs.length = ys.length), show xs.length = k by omega]; exact he, rfl⟩, .mem (by simp)⟩
theorem szGraph_ct (l : List Value) (x : Graph) (left : Int) (h0 : 0 ≤ left) (h1 : left ≤ 1048576) :
  Ct prog 33 [.agg ⟨l⟩, .int .i64 left] [] (fun H => gGraph.rd H l x) (fun v A => (∃ r : Int, v = .int .i64 r ∧ ((r = -1 ∧ left < (gGraph.sz x : Int)) ∨ (r = left - (gGraph.sz x : Int) ∧ (gGraph.sz x : Int) ≤ left))) ∧ A = []) := by
 refine Ct.intro0 G_ok func33 rfl rfl rfl fun E H hp => ?_
 obtain ⟨b1, c1, rfl, w0, h1⟩ := gGraph_rd.1 hp
 have hz := gGraph_sz x
 refine ⟨fun x0 => ?_⟩
 refine call_q (szEdgeS_ct _ _ _ (x.edges) _ ?_ ?_) (Rp.mono _ (mem_at 0 rfl) h1) ?_
 ·trivial
 ·trivial
 rintro _ ⟨r1, rfl, hr1⟩
 refine ⟨fun q2 => ?_, fun q2 => ?_⟩
 ·simp at q2
  exact ⟨[], ⟨⟨-1, rfl, .inl ⟨rfl, woI⟩⟩, rfl⟩, .mem (by simp)⟩
 ·simp at q2
  exact ⟨[], ⟨⟨_, rfl, .inr ⟨woI, by omega⟩⟩, rfl⟩, .mem (by simp)⟩
theorem toGraph_ct (l : List Value) (x : Graph) (hx : gGraph.sz x ≤ 1048576) :
  Ct prog 36 [.agg ⟨l⟩] [] (fun H => gGraph.rd H l x) (fun v A => ∃ l, v = .agg ⟨l⟩ ∧ gGraph.ow l x A) := by
 refine Ct.intro0 G_ok func36 rfl rfl rfl fun E H hp => ?_
 obtain ⟨b1, c1, rfl, w0, h1⟩ := gGraph_rd.1 hp
 have hz := gGraph_sz x
 refine ⟨fun x0 => ?_⟩
 refine ⟨fun x1 => ?_⟩
 refine ⟨fun x2 => ?_⟩
 refine call_new (toEdgeS_ct _ _ _ (x.edges) ?_) (Rp.mono _ (mem_at 0 rfl) h1) ?_
 ·omega
 rintro v3 A3 o3
 obtain ⟨b3, c3, rfl, o3⟩ := o3
 exact ⟨_, ⟨_, rfl, gGraph_ow.2 ⟨_, _, _, rfl, .refl _, by assumption, by assumption⟩⟩, rlA⟩
theorem eqGraph_ct (l1 l2 : List Value) (x y : Graph) :
  Ct prog 39 [.agg ⟨l1⟩, .agg ⟨l2⟩] [] (fun H => gGraph.rd H l1 x ∧ gGraph.rd H l2 y) (fun v A => v = .bool (decide (x = y)) ∧ A = []) := by
 refine Ct.intro0 G_ok func39 rfl rfl rfl fun E H hp => ?_
 obtain ⟨hp1, hp2⟩ := hp
 obtain ⟨b1p, c1p, rfl, w0p, h1p⟩ := gGraph_rd.1 hp1
 obtain ⟨b1q, c1q, rfl, w0q, h1q⟩ := gGraph_rd.1 hp2
 refine ⟨fun x0 => ?_⟩
 refine ⟨fun x1 => ?_⟩
 refine ⟨fun q2 => ?_, fun q2 => ?_⟩
 ·simp at q2
  exact ⟨[], ⟨by rw [decide_eq_false (fun e => by subst e; simp at *)], rfl⟩, .mem (by simp)⟩
 ·simp at q2
  refine call_val (eqEdgeS_ct _ _ _ _ _ _ (x.edges) (y.edges)) ⟨(Rp.mono _ (mem_at 0 rfl) h1p), (Rp.mono _ (mem_at 0 rfl) h1q)⟩ ?_
  rintro _ rfl
  refine ⟨fun q4 => ?_, fun q4 => ?_⟩
  ·simp at q4
   exact ⟨[], ⟨by rw [decide_eq_false (fun e => by subst e; simp at *)], rfl⟩, .mem (by simp)⟩
  ·simp at q4
   exact ⟨[], ⟨by rw [decide_eq_true (Graph.eq_iff.2 (by simp_all))], rfl⟩, .mem (by simp)⟩
theorem szAtom_ct (l : List Value) (x : Atom) (left : Int) (h0 : 0 ≤ left) (h1 : left ≤ 1048576) :
  Ct prog 149 [.agg ⟨l⟩, .int .i64 left] [] (fun H => gAtom.rd H l x) (fun v A => (∃ r : Int, v = .int .i64 r ∧ ((r = -1 ∧ left < (gAtom.sz x : Int)) ∨ (r = left - (gAtom.sz x : Int) ∧ (gAtom.sz x : Int) ≤ left))) ∧ A = []) := by
 refine Ct.intro0 G_ok func149 rfl rfl rfl fun E H hp => ?_
 obtain ⟨rfl, w0, w1, w2⟩ := gAtom_rd.1 hp
 have hz := gAtom_sz x
 refine ⟨fun x0 => ?_⟩
 refine ⟨fun q1 => ?_, fun q1 => ?_⟩
 ·simp at q1
  simp (disch := omega) only [wrap_of] at q1
  exact ⟨[], ⟨⟨-1, rfl, .inl ⟨rfl, woI⟩⟩, rfl⟩, .mem (by simp)⟩
 ·simp at q1
  simp (disch := omega) only [wrap_of] at q1
  refine ⟨fun q2 => ?_, fun q2 => ?_⟩
  ·simp at q2
   simp (disch := omega) only [wrap_of] at q2
   exact ⟨[], ⟨⟨-1, rfl, .inl ⟨rfl, woI⟩⟩, rfl⟩, .mem (by simp)⟩
  ·simp at q2
   simp (disch := omega) only [wrap_of] at q2
   refine ⟨fun q3 => ?_, fun q3 => ?_⟩
   ·simp at q3
    simp (disch := omega) only [wrap_of] at q3
    exact ⟨[], ⟨⟨-1, rfl, .inl ⟨rfl, woI⟩⟩, rfl⟩, .mem (by simp)⟩
   ·simp at q3
    simp (disch := omega) only [wrap_of] at q3
    exact ⟨[], ⟨⟨_, rfl, .inr ⟨woI, by omega⟩⟩, rfl⟩, .mem (by simp)⟩
theorem toAtom_ct (l : List Value) (x : Atom) (hx : gAtom.sz x ≤ 1048576) :
  Ct prog 156 [.agg ⟨l⟩] [] (fun H => gAtom.rd H l x) (fun v A => ∃ l, v = .agg ⟨l⟩ ∧ gAtom.ow l x A) := by
 refine Ct.intro0 G_ok func156 rfl rfl rfl fun E H hp => ?_
 obtain ⟨rfl, w0, w1, w2⟩ := gAtom_rd.1 hp
 have hz := gAtom_sz x
 refine ⟨fun x0 => ?_⟩
 refine ⟨fun x1 => ?_⟩
 refine ⟨fun x2 => ?_⟩
 exact ⟨_, ⟨_, rfl, gAtom_ow.2 ⟨rfl, .refl _, by assumption, by assumption, by assumption⟩⟩, rlA⟩
theorem eqAtom_ct (l1 l2 : List Value) (x y : Atom) :
  Ct prog 171 [.agg ⟨l1⟩, .agg ⟨l2⟩] [] (fun H => gAtom.rd H l1 x ∧ gAtom.rd H l2 y) (fun v A => v = .bool (decide (x = y)) ∧ A = []) := by
 refine Ct.intro0 G_ok func171 rfl rfl rfl fun E H hp => ?_
 obtain ⟨hp1, hp2⟩ := hp
 obtain ⟨rfl, w0p, w1p, w2p⟩ := gAtom_rd.1 hp1
 obtain ⟨rfl, w0q, w1q, w2q⟩ := gAtom_rd.1 hp2
 refine ⟨fun x0 => ?_⟩
 refine ⟨fun x1 => ?_⟩
 refine ⟨fun q2 => ?_, fun q2 => ?_⟩
 ·simp at q2
  simp only [str_inj, u8_inj, u8_wrap] at q2
  exact ⟨[], ⟨by rw [decide_eq_false (fun e => by subst e; simp at *)], rfl⟩, .mem (by simp)⟩
 ·simp at q2
  simp only [str_inj, u8_inj, u8_wrap] at q2
  refine ⟨fun q3 => ?_, fun q3 => ?_⟩
  ·simp at q3
   simp only [str_inj, u8_inj, u8_wrap] at q3
   exact ⟨[], ⟨by rw [decide_eq_false (fun e => by subst e; simp at *)], rfl⟩, .mem (by simp)⟩
  ·simp at q3
   simp only [str_inj, u8_inj, u8_wrap] at q3
   refine ⟨fun q4 => ?_, fun q4 => ?_⟩
   ·simp at q4
    simp only [str_inj, u8_inj, u8_wrap] at q4
    exact ⟨[], ⟨by rw [decide_eq_false (fun e => by subst e; simp at *)], rfl⟩, .mem (by simp)⟩
   ·simp at q4
    simp only [str_inj, u8_inj, u8_wrap] at q4
    exact ⟨[], ⟨by rw [decide_eq_true (Atom.eq_iff.2 (by simp_all))], rfl⟩, .mem (by simp)⟩
theorem szFilter_ct (l : List Value) (x : Filter) (left : Int) (h0 : 0 ≤ left) (h1 : left ≤ 1048576) :
  Ct prog 150 [.agg ⟨l⟩, .int .i64 left] [] (fun H => gFilter.rd H l x) (fun v A => (∃ r : Int, v = .int .i64 r ∧ ((r = -1 ∧ left < (gFilter.sz x : Int)) ∨ (r = left - (gFilter.sz x : Int) ∧ (gFilter.sz x : Int) ≤ left))) ∧ A = []) := by
 refine Ct.intro0 G_ok func150 rfl rfl rfl fun E H hp => ?_
 obtain ⟨rfl, w0, w1, w2, w3⟩ := gFilter_rd.1 hp
 have hz := gFilter_sz x
 refine ⟨fun x0 => ?_⟩
 refine ⟨fun q1 => ?_, fun q1 => ?_⟩
 ·simp at q1
  simp (disch := omega) only [wrap_of] at q1
  exact ⟨[], ⟨⟨-1, rfl, .inl ⟨rfl, woI⟩⟩, rfl⟩, .mem (by simp)⟩
 ·simp at q1
  simp (disch := omega) only [wrap_of] at q1
  refine ⟨fun q2 => ?_, fun q2 => ?_⟩
  ·simp at q2
   simp (disch := omega) only [wrap_of] at q2
   exact ⟨[], ⟨⟨-1, rfl, .inl ⟨rfl, woI⟩⟩, rfl⟩, .mem (by simp)⟩
  ·simp at q2
   simp (disch := omega) only [wrap_of] at q2
   exact ⟨[], ⟨⟨_, rfl, .inr ⟨woI, by omega⟩⟩, rfl⟩, .mem (by simp)⟩
theorem toFilter_ct (l : List Value) (x : Filter) (hx : gFilter.sz x ≤ 1048576) :
  Ct prog 157 [.agg ⟨l⟩] [] (fun H => gFilter.rd H l x) (fun v A => ∃ l, v = .agg ⟨l⟩ ∧ gFilter.ow l x A) := by
 refine Ct.intro0 G_ok func157 rfl rfl rfl fun E H hp => ?_
 obtain ⟨rfl, w0, w1, w2, w3⟩ := gFilter_rd.1 hp
 have hz := gFilter_sz x
 refine ⟨fun x0 => ?_⟩
 refine ⟨fun x1 => ?_⟩
 refine ⟨fun x2 => ?_⟩
 exact ⟨_, ⟨_, rfl, gFilter_ow.2 ⟨rfl, .refl _, by assumption, by assumption, by assumption, by assumption⟩⟩, rlA⟩
theorem eqFilter_ct (l1 l2 : List Value) (x y : Filter) :
  Ct prog 172 [.agg ⟨l1⟩, .agg ⟨l2⟩] [] (fun H => gFilter.rd H l1 x ∧ gFilter.rd H l2 y) (fun v A => v = .bool (decide (x = y)) ∧ A = []) := by
 refine Ct.intro0 G_ok func172 rfl rfl rfl fun E H hp => ?_
 obtain ⟨hp1, hp2⟩ := hp
 obtain ⟨rfl, w0p, w1p, w2p, w3p⟩ := gFilter_rd.1 hp1
 obtain ⟨rfl, w0q, w1q, w2q, w3q⟩ := gFilter_rd.1 hp2
 refine ⟨fun x0 => ?_⟩
 refine ⟨fun x1 => ?_⟩
 refine ⟨fun q2 => ?_, fun q2 => ?_⟩
 ·simp at q2
  simp only [str_inj, u8_inj, u8_wrap] at q2
  exact ⟨[], ⟨by rw [decide_eq_false (fun e => by subst e; simp at *)], rfl⟩, .mem (by simp)⟩
 ·simp at q2
  simp only [str_inj, u8_inj, u8_wrap] at q2
  refine ⟨fun q3 => ?_, fun q3 => ?_⟩
  ·simp at q3
   exact ⟨[], ⟨by rw [decide_eq_false (fun e => by subst e; simp at *)], rfl⟩, .mem (by simp)⟩
  ·simp at q3
   refine ⟨fun q4 => ?_, fun q4 => ?_⟩
   ·simp at q4
    simp only [str_inj, u8_inj, u8_wrap] at q4
    exact ⟨[], ⟨by rw [decide_eq_false (fun e => by subst e; simp at *)], rfl⟩, .mem (by simp)⟩
   ·simp at q4
    simp only [str_inj, u8_inj, u8_wrap] at q4
    refine ⟨fun q5 => ?_, fun q5 => ?_⟩
    ·simp at q5
     exact ⟨[], ⟨by rw [decide_eq_false (fun e => by subst e; simp at *)], rfl⟩, .mem (by simp)⟩
    ·simp at q5
     exact ⟨[], ⟨by rw [decide_eq_true (Filter.eq_iff.2 (by simp_all))], rfl⟩, .mem (by simp)⟩
theorem szAtomS_ct (b : Option Addr) (m c : Nat) (xs : List Atom) (left : Int) (h0 : 0 ≤ left) (h1 : left ≤ 1048576) :
  Ct prog 57 [.slice b m c, .int .i64 left] [] (fun H => (gSl 118 gAtom).rd H [.slice b m c] xs) (fun v A => (∃ r : Int, v = .int .i64 r ∧ ((r = -1 ∧ left < (szL gAtom xs : Int)) ∨ (r = left - (szL gAtom xs : Int) ∧ (szL gAtom xs : Int) ≤ left))) ∧ A = []) := by
 refine Ct.intro0 G_ok func57 rfl rfl rfl fun E H hp => ?_
 obtain ⟨rfl, hcl, hl⟩ := sl_len hp
 have hq := szL_eq gAtom xs
 have ht := List.take_length (l := xs)
 refine ⟨fun q0 => ?_, fun q0 => ?_⟩
 ·simp at q0
  simp (disch := omega) only [wrap_of] at q0
  exact ⟨[], ⟨⟨-1, rfl, .inl ⟨rfl, woI⟩⟩, rfl⟩, .mem (by simp)⟩
 ·simp at q0
  simp (disch := omega) only [wrap_of] at q0
  apply loop_mod (α := (Nat) × (Int)) G_ok [12, 13, 14, 15, 18, 19, 20, 21, 22, 23, 1, 24, 25, 4, 16, 17, 5] (fun z => [(5, .v (.int .i64 z.1)), (1, .v (.int .i64 z.2))]) (fun z => []) (fun z => [H]) (fun z => xs.length - z.1) (fun z => z.1 ≤ xs.length ∧ z.2 = left - xs.length - szE gAtom (xs.take z.1) ∧ 0 ≤ z.2) ((0, left - xs.length))
  ·repeat' (first | exact trivial | refine ⟨⟨_, rfl, by first | rfl | exact inc_eq _ (by omega) | (refine sl_eq ?_; simp; done) | (simp (disch := omega) only [wrap_of]), by first | exact trivial | simp [SV.ok]⟩, ?_⟩)
  ·exact trivial
  ·try dsimp only
   exact ⟨by omega, by simp [szE], by omega⟩
  ·exact .refl _
  rintro ⟨k, lf⟩ hI
  try dsimp only at hI
  obtain ⟨hk, hlf, hnn⟩ := hI
  try dsimp only
  refine ⟨fun q1 => ?_, fun q1 => ?_⟩
  ·simp at q1
   have hs := szE_step gAtom xs k default (by omega)
   have hs2 := szE_le gAtom xs (k + 1)
   refine idx_rd hp ?_ ?_ fun b2 o2 hb2 => ?_
   ·omega
   ·omega
   refine load_allN default (k) rfl hp ?_ ?_ hb2 rfl (mem_at 0 rfl) fun l3 hl3 => ?_
   ·omega
   ·omega
   obtain ⟨rfl, w0x3, w1x3, w2x3⟩ := gAtom_rd.1 hl3
   refine call_q (szAtom_ct _ (xs[k]?.getD default) _ ?_ ?_) (Rp.mono _ (mem_at 0 rfl) hl3) ?_
   ·trivial
   ·omega
   rintro _ ⟨r4, rfl, hr4⟩
   refine ⟨fun q5 => ?_, fun q5 => ?_⟩
   ·simp at q5
    exact ⟨[], ⟨⟨-1, rfl, .inl ⟨rfl, woI⟩⟩, rfl⟩, .mem (by simp)⟩
   ·simp at q5
    apply loop_stepA (k + 1, _)
    ·exact .refl _
    ·repeat' (first | exact trivial | refine ⟨⟨_, rfl, by first | rfl | exact inc_eq _ (by omega) | (refine sl_eq ?_; simp; done) | (simp (disch := omega) only [wrap_of]), by first | exact trivial | simp [SV.ok]⟩, ?_⟩)
    ·exact trivial
    ·try dsimp only
     ((try simp (disch := omega) only [wrap_of] at *); refine ⟨by omega, by omega, by omega⟩)
    try dsimp only
    omega
  ·simp at q1
   obtain rfl : k = xs.length := by omega
   rw [List.take_length] at hlf
   exact ⟨[], ⟨⟨_, rfl, .inr ⟨woI, by omega⟩⟩, rfl⟩, .mem (by simp)⟩
theorem toAtomS_ct (b : Option Addr) (m c : Nat) (xs : List Atom) (hx : szL gAtom xs ≤ 1048576) :
  Ct prog 70 [.slice b m c] [] (fun H => (gSl 118 gAtom).rd H [.slice b m c] xs) (fun v A => ∃ b c, v = .slice b xs.length c ∧ (gSl 118 gAtom).ow [.slice b xs.length c] xs A) := by
 refine Ct.intro0 G_ok func70 rfl rfl rfl fun E H hp => ?_
 obtain ⟨rfl, hcl, hl⟩ := sl_len hp
 have hls := len_szL gAtom xs
 have hq := szL_eq gAtom xs
 refine VCmake.intro ?_ ?_ ?_ ?_ fun x0 => ?_
 ·omega
 ·omega
 ·omega
 ·omega
 apply loop_mod (α := (Nat) × (Hp)) G_ok [8, 9, 10, 11, 14, 15, 16, 17, 18, 19, 20, 21, 12, 13, 4] (fun z => [(4, .v (.int .i64 z.1))]) (fun z => []) (fun z => [z.2, H]) (fun z => xs.length - z.1) (fun z => z.1 ≤ xs.length ∧ (gSl 118 gAtom).ow [.slice (some ⟨x0, 0, none⟩) xs.length xs.length] (xs.take z.1 ++ List.replicate (xs.length - z.1) zAtom) z.2) ((0, _))
 ·exact frI
 ·exact trivial
 ·try dsimp only
  exact ⟨by omega, by simpa using gmake (g := gAtom) (T := 118) (b := x0) (zAtom_ow) (Nat.le_refl xs.length) (by omega)⟩
 ·exact .refl _
 rintro ⟨k, A⟩ hI
 try dsimp only at hI
 obtain ⟨hk, oA⟩ := hI
 try dsimp only
 refine ⟨fun q1 => ?_, fun q1 => ?_⟩
 ·simp at q1
  have hs := szE_step gAtom xs k default (by omega)
  have hs2 := szE_le gAtom xs (k + 1)
  refine idx_rd hp ?_ ?_ fun b2 o2 hb2 => ?_
  ·omega
  ·omega
  refine load_allN default (k) rfl hp ?_ ?_ hb2 rfl (mem_at 1 rfl) fun l3 hl3 => ?_
  ·omega
  ·omega
  obtain ⟨rfl, w0x3, w1x3, w2x3⟩ := gAtom_rd.1 hl3
  refine call_new (toAtom_ct _ (xs[k]?.getD default) ?_) (Rp.mono _ (mem_at 1 rfl) hl3) ?_
  ·omega
  rintro v4 A4 o4
  obtain ⟨l4, rfl, o4⟩ := o4
  have r4 := Gt.owrd _ o4
  obtain ⟨rfl, w0x4, w1x4, w2x4⟩ := gAtom_rd.1 r4
  refine idx_rd (Gt.owrd _ oA) ?_ ?_ fun b5 o5 hb5 => ?_
  ·omega
  ·simp; omega
  refine gstore1N (k) (A) (A4) [H] rlA rfl oA ?_ ?_ hb5 rfl _ o4 fun A6 o6 => ?_
  ·omega
  ·simp; omega
  apply loop_stepA (k + 1, _)
  ·exact .refl _
  ·exact frI
  ·exact trivial
  ·try dsimp only
   exact ⟨by omega, by rw [← take_stepz xs k default zAtom (by omega)] ; assumption⟩
  try dsimp only
  omega
 ·simp at q1
  obtain rfl : k = xs.length := by omega
  rw [List.take_length, Nat.sub_self, List.replicate_zero, List.append_nil] at oA
  exact ⟨_, ⟨_, _, rfl, oA⟩, rlA⟩
theorem eqAtomS_ct (b1 : Option Addr) (m1 c1 : Nat) (b2 : Option Addr) (m2 c2 : Nat) (xs ys : List Atom) :
  Ct prog 83 [.slice b1 m1 c1, .slice b2 m2 c2] [] (fun H => (gSl 118 gAtom).rd H [.slice b1 m1 c1] xs ∧ (gSl 118 gAtom).rd H [.slice b2 m2 c2] ys) (fun v A => v = .bool (decide (xs = ys)) ∧ A = []) := by
 refine Ct.intro0 G_ok func83 rfl rfl rfl fun E H hp => ?_
 obtain ⟨hp1, hp2⟩ := hp
 obtain ⟨rfl, hc1, hl1⟩ := sl_len hp1
 obtain ⟨rfl, hc2, hl2⟩ := sl_len hp2
 refine ⟨fun q0 => ?_, fun q0 => ?_⟩
 ·simp at q0
  exact ⟨[], ⟨by rw [decide_eq_false (fun e => by subst e; omega)], rfl⟩, .mem (by simp)⟩
 ·simp at q0
  apply loop_mod (α := (Nat)) G_ok [11, 12, 13, 14, 17, 18, 19, 20, 21, 22, 23, 24, 25, 26, 4, 15, 16, 5] (fun z => [(5, .v (.int .i64 z))]) (fun z => []) (fun z => [H]) (fun z => xs.length - z) (fun z => z ≤ xs.length ∧ xs.take z = ys.take z) (0)
  ·exact frI
  ·exact trivial
  ·exact ⟨by omega, by simp⟩
  ·exact .refl _
  rintro k hI
  obtain ⟨hk, he⟩ : k ≤ xs.length ∧ xs.take k = ys.take k := hI
  try dsimp only
  refine ⟨fun q1 => ?_, fun q1 => ?_⟩
  ·simp at q1
   refine draw G_ok mixed none (.q 0 (.q 1 (.q 2 (.q 3 (.q 4 (.q 5 (.q 6 (.q 7 (.f 8 (.q 9 (.nil))))))))))) (by decide +kernel) ?_
   refine idx_rd hp1 ?_ ?_ fun b2 o2 hb2 => ?_
   ·omega
   ·omega
   refine load_allN default (k) rfl hp1 ?_ ?_ hb2 rfl (mem_at 0 rfl) fun l3 hl3 => ?_
   ·omega
   ·omega
   obtain ⟨rfl, w0x3, w1x3, w2x3⟩ := gAtom_rd.1 hl3
   refine idx_rd hp2 ?_ ?_ fun b4 o4 hb4 => ?_
   ·omega
   ·omega
   refine load_allN default (k) rfl hp2 ?_ ?_ hb4 rfl (mem_at 0 rfl) fun l5 hl5 => ?_
   ·omega
   ·omega
   obtain ⟨rfl, w0x5, w1x5, w2x5⟩ := gAtom_rd.1 hl5
   refine call_val (eqAtom_ct _ _ (xs[k]?.getD default) (ys[k]?.getD default)) ⟨(Rp.mono _ (mem_at 0 rfl) hl3), (Rp.mono _ (mem_at 0 rfl) hl5)⟩ ?_
   rintro _ rfl
   refine VC.intro ?_ ?_
   ·exact fun _ h => h
   refine ⟨fun q7 => ?_, fun q7 => ?_⟩
   ·simp at q7
    exact ⟨[], ⟨by rw [decide_eq_false (fun e => by subst e; simp at *)], rfl⟩, .mem (by simp)⟩
   ·simp at q7
    apply loop_stepA (k + 1)
    ·exact .refl _
    ·exact frI
    ·exact trivial
    ·exact ⟨by omega, eq_step default (by omega) he (by omega) (by simpa using ‹_›)⟩
    omega
  ·simp at q1
   exact ⟨[], ⟨by rw [decide_eq_true]; rw [← List.take_length (l := xs), ← List.take_length (l := ys), ← (by omega : xs.length = ys.length), show xs.length = k by omega]; exact he, rfl⟩, .mem (by simp)⟩
theorem szFilterS_ct (b : Option Addr) (m c : Nat) (xs : List Filter) (left : Int) (h0 : 0 ≤ left) (h1 : left ≤ 1048576) :
  Ct prog 58 [.slice b m c, .int .i64 left] [] (fun H => (gSl 220 gFilter).rd H [.slice b m c] xs) (fun v A => (∃ r : Int, v = .int .i64 r ∧ ((r = -1 ∧ left < (szL gFilter xs : Int)) ∨ (r = left - (szL gFilter xs : Int) ∧ (szL gFilter xs : Int) ≤ left))) ∧ A = []) := by
 refine Ct.intro0 G_ok func58 rfl rfl rfl fun E H hp => ?_
 obtain ⟨rfl, hcl, hl⟩ := sl_len hp
 have hq := szL_eq gFilter xs
 have ht := List.take_length (l := xs)
 refine ⟨fun q0 => ?_, fun q0 => ?_⟩
 ·simp at q0
  simp (disch := omega) only [wrap_of] at q0
  exact ⟨[], ⟨⟨-1, rfl, .inl ⟨rfl, woI⟩⟩, rfl⟩, .mem (by simp)⟩
 ·simp at q0
  simp (disch := omega) only [wrap_of] at q0
  apply loop_mod (α := (Nat) × (Int)) G_ok [12, 13, 14, 15, 18, 19, 20, 21, 22, 23, 1, 24, 25, 4, 16, 17, 5] (fun z => [(5, .v (.int .i64 z.1)), (1, .v (.int .i64 z.2))]) (fun z => []) (fun z => [H]) (fun z => xs.length - z.1) (fun z => z.1 ≤ xs.length ∧ z.2 = left - xs.length - szE gFilter (xs.take z.1) ∧ 0 ≤ z.2) ((0, left - xs.length))
  ·repeat' (first | exact trivial | refine ⟨⟨_, rfl, by first | rfl | exact inc_eq _ (by omega) | (refine sl_eq ?_; simp; done) | (simp (disch := omega) only [wrap_of]), by first | exact trivial | simp [SV.ok]⟩, ?_⟩)
  ·exact trivial
  ·try dsimp only
   exact ⟨by omega, by simp [szE], by omega⟩
  ·exact .refl _
  rintro ⟨k, lf⟩ hI
  try dsimp only at hI
  obtain ⟨hk, hlf, hnn⟩ := hI
  try dsimp only
  refine ⟨fun q1 => ?_, fun q1 => ?_⟩
  ·simp at q1
   have hs := szE_step gFilter xs k default (by omega)
   have hs2 := szE_le gFilter xs (k + 1)
   refine idx_rd hp ?_ ?_ fun b2 o2 hb2 => ?_
   ·omega
   ·omega
   refine load_allN default (k) rfl hp ?_ ?_ hb2 rfl (mem_at 0 rfl) fun l3 hl3 => ?_
   ·omega
   ·omega
   obtain ⟨rfl, w0x3, w1x3, w2x3, w3x3⟩ := gFilter_rd.1 hl3
   refine call_q (szFilter_ct _ (xs[k]?.getD default) _ ?_ ?_) (Rp.mono _ (mem_at 0 rfl) hl3) ?_
   ·trivial
   ·omega
   rintro _ ⟨r4, rfl, hr4⟩
   refine ⟨fun q5 => ?_, fun q5 => ?_⟩
   ·simp at q5
    exact ⟨[], ⟨⟨-1, rfl, .inl ⟨rfl, woI⟩⟩, rfl⟩, .mem (by simp)⟩
   ·simp at q5
    apply loop_stepA (k + 1, _)
    ·exact .refl _
    ·repeat' (first | exact trivial | refine ⟨⟨_, rfl, by first | rfl | exact inc_eq _ (by omega) | (refine sl_eq ?_; simp; done) | (simp (disch := omega) only [wrap_of]), by first | exact trivial | simp [SV.ok]⟩, ?_⟩)
    ·exact trivial
    ·try dsimp only
     ((try simp (disch := omega) only [wrap_of] at *); refine ⟨by omega, by omega, by omega⟩)
    try dsimp only
    omega
  ·simp at q1
   obtain rfl : k = xs.length := by omega
   rw [List.take_length] at hlf
   exact ⟨[], ⟨⟨_, rfl, .inr ⟨woI, by omega⟩⟩, rfl⟩, .mem (by simp)⟩
theorem toFilterS_ct (b : Option Addr) (m c : Nat) (xs : List Filter) (hx : szL gFilter xs ≤ 1048576) :
  Ct prog 71 [.slice b m c] [] (fun H => (gSl 220 gFilter).rd H [.slice b m c] xs) (fun v A => ∃ b c, v = .slice b xs.length c ∧ (gSl 220 gFilter).ow [.slice b xs.length c] xs A) := by
 refine Ct.intro0 G_ok func71 rfl rfl rfl fun E H hp => ?_
 obtain ⟨rfl, hcl, hl⟩ := sl_len hp
 have hls := len_szL gFilter xs
 have hq := szL_eq gFilter xs
 refine VCmake.intro ?_ ?_ ?_ ?_ fun x0 => ?_
 ·omega
 ·omega
 ·omega
 ·omega
 apply loop_mod (α := (Nat) × (Hp)) G_ok [8, 9, 10, 11, 14, 15, 16, 17, 18, 19, 20, 21, 12, 13, 4] (fun z => [(4, .v (.int .i64 z.1))]) (fun z => []) (fun z => [z.2, H]) (fun z => xs.length - z.1) (fun z => z.1 ≤ xs.length ∧ (gSl 220 gFilter).ow [.slice (some ⟨x0, 0, none⟩) xs.length xs.length] (xs.take z.1 ++ List.replicate (xs.length - z.1) zFilter) z.2) ((0, _))
 ·exact frI
 ·exact trivial
 ·try dsimp only
  exact ⟨by omega, by simpa using gmake (g := gFilter) (T := 220) (b := x0) (zFilter_ow) (Nat.le_refl xs.length) (by omega)⟩
 ·exact .refl _
 rintro ⟨k, A⟩ hI
 try dsimp only at hI
 obtain ⟨hk, oA⟩ := hI
 try dsimp only
 refine ⟨fun q1 => ?_, fun q1 => ?_⟩
 ·simp at q1
  have hs := szE_step gFilter xs k default (by omega)
  have hs2 := szE_le gFilter xs (k + 1)
  refine idx_rd hp ?_ ?_ fun b2 o2 hb2 => ?_
  ·omega
  ·omega
  refine load_allN default (k) rfl hp ?_ ?_ hb2 rfl (mem_at 1 rfl) fun l3 hl3 => ?_
  ·omega
  ·omega
  obtain ⟨rfl, w0x3, w1x3, w2x3, w3x3⟩ := gFilter_rd.1 hl3
  refine call_new (toFilter_ct _ (xs[k]?.getD default) ?_) (Rp.mono _ (mem_at 1 rfl) hl3) ?_
  ·omega
  rintro v4 A4 o4
  obtain ⟨l4, rfl, o4⟩ := o4
  have r4 := Gt.owrd _ o4
  obtain ⟨rfl, w0x4, w1x4, w2x4, w3x4⟩ := gFilter_rd.1 r4
  refine idx_rd (Gt.owrd _ oA) ?_ ?_ fun b5 o5 hb5 => ?_
  ·omega
  ·simp; omega
  refine gstore1N (k) (A) (A4) [H] rlA rfl oA ?_ ?_ hb5 rfl _ o4 fun A6 o6 => ?_
  ·omega
  ·simp; omega
  apply loop_stepA (k + 1, _)
  ·exact .refl _
  ·exact frI
  ·exact trivial
  ·try dsimp only
   exact ⟨by omega, by rw [← take_stepz xs k default zFilter (by omega)] ; assumption⟩
  try dsimp only
  omega
 ·simp at q1
  obtain rfl : k = xs.length := by omega
  rw [List.take_length, Nat.sub_self, List.replicate_zero, List.append_nil] at oA
  exact ⟨_, ⟨_, _, rfl, oA⟩, rlA⟩
theorem eqFilterS_ct (b1 : Option Addr) (m1 c1 : Nat) (b2 : Option Addr) (m2 c2 : Nat) (xs ys : List Filter) :
  Ct prog 84 [.slice b1 m1 c1, .slice b2 m2 c2] [] (fun H => (gSl 220 gFilter).rd H [.slice b1 m1 c1] xs ∧ (gSl 220 gFilter).rd H [.slice b2 m2 c2] ys) (fun v A => v = .bool (decide (xs = ys)) ∧ A = []) := by
 refine Ct.intro0 G_ok func84 rfl rfl rfl fun E H hp => ?_
 obtain ⟨hp1, hp2⟩ := hp
 obtain ⟨rfl, hc1, hl1⟩ := sl_len hp1
 obtain ⟨rfl, hc2, hl2⟩ := sl_len hp2
 refine ⟨fun q0 => ?_, fun q0 => ?_⟩
 ·simp at q0
  exact ⟨[], ⟨by rw [decide_eq_false (fun e => by subst e; omega)], rfl⟩, .mem (by simp)⟩
 ·simp at q0
  apply loop_mod (α := (Nat)) G_ok [11, 12, 13, 14, 17, 18, 19, 20, 21, 22, 23, 24, 25, 26, 4, 15, 16, 5] (fun z => [(5, .v (.int .i64 z))]) (fun z => []) (fun z => [H]) (fun z => xs.length - z) (fun z => z ≤ xs.length ∧ xs.take z = ys.take z) (0)
  ·exact frI
  ·exact trivial
  ·exact ⟨by omega, by simp⟩
  ·exact .refl _
  rintro k hI
  obtain ⟨hk, he⟩ : k ≤ xs.length ∧ xs.take k = ys.take k := hI
  try dsimp only
  refine ⟨fun q1 => ?_, fun q1 => ?_⟩
  ·simp at q1
   refine draw G_ok mixed none (.q 0 (.q 1 (.q 2 (.q 3 (.q 4 (.q 5 (.q 6 (.q 7 (.f 8 (.q 9 (.nil))))))))))) (by decide +kernel) ?_
   refine idx_rd hp1 ?_ ?_ fun b2 o2 hb2 => ?_
   ·omega
   ·omega
   refine load_allN default (k) rfl hp1 ?_ ?_ hb2 rfl (mem_at 0 rfl) fun l3 hl3 => ?_
   ·omega
   ·omega
   obtain ⟨rfl, w0x3, w1x3, w2x3, w3x3⟩ := gFilter_rd.1 hl3
   refine idx_rd hp2 ?_ ?_ fun b4 o4 hb4 => ?_
   ·omega
   ·omega
   refine load_allN default (k) rfl hp2 ?_ ?_ hb4 rfl (mem_at 0 rfl) fun l5 hl5 => ?_
   ·omega
   ·omega
   obtain ⟨rfl, w0x5, w1x5, w2x5, w3x5⟩ := gFilter_rd.1 hl5
   refine call_val (eqFilter_ct _ _ (xs[k]?.getD default) (ys[k]?.getD default)) ⟨(Rp.mono _ (mem_at 0 rfl) hl3), (Rp.mono _ (mem_at 0 rfl) hl5)⟩ ?_
   rintro _ rfl
   refine VC.intro ?_ ?_
   ·exact fun _ h => h
   refine ⟨fun q7 => ?_, fun q7 => ?_⟩
   ·simp at q7
    exact ⟨[], ⟨by rw [decide_eq_false (fun e => by subst e; simp at *)], rfl⟩, .mem (by simp)⟩
   ·simp at q7
    apply loop_stepA (k + 1)
    ·exact .refl _
    ·exact frI
    ·exact trivial
    ·exact ⟨by omega, eq_step default (by omega) he (by omega) (by simpa using ‹_›)⟩
    omega
  ·simp at q1
   exact ⟨[], ⟨by rw [decide_eq_true]; rw [← List.take_length (l := xs), ← List.take_length (l := ys), ← (by omega : xs.length = ys.length), show xs.length = k by omega]; exact he, rfl⟩, .mem (by simp)⟩
theorem szQuery_ct (l : List Value) (x : Query) (left : Int) (h0 : 0 ≤ left) (h1 : left ≤ 1048576) :
  Ct prog 9 [.agg ⟨l⟩, .int .i64 left] [] (fun H => gQuery.rd H l x) (fun v A => (∃ r : Int, v = .int .i64 r ∧ ((r = -1 ∧ left < (gQuery.sz x : Int)) ∨ (r = left - (gQuery.sz x : Int) ∧ (gQuery.sz x : Int) ≤ left))) ∧ A = []) := by
 refine Ct.intro0 G_ok func9 rfl rfl rfl fun E H hp => ?_
 obtain ⟨b1, c1, b2, c2, b3, c3, rfl, h1, h2, h3⟩ := gQuery_rd.1 hp
 have hz := gQuery_sz x
 refine ⟨fun x0 => ?_⟩
 refine call_q (szStringS_ct _ _ _ (x.out) _ ?_ ?_) (Rp.mono _ (mem_at 0 rfl) h1) ?_
 ·trivial
 ·trivial
 rintro _ ⟨r1, rfl, hr1⟩
 refine ⟨fun q2 => ?_, fun q2 => ?_⟩
 ·simp at q2
  exact ⟨[], ⟨⟨-1, rfl, .inl ⟨rfl, woI⟩⟩, rfl⟩, .mem (by simp)⟩
 ·simp at q2
  refine call_q (szAtomS_ct _ _ _ (x.atoms) _ ?_ ?_) (Rp.mono _ (mem_at 0 rfl) h2) ?_
  ·trivial
  ·omega
  rintro _ ⟨r3, rfl, hr3⟩
  refine ⟨fun q4 => ?_, fun q4 => ?_⟩
  ·simp at q4
   exact ⟨[], ⟨⟨-1, rfl, .inl ⟨rfl, woI⟩⟩, rfl⟩, .mem (by simp)⟩
  ·simp at q4
   refine call_q (szFilterS_ct _ _ _ (x.filters) _ ?_ ?_) (Rp.mono _ (mem_at 0 rfl) h3) ?_
   ·trivial
   ·omega
   rintro _ ⟨r5, rfl, hr5⟩
   refine ⟨fun q6 => ?_, fun q6 => ?_⟩
   ·simp at q6
    exact ⟨[], ⟨⟨-1, rfl, .inl ⟨rfl, woI⟩⟩, rfl⟩, .mem (by simp)⟩
   ·simp at q6
    exact ⟨[], ⟨⟨_, rfl, .inr ⟨woI, by omega⟩⟩, rfl⟩, .mem (by simp)⟩
theorem toQuery_ct (l : List Value) (x : Query) (hx : gQuery.sz x ≤ 1048576) :
  Ct prog 12 [.agg ⟨l⟩] [] (fun H => gQuery.rd H l x) (fun v A => ∃ l, v = .agg ⟨l⟩ ∧ gQuery.ow l x A) := by
 refine Ct.intro0 G_ok func12 rfl rfl rfl fun E H hp => ?_
 obtain ⟨b1, c1, b2, c2, b3, c3, rfl, h1, h2, h3⟩ := gQuery_rd.1 hp
 have hz := gQuery_sz x
 refine ⟨fun x0 => ?_⟩
 refine ⟨fun x1 => ?_⟩
 refine ⟨fun x2 => ?_⟩
 refine call_new (toStringS_ct _ _ _ (x.out) ?_) (Rp.mono _ (mem_at 0 rfl) h1) ?_
 ·omega
 rintro v3 A3 o3
 obtain ⟨b3, c3, rfl, o3⟩ := o3
 refine call_new (toAtomS_ct _ _ _ (x.atoms) ?_) (Rp.mono _ (mem_at 1 rfl) h2) ?_
 ·omega
 rintro v4 A4 o4
 obtain ⟨b4, c4, rfl, o4⟩ := o4
 refine call_new (toFilterS_ct _ _ _ (x.filters) ?_) (Rp.mono _ (mem_at 2 rfl) h3) ?_
 ·omega
 rintro v5 A5 o5
 obtain ⟨b5, c5, rfl, o5⟩ := o5
 exact ⟨_, ⟨_, rfl, gQuery_ow.2 ⟨_, _, _, _, _, _, _, _, _, rfl, .refl _, by assumption, by assumption, by assumption⟩⟩, rlA⟩
theorem eqQuery_ct (l1 l2 : List Value) (x y : Query) :
  Ct prog 17 [.agg ⟨l1⟩, .agg ⟨l2⟩] [] (fun H => gQuery.rd H l1 x ∧ gQuery.rd H l2 y) (fun v A => v = .bool (decide (x = y)) ∧ A = []) := by
 refine Ct.intro0 G_ok func17 rfl rfl rfl fun E H hp => ?_
 obtain ⟨hp1, hp2⟩ := hp
 obtain ⟨b1p, c1p, b2p, c2p, b3p, c3p, rfl, h1p, h2p, h3p⟩ := gQuery_rd.1 hp1
 obtain ⟨b1q, c1q, b2q, c2q, b3q, c3q, rfl, h1q, h2q, h3q⟩ := gQuery_rd.1 hp2
 refine ⟨fun x0 => ?_⟩
 refine ⟨fun x1 => ?_⟩
 refine ⟨fun q2 => ?_, fun q2 => ?_⟩
 ·simp at q2
  exact ⟨[], ⟨by rw [decide_eq_false (fun e => by subst e; simp at *)], rfl⟩, .mem (by simp)⟩
 ·simp at q2
  refine call_val (eqStringS_ct _ _ _ _ _ _ (x.out) (y.out)) ⟨(Rp.mono _ (mem_at 0 rfl) h1p), (Rp.mono _ (mem_at 0 rfl) h1q)⟩ ?_
  rintro _ rfl
  refine ⟨fun q4 => ?_, fun q4 => ?_⟩
  ·simp at q4
   exact ⟨[], ⟨by rw [decide_eq_false (fun e => by subst e; simp at *)], rfl⟩, .mem (by simp)⟩
  ·simp at q4
   refine call_val (eqAtomS_ct _ _ _ _ _ _ (x.atoms) (y.atoms)) ⟨(Rp.mono _ (mem_at 0 rfl) h2p), (Rp.mono _ (mem_at 0 rfl) h2q)⟩ ?_
   rintro _ rfl
   refine ⟨fun q6 => ?_, fun q6 => ?_⟩
   ·simp at q6
    exact ⟨[], ⟨by rw [decide_eq_false (fun e => by subst e; simp at *)], rfl⟩, .mem (by simp)⟩
   ·simp at q6
    refine call_val (eqFilterS_ct _ _ _ _ _ _ (x.filters) (y.filters)) ⟨(Rp.mono _ (mem_at 0 rfl) h3p), (Rp.mono _ (mem_at 0 rfl) h3q)⟩ ?_
    rintro _ rfl
    refine ⟨fun q8 => ?_, fun q8 => ?_⟩
    ·simp at q8
     exact ⟨[], ⟨by rw [decide_eq_false (fun e => by subst e; simp at *)], rfl⟩, .mem (by simp)⟩
    ·simp at q8
     exact ⟨[], ⟨by rw [decide_eq_true (Query.eq_iff.2 (by simp_all))], rfl⟩, .mem (by simp)⟩
theorem szFile_ct (l : List Value) (x : File) (left : Int) (h0 : 0 ≤ left) (h1 : left ≤ 1048576) :
  Ct prog 391 [.agg ⟨l⟩, .int .i64 left] [] (fun H => gFile.rd H l x) (fun v A => (∃ r : Int, v = .int .i64 r ∧ ((r = -1 ∧ left < (gFile.sz x : Int)) ∨ (r = left - (gFile.sz x : Int) ∧ (gFile.sz x : Int) ≤ left))) ∧ A = []) := by
 refine Ct.intro0 G_ok func391 rfl rfl rfl fun E H hp => ?_
 obtain ⟨rfl, w0, w1, w2⟩ := gFile_rd.1 hp
 have hz := gFile_sz x
 refine ⟨fun x0 => ?_⟩
 refine ⟨fun q1 => ?_, fun q1 => ?_⟩
 ·simp at q1
  simp (disch := omega) only [wrap_of] at q1
  exact ⟨[], ⟨⟨-1, rfl, .inl ⟨rfl, woI⟩⟩, rfl⟩, .mem (by simp)⟩
 ·simp at q1
  simp (disch := omega) only [wrap_of] at q1
  refine ⟨fun q2 => ?_, fun q2 => ?_⟩
  ·simp at q2
   simp (disch := omega) only [wrap_of] at q2
   exact ⟨[], ⟨⟨-1, rfl, .inl ⟨rfl, woI⟩⟩, rfl⟩, .mem (by simp)⟩
  ·simp at q2
   simp (disch := omega) only [wrap_of] at q2
   exact ⟨[], ⟨⟨_, rfl, .inr ⟨woI, by omega⟩⟩, rfl⟩, .mem (by simp)⟩
theorem toFile_ct (l : List Value) (x : File) (hx : gFile.sz x ≤ 1048576) :
  Ct prog 393 [.agg ⟨l⟩] [] (fun H => gFile.rd H l x) (fun v A => ∃ l, v = .agg ⟨l⟩ ∧ gFile.ow l x A) := by
 refine Ct.intro0 G_ok func393 rfl rfl rfl fun E H hp => ?_
 obtain ⟨rfl, w0, w1, w2⟩ := gFile_rd.1 hp
 have hz := gFile_sz x
 refine ⟨fun x0 => ?_⟩
 refine ⟨fun x1 => ?_⟩
 refine ⟨fun x2 => ?_⟩
 exact ⟨_, ⟨_, rfl, gFile_ow.2 ⟨rfl, .refl _, by assumption, by assumption, by assumption⟩⟩, rlA⟩
theorem eqFile_ct (l1 l2 : List Value) (x y : File) :
  Ct prog 396 [.agg ⟨l1⟩, .agg ⟨l2⟩] [] (fun H => gFile.rd H l1 x ∧ gFile.rd H l2 y) (fun v A => v = .bool (decide (x = y)) ∧ A = []) := by
 refine Ct.intro0 G_ok func396 rfl rfl rfl fun E H hp => ?_
 obtain ⟨hp1, hp2⟩ := hp
 obtain ⟨rfl, w0p, w1p, w2p⟩ := gFile_rd.1 hp1
 obtain ⟨rfl, w0q, w1q, w2q⟩ := gFile_rd.1 hp2
 refine ⟨fun x0 => ?_⟩
 refine ⟨fun x1 => ?_⟩
 refine ⟨fun q2 => ?_, fun q2 => ?_⟩
 ·simp at q2
  simp only [str_inj, u8_inj, u8_wrap] at q2
  exact ⟨[], ⟨by rw [decide_eq_false (fun e => by subst e; simp at *)], rfl⟩, .mem (by simp)⟩
 ·simp at q2
  simp only [str_inj, u8_inj, u8_wrap] at q2
  refine ⟨fun q3 => ?_, fun q3 => ?_⟩
  ·simp at q3
   simp only [str_inj, u8_inj, u8_wrap] at q3
   exact ⟨[], ⟨by rw [decide_eq_false (fun e => by subst e; simp at *)], rfl⟩, .mem (by simp)⟩
  ·simp at q3
   simp only [str_inj, u8_inj, u8_wrap] at q3
   refine ⟨fun q4 => ?_, fun q4 => ?_⟩
   ·simp at q4
    exact ⟨[], ⟨by rw [decide_eq_false (fun e => by subst e; simp at *)], rfl⟩, .mem (by simp)⟩
   ·simp at q4
    exact ⟨[], ⟨by rw [decide_eq_true (File.eq_iff.2 (by simp_all))], rfl⟩, .mem (by simp)⟩
theorem szFileS_ct (b : Option Addr) (m c : Nat) (xs : List File) (left : Int) (h0 : 0 ≤ left) (h1 : left ≤ 1048576) :
  Ct prog 343 [.slice b m c, .int .i64 left] [] (fun H => (gSl 323 gFile).rd H [.slice b m c] xs) (fun v A => (∃ r : Int, v = .int .i64 r ∧ ((r = -1 ∧ left < (szL gFile xs : Int)) ∨ (r = left - (szL gFile xs : Int) ∧ (szL gFile xs : Int) ≤ left))) ∧ A = []) := by
 refine Ct.intro0 G_ok func343 rfl rfl rfl fun E H hp => ?_
 obtain ⟨rfl, hcl, hl⟩ := sl_len hp
 have hq := szL_eq gFile xs
 have ht := List.take_length (l := xs)
 refine ⟨fun q0 => ?_, fun q0 => ?_⟩
 ·simp at q0
  simp (disch := omega) only [wrap_of] at q0
  exact ⟨[], ⟨⟨-1, rfl, .inl ⟨rfl, woI⟩⟩, rfl⟩, .mem (by simp)⟩
 ·simp at q0
  simp (disch := omega) only [wrap_of] at q0
  apply loop_mod (α := (Nat) × (Int)) G_ok [12, 13, 14, 15, 18, 19, 20, 21, 22, 23, 1, 24, 25, 4, 16, 17, 5] (fun z => [(5, .v (.int .i64 z.1)), (1, .v (.int .i64 z.2))]) (fun z => []) (fun z => [H]) (fun z => xs.length - z.1) (fun z => z.1 ≤ xs.length ∧ z.2 = left - xs.length - szE gFile (xs.take z.1) ∧ 0 ≤ z.2) ((0, left - xs.length))
  ·repeat' (first | exact trivial | refine ⟨⟨_, rfl, by first | rfl | exact inc_eq _ (by omega) | (refine sl_eq ?_; simp; done) | (simp (disch := omega) only [wrap_of]), by first | exact trivial | simp [SV.ok]⟩, ?_⟩)
  ·exact trivial
  ·try dsimp only
   exact ⟨by omega, by simp [szE], by omega⟩
  ·exact .refl _
  rintro ⟨k, lf⟩ hI
  try dsimp only at hI
  obtain ⟨hk, hlf, hnn⟩ := hI
  try dsimp only
  refine ⟨fun q1 => ?_, fun q1 => ?_⟩
  ·simp at q1
   have hs := szE_step gFile xs k default (by omega)
   have hs2 := szE_le gFile xs (k + 1)
   refine idx_rd hp ?_ ?_ fun b2 o2 hb2 => ?_
   ·omega
   ·omega
   refine load_allN default (k) rfl hp ?_ ?_ hb2 rfl (mem_at 0 rfl) fun l3 hl3 => ?_
   ·omega
   ·omega
   obtain ⟨rfl, w0x3, w1x3, w2x3⟩ := gFile_rd.1 hl3
   refine call_q (szFile_ct _ (xs[k]?.getD default) _ ?_ ?_) (Rp.mono _ (mem_at 0 rfl) hl3) ?_
   ·trivial
   ·omega
   rintro _ ⟨r4, rfl, hr4⟩
   refine ⟨fun q5 => ?_, fun q5 => ?_⟩
   ·simp at q5
    exact ⟨[], ⟨⟨-1, rfl, .inl ⟨rfl, woI⟩⟩, rfl⟩, .mem (by simp)⟩
   ·simp at q5
    apply loop_stepA (k + 1, _)
    ·exact .refl _
    ·repeat' (first | exact trivial | refine ⟨⟨_, rfl, by first | rfl | exact inc_eq _ (by omega) | (refine sl_eq ?_; simp; done) | (simp (disch := omega) only [wrap_of]), by first | exact trivial | simp [SV.ok]⟩, ?_⟩)
    ·exact trivial
    ·try dsimp only
     ((try simp (disch := omega) only [wrap_of] at *); refine ⟨by omega, by omega, by omega⟩)
    try dsimp only
    omega
  ·simp at q1
   obtain rfl : k = xs.length := by omega
   rw [List.take_length] at hlf
   exact ⟨[], ⟨⟨_, rfl, .inr ⟨woI, by omega⟩⟩, rfl⟩, .mem (by simp)⟩
theorem toFileS_ct (b : Option Addr) (m c : Nat) (xs : List File) (hx : szL gFile xs ≤ 1048576) :
  Ct prog 350 [.slice b m c] [] (fun H => (gSl 323 gFile).rd H [.slice b m c] xs) (fun v A => ∃ b c, v = .slice b xs.length c ∧ (gSl 323 gFile).ow [.slice b xs.length c] xs A) := by
 refine Ct.intro0 G_ok func350 rfl rfl rfl fun E H hp => ?_
 obtain ⟨rfl, hcl, hl⟩ := sl_len hp
 have hls := len_szL gFile xs
 have hq := szL_eq gFile xs
 refine VCmake.intro ?_ ?_ ?_ ?_ fun x0 => ?_
 ·omega
 ·omega
 ·omega
 ·omega
 apply loop_mod (α := (Nat) × (Hp)) G_ok [8, 9, 10, 11, 14, 15, 16, 17, 18, 19, 20, 21, 12, 13, 4] (fun z => [(4, .v (.int .i64 z.1))]) (fun z => []) (fun z => [z.2, H]) (fun z => xs.length - z.1) (fun z => z.1 ≤ xs.length ∧ (gSl 323 gFile).ow [.slice (some ⟨x0, 0, none⟩) xs.length xs.length] (xs.take z.1 ++ List.replicate (xs.length - z.1) zFile) z.2) ((0, _))
 ·exact frI
 ·exact trivial
 ·try dsimp only
  exact ⟨by omega, by simpa using gmake (g := gFile) (T := 323) (b := x0) (zFile_ow) (Nat.le_refl xs.length) (by omega)⟩
 ·exact .refl _
 rintro ⟨k, A⟩ hI
 try dsimp only at hI
 obtain ⟨hk, oA⟩ := hI
 try dsimp only
 refine ⟨fun q1 => ?_, fun q1 => ?_⟩
 ·simp at q1
  have hs := szE_step gFile xs k default (by omega)
  have hs2 := szE_le gFile xs (k + 1)
  refine idx_rd hp ?_ ?_ fun b2 o2 hb2 => ?_
  ·omega
  ·omega
  refine load_allN default (k) rfl hp ?_ ?_ hb2 rfl (mem_at 1 rfl) fun l3 hl3 => ?_
  ·omega
  ·omega
  obtain ⟨rfl, w0x3, w1x3, w2x3⟩ := gFile_rd.1 hl3
  refine call_new (toFile_ct _ (xs[k]?.getD default) ?_) (Rp.mono _ (mem_at 1 rfl) hl3) ?_
  ·omega
  rintro v4 A4 o4
  obtain ⟨l4, rfl, o4⟩ := o4
  have r4 := Gt.owrd _ o4
  obtain ⟨rfl, w0x4, w1x4, w2x4⟩ := gFile_rd.1 r4
  refine idx_rd (Gt.owrd _ oA) ?_ ?_ fun b5 o5 hb5 => ?_
  ·omega
  ·simp; omega
  refine gstore1N (k) (A) (A4) [H] rlA rfl oA ?_ ?_ hb5 rfl _ o4 fun A6 o6 => ?_
  ·omega
  ·simp; omega
  apply loop_stepA (k + 1, _)
  ·exact .refl _
  ·exact frI
  ·exact trivial
  ·try dsimp only
   exact ⟨by omega, by rw [← take_stepz xs k default zFile (by omega)] ; assumption⟩
  try dsimp only
  omega
 ·simp at q1
  obtain rfl : k = xs.length := by omega
  rw [List.take_length, Nat.sub_self, List.replicate_zero, List.append_nil] at oA
  exact ⟨_, ⟨_, _, rfl, oA⟩, rlA⟩
theorem eqFileS_ct (b1 : Option Addr) (m1 c1 : Nat) (b2 : Option Addr) (m2 c2 : Nat) (xs ys : List File) :
  Ct prog 358 [.slice b1 m1 c1, .slice b2 m2 c2] [] (fun H => (gSl 323 gFile).rd H [.slice b1 m1 c1] xs ∧ (gSl 323 gFile).rd H [.slice b2 m2 c2] ys) (fun v A => v = .bool (decide (xs = ys)) ∧ A = []) := by
 refine Ct.intro0 G_ok func358 rfl rfl rfl fun E H hp => ?_
 obtain ⟨hp1, hp2⟩ := hp
 obtain ⟨rfl, hc1, hl1⟩ := sl_len hp1
 obtain ⟨rfl, hc2, hl2⟩ := sl_len hp2
 refine ⟨fun q0 => ?_, fun q0 => ?_⟩
 ·simp at q0
  exact ⟨[], ⟨by rw [decide_eq_false (fun e => by subst e; omega)], rfl⟩, .mem (by simp)⟩
 ·simp at q0
  apply loop_mod (α := (Nat)) G_ok [11, 12, 13, 14, 17, 18, 19, 20, 21, 22, 23, 24, 25, 26, 4, 15, 16, 5] (fun z => [(5, .v (.int .i64 z))]) (fun z => []) (fun z => [H]) (fun z => xs.length - z) (fun z => z ≤ xs.length ∧ xs.take z = ys.take z) (0)
  ·exact frI
  ·exact trivial
  ·exact ⟨by omega, by simp⟩
  ·exact .refl _
  rintro k hI
  obtain ⟨hk, he⟩ : k ≤ xs.length ∧ xs.take k = ys.take k := hI
  try dsimp only
  refine ⟨fun q1 => ?_, fun q1 => ?_⟩
  ·simp at q1
   refine draw G_ok mixed none (.q 0 (.q 1 (.q 2 (.q 3 (.q 4 (.q 5 (.q 6 (.q 7 (.f 8 (.q 9 (.nil))))))))))) (by decide +kernel) ?_
   refine idx_rd hp1 ?_ ?_ fun b2 o2 hb2 => ?_
   ·omega
   ·omega
   refine load_allN default (k) rfl hp1 ?_ ?_ hb2 rfl (mem_at 0 rfl) fun l3 hl3 => ?_
   ·omega
   ·omega
   obtain ⟨rfl, w0x3, w1x3, w2x3⟩ := gFile_rd.1 hl3
   refine idx_rd hp2 ?_ ?_ fun b4 o4 hb4 => ?_
   ·omega
   ·omega
   refine load_allN default (k) rfl hp2 ?_ ?_ hb4 rfl (mem_at 0 rfl) fun l5 hl5 => ?_
   ·omega
   ·omega
   obtain ⟨rfl, w0x5, w1x5, w2x5⟩ := gFile_rd.1 hl5
   refine call_val (eqFile_ct _ _ (xs[k]?.getD default) (ys[k]?.getD default)) ⟨(Rp.mono _ (mem_at 0 rfl) hl3), (Rp.mono _ (mem_at 0 rfl) hl5)⟩ ?_
   rintro _ rfl
   refine VC.intro ?_ ?_
   ·exact fun _ h => h
   refine ⟨fun q7 => ?_, fun q7 => ?_⟩
   ·simp at q7
    exact ⟨[], ⟨by rw [decide_eq_false (fun e => by subst e; simp at *)], rfl⟩, .mem (by simp)⟩
   ·simp at q7
    apply loop_stepA (k + 1)
    ·exact .refl _
    ·exact frI
    ·exact trivial
    ·exact ⟨by omega, eq_step default (by omega) he (by omega) (by simpa using ‹_›)⟩
    omega
  ·simp at q1
   exact ⟨[], ⟨by rw [decide_eq_true]; rw [← List.take_length (l := xs), ← List.take_length (l := ys), ← (by omega : xs.length = ys.length), show xs.length = k by omega]; exact he, rfl⟩, .mem (by simp)⟩
theorem szDisk_ct (l : List Value) (x : Disk) (left : Int) (h0 : 0 ≤ left) (h1 : left ≤ 1048576) :
  Ct prog 265 [.agg ⟨l⟩, .int .i64 left] [] (fun H => gDisk.rd H l x) (fun v A => (∃ r : Int, v = .int .i64 r ∧ ((r = -1 ∧ left < (gDisk.sz x : Int)) ∨ (r = left - (gDisk.sz x : Int) ∧ (gDisk.sz x : Int) ≤ left))) ∧ A = []) := by
 refine Ct.intro0 G_ok func265 rfl rfl rfl fun E H hp => ?_
 obtain ⟨b0, c0, rfl, h0⟩ := gDisk_rd.1 hp
 have hz := gDisk_sz x
 refine ⟨fun x0 => ?_⟩
 refine call_q (szFileS_ct _ _ _ (x.files) _ ?_ ?_) (Rp.mono _ (mem_at 0 rfl) h0) ?_
 ·trivial
 ·trivial
 rintro _ ⟨r1, rfl, hr1⟩
 refine ⟨fun q2 => ?_, fun q2 => ?_⟩
 ·simp at q2
  exact ⟨[], ⟨⟨-1, rfl, .inl ⟨rfl, woI⟩⟩, rfl⟩, .mem (by simp)⟩
 ·simp at q2
  exact ⟨[], ⟨⟨_, rfl, .inr ⟨woI, by omega⟩⟩, rfl⟩, .mem (by simp)⟩
theorem toDisk_ct (l : List Value) (x : Disk) (hx : gDisk.sz x ≤ 1048576) :
  Ct prog 276 [.agg ⟨l⟩] [] (fun H => gDisk.rd H l x) (fun v A => ∃ l, v = .agg ⟨l⟩ ∧ gDisk.ow l x A) := by
 refine Ct.intro0 G_ok func276 rfl rfl rfl fun E H hp => ?_
 obtain ⟨b0, c0, rfl, h0⟩ := gDisk_rd.1 hp
 have hz := gDisk_sz x
 refine ⟨fun x0 => ?_⟩
 refine ⟨fun x1 => ?_⟩
 refine ⟨fun x2 => ?_⟩
 refine call_new (toFileS_ct _ _ _ (x.files) ?_) (Rp.mono _ (mem_at 0 rfl) h0) ?_
 ·trivial
 rintro v3 A3 o3
 obtain ⟨b3, c3, rfl, o3⟩ := o3
 exact ⟨_, ⟨_, rfl, gDisk_ow.2 ⟨_, _, _, rfl, .refl _, by assumption⟩⟩, rlA⟩
theorem eqDisk_ct (l1 l2 : List Value) (x y : Disk) :
  Ct prog 285 [.agg ⟨l1⟩, .agg ⟨l2⟩] [] (fun H => gDisk.rd H l1 x ∧ gDisk.rd H l2 y) (fun v A => v = .bool (decide (x = y)) ∧ A = []) := by
 refine Ct.intro0 G_ok func285 rfl rfl rfl fun E H hp => ?_
 obtain ⟨hp1, hp2⟩ := hp
 obtain ⟨b0p, c0p, rfl, h0p⟩ := gDisk_rd.1 hp1
 obtain ⟨b0q, c0q, rfl, h0q⟩ := gDisk_rd.1 hp2
 refine ⟨fun x0 => ?_⟩
 refine ⟨fun x1 => ?_⟩
 refine call_val (eqFileS_ct _ _ _ _ _ _ (x.files) (y.files)) ⟨(Rp.mono _ (mem_at 0 rfl) h0p), (Rp.mono _ (mem_at 0 rfl) h0q)⟩ ?_
 rintro _ rfl
 refine ⟨fun q3 => ?_, fun q3 => ?_⟩
 ·simp at q3
  exact ⟨[], ⟨by rw [decide_eq_false (fun e => by subst e; simp at *)], rfl⟩, .mem (by simp)⟩
 ·simp at q3
  exact ⟨[], ⟨by rw [decide_eq_true (Disk.eq_iff.2 (by simp_all))], rfl⟩, .mem (by simp)⟩
theorem toWalk_ct (l : List Value) (x : Walk) (hx : gWalk.sz x ≤ 1048576) :
  Ct prog 175 [.agg ⟨l⟩] [] (fun H => gWalk.rd H l x) (fun v A => ∃ l, v = .agg ⟨l⟩ ∧ gWalk.ow l x A) := by
 refine Ct.intro0 G_ok func175 rfl rfl rfl fun E H hp => ?_
 obtain ⟨rfl, w0, w1, w2, w3⟩ := gWalk_rd.1 hp
 have hz := gWalk_sz x
 refine ⟨fun x0 => ?_⟩
 refine ⟨fun x1 => ?_⟩
 refine ⟨fun x2 => ?_⟩
 exact ⟨_, ⟨_, rfl, gWalk_ow.2 ⟨rfl, .refl _, by assumption, by assumption, by assumption, by assumption⟩⟩, rlA⟩
theorem eqWalk_ct (l1 l2 : List Value) (x y : Walk) :
  Ct prog 184 [.agg ⟨l1⟩, .agg ⟨l2⟩] [] (fun H => gWalk.rd H l1 x ∧ gWalk.rd H l2 y) (fun v A => v = .bool (decide (x = y)) ∧ A = []) := by
 refine Ct.intro0 G_ok func184 rfl rfl rfl fun E H hp => ?_
 obtain ⟨hp1, hp2⟩ := hp
 obtain ⟨rfl, w0p, w1p, w2p, w3p⟩ := gWalk_rd.1 hp1
 obtain ⟨rfl, w0q, w1q, w2q, w3q⟩ := gWalk_rd.1 hp2
 refine ⟨fun x0 => ?_⟩
 refine ⟨fun x1 => ?_⟩
 refine ⟨fun q2 => ?_, fun q2 => ?_⟩
 ·simp at q2
  exact ⟨[], ⟨by rw [decide_eq_false (fun e => by subst e; simp at *)], rfl⟩, .mem (by simp)⟩
 ·simp at q2
  refine ⟨fun q3 => ?_, fun q3 => ?_⟩
  ·simp at q3
   exact ⟨[], ⟨by rw [decide_eq_false (fun e => by subst e; simp at *)], rfl⟩, .mem (by simp)⟩
  ·simp at q3
   refine ⟨fun q4 => ?_, fun q4 => ?_⟩
   ·simp at q4
    exact ⟨[], ⟨by rw [decide_eq_false (fun e => by subst e; simp at *)], rfl⟩, .mem (by simp)⟩
   ·simp at q4
    refine ⟨fun q5 => ?_, fun q5 => ?_⟩
    ·simp at q5
     exact ⟨[], ⟨by rw [decide_eq_false (fun e => by subst e; simp at *)], rfl⟩, .mem (by simp)⟩
    ·simp at q5
     exact ⟨[], ⟨by rw [decide_eq_true (Walk.eq_iff.2 (by simp_all))], rfl⟩, .mem (by simp)⟩
theorem szWalkS_ct (b : Option Addr) (m c : Nat) (xs : List Walk) (left : Int) (h0 : 0 ≤ left) (h1 : left ≤ 1048576) :
  Ct prog 90 [.slice b m c, .int .i64 left] [] (fun H => (gSl 164 gWalk).rd H [.slice b m c] xs) (fun v A => (∃ r : Int, v = .int .i64 r ∧ ((r = -1 ∧ left < (szL gWalk xs : Int)) ∨ (r = left - (szL gWalk xs : Int) ∧ (szL gWalk xs : Int) ≤ left))) ∧ A = []) := by
 refine Ct.intro0 G_ok func90 rfl rfl rfl fun E H hp => ?_
 obtain ⟨rfl, hcl, hl⟩ := sl_len hp
 have hq := szL_eq gWalk xs
 have hz := szE_zero gWalk (fun _ => rfl) xs
 refine ⟨fun q0 => ?_, fun q0 => ?_⟩
 ·simp at q0
  simp (disch := omega) only [wrap_of] at q0
  exact ⟨[], ⟨⟨-1, rfl, .inl ⟨rfl, woI⟩⟩, rfl⟩, .mem (by simp)⟩
 ·simp at q0
  simp (disch := omega) only [wrap_of] at q0
  exact ⟨[], ⟨⟨_, rfl, .inr ⟨woI, by omega⟩⟩, rfl⟩, .mem (by simp)⟩
theorem toWalkS_ct (b : Option Addr) (m c : Nat) (xs : List Walk) (hx : szL gWalk xs ≤ 1048576) :
  Ct prog 93 [.slice b m c] [] (fun H => (gSl 164 gWalk).rd H [.slice b m c] xs) (fun v A => ∃ b c, v = .slice b xs.length c ∧ (gSl 164 gWalk).ow [.slice b xs.length c] xs A) := by
 refine Ct.intro0 G_ok func93 rfl rfl rfl fun E H hp => ?_
 obtain ⟨rfl, hcl, hl⟩ := sl_len hp
 have hls := len_szL gWalk xs
 refine VCmake.intro ?_ ?_ ?_ ?_ fun x0 => ?_
 ·omega
 ·omega
 ·omega
 ·omega
 apply loop_mod (α := (Nat) × (Hp)) G_ok [8, 9, 10, 11, 14, 15, 16, 17, 18, 19, 20, 21, 12, 13, 4] (fun z => [(4, .v (.int .i64 z.1))]) (fun z => []) (fun z => [z.2, H]) (fun z => xs.length - z.1) (fun z => z.1 ≤ xs.length ∧ (gSl 164 gWalk).ow [.slice (some ⟨x0, 0, none⟩) xs.length xs.length] (xs.take z.1 ++ List.replicate (xs.length - z.1) zWalk) z.2) ((0, _))
 ·exact frI
 ·exact trivial
 ·try dsimp only
  exact ⟨by omega, by simpa using gmake (g := gWalk) (T := 164) (b := x0) (zWalk_ow) (Nat.le_refl xs.length) (by omega)⟩
 ·exact .refl _
 rintro ⟨k, A⟩ hI
 try dsimp only at hI
 obtain ⟨hk, oA⟩ := hI
 try dsimp only
 refine ⟨fun q1 => ?_, fun q1 => ?_⟩
 ·simp at q1
  refine idx_rd hp ?_ ?_ fun b2 o2 hb2 => ?_
  ·omega
  ·omega
  refine load_allN default (k) rfl hp ?_ ?_ hb2 rfl (mem_at 1 rfl) fun l3 hl3 => ?_
  ·omega
  ·omega
  obtain ⟨rfl, w0x3, w1x3, w2x3, w3x3⟩ := gWalk_rd.1 hl3
  refine call_new (toWalk_ct _ (xs[k]?.getD default) ?_) (Rp.mono _ (mem_at 1 rfl) hl3) ?_
  ·exact Nat.zero_le 1048576
  rintro v4 A4 o4
  obtain ⟨l4, rfl, o4⟩ := o4
  have r4 := Gt.owrd _ o4
  obtain ⟨rfl, w0x4, w1x4, w2x4, w3x4⟩ := gWalk_rd.1 r4
  refine idx_rd (Gt.owrd _ oA) ?_ ?_ fun b5 o5 hb5 => ?_
  ·omega
  ·simp; omega
  refine gstore1N (k) (A) (A4) [H] rlA rfl oA ?_ ?_ hb5 rfl _ o4 fun A6 o6 => ?_
  ·omega
  ·simp; omega
  apply loop_stepA (k + 1, _)
  ·exact .refl _
  ·exact frI
  ·exact trivial
  ·try dsimp only
   exact ⟨by omega, by rw [← take_stepz xs k default zWalk (by omega)] ; assumption⟩
  try dsimp only
  omega
 ·simp at q1
  obtain rfl : k = xs.length := by omega
  rw [List.take_length, Nat.sub_self, List.replicate_zero, List.append_nil] at oA
  exact ⟨_, ⟨_, _, rfl, oA⟩, rlA⟩
theorem eqWalkS_ct (b1 : Option Addr) (m1 c1 : Nat) (b2 : Option Addr) (m2 c2 : Nat) (xs ys : List Walk) :
  Ct prog 96 [.slice b1 m1 c1, .slice b2 m2 c2] [] (fun H => (gSl 164 gWalk).rd H [.slice b1 m1 c1] xs ∧ (gSl 164 gWalk).rd H [.slice b2 m2 c2] ys) (fun v A => v = .bool (decide (xs = ys)) ∧ A = []) := by
 refine Ct.intro0 G_ok func96 rfl rfl rfl fun E H hp => ?_
 obtain ⟨hp1, hp2⟩ := hp
 obtain ⟨rfl, hc1, hl1⟩ := sl_len hp1
 obtain ⟨rfl, hc2, hl2⟩ := sl_len hp2
 refine ⟨fun q0 => ?_, fun q0 => ?_⟩
 ·simp at q0
  exact ⟨[], ⟨by rw [decide_eq_false (fun e => by subst e; omega)], rfl⟩, .mem (by simp)⟩
 ·simp at q0
  apply loop_mod (α := (Nat)) G_ok [11, 12, 13, 14, 17, 18, 19, 20, 21, 22, 23, 24, 25, 26, 4, 15, 16, 5] (fun z => [(5, .v (.int .i64 z))]) (fun z => []) (fun z => [H]) (fun z => xs.length - z) (fun z => z ≤ xs.length ∧ xs.take z = ys.take z) (0)
  ·exact frI
  ·exact trivial
  ·exact ⟨by omega, by simp⟩
  ·exact .refl _
  rintro k hI
  obtain ⟨hk, he⟩ : k ≤ xs.length ∧ xs.take k = ys.take k := hI
  try dsimp only
  refine ⟨fun q1 => ?_, fun q1 => ?_⟩
  ·simp at q1
   refine draw G_ok mixed none (.q 0 (.q 1 (.q 2 (.q 3 (.q 4 (.q 5 (.q 6 (.q 7 (.f 8 (.q 9 (.nil))))))))))) (by decide +kernel) ?_
   refine idx_rd hp1 ?_ ?_ fun b2 o2 hb2 => ?_
   ·omega
   ·omega
   refine load_allN default (k) rfl hp1 ?_ ?_ hb2 rfl (mem_at 0 rfl) fun l3 hl3 => ?_
   ·omega
   ·omega
   obtain ⟨rfl, w0x3, w1x3, w2x3, w3x3⟩ := gWalk_rd.1 hl3
   refine idx_rd hp2 ?_ ?_ fun b4 o4 hb4 => ?_
   ·omega
   ·omega
   refine load_allN default (k) rfl hp2 ?_ ?_ hb4 rfl (mem_at 0 rfl) fun l5 hl5 => ?_
   ·omega
   ·omega
   obtain ⟨rfl, w0x5, w1x5, w2x5, w3x5⟩ := gWalk_rd.1 hl5
   refine call_val (eqWalk_ct _ _ (xs[k]?.getD default) (ys[k]?.getD default)) ⟨(Rp.mono _ (mem_at 0 rfl) hl3), (Rp.mono _ (mem_at 0 rfl) hl5)⟩ ?_
   rintro _ rfl
   refine VC.intro ?_ ?_
   ·exact fun _ h => h
   refine ⟨fun q7 => ?_, fun q7 => ?_⟩
   ·simp at q7
    exact ⟨[], ⟨by rw [decide_eq_false (fun e => by subst e; simp at *)], rfl⟩, .mem (by simp)⟩
   ·simp at q7
    apply loop_stepA (k + 1)
    ·exact .refl _
    ·exact frI
    ·exact trivial
    ·exact ⟨by omega, eq_step default (by omega) he (by omega) (by simpa using ‹_›)⟩
    omega
  ·simp at q1
   exact ⟨[], ⟨by rw [decide_eq_true]; rw [← List.take_length (l := xs), ← List.take_length (l := ys), ← (by omega : xs.length = ys.length), show xs.length = k by omega]; exact he, rfl⟩, .mem (by simp)⟩
theorem szLetter_ct (l : List Value) (x : Letter) (left : Int) (h0 : 0 ≤ left) (h1 : left ≤ 1048576) :
  Ct prog 259 [.agg ⟨l⟩, .int .i64 left] [] (fun H => gLetter.rd H l x) (fun v A => (∃ r : Int, v = .int .i64 r ∧ ((r = -1 ∧ left < (gLetter.sz x : Int)) ∨ (r = left - (gLetter.sz x : Int) ∧ (gLetter.sz x : Int) ≤ left))) ∧ A = []) := by
 refine Ct.intro0 G_ok func259 rfl rfl rfl fun E H hp => ?_
 obtain ⟨b4, c4, rfl, w0, w1, w2, h4, w5⟩ := gLetter_rd.1 hp
 have hz := gLetter_sz x
 refine ⟨fun x0 => ?_⟩
 refine call_q (szWalkS_ct _ _ _ (x.walks) _ ?_ ?_) (Rp.mono _ (mem_at 0 rfl) h4) ?_
 ·trivial
 ·trivial
 rintro _ ⟨r1, rfl, hr1⟩
 refine ⟨fun q2 => ?_, fun q2 => ?_⟩
 ·simp at q2
  exact ⟨[], ⟨⟨-1, rfl, .inl ⟨rfl, woI⟩⟩, rfl⟩, .mem (by simp)⟩
 ·simp at q2
  refine ⟨fun q3 => ?_, fun q3 => ?_⟩
  ·simp at q3
   simp (disch := omega) only [wrap_of] at q3
   exact ⟨[], ⟨⟨-1, rfl, .inl ⟨rfl, woI⟩⟩, rfl⟩, .mem (by simp)⟩
  ·simp at q3
   simp (disch := omega) only [wrap_of] at q3
   exact ⟨[], ⟨⟨_, rfl, .inr ⟨woI, by omega⟩⟩, rfl⟩, .mem (by simp)⟩
theorem toLetter_ct (l : List Value) (x : Letter) (hx : gLetter.sz x ≤ 1048576) :
  Ct prog 260 [.agg ⟨l⟩] [] (fun H => gLetter.rd H l x) (fun v A => ∃ l, v = .agg ⟨l⟩ ∧ gLetter.ow l x A) := by
 refine Ct.intro0 G_ok func260 rfl rfl rfl fun E H hp => ?_
 obtain ⟨b4, c4, rfl, w0, w1, w2, h4, w5⟩ := gLetter_rd.1 hp
 have hz := gLetter_sz x
 refine ⟨fun x0 => ?_⟩
 refine ⟨fun x1 => ?_⟩
 refine ⟨fun x2 => ?_⟩
 refine call_new (toWalkS_ct _ _ _ (x.walks) ?_) (Rp.mono _ (mem_at 0 rfl) h4) ?_
 ·omega
 rintro v3 A3 o3
 obtain ⟨b3, c3, rfl, o3⟩ := o3
 exact ⟨_, ⟨_, rfl, gLetter_ow.2 ⟨_, _, _, rfl, .refl _, by assumption, by assumption, by assumption, by assumption, by assumption⟩⟩, rlA⟩
theorem eqLetter_ct (l1 l2 : List Value) (x y : Letter) :
  Ct prog 264 [.agg ⟨l1⟩, .agg ⟨l2⟩] [] (fun H => gLetter.rd H l1 x ∧ gLetter.rd H l2 y) (fun v A => v = .bool (decide (x = y)) ∧ A = []) := by
 refine Ct.intro0 G_ok func264 rfl rfl rfl fun E H hp => ?_
 obtain ⟨hp1, hp2⟩ := hp
 obtain ⟨b4p, c4p, rfl, w0p, w1p, w2p, h4p, w5p⟩ := gLetter_rd.1 hp1
 obtain ⟨b4q, c4q, rfl, w0q, w1q, w2q, h4q, w5q⟩ := gLetter_rd.1 hp2
 refine ⟨fun x0 => ?_⟩
 refine ⟨fun x1 => ?_⟩
 refine ⟨fun q2 => ?_, fun q2 => ?_⟩
 ·simp at q2
  exact ⟨[], ⟨by rw [decide_eq_false (fun e => by subst e; simp at *)], rfl⟩, .mem (by simp)⟩
 ·simp at q2
  refine ⟨fun q3 => ?_, fun q3 => ?_⟩
  ·simp at q3
   exact ⟨[], ⟨by rw [decide_eq_false (fun e => by subst e; simp at *)], rfl⟩, .mem (by simp)⟩
  ·simp at q3
   refine ⟨fun q4 => ?_, fun q4 => ?_⟩
   ·simp at q4
    exact ⟨[], ⟨by rw [decide_eq_false (fun e => by subst e; simp at *)], rfl⟩, .mem (by simp)⟩
   ·simp at q4
    refine ⟨fun q5 => ?_, fun q5 => ?_⟩
    ·simp at q5
     exact ⟨[], ⟨by rw [decide_eq_false (fun e => by subst e; simp at *)], rfl⟩, .mem (by simp)⟩
    ·simp at q5
     refine call_val (eqWalkS_ct _ _ _ _ _ _ (x.walks) (y.walks)) ⟨(Rp.mono _ (mem_at 0 rfl) h4p), (Rp.mono _ (mem_at 0 rfl) h4q)⟩ ?_
     rintro _ rfl
     refine ⟨fun q7 => ?_, fun q7 => ?_⟩
     ·simp at q7
      exact ⟨[], ⟨by rw [decide_eq_false (fun e => by subst e; simp at *)], rfl⟩, .mem (by simp)⟩
     ·simp at q7
      refine ⟨fun q8 => ?_, fun q8 => ?_⟩
      ·simp at q8
       simp only [str_inj, u8_inj, u8_wrap] at q8
       exact ⟨[], ⟨by rw [decide_eq_false (fun e => by subst e; simp at *)], rfl⟩, .mem (by simp)⟩
      ·simp at q8
       simp only [str_inj, u8_inj, u8_wrap] at q8
       exact ⟨[], ⟨by rw [decide_eq_true (Letter.eq_iff.2 (by simp_all))], rfl⟩, .mem (by simp)⟩
theorem szLink_ct (l : List Value) (x : Link) (left : Int) (h0 : 0 ≤ left) (h1 : left ≤ 1048576) :
  Ct prog 344 [.agg ⟨l⟩, .int .i64 left] [] (fun H => gLink.rd H l x) (fun v A => (∃ r : Int, v = .int .i64 r ∧ ((r = -1 ∧ left < (gLink.sz x : Int)) ∨ (r = left - (gLink.sz x : Int) ∧ (gLink.sz x : Int) ≤ left))) ∧ A = []) := by
 refine Ct.intro0 G_ok func344 rfl rfl rfl fun E H hp => ?_
 obtain ⟨b0, c0, rfl, h0, w1, w2⟩ := gLink_rd.1 hp
 have hz := gLink_sz x
 refine ⟨fun x0 => ?_⟩
 refine call_q (szStringS_ct _ _ _ (x.sent) _ ?_ ?_) (Rp.mono _ (mem_at 0 rfl) h0) ?_
 ·trivial
 ·trivial
 rintro _ ⟨r1, rfl, hr1⟩
 refine ⟨fun q2 => ?_, fun q2 => ?_⟩
 ·simp at q2
  exact ⟨[], ⟨⟨-1, rfl, .inl ⟨rfl, woI⟩⟩, rfl⟩, .mem (by simp)⟩
 ·simp at q2
  exact ⟨[], ⟨⟨_, rfl, .inr ⟨woI, by omega⟩⟩, rfl⟩, .mem (by simp)⟩
theorem toLink_ct (l : List Value) (x : Link) (hx : gLink.sz x ≤ 1048576) :
  Ct prog 351 [.agg ⟨l⟩] [] (fun H => gLink.rd H l x) (fun v A => ∃ l, v = .agg ⟨l⟩ ∧ gLink.ow l x A) := by
 refine Ct.intro0 G_ok func351 rfl rfl rfl fun E H hp => ?_
 obtain ⟨b0, c0, rfl, h0, w1, w2⟩ := gLink_rd.1 hp
 have hz := gLink_sz x
 refine ⟨fun x0 => ?_⟩
 refine ⟨fun x1 => ?_⟩
 refine ⟨fun x2 => ?_⟩
 refine call_new (toStringS_ct _ _ _ (x.sent) ?_) (Rp.mono _ (mem_at 0 rfl) h0) ?_
 ·trivial
 rintro v3 A3 o3
 obtain ⟨b3, c3, rfl, o3⟩ := o3
 exact ⟨_, ⟨_, rfl, gLink_ow.2 ⟨_, _, _, rfl, .refl _, by assumption, by assumption, by assumption⟩⟩, rlA⟩
theorem eqLink_ct (l1 l2 : List Value) (x y : Link) :
  Ct prog 359 [.agg ⟨l1⟩, .agg ⟨l2⟩] [] (fun H => gLink.rd H l1 x ∧ gLink.rd H l2 y) (fun v A => v = .bool (decide (x = y)) ∧ A = []) := by
 refine Ct.intro0 G_ok func359 rfl rfl rfl fun E H hp => ?_
 obtain ⟨hp1, hp2⟩ := hp
 obtain ⟨b0p, c0p, rfl, h0p, w1p, w2p⟩ := gLink_rd.1 hp1
 obtain ⟨b0q, c0q, rfl, h0q, w1q, w2q⟩ := gLink_rd.1 hp2
 refine ⟨fun x0 => ?_⟩
 refine ⟨fun x1 => ?_⟩
 refine call_val (eqStringS_ct _ _ _ _ _ _ (x.sent) (y.sent)) ⟨(Rp.mono _ (mem_at 0 rfl) h0p), (Rp.mono _ (mem_at 0 rfl) h0q)⟩ ?_
 rintro _ rfl
 refine ⟨fun q3 => ?_, fun q3 => ?_⟩
 ·simp at q3
  exact ⟨[], ⟨by rw [decide_eq_false (fun e => by subst e; simp at *)], rfl⟩, .mem (by simp)⟩
 ·simp at q3
  refine ⟨fun q4 => ?_, fun q4 => ?_⟩
  ·simp at q4
   exact ⟨[], ⟨by rw [decide_eq_false (fun e => by subst e; simp at *)], rfl⟩, .mem (by simp)⟩
  ·simp at q4
   refine ⟨fun q5 => ?_, fun q5 => ?_⟩
   ·simp at q5
    exact ⟨[], ⟨by rw [decide_eq_false (fun e => by subst e; simp at *)], rfl⟩, .mem (by simp)⟩
   ·simp at q5
    exact ⟨[], ⟨by rw [decide_eq_true (Link.eq_iff.2 (by simp_all))], rfl⟩, .mem (by simp)⟩
theorem szGot_ct (l : List Value) (x : Got) (left : Int) (h0 : 0 ≤ left) (h1 : left ≤ 1048576) :
  Ct prog 214 [.agg ⟨l⟩, .int .i64 left] [] (fun H => gGot.rd H l x) (fun v A => (∃ r : Int, v = .int .i64 r ∧ ((r = -1 ∧ left < (gGot.sz x : Int)) ∨ (r = left - (gGot.sz x : Int) ∧ (gGot.sz x : Int) ≤ left))) ∧ A = []) := by
 refine Ct.intro0 G_ok func214 rfl rfl rfl fun E H hp => ?_
 obtain ⟨l2, rfl, w0, w1, h2⟩ := gGot_rd.1 hp
 obtain ⟨b0_2, c0_2, rfl, h0_2⟩ := gBag_rd.1 h2
 have hz := gGot_sz x
 refine ⟨fun x0 => ?_⟩
 refine call_q (szBag_ct _ (x.bag) _ ?_ ?_) (Rp.mono _ (mem_at 0 rfl) h2) ?_
 ·trivial
 ·trivial
 rintro _ ⟨r1, rfl, hr1⟩
 refine ⟨fun q2 => ?_, fun q2 => ?_⟩
 ·simp at q2
  exact ⟨[], ⟨⟨-1, rfl, .inl ⟨rfl, woI⟩⟩, rfl⟩, .mem (by simp)⟩
 ·simp at q2
  exact ⟨[], ⟨⟨_, rfl, .inr ⟨woI, by omega⟩⟩, rfl⟩, .mem (by simp)⟩
theorem toGot_ct (l : List Value) (x : Got) (hx : gGot.sz x ≤ 1048576) :
  Ct prog 225 [.agg ⟨l⟩] [] (fun H => gGot.rd H l x) (fun v A => ∃ l, v = .agg ⟨l⟩ ∧ gGot.ow l x A) := by
 refine Ct.intro0 G_ok func225 rfl rfl rfl fun E H hp => ?_
 obtain ⟨l2, rfl, w0, w1, h2⟩ := gGot_rd.1 hp
 obtain ⟨b0_2, c0_2, rfl, h0_2⟩ := gBag_rd.1 h2
 have hz := gGot_sz x
 refine ⟨fun x0 => ?_⟩
 refine ⟨fun x1 => ?_⟩
 refine ⟨fun x2 => ?_⟩
 refine call_new (toBag_ct _ (x.bag) ?_) (Rp.mono _ (mem_at 0 rfl) h2) ?_
 ·omega
 rintro v3 A3 o3
 obtain ⟨l3, rfl, o3⟩ := o3
 have r3 := Gt.owrd _ o3
 obtain ⟨b0x3, c0x3, rfl, h0x3⟩ := gBag_rd.1 r3
 exact ⟨_, ⟨_, rfl, gGot_ow.2 ⟨_, _, rfl, .refl _, by assumption, by assumption, by assumption⟩⟩, rlA⟩
theorem eqGot_ct (l1 l2 : List Value) (x y : Got) :
  Ct prog 235 [.agg ⟨l1⟩, .agg ⟨l2⟩] [] (fun H => gGot.rd H l1 x ∧ gGot.rd H l2 y) (fun v A => v = .bool (decide (x = y)) ∧ A = []) := by
 refine Ct.intro0 G_ok func235 rfl rfl rfl fun E H hp => ?_
 obtain ⟨hp1, hp2⟩ := hp
 obtain ⟨l2p, rfl, w0p, w1p, h2p⟩ := gGot_rd.1 hp1
 obtain ⟨b0_2p, c0_2p, rfl, h0_2p⟩ := gBag_rd.1 h2p
 obtain ⟨l2q, rfl, w0q, w1q, h2q⟩ := gGot_rd.1 hp2
 obtain ⟨b0_2q, c0_2q, rfl, h0_2q⟩ := gBag_rd.1 h2q
 refine ⟨fun x0 => ?_⟩
 refine ⟨fun x1 => ?_⟩
 refine ⟨fun q2 => ?_, fun q2 => ?_⟩
 ·simp at q2
  exact ⟨[], ⟨by rw [decide_eq_false (fun e => by subst e; simp at *)], rfl⟩, .mem (by simp)⟩
 ·simp at q2
  refine ⟨fun q3 => ?_, fun q3 => ?_⟩
  ·simp at q3
   exact ⟨[], ⟨by rw [decide_eq_false (fun e => by subst e; simp at *)], rfl⟩, .mem (by simp)⟩
  ·simp at q3
   refine call_val (eqBag_ct _ _ (x.bag) (y.bag)) ⟨(Rp.mono _ (mem_at 0 rfl) h2p), (Rp.mono _ (mem_at 0 rfl) h2q)⟩ ?_
   rintro _ rfl
   refine ⟨fun q5 => ?_, fun q5 => ?_⟩
   ·simp at q5
    exact ⟨[], ⟨by rw [decide_eq_false (fun e => by subst e; simp at *)], rfl⟩, .mem (by simp)⟩
   ·simp at q5
    exact ⟨[], ⟨by rw [decide_eq_true (Got.eq_iff.2 (by simp_all))], rfl⟩, .mem (by simp)⟩
theorem szGotS_ct (b : Option Addr) (m c : Nat) (xs : List Got) (left : Int) (h0 : 0 ≤ left) (h1 : left ≤ 1048576) :
  Ct prog 125 [.slice b m c, .int .i64 left] [] (fun H => (gSl 188 gGot).rd H [.slice b m c] xs) (fun v A => (∃ r : Int, v = .int .i64 r ∧ ((r = -1 ∧ left < (szL gGot xs : Int)) ∨ (r = left - (szL gGot xs : Int) ∧ (szL gGot xs : Int) ≤ left))) ∧ A = []) := by
 refine Ct.intro0 G_ok func125 rfl rfl rfl fun E H hp => ?_
 obtain ⟨rfl, hcl, hl⟩ := sl_len hp
 have hq := szL_eq gGot xs
 have ht := List.take_length (l := xs)
 refine ⟨fun q0 => ?_, fun q0 => ?_⟩
 ·simp at q0
  simp (disch := omega) only [wrap_of] at q0
  exact ⟨[], ⟨⟨-1, rfl, .inl ⟨rfl, woI⟩⟩, rfl⟩, .mem (by simp)⟩
 ·simp at q0
  simp (disch := omega) only [wrap_of] at q0
  apply loop_mod (α := (Nat) × (Int)) G_ok [12, 13, 14, 15, 18, 19, 20, 21, 22, 23, 1, 24, 25, 4, 16, 17, 5] (fun z => [(5, .v (.int .i64 z.1)), (1, .v (.int .i64 z.2))]) (fun z => []) (fun z => [H]) (fun z => xs.length - z.1) (fun z => z.1 ≤ xs.length ∧ z.2 = left - xs.length - szE gGot (xs.take z.1) ∧ 0 ≤ z.2) ((0, left - xs.length))
  ·repeat' (first | exact trivial | refine ⟨⟨_, rfl, by first | rfl | exact inc_eq _ (by omega) | (refine sl_eq ?_; simp; done) | (simp (disch := omega) only [wrap_of]), by first | exact trivial | simp [SV.ok]⟩, ?_⟩)
  ·exact trivial
  ·try dsimp only
   exact ⟨by omega, by simp [szE], by omega⟩
  ·exact .refl _
  rintro ⟨k, lf⟩ hI
  try dsimp only at hI
  obtain ⟨hk, hlf, hnn⟩ := hI
  try dsimp only
  refine ⟨fun q1 => ?_, fun q1 => ?_⟩
  ·simp at q1
   have hs := szE_step gGot xs k default (by omega)
   have hs2 := szE_le gGot xs (k + 1)
   refine idx_rd hp ?_ ?_ fun b2 o2 hb2 => ?_
   ·omega
   ·omega
   refine load_allN default (k) rfl hp ?_ ?_ hb2 rfl (mem_at 0 rfl) fun l3 hl3 => ?_
   ·omega
   ·omega
   obtain ⟨l2x3, rfl, w0x3, w1x3, h2x3⟩ := gGot_rd.1 hl3 ; obtain ⟨b0_2x3, c0_2x3, rfl, h0_2x3⟩ := gBag_rd.1 h2x3
   refine call_q (szGot_ct _ (xs[k]?.getD default) _ ?_ ?_) (Rp.mono _ (mem_at 0 rfl) hl3) ?_
   ·trivial
   ·omega
   rintro _ ⟨r4, rfl, hr4⟩
   refine ⟨fun q5 => ?_, fun q5 => ?_⟩
   ·simp at q5
    exact ⟨[], ⟨⟨-1, rfl, .inl ⟨rfl, woI⟩⟩, rfl⟩, .mem (by simp)⟩
   ·simp at q5
    apply loop_stepA (k + 1, _)
    ·exact .refl _
    ·repeat' (first | exact trivial | refine ⟨⟨_, rfl, by first | rfl | exact inc_eq _ (by omega) | (refine sl_eq ?_; simp; done) | (simp (disch := omega) only [wrap_of]), by first | exact trivial | simp [SV.ok]⟩, ?_⟩)
    ·exact trivial
    ·try dsimp only
     ((try simp (disch := omega) only [wrap_of] at *); refine ⟨by omega, by omega, by omega⟩)
    try dsimp only
    omega
  ·simp at q1
   obtain rfl : k = xs.length := by omega
   rw [List.take_length] at hlf
   exact ⟨[], ⟨⟨_, rfl, .inr ⟨woI, by omega⟩⟩, rfl⟩, .mem (by simp)⟩
theorem toGotS_ct (b : Option Addr) (m c : Nat) (xs : List Got) (hx : szL gGot xs ≤ 1048576) :
  Ct prog 129 [.slice b m c] [] (fun H => (gSl 188 gGot).rd H [.slice b m c] xs) (fun v A => ∃ b c, v = .slice b xs.length c ∧ (gSl 188 gGot).ow [.slice b xs.length c] xs A) := by
 refine Ct.intro0 G_ok func129 rfl rfl rfl fun E H hp => ?_
 obtain ⟨rfl, hcl, hl⟩ := sl_len hp
 have hls := len_szL gGot xs
 have hq := szL_eq gGot xs
 refine VCmake.intro ?_ ?_ ?_ ?_ fun x0 => ?_
 ·omega
 ·omega
 ·omega
 ·omega
 apply loop_mod (α := (Nat) × (Hp)) G_ok [8, 9, 10, 11, 14, 15, 16, 17, 18, 19, 20, 21, 12, 13, 4] (fun z => [(4, .v (.int .i64 z.1))]) (fun z => []) (fun z => [z.2, H]) (fun z => xs.length - z.1) (fun z => z.1 ≤ xs.length ∧ (gSl 188 gGot).ow [.slice (some ⟨x0, 0, none⟩) xs.length xs.length] (xs.take z.1 ++ List.replicate (xs.length - z.1) zGot) z.2) ((0, _))
 ·exact frI
 ·exact trivial
 ·try dsimp only
  exact ⟨by omega, by simpa using gmake (g := gGot) (T := 188) (b := x0) (zGot_ow) (Nat.le_refl xs.length) (by omega)⟩
 ·exact .refl _
 rintro ⟨k, A⟩ hI
 try dsimp only at hI
 obtain ⟨hk, oA⟩ := hI
 try dsimp only
 refine ⟨fun q1 => ?_, fun q1 => ?_⟩
 ·simp at q1
  have hs := szE_step gGot xs k default (by omega)
  have hs2 := szE_le gGot xs (k + 1)
  refine idx_rd hp ?_ ?_ fun b2 o2 hb2 => ?_
  ·omega
  ·omega
  refine load_allN default (k) rfl hp ?_ ?_ hb2 rfl (mem_at 1 rfl) fun l3 hl3 => ?_
  ·omega
  ·omega
  obtain ⟨l2x3, rfl, w0x3, w1x3, h2x3⟩ := gGot_rd.1 hl3 ; obtain ⟨b0_2x3, c0_2x3, rfl, h0_2x3⟩ := gBag_rd.1 h2x3
  refine call_new (toGot_ct _ (xs[k]?.getD default) ?_) (Rp.mono _ (mem_at 1 rfl) hl3) ?_
  ·omega
  rintro v4 A4 o4
  obtain ⟨l4, rfl, o4⟩ := o4
  have r4 := Gt.owrd _ o4
  obtain ⟨l2x4, rfl, w0x4, w1x4, h2x4⟩ := gGot_rd.1 r4
  obtain ⟨b0_2x4, c0_2x4, rfl, h0_2x4⟩ := gBag_rd.1 h2x4
  refine idx_rd (Gt.owrd _ oA) ?_ ?_ fun b5 o5 hb5 => ?_
  ·omega
  ·simp; omega
  refine gstore1N (k) (A) (A4) [H] rlA rfl oA ?_ ?_ hb5 rfl _ o4 fun A6 o6 => ?_
  ·omega
  ·simp; omega
  apply loop_stepA (k + 1, _)
  ·exact .refl _
  ·exact frI
  ·exact trivial
  ·try dsimp only
   exact ⟨by omega, by rw [← take_stepz xs k default zGot (by omega)] ; assumption⟩
  try dsimp only
  omega
 ·simp at q1
  obtain rfl : k = xs.length := by omega
  rw [List.take_length, Nat.sub_self, List.replicate_zero, List.append_nil] at oA
  exact ⟨_, ⟨_, _, rfl, oA⟩, rlA⟩
theorem eqGotS_ct (b1 : Option Addr) (m1 c1 : Nat) (b2 : Option Addr) (m2 c2 : Nat) (xs ys : List Got) :
  Ct prog 134 [.slice b1 m1 c1, .slice b2 m2 c2] [] (fun H => (gSl 188 gGot).rd H [.slice b1 m1 c1] xs ∧ (gSl 188 gGot).rd H [.slice b2 m2 c2] ys) (fun v A => v = .bool (decide (xs = ys)) ∧ A = []) := by
 refine Ct.intro0 G_ok func134 rfl rfl rfl fun E H hp => ?_
 obtain ⟨hp1, hp2⟩ := hp
 obtain ⟨rfl, hc1, hl1⟩ := sl_len hp1
 obtain ⟨rfl, hc2, hl2⟩ := sl_len hp2
 refine ⟨fun q0 => ?_, fun q0 => ?_⟩
 ·simp at q0
  exact ⟨[], ⟨by rw [decide_eq_false (fun e => by subst e; omega)], rfl⟩, .mem (by simp)⟩
 ·simp at q0
  apply loop_mod (α := (Nat)) G_ok [11, 12, 13, 14, 17, 18, 19, 20, 21, 22, 23, 24, 25, 26, 4, 15, 16, 5] (fun z => [(5, .v (.int .i64 z))]) (fun z => []) (fun z => [H]) (fun z => xs.length - z) (fun z => z ≤ xs.length ∧ xs.take z = ys.take z) (0)
  ·exact frI
  ·exact trivial
  ·exact ⟨by omega, by simp⟩
  ·exact .refl _
  rintro k hI
  obtain ⟨hk, he⟩ : k ≤ xs.length ∧ xs.take k = ys.take k := hI
  try dsimp only
  refine ⟨fun q1 => ?_, fun q1 => ?_⟩
  ·simp at q1
   refine draw G_ok mixed none (.q 0 (.q 1 (.q 2 (.q 3 (.q 4 (.q 5 (.q 6 (.q 7 (.f 8 (.q 9 (.nil))))))))))) (by decide +kernel) ?_
   refine idx_rd hp1 ?_ ?_ fun b2 o2 hb2 => ?_
   ·omega
   ·omega
   refine load_allN default (k) rfl hp1 ?_ ?_ hb2 rfl (mem_at 0 rfl) fun l3 hl3 => ?_
   ·omega
   ·omega
   obtain ⟨l2x3, rfl, w0x3, w1x3, h2x3⟩ := gGot_rd.1 hl3 ; obtain ⟨b0_2x3, c0_2x3, rfl, h0_2x3⟩ := gBag_rd.1 h2x3
   refine idx_rd hp2 ?_ ?_ fun b4 o4 hb4 => ?_
   ·omega
   ·omega
   refine load_allN default (k) rfl hp2 ?_ ?_ hb4 rfl (mem_at 0 rfl) fun l5 hl5 => ?_
   ·omega
   ·omega
   obtain ⟨l2x5, rfl, w0x5, w1x5, h2x5⟩ := gGot_rd.1 hl5 ; obtain ⟨b0_2x5, c0_2x5, rfl, h0_2x5⟩ := gBag_rd.1 h2x5
   refine call_val (eqGot_ct _ _ (xs[k]?.getD default) (ys[k]?.getD default)) ⟨(Rp.mono _ (mem_at 0 rfl) hl3), (Rp.mono _ (mem_at 0 rfl) hl5)⟩ ?_
   rintro _ rfl
   refine VC.intro ?_ ?_
   ·exact fun _ h => h
   refine ⟨fun q7 => ?_, fun q7 => ?_⟩
   ·simp at q7
    exact ⟨[], ⟨by rw [decide_eq_false (fun e => by subst e; simp at *)], rfl⟩, .mem (by simp)⟩
   ·simp at q7
    apply loop_stepA (k + 1)
    ·exact .refl _
    ·exact frI
    ·exact trivial
    ·exact ⟨by omega, eq_step default (by omega) he (by omega) (by simpa using ‹_›)⟩
    omega
  ·simp at q1
   exact ⟨[], ⟨by rw [decide_eq_true]; rw [← List.take_length (l := xs), ← List.take_length (l := ys), ← (by omega : xs.length = ys.length), show xs.length = k by omega]; exact he, rfl⟩, .mem (by simp)⟩
theorem szCell_ct (l : List Value) (x : Cell) (left : Int) (h0 : 0 ≤ left) (h1 : left ≤ 1048576) :
  Ct prog 42 [.agg ⟨l⟩, .int .i64 left] [] (fun H => gCell.rd H l x) (fun v A => (∃ r : Int, v = .int .i64 r ∧ ((r = -1 ∧ left < (gCell.sz x : Int)) ∨ (r = left - (gCell.sz x : Int) ∧ (gCell.sz x : Int) ≤ left))) ∧ A = []) := by
 refine Ct.intro0 G_ok func42 rfl rfl rfl fun E H hp => ?_
 obtain ⟨l0, b1, c1, b4, c4, rfl, h0, h1, w2, w3, h4⟩ := gCell_rd.1 hp
 obtain ⟨b1_0, c1_0, b2_0, c2_0, b3_0, c3_0, rfl, h1_0, h2_0, h3_0⟩ := gQuery_rd.1 h0
 have hz := gCell_sz x
 refine ⟨fun x0 => ?_⟩
 refine call_q (szQuery_ct _ (x.query) _ ?_ ?_) (Rp.mono _ (mem_at 0 rfl) h0) ?_
 ·trivial
 ·trivial
 rintro _ ⟨r1, rfl, hr1⟩
 refine ⟨fun q2 => ?_, fun q2 => ?_⟩
 ·simp at q2
  exact ⟨[], ⟨⟨-1, rfl, .inl ⟨rfl, woI⟩⟩, rfl⟩, .mem (by simp)⟩
 ·simp at q2
  refine call_q (szIntS_ct _ _ _ (x.shares) _ ?_ ?_) (Rp.mono _ (mem_at 0 rfl) h1) ?_
  ·trivial
  ·omega
  rintro _ ⟨r3, rfl, hr3⟩
  refine ⟨fun q4 => ?_, fun q4 => ?_⟩
  ·simp at q4
   exact ⟨[], ⟨⟨-1, rfl, .inl ⟨rfl, woI⟩⟩, rfl⟩, .mem (by simp)⟩
  ·simp at q4
   refine call_q (szGotS_ct _ _ _ (x.gots) _ ?_ ?_) (Rp.mono _ (mem_at 0 rfl) h4) ?_
   ·trivial
   ·omega
   rintro _ ⟨r5, rfl, hr5⟩
   refine ⟨fun q6 => ?_, fun q6 => ?_⟩
   ·simp at q6
    exact ⟨[], ⟨⟨-1, rfl, .inl ⟨rfl, woI⟩⟩, rfl⟩, .mem (by simp)⟩
   ·simp at q6
    exact ⟨[], ⟨⟨_, rfl, .inr ⟨woI, by omega⟩⟩, rfl⟩, .mem (by simp)⟩
theorem toCell_ct (l : List Value) (x : Cell) (hx : gCell.sz x ≤ 1048576) :
  Ct prog 44 [.agg ⟨l⟩] [] (fun H => gCell.rd H l x) (fun v A => ∃ l, v = .agg ⟨l⟩ ∧ gCell.ow l x A) := by
 refine Ct.intro0 G_ok func44 rfl rfl rfl fun E H hp => ?_
 obtain ⟨l0, b1, c1, b4, c4, rfl, h0, h1, w2, w3, h4⟩ := gCell_rd.1 hp
 obtain ⟨b1_0, c1_0, b2_0, c2_0, b3_0, c3_0, rfl, h1_0, h2_0, h3_0⟩ := gQuery_rd.1 h0
 have hz := gCell_sz x
 refine ⟨fun x0 => ?_⟩
 refine ⟨fun x1 => ?_⟩
 refine ⟨fun x2 => ?_⟩
 refine call_new (toQuery_ct _ (x.query) ?_) (Rp.mono _ (mem_at 0 rfl) h0) ?_
 ·omega
 rintro v3 A3 o3
 obtain ⟨l3, rfl, o3⟩ := o3
 have r3 := Gt.owrd _ o3
 obtain ⟨b1x3, c1x3, b2x3, c2x3, b3x3, c3x3, rfl, h1x3, h2x3, h3x3⟩ := gQuery_rd.1 r3
 refine call_new (toIntS_ct _ _ _ (x.shares) ?_) (Rp.mono _ (mem_at 1 rfl) h1) ?_
 ·omega
 rintro v4 A4 o4
 obtain ⟨b4, c4, rfl, o4⟩ := o4
 refine call_new (toGotS_ct _ _ _ (x.gots) ?_) (Rp.mono _ (mem_at 2 rfl) h4) ?_
 ·omega
 rintro v5 A5 o5
 obtain ⟨b5, c5, rfl, o5⟩ := o5
 exact ⟨_, ⟨_, rfl, gCell_ow.2 ⟨_, _, _, _, _, _, _, _, rfl, .refl _, by assumption, by assumption, by assumption, by assumption, by assumption⟩⟩, rlA⟩
theorem eqCell_ct (l1 l2 : List Value) (x y : Cell) :
  Ct prog 46 [.agg ⟨l1⟩, .agg ⟨l2⟩] [] (fun H => gCell.rd H l1 x ∧ gCell.rd H l2 y) (fun v A => v = .bool (decide (x = y)) ∧ A = []) := by
 refine Ct.intro0 G_ok func46 rfl rfl rfl fun E H hp => ?_
 obtain ⟨hp1, hp2⟩ := hp
 obtain ⟨l0p, b1p, c1p, b4p, c4p, rfl, h0p, h1p, w2p, w3p, h4p⟩ := gCell_rd.1 hp1
 obtain ⟨b1_0p, c1_0p, b2_0p, c2_0p, b3_0p, c3_0p, rfl, h1_0p, h2_0p, h3_0p⟩ := gQuery_rd.1 h0p
 obtain ⟨l0q, b1q, c1q, b4q, c4q, rfl, h0q, h1q, w2q, w3q, h4q⟩ := gCell_rd.1 hp2
 obtain ⟨b1_0q, c1_0q, b2_0q, c2_0q, b3_0q, c3_0q, rfl, h1_0q, h2_0q, h3_0q⟩ := gQuery_rd.1 h0q
 refine ⟨fun x0 => ?_⟩
 refine ⟨fun x1 => ?_⟩
 refine call_val (eqQuery_ct _ _ (x.query) (y.query)) ⟨(Rp.mono _ (mem_at 0 rfl) h0p), (Rp.mono _ (mem_at 0 rfl) h0q)⟩ ?_
 rintro _ rfl
 refine ⟨fun q3 => ?_, fun q3 => ?_⟩
 ·simp at q3
  exact ⟨[], ⟨by rw [decide_eq_false (fun e => by subst e; simp at *)], rfl⟩, .mem (by simp)⟩
 ·simp at q3
  refine call_val (eqIntS_ct _ _ _ _ _ _ (x.shares) (y.shares)) ⟨(Rp.mono _ (mem_at 0 rfl) h1p), (Rp.mono _ (mem_at 0 rfl) h1q)⟩ ?_
  rintro _ rfl
  refine ⟨fun q5 => ?_, fun q5 => ?_⟩
  ·simp at q5
   exact ⟨[], ⟨by rw [decide_eq_false (fun e => by subst e; simp at *)], rfl⟩, .mem (by simp)⟩
  ·simp at q5
   refine ⟨fun q6 => ?_, fun q6 => ?_⟩
   ·simp at q6
    exact ⟨[], ⟨by rw [decide_eq_false (fun e => by subst e; simp at *)], rfl⟩, .mem (by simp)⟩
   ·simp at q6
    refine ⟨fun q7 => ?_, fun q7 => ?_⟩
    ·simp at q7
     exact ⟨[], ⟨by rw [decide_eq_false (fun e => by subst e; simp at *)], rfl⟩, .mem (by simp)⟩
    ·simp at q7
     refine call_val (eqGotS_ct _ _ _ _ _ _ (x.gots) (y.gots)) ⟨(Rp.mono _ (mem_at 0 rfl) h4p), (Rp.mono _ (mem_at 0 rfl) h4q)⟩ ?_
     rintro _ rfl
     refine ⟨fun q9 => ?_, fun q9 => ?_⟩
     ·simp at q9
      exact ⟨[], ⟨by rw [decide_eq_false (fun e => by subst e; simp at *)], rfl⟩, .mem (by simp)⟩
     ·simp at q9
      exact ⟨[], ⟨by rw [decide_eq_true (Cell.eq_iff.2 (by simp_all))], rfl⟩, .mem (by simp)⟩
theorem szMail_ct (l : List Value) (x : Mail) (left : Int) (h0 : 0 ≤ left) (h1 : left ≤ 1048576) :
  Ct prog 174 [.agg ⟨l⟩, .int .i64 left] [] (fun H => gMail.rd H l x) (fun v A => (∃ r : Int, v = .int .i64 r ∧ ((r = -1 ∧ left < (gMail.sz x : Int)) ∨ (r = left - (gMail.sz x : Int) ∧ (gMail.sz x : Int) ≤ left))) ∧ A = []) := by
 refine Ct.intro0 G_ok func174 rfl rfl rfl fun E H hp => ?_
 obtain ⟨l1, rfl, w0, h1⟩ := gMail_rd.1 hp
 obtain ⟨b4_1, c4_1, rfl, w0_1, w1_1, w2_1, h4_1, w5_1⟩ := gLetter_rd.1 h1
 have hz := gMail_sz x
 refine ⟨fun x0 => ?_⟩
 refine call_q (szLetter_ct _ (x.letter) _ ?_ ?_) (Rp.mono _ (mem_at 0 rfl) h1) ?_
 ·trivial
 ·trivial
 rintro _ ⟨r1, rfl, hr1⟩
 refine ⟨fun q2 => ?_, fun q2 => ?_⟩
 ·simp at q2
  exact ⟨[], ⟨⟨-1, rfl, .inl ⟨rfl, woI⟩⟩, rfl⟩, .mem (by simp)⟩
 ·simp at q2
  exact ⟨[], ⟨⟨_, rfl, .inr ⟨woI, by omega⟩⟩, rfl⟩, .mem (by simp)⟩
theorem toMail_ct (l : List Value) (x : Mail) (hx : gMail.sz x ≤ 1048576) :
  Ct prog 176 [.agg ⟨l⟩] [] (fun H => gMail.rd H l x) (fun v A => ∃ l, v = .agg ⟨l⟩ ∧ gMail.ow l x A) := by
 refine Ct.intro0 G_ok func176 rfl rfl rfl fun E H hp => ?_
 obtain ⟨l1, rfl, w0, h1⟩ := gMail_rd.1 hp
 obtain ⟨b4_1, c4_1, rfl, w0_1, w1_1, w2_1, h4_1, w5_1⟩ := gLetter_rd.1 h1
 have hz := gMail_sz x
 refine ⟨fun x0 => ?_⟩
 refine ⟨fun x1 => ?_⟩
 refine ⟨fun x2 => ?_⟩
 refine call_new (toLetter_ct _ (x.letter) ?_) (Rp.mono _ (mem_at 0 rfl) h1) ?_
 ·omega
 rintro v3 A3 o3
 obtain ⟨l3, rfl, o3⟩ := o3
 have r3 := Gt.owrd _ o3
 obtain ⟨b4x3, c4x3, rfl, w0x3, w1x3, w2x3, h4x3, w5x3⟩ := gLetter_rd.1 r3
 exact ⟨_, ⟨_, rfl, gMail_ow.2 ⟨_, _, rfl, .refl _, by assumption, by assumption⟩⟩, rlA⟩
theorem eqMail_ct (l1 l2 : List Value) (x y : Mail) :
  Ct prog 185 [.agg ⟨l1⟩, .agg ⟨l2⟩] [] (fun H => gMail.rd H l1 x ∧ gMail.rd H l2 y) (fun v A => v = .bool (decide (x = y)) ∧ A = []) := by
 refine Ct.intro0 G_ok func185 rfl rfl rfl fun E H hp => ?_
 obtain ⟨hp1, hp2⟩ := hp
 obtain ⟨l1p, rfl, w0p, h1p⟩ := gMail_rd.1 hp1
 obtain ⟨b4_1p, c4_1p, rfl, w0_1p, w1_1p, w2_1p, h4_1p, w5_1p⟩ := gLetter_rd.1 h1p
 obtain ⟨l1q, rfl, w0q, h1q⟩ := gMail_rd.1 hp2
 obtain ⟨b4_1q, c4_1q, rfl, w0_1q, w1_1q, w2_1q, h4_1q, w5_1q⟩ := gLetter_rd.1 h1q
 refine ⟨fun x0 => ?_⟩
 refine ⟨fun x1 => ?_⟩
 refine ⟨fun q2 => ?_, fun q2 => ?_⟩
 ·simp at q2
  exact ⟨[], ⟨by rw [decide_eq_false (fun e => by subst e; simp at *)], rfl⟩, .mem (by simp)⟩
 ·simp at q2
  refine call_val (eqLetter_ct _ _ (x.letter) (y.letter)) ⟨(Rp.mono _ (mem_at 0 rfl) h1p), (Rp.mono _ (mem_at 0 rfl) h1q)⟩ ?_
  rintro _ rfl
  refine ⟨fun q4 => ?_, fun q4 => ?_⟩
  ·simp at q4
   exact ⟨[], ⟨by rw [decide_eq_false (fun e => by subst e; simp at *)], rfl⟩, .mem (by simp)⟩
  ·simp at q4
   exact ⟨[], ⟨by rw [decide_eq_true (Mail.eq_iff.2 (by simp_all))], rfl⟩, .mem (by simp)⟩
theorem szMailS_ct (b : Option Addr) (m c : Nat) (xs : List Mail) (left : Int) (h0 : 0 ≤ left) (h1 : left ≤ 1048576) :
  Ct prog 91 [.slice b m c, .int .i64 left] [] (fun H => (gSl 245 gMail).rd H [.slice b m c] xs) (fun v A => (∃ r : Int, v = .int .i64 r ∧ ((r = -1 ∧ left < (szL gMail xs : Int)) ∨ (r = left - (szL gMail xs : Int) ∧ (szL gMail xs : Int) ≤ left))) ∧ A = []) := by
 refine Ct.intro0 G_ok func91 rfl rfl rfl fun E H hp => ?_
 obtain ⟨rfl, hcl, hl⟩ := sl_len hp
 have hq := szL_eq gMail xs
 have ht := List.take_length (l := xs)
 refine ⟨fun q0 => ?_, fun q0 => ?_⟩
 ·simp at q0
  simp (disch := omega) only [wrap_of] at q0
  exact ⟨[], ⟨⟨-1, rfl, .inl ⟨rfl, woI⟩⟩, rfl⟩, .mem (by simp)⟩
 ·simp at q0
  simp (disch := omega) only [wrap_of] at q0
  apply loop_mod (α := (Nat) × (Int)) G_ok [12, 13, 14, 15, 18, 19, 20, 21, 22, 23, 1, 24, 25, 4, 16, 17, 5] (fun z => [(5, .v (.int .i64 z.1)), (1, .v (.int .i64 z.2))]) (fun z => []) (fun z => [H]) (fun z => xs.length - z.1) (fun z => z.1 ≤ xs.length ∧ z.2 = left - xs.length - szE gMail (xs.take z.1) ∧ 0 ≤ z.2) ((0, left - xs.length))
  ·repeat' (first | exact trivial | refine ⟨⟨_, rfl, by first | rfl | exact inc_eq _ (by omega) | (refine sl_eq ?_; simp; done) | (simp (disch := omega) only [wrap_of]), by first | exact trivial | simp [SV.ok]⟩, ?_⟩)
  ·exact trivial
  ·try dsimp only
   exact ⟨by omega, by simp [szE], by omega⟩
  ·exact .refl _
  rintro ⟨k, lf⟩ hI
  try dsimp only at hI
  obtain ⟨hk, hlf, hnn⟩ := hI
  try dsimp only
  refine ⟨fun q1 => ?_, fun q1 => ?_⟩
  ·simp at q1
   have hs := szE_step gMail xs k default (by omega)
   have hs2 := szE_le gMail xs (k + 1)
   refine idx_rd hp ?_ ?_ fun b2 o2 hb2 => ?_
   ·omega
   ·omega
   refine load_allN default (k) rfl hp ?_ ?_ hb2 rfl (mem_at 0 rfl) fun l3 hl3 => ?_
   ·omega
   ·omega
   obtain ⟨l1x3, rfl, w0x3, h1x3⟩ := gMail_rd.1 hl3 ; obtain ⟨b4_1x3, c4_1x3, rfl, w0_1x3, w1_1x3, w2_1x3, h4_1x3, w5_1x3⟩ := gLetter_rd.1 h1x3
   refine call_q (szMail_ct _ (xs[k]?.getD default) _ ?_ ?_) (Rp.mono _ (mem_at 0 rfl) hl3) ?_
   ·trivial
   ·omega
   rintro _ ⟨r4, rfl, hr4⟩
   refine ⟨fun q5 => ?_, fun q5 => ?_⟩
   ·simp at q5
    exact ⟨[], ⟨⟨-1, rfl, .inl ⟨rfl, woI⟩⟩, rfl⟩, .mem (by simp)⟩
   ·simp at q5
    apply loop_stepA (k + 1, _)
    ·exact .refl _
    ·repeat' (first | exact trivial | refine ⟨⟨_, rfl, by first | rfl | exact inc_eq _ (by omega) | (refine sl_eq ?_; simp; done) | (simp (disch := omega) only [wrap_of]), by first | exact trivial | simp [SV.ok]⟩, ?_⟩)
    ·exact trivial
    ·try dsimp only
     ((try simp (disch := omega) only [wrap_of] at *); refine ⟨by omega, by omega, by omega⟩)
    try dsimp only
    omega
  ·simp at q1
   obtain rfl : k = xs.length := by omega
   rw [List.take_length] at hlf
   exact ⟨[], ⟨⟨_, rfl, .inr ⟨woI, by omega⟩⟩, rfl⟩, .mem (by simp)⟩
theorem toMailS_ct (b : Option Addr) (m c : Nat) (xs : List Mail) (hx : szL gMail xs ≤ 1048576) :
  Ct prog 94 [.slice b m c] [] (fun H => (gSl 245 gMail).rd H [.slice b m c] xs) (fun v A => ∃ b c, v = .slice b xs.length c ∧ (gSl 245 gMail).ow [.slice b xs.length c] xs A) := by
 refine Ct.intro0 G_ok func94 rfl rfl rfl fun E H hp => ?_
 obtain ⟨rfl, hcl, hl⟩ := sl_len hp
 have hls := len_szL gMail xs
 have hq := szL_eq gMail xs
 refine VCmake.intro ?_ ?_ ?_ ?_ fun x0 => ?_
 ·omega
 ·omega
 ·omega
 ·omega
 apply loop_mod (α := (Nat) × (Hp)) G_ok [8, 9, 10, 11, 14, 15, 16, 17, 18, 19, 20, 21, 12, 13, 4] (fun z => [(4, .v (.int .i64 z.1))]) (fun z => []) (fun z => [z.2, H]) (fun z => xs.length - z.1) (fun z => z.1 ≤ xs.length ∧ (gSl 245 gMail).ow [.slice (some ⟨x0, 0, none⟩) xs.length xs.length] (xs.take z.1 ++ List.replicate (xs.length - z.1) zMail) z.2) ((0, _))
 ·exact frI
 ·exact trivial
 ·try dsimp only
  exact ⟨by omega, by simpa using gmake (g := gMail) (T := 245) (b := x0) (zMail_ow) (Nat.le_refl xs.length) (by omega)⟩
 ·exact .refl _
 rintro ⟨k, A⟩ hI
 try dsimp only at hI
 obtain ⟨hk, oA⟩ := hI
 try dsimp only
 refine ⟨fun q1 => ?_, fun q1 => ?_⟩
 ·simp at q1
  have hs := szE_step gMail xs k default (by omega)
  have hs2 := szE_le gMail xs (k + 1)
  refine idx_rd hp ?_ ?_ fun b2 o2 hb2 => ?_
  ·omega
  ·omega
  refine load_allN default (k) rfl hp ?_ ?_ hb2 rfl (mem_at 1 rfl) fun l3 hl3 => ?_
  ·omega
  ·omega
  obtain ⟨l1x3, rfl, w0x3, h1x3⟩ := gMail_rd.1 hl3 ; obtain ⟨b4_1x3, c4_1x3, rfl, w0_1x3, w1_1x3, w2_1x3, h4_1x3, w5_1x3⟩ := gLetter_rd.1 h1x3
  refine call_new (toMail_ct _ (xs[k]?.getD default) ?_) (Rp.mono _ (mem_at 1 rfl) hl3) ?_
  ·omega
  rintro v4 A4 o4
  obtain ⟨l4, rfl, o4⟩ := o4
  have r4 := Gt.owrd _ o4
  obtain ⟨l1x4, rfl, w0x4, h1x4⟩ := gMail_rd.1 r4
  obtain ⟨b4_1x4, c4_1x4, rfl, w0_1x4, w1_1x4, w2_1x4, h4_1x4, w5_1x4⟩ := gLetter_rd.1 h1x4
  refine idx_rd (Gt.owrd _ oA) ?_ ?_ fun b5 o5 hb5 => ?_
  ·omega
  ·simp; omega
  refine gstore1N (k) (A) (A4) [H] rlA rfl oA ?_ ?_ hb5 rfl _ o4 fun A6 o6 => ?_
  ·omega
  ·simp; omega
  apply loop_stepA (k + 1, _)
  ·exact .refl _
  ·exact frI
  ·exact trivial
  ·try dsimp only
   exact ⟨by omega, by rw [← take_stepz xs k default zMail (by omega)] ; assumption⟩
  try dsimp only
  omega
 ·simp at q1
  obtain rfl : k = xs.length := by omega
  rw [List.take_length, Nat.sub_self, List.replicate_zero, List.append_nil] at oA
  exact ⟨_, ⟨_, _, rfl, oA⟩, rlA⟩
theorem eqMailS_ct (b1 : Option Addr) (m1 c1 : Nat) (b2 : Option Addr) (m2 c2 : Nat) (xs ys : List Mail) :
  Ct prog 97 [.slice b1 m1 c1, .slice b2 m2 c2] [] (fun H => (gSl 245 gMail).rd H [.slice b1 m1 c1] xs ∧ (gSl 245 gMail).rd H [.slice b2 m2 c2] ys) (fun v A => v = .bool (decide (xs = ys)) ∧ A = []) := by
 refine Ct.intro0 G_ok func97 rfl rfl rfl fun E H hp => ?_
 obtain ⟨hp1, hp2⟩ := hp
 obtain ⟨rfl, hc1, hl1⟩ := sl_len hp1
 obtain ⟨rfl, hc2, hl2⟩ := sl_len hp2
 refine ⟨fun q0 => ?_, fun q0 => ?_⟩
 ·simp at q0
  exact ⟨[], ⟨by rw [decide_eq_false (fun e => by subst e; omega)], rfl⟩, .mem (by simp)⟩
 ·simp at q0
  apply loop_mod (α := (Nat)) G_ok [11, 12, 13, 14, 17, 18, 19, 20, 21, 22, 23, 24, 25, 26, 4, 15, 16, 5] (fun z => [(5, .v (.int .i64 z))]) (fun z => []) (fun z => [H]) (fun z => xs.length - z) (fun z => z ≤ xs.length ∧ xs.take z = ys.take z) (0)
  ·exact frI
  ·exact trivial
  ·exact ⟨by omega, by simp⟩
  ·exact .refl _
  rintro k hI
  obtain ⟨hk, he⟩ : k ≤ xs.length ∧ xs.take k = ys.take k := hI
  try dsimp only
  refine ⟨fun q1 => ?_, fun q1 => ?_⟩
  ·simp at q1
   refine draw G_ok mixed none (.q 0 (.q 1 (.q 2 (.q 3 (.q 4 (.q 5 (.q 6 (.q 7 (.f 8 (.q 9 (.nil))))))))))) (by decide +kernel) ?_
   refine idx_rd hp1 ?_ ?_ fun b2 o2 hb2 => ?_
   ·omega
   ·omega
   refine load_allN default (k) rfl hp1 ?_ ?_ hb2 rfl (mem_at 0 rfl) fun l3 hl3 => ?_
   ·omega
   ·omega
   obtain ⟨l1x3, rfl, w0x3, h1x3⟩ := gMail_rd.1 hl3 ; obtain ⟨b4_1x3, c4_1x3, rfl, w0_1x3, w1_1x3, w2_1x3, h4_1x3, w5_1x3⟩ := gLetter_rd.1 h1x3
   refine idx_rd hp2 ?_ ?_ fun b4 o4 hb4 => ?_
   ·omega
   ·omega
   refine load_allN default (k) rfl hp2 ?_ ?_ hb4 rfl (mem_at 0 rfl) fun l5 hl5 => ?_
   ·omega
   ·omega
   obtain ⟨l1x5, rfl, w0x5, h1x5⟩ := gMail_rd.1 hl5 ; obtain ⟨b4_1x5, c4_1x5, rfl, w0_1x5, w1_1x5, w2_1x5, h4_1x5, w5_1x5⟩ := gLetter_rd.1 h1x5
   refine call_val (eqMail_ct _ _ (xs[k]?.getD default) (ys[k]?.getD default)) ⟨(Rp.mono _ (mem_at 0 rfl) hl3), (Rp.mono _ (mem_at 0 rfl) hl5)⟩ ?_
   rintro _ rfl
   refine VC.intro ?_ ?_
   ·exact fun _ h => h
   refine ⟨fun q7 => ?_, fun q7 => ?_⟩
   ·simp at q7
    exact ⟨[], ⟨by rw [decide_eq_false (fun e => by subst e; simp at *)], rfl⟩, .mem (by simp)⟩
   ·simp at q7
    apply loop_stepA (k + 1)
    ·exact .refl _
    ·exact frI
    ·exact trivial
    ·exact ⟨by omega, eq_step default (by omega) he (by omega) (by simpa using ‹_›)⟩
    omega
  ·simp at q1
   exact ⟨[], ⟨by rw [decide_eq_true]; rw [← List.take_length (l := xs), ← List.take_length (l := ys), ← (by omega : xs.length = ys.length), show xs.length = k by omega]; exact he, rfl⟩, .mem (by simp)⟩
theorem szWork_ct (l : List Value) (x : Work) (left : Int) (h0 : 0 ≤ left) (h1 : left ≤ 1048576) :
  Ct prog 25 [.agg ⟨l⟩, .int .i64 left] [] (fun H => gWork.rd H l x) (fun v A => (∃ r : Int, v = .int .i64 r ∧ ((r = -1 ∧ left < (gWork.sz x : Int)) ∨ (r = left - (gWork.sz x : Int) ∧ (gWork.sz x : Int) ≤ left))) ∧ A = []) := by
 refine Ct.intro0 G_ok func25 rfl rfl rfl fun E H hp => ?_
 obtain ⟨l1, b2, c2, b4, c4, l11, b13, c13, rfl, h1, h2, w3, h4, w5, w8, h11, h13⟩ := gWork_rd.1 hp
 obtain ⟨b1_1, c1_1, b2_1, c2_1, b3_1, c3_1, rfl, h1_1, h2_1, h3_1⟩ := gQuery_rd.1 h1
 obtain ⟨l0_11, b1_11, c1_11, b4_11, c4_11, rfl, h0_11, h1_11, w2_11, w3_11, h4_11⟩ := gCell_rd.1 h11
 obtain ⟨b1_0_11, c1_0_11, b2_0_11, c2_0_11, b3_0_11, c3_0_11, rfl, h1_0_11, h2_0_11, h3_0_11⟩ := gQuery_rd.1 h0_11
 have hz := gWork_sz x
 refine ⟨fun x0 => ?_⟩
 refine call_q (szQuery_ct _ (x.query) _ ?_ ?_) (Rp.mono _ (mem_at 0 rfl) h1) ?_
 ·trivial
 ·trivial
 rintro _ ⟨r1, rfl, hr1⟩
 refine ⟨fun q2 => ?_, fun q2 => ?_⟩
 ·simp at q2
  exact ⟨[], ⟨⟨-1, rfl, .inl ⟨rfl, woI⟩⟩, rfl⟩, .mem (by simp)⟩
 ·simp at q2
  refine call_q (szIntS_ct _ _ _ (x.shares) _ ?_ ?_) (Rp.mono _ (mem_at 0 rfl) h2) ?_
  ·trivial
  ·omega
  rintro _ ⟨r3, rfl, hr3⟩
  refine ⟨fun q4 => ?_, fun q4 => ?_⟩
  ·simp at q4
   exact ⟨[], ⟨⟨-1, rfl, .inl ⟨rfl, woI⟩⟩, rfl⟩, .mem (by simp)⟩
  ·simp at q4
   refine call_q (szWalkS_ct _ _ _ (x.seen) _ ?_ ?_) (Rp.mono _ (mem_at 0 rfl) h4) ?_
   ·trivial
   ·omega
   rintro _ ⟨r5, rfl, hr5⟩
   refine ⟨fun q6 => ?_, fun q6 => ?_⟩
   ·simp at q6
    exact ⟨[], ⟨⟨-1, rfl, .inl ⟨rfl, woI⟩⟩, rfl⟩, .mem (by simp)⟩
   ·simp at q6
    refine call_q (szCell_ct _ (x.cell) _ ?_ ?_) (Rp.mono _ (mem_at 0 rfl) h11) ?_
    ·trivial
    ·omega
    rintro _ ⟨r7, rfl, hr7⟩
    refine ⟨fun q8 => ?_, fun q8 => ?_⟩
    ·simp at q8
     exact ⟨[], ⟨⟨-1, rfl, .inl ⟨rfl, woI⟩⟩, rfl⟩, .mem (by simp)⟩
    ·simp at q8
     refine call_q (szMailS_ct _ _ _ (x.waits) _ ?_ ?_) (Rp.mono _ (mem_at 0 rfl) h13) ?_
     ·trivial
     ·omega
     rintro _ ⟨r9, rfl, hr9⟩
     refine ⟨fun q10 => ?_, fun q10 => ?_⟩
     ·simp at q10
      exact ⟨[], ⟨⟨-1, rfl, .inl ⟨rfl, woI⟩⟩, rfl⟩, .mem (by simp)⟩
     ·simp at q10
      exact ⟨[], ⟨⟨_, rfl, .inr ⟨woI, by omega⟩⟩, rfl⟩, .mem (by simp)⟩
theorem toWork_ct (l : List Value) (x : Work) (hx : gWork.sz x ≤ 1048576) :
  Ct prog 27 [.agg ⟨l⟩] [] (fun H => gWork.rd H l x) (fun v A => ∃ l, v = .agg ⟨l⟩ ∧ gWork.ow l x A) := by
 refine Ct.intro0 G_ok func27 rfl rfl rfl fun E H hp => ?_
 obtain ⟨l1, b2, c2, b4, c4, l11, b13, c13, rfl, h1, h2, w3, h4, w5, w8, h11, h13⟩ := gWork_rd.1 hp
 obtain ⟨b1_1, c1_1, b2_1, c2_1, b3_1, c3_1, rfl, h1_1, h2_1, h3_1⟩ := gQuery_rd.1 h1
 obtain ⟨l0_11, b1_11, c1_11, b4_11, c4_11, rfl, h0_11, h1_11, w2_11, w3_11, h4_11⟩ := gCell_rd.1 h11
 obtain ⟨b1_0_11, c1_0_11, b2_0_11, c2_0_11, b3_0_11, c3_0_11, rfl, h1_0_11, h2_0_11, h3_0_11⟩ := gQuery_rd.1 h0_11
 have hz := gWork_sz x
 refine ⟨fun x0 => ?_⟩
 refine ⟨fun x1 => ?_⟩
 refine ⟨fun x2 => ?_⟩
 refine call_new (toQuery_ct _ (x.query) ?_) (Rp.mono _ (mem_at 0 rfl) h1) ?_
 ·omega
 rintro v3 A3 o3
 obtain ⟨l3, rfl, o3⟩ := o3
 have r3 := Gt.owrd _ o3
 obtain ⟨b1x3, c1x3, b2x3, c2x3, b3x3, c3x3, rfl, h1x3, h2x3, h3x3⟩ := gQuery_rd.1 r3
 refine call_new (toIntS_ct _ _ _ (x.shares) ?_) (Rp.mono _ (mem_at 1 rfl) h2) ?_
 ·omega
 rintro v4 A4 o4
 obtain ⟨b4, c4, rfl, o4⟩ := o4
 refine call_new (toWalkS_ct _ _ _ (x.seen) ?_) (Rp.mono _ (mem_at 2 rfl) h4) ?_
 ·omega
 rintro v5 A5 o5
 obtain ⟨b5, c5, rfl, o5⟩ := o5
 refine call_new (toCell_ct _ (x.cell) ?_) (Rp.mono _ (mem_at 3 rfl) h11) ?_
 ·omega
 rintro v6 A6 o6
 obtain ⟨l6, rfl, o6⟩ := o6
 have r6 := Gt.owrd _ o6
 obtain ⟨l0x6, b1x6, c1x6, b4x6, c4x6, rfl, h0x6, h1x6, w2x6, w3x6, h4x6⟩ := gCell_rd.1 r6
 obtain ⟨b1_0x6, c1_0x6, b2_0x6, c2_0x6, b3_0x6, c3_0x6, rfl, h1_0x6, h2_0x6, h3_0x6⟩ := gQuery_rd.1 h0x6
 refine call_new (toMailS_ct _ _ _ (x.waits) ?_) (Rp.mono _ (mem_at 4 rfl) h13) ?_
 ·omega
 rintro v7 A7 o7
 obtain ⟨b7, c7, rfl, o7⟩ := o7
 exact ⟨_, ⟨_, rfl, gWork_ow.2 ⟨_, _, _, _, _, _, _, _, _, _, _, _, _, rfl, .refl _, by assumption, by assumption, by assumption, by assumption, by assumption, by assumption, by assumption, by assumption⟩⟩, rlA⟩
theorem eqWork_ct (l1 l2 : List Value) (x y : Work) :
  Ct prog 29 [.agg ⟨l1⟩, .agg ⟨l2⟩] [] (fun H => gWork.rd H l1 x ∧ gWork.rd H l2 y) (fun v A => v = .bool (decide (x = y)) ∧ A = []) := by
 refine Ct.intro0 G_ok func29 rfl rfl rfl fun E H hp => ?_
 obtain ⟨hp1, hp2⟩ := hp
 obtain ⟨l1p, b2p, c2p, b4p, c4p, l11p, b13p, c13p, rfl, h1p, h2p, w3p, h4p, w5p, w8p, h11p, h13p⟩ := gWork_rd.1 hp1
 obtain ⟨b1_1p, c1_1p, b2_1p, c2_1p, b3_1p, c3_1p, rfl, h1_1p, h2_1p, h3_1p⟩ := gQuery_rd.1 h1p
 obtain ⟨l0_11p, b1_11p, c1_11p, b4_11p, c4_11p, rfl, h0_11p, h1_11p, w2_11p, w3_11p, h4_11p⟩ := gCell_rd.1 h11p
 obtain ⟨b1_0_11p, c1_0_11p, b2_0_11p, c2_0_11p, b3_0_11p, c3_0_11p, rfl, h1_0_11p, h2_0_11p, h3_0_11p⟩ := gQuery_rd.1 h0_11p
 obtain ⟨l1q, b2q, c2q, b4q, c4q, l11q, b13q, c13q, rfl, h1q, h2q, w3q, h4q, w5q, w8q, h11q, h13q⟩ := gWork_rd.1 hp2
 obtain ⟨b1_1q, c1_1q, b2_1q, c2_1q, b3_1q, c3_1q, rfl, h1_1q, h2_1q, h3_1q⟩ := gQuery_rd.1 h1q
 obtain ⟨l0_11q, b1_11q, c1_11q, b4_11q, c4_11q, rfl, h0_11q, h1_11q, w2_11q, w3_11q, h4_11q⟩ := gCell_rd.1 h11q
 obtain ⟨b1_0_11q, c1_0_11q, b2_0_11q, c2_0_11q, b3_0_11q, c3_0_11q, rfl, h1_0_11q, h2_0_11q, h3_0_11q⟩ := gQuery_rd.1 h0_11q
 refine ⟨fun x0 => ?_⟩
 refine ⟨fun x1 => ?_⟩
 refine ⟨fun q2 => ?_, fun q2 => ?_⟩
 ·simp at q2
  exact ⟨[], ⟨by rw [decide_eq_false (fun e => by subst e; simp at *)], rfl⟩, .mem (by simp)⟩
 ·simp at q2
  refine call_val (eqQuery_ct _ _ (x.query) (y.query)) ⟨(Rp.mono _ (mem_at 0 rfl) h1p), (Rp.mono _ (mem_at 0 rfl) h1q)⟩ ?_
  rintro _ rfl
  refine ⟨fun q4 => ?_, fun q4 => ?_⟩
  ·simp at q4
   exact ⟨[], ⟨by rw [decide_eq_false (fun e => by subst e; simp at *)], rfl⟩, .mem (by simp)⟩
  ·simp at q4
   refine call_val (eqIntS_ct _ _ _ _ _ _ (x.shares) (y.shares)) ⟨(Rp.mono _ (mem_at 0 rfl) h2p), (Rp.mono _ (mem_at 0 rfl) h2q)⟩ ?_
   rintro _ rfl
   refine ⟨fun q6 => ?_, fun q6 => ?_⟩
   ·simp at q6
    exact ⟨[], ⟨by rw [decide_eq_false (fun e => by subst e; simp at *)], rfl⟩, .mem (by simp)⟩
   ·simp at q6
    refine ⟨fun q7 => ?_, fun q7 => ?_⟩
    ·simp at q7
     exact ⟨[], ⟨by rw [decide_eq_false (fun e => by subst e; simp at *)], rfl⟩, .mem (by simp)⟩
    ·simp at q7
     refine call_val (eqWalkS_ct _ _ _ _ _ _ (x.seen) (y.seen)) ⟨(Rp.mono _ (mem_at 0 rfl) h4p), (Rp.mono _ (mem_at 0 rfl) h4q)⟩ ?_
     rintro _ rfl
     refine ⟨fun q9 => ?_, fun q9 => ?_⟩
     ·simp at q9
      exact ⟨[], ⟨by rw [decide_eq_false (fun e => by subst e; simp at *)], rfl⟩, .mem (by simp)⟩
     ·simp at q9
      refine ⟨fun q10 => ?_, fun q10 => ?_⟩
      ·simp at q10
       exact ⟨[], ⟨by rw [decide_eq_false (fun e => by subst e; simp at *)], rfl⟩, .mem (by simp)⟩
      ·simp at q10
       refine ⟨fun q11 => ?_, fun q11 => ?_⟩
       ·simp at q11
        exact ⟨[], ⟨by rw [decide_eq_false (fun e => by subst e; simp at *)], rfl⟩, .mem (by simp)⟩
       ·simp at q11
        refine ⟨fun q12 => ?_, fun q12 => ?_⟩
        ·simp at q12
         exact ⟨[], ⟨by rw [decide_eq_false (fun e => by subst e; simp at *)], rfl⟩, .mem (by simp)⟩
        ·simp at q12
         refine ⟨fun q13 => ?_, fun q13 => ?_⟩
         ·simp at q13
          exact ⟨[], ⟨by rw [decide_eq_false (fun e => by subst e; simp at *)], rfl⟩, .mem (by simp)⟩
         ·simp at q13
          refine ⟨fun q14 => ?_, fun q14 => ?_⟩
          ·simp at q14
           exact ⟨[], ⟨by rw [decide_eq_false (fun e => by subst e; simp at *)], rfl⟩, .mem (by simp)⟩
          ·simp at q14
           refine ⟨fun q15 => ?_, fun q15 => ?_⟩
           ·simp at q15
            exact ⟨[], ⟨by rw [decide_eq_false (fun e => by subst e; simp at *)], rfl⟩, .mem (by simp)⟩
           ·simp at q15
            refine call_val (eqCell_ct _ _ (x.cell) (y.cell)) ⟨(Rp.mono _ (mem_at 0 rfl) h11p), (Rp.mono _ (mem_at 0 rfl) h11q)⟩ ?_
            rintro _ rfl
            refine ⟨fun q17 => ?_, fun q17 => ?_⟩
            ·simp at q17
             exact ⟨[], ⟨by rw [decide_eq_false (fun e => by subst e; simp at *)], rfl⟩, .mem (by simp)⟩
            ·simp at q17
             refine ⟨fun q18 => ?_, fun q18 => ?_⟩
             ·simp at q18
              exact ⟨[], ⟨by rw [decide_eq_false (fun e => by subst e; simp at *)], rfl⟩, .mem (by simp)⟩
             ·simp at q18
              refine call_val (eqMailS_ct _ _ _ _ _ _ (x.waits) (y.waits)) ⟨(Rp.mono _ (mem_at 0 rfl) h13p), (Rp.mono _ (mem_at 0 rfl) h13q)⟩ ?_
              rintro _ rfl
              refine ⟨fun q20 => ?_, fun q20 => ?_⟩
              ·simp at q20
               exact ⟨[], ⟨by rw [decide_eq_false (fun e => by subst e; simp at *)], rfl⟩, .mem (by simp)⟩
              ·simp at q20
               exact ⟨[], ⟨by rw [decide_eq_true (Work.eq_iff.2 (by simp_all))], rfl⟩, .mem (by simp)⟩
theorem szAsk_ct (l : List Value) (x : Ask) (left : Int) (h0 : 0 ≤ left) (h1 : left ≤ 1048576) :
  Ct prog 267 [.agg ⟨l⟩, .int .i64 left] [] (fun H => gAsk.rd H l x) (fun v A => (∃ r : Int, v = .int .i64 r ∧ ((r = -1 ∧ left < (gAsk.sz x : Int)) ∨ (r = left - (gAsk.sz x : Int) ∧ (gAsk.sz x : Int) ≤ left))) ∧ A = []) := by
 refine Ct.intro0 G_ok func267 rfl rfl rfl fun E H hp => ?_
 obtain ⟨l1, b2, c2, b4, c4, l6, rfl, h1, h2, w3, h4, h6⟩ := gAsk_rd.1 hp
 obtain ⟨b1_1, c1_1, b2_1, c2_1, b3_1, c3_1, rfl, h1_1, h2_1, h3_1⟩ := gQuery_rd.1 h1
 obtain ⟨b0_6, c0_6, rfl, h0_6⟩ := gBag_rd.1 h6
 have hz := gAsk_sz x
 refine ⟨fun x0 => ?_⟩
 refine call_q (szQuery_ct _ (x.query) _ ?_ ?_) (Rp.mono _ (mem_at 0 rfl) h1) ?_
 ·trivial
 ·trivial
 rintro _ ⟨r1, rfl, hr1⟩
 refine ⟨fun q2 => ?_, fun q2 => ?_⟩
 ·simp at q2
  exact ⟨[], ⟨⟨-1, rfl, .inl ⟨rfl, woI⟩⟩, rfl⟩, .mem (by simp)⟩
 ·simp at q2
  refine call_q (szIntS_ct _ _ _ (x.shares) _ ?_ ?_) (Rp.mono _ (mem_at 0 rfl) h2) ?_
  ·trivial
  ·omega
  rintro _ ⟨r3, rfl, hr3⟩
  refine ⟨fun q4 => ?_, fun q4 => ?_⟩
  ·simp at q4
   exact ⟨[], ⟨⟨-1, rfl, .inl ⟨rfl, woI⟩⟩, rfl⟩, .mem (by simp)⟩
  ·simp at q4
   refine call_q (szGotS_ct _ _ _ (x.results) _ ?_ ?_) (Rp.mono _ (mem_at 0 rfl) h4) ?_
   ·trivial
   ·omega
   rintro _ ⟨r5, rfl, hr5⟩
   refine ⟨fun q6 => ?_, fun q6 => ?_⟩
   ·simp at q6
    exact ⟨[], ⟨⟨-1, rfl, .inl ⟨rfl, woI⟩⟩, rfl⟩, .mem (by simp)⟩
   ·simp at q6
    refine call_q (szBag_ct _ (x.answer) _ ?_ ?_) (Rp.mono _ (mem_at 0 rfl) h6) ?_
    ·trivial
    ·omega
    rintro _ ⟨r7, rfl, hr7⟩
    refine ⟨fun q8 => ?_, fun q8 => ?_⟩
    ·simp at q8
     exact ⟨[], ⟨⟨-1, rfl, .inl ⟨rfl, woI⟩⟩, rfl⟩, .mem (by simp)⟩
    ·simp at q8
     exact ⟨[], ⟨⟨_, rfl, .inr ⟨woI, by omega⟩⟩, rfl⟩, .mem (by simp)⟩
theorem toAsk_ct (l : List Value) (x : Ask) (hx : gAsk.sz x ≤ 1048576) :
  Ct prog 278 [.agg ⟨l⟩] [] (fun H => gAsk.rd H l x) (fun v A => ∃ l, v = .agg ⟨l⟩ ∧ gAsk.ow l x A) := by
 refine Ct.intro0 G_ok func278 rfl rfl rfl fun E H hp => ?_
 obtain ⟨l1, b2, c2, b4, c4, l6, rfl, h1, h2, w3, h4, h6⟩ := gAsk_rd.1 hp
 obtain ⟨b1_1, c1_1, b2_1, c2_1, b3_1, c3_1, rfl, h1_1, h2_1, h3_1⟩ := gQuery_rd.1 h1
 obtain ⟨b0_6, c0_6, rfl, h0_6⟩ := gBag_rd.1 h6
 have hz := gAsk_sz x
 refine ⟨fun x0 => ?_⟩
 refine ⟨fun x1 => ?_⟩
 refine ⟨fun x2 => ?_⟩
 refine call_new (toQuery_ct _ (x.query) ?_) (Rp.mono _ (mem_at 0 rfl) h1) ?_
 ·omega
 rintro v3 A3 o3
 obtain ⟨l3, rfl, o3⟩ := o3
 have r3 := Gt.owrd _ o3
 obtain ⟨b1x3, c1x3, b2x3, c2x3, b3x3, c3x3, rfl, h1x3, h2x3, h3x3⟩ := gQuery_rd.1 r3
 refine call_new (toIntS_ct _ _ _ (x.shares) ?_) (Rp.mono _ (mem_at 1 rfl) h2) ?_
 ·omega
 rintro v4 A4 o4
 obtain ⟨b4, c4, rfl, o4⟩ := o4
 refine call_new (toGotS_ct _ _ _ (x.results) ?_) (Rp.mono _ (mem_at 2 rfl) h4) ?_
 ·omega
 rintro v5 A5 o5
 obtain ⟨b5, c5, rfl, o5⟩ := o5
 refine call_new (toBag_ct _ (x.answer) ?_) (Rp.mono _ (mem_at 3 rfl) h6) ?_
 ·omega
 rintro v6 A6 o6
 obtain ⟨l6, rfl, o6⟩ := o6
 have r6 := Gt.owrd _ o6
 obtain ⟨b0x6, c0x6, rfl, h0x6⟩ := gBag_rd.1 r6
 exact ⟨_, ⟨_, rfl, gAsk_ow.2 ⟨_, _, _, _, _, _, _, _, _, _, rfl, .refl _, by assumption, by assumption, by assumption, by assumption, by assumption⟩⟩, rlA⟩
theorem eqAsk_ct (l1 l2 : List Value) (x y : Ask) :
  Ct prog 287 [.agg ⟨l1⟩, .agg ⟨l2⟩] [] (fun H => gAsk.rd H l1 x ∧ gAsk.rd H l2 y) (fun v A => v = .bool (decide (x = y)) ∧ A = []) := by
 refine Ct.intro0 G_ok func287 rfl rfl rfl fun E H hp => ?_
 obtain ⟨hp1, hp2⟩ := hp
 obtain ⟨l1p, b2p, c2p, b4p, c4p, l6p, rfl, h1p, h2p, w3p, h4p, h6p⟩ := gAsk_rd.1 hp1
 obtain ⟨b1_1p, c1_1p, b2_1p, c2_1p, b3_1p, c3_1p, rfl, h1_1p, h2_1p, h3_1p⟩ := gQuery_rd.1 h1p
 obtain ⟨b0_6p, c0_6p, rfl, h0_6p⟩ := gBag_rd.1 h6p
 obtain ⟨l1q, b2q, c2q, b4q, c4q, l6q, rfl, h1q, h2q, w3q, h4q, h6q⟩ := gAsk_rd.1 hp2
 obtain ⟨b1_1q, c1_1q, b2_1q, c2_1q, b3_1q, c3_1q, rfl, h1_1q, h2_1q, h3_1q⟩ := gQuery_rd.1 h1q
 obtain ⟨b0_6q, c0_6q, rfl, h0_6q⟩ := gBag_rd.1 h6q
 refine ⟨fun x0 => ?_⟩
 refine ⟨fun x1 => ?_⟩
 refine ⟨fun q2 => ?_, fun q2 => ?_⟩
 ·simp at q2
  exact ⟨[], ⟨by rw [decide_eq_false (fun e => by subst e; simp at *)], rfl⟩, .mem (by simp)⟩
 ·simp at q2
  refine call_val (eqQuery_ct _ _ (x.query) (y.query)) ⟨(Rp.mono _ (mem_at 0 rfl) h1p), (Rp.mono _ (mem_at 0 rfl) h1q)⟩ ?_
  rintro _ rfl
  refine ⟨fun q4 => ?_, fun q4 => ?_⟩
  ·simp at q4
   exact ⟨[], ⟨by rw [decide_eq_false (fun e => by subst e; simp at *)], rfl⟩, .mem (by simp)⟩
  ·simp at q4
   refine call_val (eqIntS_ct _ _ _ _ _ _ (x.shares) (y.shares)) ⟨(Rp.mono _ (mem_at 0 rfl) h2p), (Rp.mono _ (mem_at 0 rfl) h2q)⟩ ?_
   rintro _ rfl
   refine ⟨fun q6 => ?_, fun q6 => ?_⟩
   ·simp at q6
    exact ⟨[], ⟨by rw [decide_eq_false (fun e => by subst e; simp at *)], rfl⟩, .mem (by simp)⟩
   ·simp at q6
    refine ⟨fun q7 => ?_, fun q7 => ?_⟩
    ·simp at q7
     exact ⟨[], ⟨by rw [decide_eq_false (fun e => by subst e; simp at *)], rfl⟩, .mem (by simp)⟩
    ·simp at q7
     refine call_val (eqGotS_ct _ _ _ _ _ _ (x.results) (y.results)) ⟨(Rp.mono _ (mem_at 0 rfl) h4p), (Rp.mono _ (mem_at 0 rfl) h4q)⟩ ?_
     rintro _ rfl
     refine ⟨fun q9 => ?_, fun q9 => ?_⟩
     ·simp at q9
      exact ⟨[], ⟨by rw [decide_eq_false (fun e => by subst e; simp at *)], rfl⟩, .mem (by simp)⟩
     ·simp at q9
      refine ⟨fun q10 => ?_, fun q10 => ?_⟩
      ·simp at q10
       exact ⟨[], ⟨by rw [decide_eq_false (fun e => by subst e; simp at *)], rfl⟩, .mem (by simp)⟩
      ·simp at q10
       refine call_val (eqBag_ct _ _ (x.answer) (y.answer)) ⟨(Rp.mono _ (mem_at 0 rfl) h6p), (Rp.mono _ (mem_at 0 rfl) h6q)⟩ ?_
       rintro _ rfl
       refine ⟨fun q12 => ?_, fun q12 => ?_⟩
       ·simp at q12
        exact ⟨[], ⟨by rw [decide_eq_false (fun e => by subst e; simp at *)], rfl⟩, .mem (by simp)⟩
       ·simp at q12
        exact ⟨[], ⟨by rw [decide_eq_true (Ask.eq_iff.2 (by simp_all))], rfl⟩, .mem (by simp)⟩
theorem szLinkS_ct (b : Option Addr) (m c : Nat) (xs : List Link) (left : Int) (h0 : 0 ≤ left) (h1 : left ≤ 1048576) :
  Ct prog 266 [.slice b m c, .int .i64 left] [] (fun H => (gSl 421 gLink).rd H [.slice b m c] xs) (fun v A => (∃ r : Int, v = .int .i64 r ∧ ((r = -1 ∧ left < (szL gLink xs : Int)) ∨ (r = left - (szL gLink xs : Int) ∧ (szL gLink xs : Int) ≤ left))) ∧ A = []) := by
 refine Ct.intro0 G_ok func266 rfl rfl rfl fun E H hp => ?_
 obtain ⟨rfl, hcl, hl⟩ := sl_len hp
 have hq := szL_eq gLink xs
 have ht := List.take_length (l := xs)
 refine ⟨fun q0 => ?_, fun q0 => ?_⟩
 ·simp at q0
  simp (disch := omega) only [wrap_of] at q0
  exact ⟨[], ⟨⟨-1, rfl, .inl ⟨rfl, woI⟩⟩, rfl⟩, .mem (by simp)⟩
 ·simp at q0
  simp (disch := omega) only [wrap_of] at q0
  apply loop_mod (α := (Nat) × (Int)) G_ok [12, 13, 14, 15, 18, 19, 20, 21, 22, 23, 1, 24, 25, 4, 16, 17, 5] (fun z => [(5, .v (.int .i64 z.1)), (1, .v (.int .i64 z.2))]) (fun z => []) (fun z => [H]) (fun z => xs.length - z.1) (fun z => z.1 ≤ xs.length ∧ z.2 = left - xs.length - szE gLink (xs.take z.1) ∧ 0 ≤ z.2) ((0, left - xs.length))
  ·repeat' (first | exact trivial | refine ⟨⟨_, rfl, by first | rfl | exact inc_eq _ (by omega) | (refine sl_eq ?_; simp; done) | (simp (disch := omega) only [wrap_of]), by first | exact trivial | simp [SV.ok]⟩, ?_⟩)
  ·exact trivial
  ·try dsimp only
   exact ⟨by omega, by simp [szE], by omega⟩
  ·exact .refl _
  rintro ⟨k, lf⟩ hI
  try dsimp only at hI
  obtain ⟨hk, hlf, hnn⟩ := hI
  try dsimp only
  refine ⟨fun q1 => ?_, fun q1 => ?_⟩
  ·simp at q1
   have hs := szE_step gLink xs k default (by omega)
   have hs2 := szE_le gLink xs (k + 1)
   refine idx_rd hp ?_ ?_ fun b2 o2 hb2 => ?_
   ·omega
   ·omega
   refine load_allN default (k) rfl hp ?_ ?_ hb2 rfl (mem_at 0 rfl) fun l3 hl3 => ?_
   ·omega
   ·omega
   obtain ⟨b0x3, c0x3, rfl, h0x3, w1x3, w2x3⟩ := gLink_rd.1 hl3
   refine call_q (szLink_ct _ (xs[k]?.getD default) _ ?_ ?_) (Rp.mono _ (mem_at 0 rfl) hl3) ?_
   ·trivial
   ·omega
   rintro _ ⟨r4, rfl, hr4⟩
   refine ⟨fun q5 => ?_, fun q5 => ?_⟩
   ·simp at q5
    exact ⟨[], ⟨⟨-1, rfl, .inl ⟨rfl, woI⟩⟩, rfl⟩, .mem (by simp)⟩
   ·simp at q5
    apply loop_stepA (k + 1, _)
    ·exact .refl _
    ·repeat' (first | exact trivial | refine ⟨⟨_, rfl, by first | rfl | exact inc_eq _ (by omega) | (refine sl_eq ?_; simp; done) | (simp (disch := omega) only [wrap_of]), by first | exact trivial | simp [SV.ok]⟩, ?_⟩)
    ·exact trivial
    ·try dsimp only
     ((try simp (disch := omega) only [wrap_of] at *); refine ⟨by omega, by omega, by omega⟩)
    try dsimp only
    omega
  ·simp at q1
   obtain rfl : k = xs.length := by omega
   rw [List.take_length] at hlf
   exact ⟨[], ⟨⟨_, rfl, .inr ⟨woI, by omega⟩⟩, rfl⟩, .mem (by simp)⟩
theorem toLinkS_ct (b : Option Addr) (m c : Nat) (xs : List Link) (hx : szL gLink xs ≤ 1048576) :
  Ct prog 277 [.slice b m c] [] (fun H => (gSl 421 gLink).rd H [.slice b m c] xs) (fun v A => ∃ b c, v = .slice b xs.length c ∧ (gSl 421 gLink).ow [.slice b xs.length c] xs A) := by
 refine Ct.intro0 G_ok func277 rfl rfl rfl fun E H hp => ?_
 obtain ⟨rfl, hcl, hl⟩ := sl_len hp
 have hls := len_szL gLink xs
 have hq := szL_eq gLink xs
 refine VCmake.intro ?_ ?_ ?_ ?_ fun x0 => ?_
 ·omega
 ·omega
 ·omega
 ·omega
 apply loop_mod (α := (Nat) × (Hp)) G_ok [8, 9, 10, 11, 14, 15, 16, 17, 18, 19, 20, 21, 12, 13, 4] (fun z => [(4, .v (.int .i64 z.1))]) (fun z => []) (fun z => [z.2, H]) (fun z => xs.length - z.1) (fun z => z.1 ≤ xs.length ∧ (gSl 421 gLink).ow [.slice (some ⟨x0, 0, none⟩) xs.length xs.length] (xs.take z.1 ++ List.replicate (xs.length - z.1) zLink) z.2) ((0, _))
 ·exact frI
 ·exact trivial
 ·try dsimp only
  exact ⟨by omega, by simpa using gmake (g := gLink) (T := 421) (b := x0) (zLink_ow) (Nat.le_refl xs.length) (by omega)⟩
 ·exact .refl _
 rintro ⟨k, A⟩ hI
 try dsimp only at hI
 obtain ⟨hk, oA⟩ := hI
 try dsimp only
 refine ⟨fun q1 => ?_, fun q1 => ?_⟩
 ·simp at q1
  have hs := szE_step gLink xs k default (by omega)
  have hs2 := szE_le gLink xs (k + 1)
  refine idx_rd hp ?_ ?_ fun b2 o2 hb2 => ?_
  ·omega
  ·omega
  refine load_allN default (k) rfl hp ?_ ?_ hb2 rfl (mem_at 1 rfl) fun l3 hl3 => ?_
  ·omega
  ·omega
  obtain ⟨b0x3, c0x3, rfl, h0x3, w1x3, w2x3⟩ := gLink_rd.1 hl3
  refine call_new (toLink_ct _ (xs[k]?.getD default) ?_) (Rp.mono _ (mem_at 1 rfl) hl3) ?_
  ·omega
  rintro v4 A4 o4
  obtain ⟨l4, rfl, o4⟩ := o4
  have r4 := Gt.owrd _ o4
  obtain ⟨b0x4, c0x4, rfl, h0x4, w1x4, w2x4⟩ := gLink_rd.1 r4
  refine idx_rd (Gt.owrd _ oA) ?_ ?_ fun b5 o5 hb5 => ?_
  ·omega
  ·simp; omega
  refine gstore1N (k) (A) (A4) [H] rlA rfl oA ?_ ?_ hb5 rfl _ o4 fun A6 o6 => ?_
  ·omega
  ·simp; omega
  apply loop_stepA (k + 1, _)
  ·exact .refl _
  ·exact frI
  ·exact trivial
  ·try dsimp only
   exact ⟨by omega, by rw [← take_stepz xs k default zLink (by omega)] ; assumption⟩
  try dsimp only
  omega
 ·simp at q1
  obtain rfl : k = xs.length := by omega
  rw [List.take_length, Nat.sub_self, List.replicate_zero, List.append_nil] at oA
  exact ⟨_, ⟨_, _, rfl, oA⟩, rlA⟩
theorem eqLinkS_ct (b1 : Option Addr) (m1 c1 : Nat) (b2 : Option Addr) (m2 c2 : Nat) (xs ys : List Link) :
  Ct prog 286 [.slice b1 m1 c1, .slice b2 m2 c2] [] (fun H => (gSl 421 gLink).rd H [.slice b1 m1 c1] xs ∧ (gSl 421 gLink).rd H [.slice b2 m2 c2] ys) (fun v A => v = .bool (decide (xs = ys)) ∧ A = []) := by
 refine Ct.intro0 G_ok func286 rfl rfl rfl fun E H hp => ?_
 obtain ⟨hp1, hp2⟩ := hp
 obtain ⟨rfl, hc1, hl1⟩ := sl_len hp1
 obtain ⟨rfl, hc2, hl2⟩ := sl_len hp2
 refine ⟨fun q0 => ?_, fun q0 => ?_⟩
 ·simp at q0
  exact ⟨[], ⟨by rw [decide_eq_false (fun e => by subst e; omega)], rfl⟩, .mem (by simp)⟩
 ·simp at q0
  apply loop_mod (α := (Nat)) G_ok [11, 12, 13, 14, 17, 18, 19, 20, 21, 22, 23, 24, 25, 26, 4, 15, 16, 5] (fun z => [(5, .v (.int .i64 z))]) (fun z => []) (fun z => [H]) (fun z => xs.length - z) (fun z => z ≤ xs.length ∧ xs.take z = ys.take z) (0)
  ·exact frI
  ·exact trivial
  ·exact ⟨by omega, by simp⟩
  ·exact .refl _
  rintro k hI
  obtain ⟨hk, he⟩ : k ≤ xs.length ∧ xs.take k = ys.take k := hI
  try dsimp only
  refine ⟨fun q1 => ?_, fun q1 => ?_⟩
  ·simp at q1
   refine draw G_ok mixed none (.q 0 (.q 1 (.q 2 (.q 3 (.q 4 (.q 5 (.q 6 (.q 7 (.f 8 (.q 9 (.nil))))))))))) (by decide +kernel) ?_
   refine idx_rd hp1 ?_ ?_ fun b2 o2 hb2 => ?_
   ·omega
   ·omega
   refine load_allN default (k) rfl hp1 ?_ ?_ hb2 rfl (mem_at 0 rfl) fun l3 hl3 => ?_
   ·omega
   ·omega
   obtain ⟨b0x3, c0x3, rfl, h0x3, w1x3, w2x3⟩ := gLink_rd.1 hl3
   refine idx_rd hp2 ?_ ?_ fun b4 o4 hb4 => ?_
   ·omega
   ·omega
   refine load_allN default (k) rfl hp2 ?_ ?_ hb4 rfl (mem_at 0 rfl) fun l5 hl5 => ?_
   ·omega
   ·omega
   obtain ⟨b0x5, c0x5, rfl, h0x5, w1x5, w2x5⟩ := gLink_rd.1 hl5
   refine call_val (eqLink_ct _ _ (xs[k]?.getD default) (ys[k]?.getD default)) ⟨(Rp.mono _ (mem_at 0 rfl) hl3), (Rp.mono _ (mem_at 0 rfl) hl5)⟩ ?_
   rintro _ rfl
   refine VC.intro ?_ ?_
   ·exact fun _ h => h
   refine ⟨fun q7 => ?_, fun q7 => ?_⟩
   ·simp at q7
    exact ⟨[], ⟨by rw [decide_eq_false (fun e => by subst e; simp at *)], rfl⟩, .mem (by simp)⟩
   ·simp at q7
    apply loop_stepA (k + 1)
    ·exact .refl _
    ·exact frI
    ·exact trivial
    ·exact ⟨by omega, eq_step default (by omega) he (by omega) (by simpa using ‹_›)⟩
    omega
  ·simp at q1
   exact ⟨[], ⟨by rw [decide_eq_true]; rw [← List.take_length (l := xs), ← List.take_length (l := ys), ← (by omega : xs.length = ys.length), show xs.length = k by omega]; exact he, rfl⟩, .mem (by simp)⟩
theorem szNode_ct (l : List Value) (x : Node) (left : Int) (h0 : 0 ≤ left) (h1 : left ≤ 1048576) :
  Ct prog 186 [.agg ⟨l⟩, .int .i64 left] [] (fun H => gNode.rd H l x) (fun v A => (∃ r : Int, v = .int .i64 r ∧ ((r = -1 ∧ left < (gNode.sz x : Int)) ∨ (r = left - (gNode.sz x : Int) ∧ (gNode.sz x : Int) ≤ left))) ∧ A = []) := by
 refine Ct.intro0 G_ok func186 rfl rfl rfl fun E H hp => ?_
 obtain ⟨l2, b5, c5, l6, l7, rfl, w0, h2, w3, h5, h6, h7⟩ := gNode_rd.1 hp
 obtain ⟨b0_2, c0_2, rfl, h0_2⟩ := gDisk_rd.1 h2
 obtain ⟨l1_6, b2_6, c2_6, b4_6, c4_6, l11_6, b13_6, c13_6, rfl, h1_6, h2_6, w3_6, h4_6, w5_6, w8_6, h11_6, h13_6⟩ := gWork_rd.1 h6
 obtain ⟨b1_1_6, c1_1_6, b2_1_6, c2_1_6, b3_1_6, c3_1_6, rfl, h1_1_6, h2_1_6, h3_1_6⟩ := gQuery_rd.1 h1_6
 obtain ⟨l0_11_6, b1_11_6, c1_11_6, b4_11_6, c4_11_6, rfl, h0_11_6, h1_11_6, w2_11_6, w3_11_6, h4_11_6⟩ := gCell_rd.1 h11_6
 obtain ⟨b1_0_11_6, c1_0_11_6, b2_0_11_6, c2_0_11_6, b3_0_11_6, c3_0_11_6, rfl, h1_0_11_6, h2_0_11_6, h3_0_11_6⟩ := gQuery_rd.1 h0_11_6
 obtain ⟨l1_7, b2_7, c2_7, b4_7, c4_7, l6_7, rfl, h1_7, h2_7, w3_7, h4_7, h6_7⟩ := gAsk_rd.1 h7
 obtain ⟨b1_1_7, c1_1_7, b2_1_7, c2_1_7, b3_1_7, c3_1_7, rfl, h1_1_7, h2_1_7, h3_1_7⟩ := gQuery_rd.1 h1_7
 obtain ⟨b0_6_7, c0_6_7, rfl, h0_6_7⟩ := gBag_rd.1 h6_7
 have hz := gNode_sz x
 refine ⟨fun x0 => ?_⟩
 refine call_q (szDisk_ct _ (x.disk) _ ?_ ?_) (Rp.mono _ (mem_at 0 rfl) h2) ?_
 ·trivial
 ·trivial
 rintro _ ⟨r1, rfl, hr1⟩
 refine ⟨fun q2 => ?_, fun q2 => ?_⟩
 ·simp at q2
  exact ⟨[], ⟨⟨-1, rfl, .inl ⟨rfl, woI⟩⟩, rfl⟩, .mem (by simp)⟩
 ·simp at q2
  refine call_q (szLinkS_ct _ _ _ (x.links) _ ?_ ?_) (Rp.mono _ (mem_at 0 rfl) h5) ?_
  ·trivial
  ·omega
  rintro _ ⟨r3, rfl, hr3⟩
  refine ⟨fun q4 => ?_, fun q4 => ?_⟩
  ·simp at q4
   exact ⟨[], ⟨⟨-1, rfl, .inl ⟨rfl, woI⟩⟩, rfl⟩, .mem (by simp)⟩
  ·simp at q4
   refine call_q (szWork_ct _ (x.work) _ ?_ ?_) (Rp.mono _ (mem_at 0 rfl) h6) ?_
   ·trivial
   ·omega
   rintro _ ⟨r5, rfl, hr5⟩
   refine ⟨fun q6 => ?_, fun q6 => ?_⟩
   ·simp at q6
    exact ⟨[], ⟨⟨-1, rfl, .inl ⟨rfl, woI⟩⟩, rfl⟩, .mem (by simp)⟩
   ·simp at q6
    refine call_q (szAsk_ct _ (x.ask) _ ?_ ?_) (Rp.mono _ (mem_at 0 rfl) h7) ?_
    ·trivial
    ·omega
    rintro _ ⟨r7, rfl, hr7⟩
    refine ⟨fun q8 => ?_, fun q8 => ?_⟩
    ·simp at q8
     exact ⟨[], ⟨⟨-1, rfl, .inl ⟨rfl, woI⟩⟩, rfl⟩, .mem (by simp)⟩
    ·simp at q8
     exact ⟨[], ⟨⟨_, rfl, .inr ⟨woI, by omega⟩⟩, rfl⟩, .mem (by simp)⟩
theorem toNode_ct (l : List Value) (x : Node) (hx : gNode.sz x ≤ 1048576) :
  Ct prog 194 [.agg ⟨l⟩] [] (fun H => gNode.rd H l x) (fun v A => ∃ l, v = .agg ⟨l⟩ ∧ gNode.ow l x A) := by
 refine Ct.intro0 G_ok func194 rfl rfl rfl fun E H hp => ?_
 obtain ⟨l2, b5, c5, l6, l7, rfl, w0, h2, w3, h5, h6, h7⟩ := gNode_rd.1 hp
 obtain ⟨b0_2, c0_2, rfl, h0_2⟩ := gDisk_rd.1 h2
 obtain ⟨l1_6, b2_6, c2_6, b4_6, c4_6, l11_6, b13_6, c13_6, rfl, h1_6, h2_6, w3_6, h4_6, w5_6, w8_6, h11_6, h13_6⟩ := gWork_rd.1 h6
 obtain ⟨b1_1_6, c1_1_6, b2_1_6, c2_1_6, b3_1_6, c3_1_6, rfl, h1_1_6, h2_1_6, h3_1_6⟩ := gQuery_rd.1 h1_6
 obtain ⟨l0_11_6, b1_11_6, c1_11_6, b4_11_6, c4_11_6, rfl, h0_11_6, h1_11_6, w2_11_6, w3_11_6, h4_11_6⟩ := gCell_rd.1 h11_6
 obtain ⟨b1_0_11_6, c1_0_11_6, b2_0_11_6, c2_0_11_6, b3_0_11_6, c3_0_11_6, rfl, h1_0_11_6, h2_0_11_6, h3_0_11_6⟩ := gQuery_rd.1 h0_11_6
 obtain ⟨l1_7, b2_7, c2_7, b4_7, c4_7, l6_7, rfl, h1_7, h2_7, w3_7, h4_7, h6_7⟩ := gAsk_rd.1 h7
 obtain ⟨b1_1_7, c1_1_7, b2_1_7, c2_1_7, b3_1_7, c3_1_7, rfl, h1_1_7, h2_1_7, h3_1_7⟩ := gQuery_rd.1 h1_7
 obtain ⟨b0_6_7, c0_6_7, rfl, h0_6_7⟩ := gBag_rd.1 h6_7
 have hz := gNode_sz x
 refine ⟨fun x0 => ?_⟩
 refine ⟨fun x1 => ?_⟩
 refine ⟨fun x2 => ?_⟩
 refine call_new (toDisk_ct _ (x.disk) ?_) (Rp.mono _ (mem_at 0 rfl) h2) ?_
 ·omega
 rintro v3 A3 o3
 obtain ⟨l3, rfl, o3⟩ := o3
 have r3 := Gt.owrd _ o3
 obtain ⟨b0x3, c0x3, rfl, h0x3⟩ := gDisk_rd.1 r3
 refine call_new (toLinkS_ct _ _ _ (x.links) ?_) (Rp.mono _ (mem_at 1 rfl) h5) ?_
 ·omega
 rintro v4 A4 o4
 obtain ⟨b4, c4, rfl, o4⟩ := o4
 refine call_new (toWork_ct _ (x.work) ?_) (Rp.mono _ (mem_at 2 rfl) h6) ?_
 ·omega
 rintro v5 A5 o5
 obtain ⟨l5, rfl, o5⟩ := o5
 have r5 := Gt.owrd _ o5
 obtain ⟨l1x5, b2x5, c2x5, b4x5, c4x5, l11x5, b13x5, c13x5, rfl, h1x5, h2x5, w3x5, h4x5, w5x5, w8x5, h11x5, h13x5⟩ := gWork_rd.1 r5
 obtain ⟨b1_1x5, c1_1x5, b2_1x5, c2_1x5, b3_1x5, c3_1x5, rfl, h1_1x5, h2_1x5, h3_1x5⟩ := gQuery_rd.1 h1x5
 obtain ⟨l0_11x5, b1_11x5, c1_11x5, b4_11x5, c4_11x5, rfl, h0_11x5, h1_11x5, w2_11x5, w3_11x5, h4_11x5⟩ := gCell_rd.1 h11x5
 obtain ⟨b1_0_11x5, c1_0_11x5, b2_0_11x5, c2_0_11x5, b3_0_11x5, c3_0_11x5, rfl, h1_0_11x5, h2_0_11x5, h3_0_11x5⟩ := gQuery_rd.1 h0_11x5
 refine call_new (toAsk_ct _ (x.ask) ?_) (Rp.mono _ (mem_at 3 rfl) h7) ?_
 ·omega
 rintro v6 A6 o6
 obtain ⟨l6, rfl, o6⟩ := o6
 have r6 := Gt.owrd _ o6
 obtain ⟨l1x6, b2x6, c2x6, b4x6, c4x6, l6x6, rfl, h1x6, h2x6, w3x6, h4x6, h6x6⟩ := gAsk_rd.1 r6
 obtain ⟨b1_1x6, c1_1x6, b2_1x6, c2_1x6, b3_1x6, c3_1x6, rfl, h1_1x6, h2_1x6, h3_1x6⟩ := gQuery_rd.1 h1x6
 obtain ⟨b0_6x6, c0_6x6, rfl, h0_6x6⟩ := gBag_rd.1 h6x6
 exact ⟨_, ⟨_, rfl, gNode_ow.2 ⟨_, _, _, _, _, _, _, _, _, rfl, .refl _, by assumption, by assumption, by assumption, by assumption, by assumption, by assumption⟩⟩, rlA⟩
theorem eqNode_ct (l1 l2 : List Value) (x y : Node) :
  Ct prog 207 [.agg ⟨l1⟩, .agg ⟨l2⟩] [] (fun H => gNode.rd H l1 x ∧ gNode.rd H l2 y) (fun v A => v = .bool (decide (x = y)) ∧ A = []) := by
 refine Ct.intro0 G_ok func207 rfl rfl rfl fun E H hp => ?_
 obtain ⟨hp1, hp2⟩ := hp
 obtain ⟨l2p, b5p, c5p, l6p, l7p, rfl, w0p, h2p, w3p, h5p, h6p, h7p⟩ := gNode_rd.1 hp1
 obtain ⟨b0_2p, c0_2p, rfl, h0_2p⟩ := gDisk_rd.1 h2p
 obtain ⟨l1_6p, b2_6p, c2_6p, b4_6p, c4_6p, l11_6p, b13_6p, c13_6p, rfl, h1_6p, h2_6p, w3_6p, h4_6p, w5_6p, w8_6p, h11_6p, h13_6p⟩ := gWork_rd.1 h6p
 obtain ⟨b1_1_6p, c1_1_6p, b2_1_6p, c2_1_6p, b3_1_6p, c3_1_6p, rfl, h1_1_6p, h2_1_6p, h3_1_6p⟩ := gQuery_rd.1 h1_6p
 obtain ⟨l0_11_6p, b1_11_6p, c1_11_6p, b4_11_6p, c4_11_6p, rfl, h0_11_6p, h1_11_6p, w2_11_6p, w3_11_6p, h4_11_6p⟩ := gCell_rd.1 h11_6p
 obtain ⟨b1_0_11_6p, c1_0_11_6p, b2_0_11_6p, c2_0_11_6p, b3_0_11_6p, c3_0_11_6p, rfl, h1_0_11_6p, h2_0_11_6p, h3_0_11_6p⟩ := gQuery_rd.1 h0_11_6p
 obtain ⟨l1_7p, b2_7p, c2_7p, b4_7p, c4_7p, l6_7p, rfl, h1_7p, h2_7p, w3_7p, h4_7p, h6_7p⟩ := gAsk_rd.1 h7p
 obtain ⟨b1_1_7p, c1_1_7p, b2_1_7p, c2_1_7p, b3_1_7p, c3_1_7p, rfl, h1_1_7p, h2_1_7p, h3_1_7p⟩ := gQuery_rd.1 h1_7p
 obtain ⟨b0_6_7p, c0_6_7p, rfl, h0_6_7p⟩ := gBag_rd.1 h6_7p
 obtain ⟨l2q, b5q, c5q, l6q, l7q, rfl, w0q, h2q, w3q, h5q, h6q, h7q⟩ := gNode_rd.1 hp2
 obtain ⟨b0_2q, c0_2q, rfl, h0_2q⟩ := gDisk_rd.1 h2q
 obtain ⟨l1_6q, b2_6q, c2_6q, b4_6q, c4_6q, l11_6q, b13_6q, c13_6q, rfl, h1_6q, h2_6q, w3_6q, h4_6q, w5_6q, w8_6q, h11_6q, h13_6q⟩ := gWork_rd.1 h6q
 obtain ⟨b1_1_6q, c1_1_6q, b2_1_6q, c2_1_6q, b3_1_6q, c3_1_6q, rfl, h1_1_6q, h2_1_6q, h3_1_6q⟩ := gQuery_rd.1 h1_6q
 obtain ⟨l0_11_6q, b1_11_6q, c1_11_6q, b4_11_6q, c4_11_6q, rfl, h0_11_6q, h1_11_6q, w2_11_6q, w3_11_6q, h4_11_6q⟩ := gCell_rd.1 h11_6q
 obtain ⟨b1_0_11_6q, c1_0_11_6q, b2_0_11_6q, c2_0_11_6q, b3_0_11_6q, c3_0_11_6q, rfl, h1_0_11_6q, h2_0_11_6q, h3_0_11_6q⟩ := gQuery_rd.1 h0_11_6q
 obtain ⟨l1_7q, b2_7q, c2_7q, b4_7q, c4_7q, l6_7q, rfl, h1_7q, h2_7q, w3_7q, h4_7q, h6_7q⟩ := gAsk_rd.1 h7q
 obtain ⟨b1_1_7q, c1_1_7q, b2_1_7q, c2_1_7q, b3_1_7q, c3_1_7q, rfl, h1_1_7q, h2_1_7q, h3_1_7q⟩ := gQuery_rd.1 h1_7q
 obtain ⟨b0_6_7q, c0_6_7q, rfl, h0_6_7q⟩ := gBag_rd.1 h6_7q
 refine ⟨fun x0 => ?_⟩
 refine ⟨fun x1 => ?_⟩
 refine ⟨fun q2 => ?_, fun q2 => ?_⟩
 ·simp at q2
  exact ⟨[], ⟨by rw [decide_eq_false (fun e => by subst e; simp at *)], rfl⟩, .mem (by simp)⟩
 ·simp at q2
  refine ⟨fun q3 => ?_, fun q3 => ?_⟩
  ·simp at q3
   exact ⟨[], ⟨by rw [decide_eq_false (fun e => by subst e; simp at *)], rfl⟩, .mem (by simp)⟩
  ·simp at q3
   refine call_val (eqDisk_ct _ _ (x.disk) (y.disk)) ⟨(Rp.mono _ (mem_at 0 rfl) h2p), (Rp.mono _ (mem_at 0 rfl) h2q)⟩ ?_
   rintro _ rfl
   refine ⟨fun q5 => ?_, fun q5 => ?_⟩
   ·simp at q5
    exact ⟨[], ⟨by rw [decide_eq_false (fun e => by subst e; simp at *)], rfl⟩, .mem (by simp)⟩
   ·simp at q5
    refine ⟨fun q6 => ?_, fun q6 => ?_⟩
    ·simp at q6
     exact ⟨[], ⟨by rw [decide_eq_false (fun e => by subst e; simp at *)], rfl⟩, .mem (by simp)⟩
    ·simp at q6
     refine ⟨fun q7 => ?_, fun q7 => ?_⟩
     ·simp at q7
      exact ⟨[], ⟨by rw [decide_eq_false (fun e => by subst e; simp at *)], rfl⟩, .mem (by simp)⟩
     ·simp at q7
      refine call_val (eqLinkS_ct _ _ _ _ _ _ (x.links) (y.links)) ⟨(Rp.mono _ (mem_at 0 rfl) h5p), (Rp.mono _ (mem_at 0 rfl) h5q)⟩ ?_
      rintro _ rfl
      refine ⟨fun q9 => ?_, fun q9 => ?_⟩
      ·simp at q9
       exact ⟨[], ⟨by rw [decide_eq_false (fun e => by subst e; simp at *)], rfl⟩, .mem (by simp)⟩
      ·simp at q9
       refine call_val (eqWork_ct _ _ (x.work) (y.work)) ⟨(Rp.mono _ (mem_at 0 rfl) h6p), (Rp.mono _ (mem_at 0 rfl) h6q)⟩ ?_
       rintro _ rfl
       refine ⟨fun q11 => ?_, fun q11 => ?_⟩
       ·simp at q11
        exact ⟨[], ⟨by rw [decide_eq_false (fun e => by subst e; simp at *)], rfl⟩, .mem (by simp)⟩
       ·simp at q11
        refine call_val (eqAsk_ct _ _ (x.ask) (y.ask)) ⟨(Rp.mono _ (mem_at 0 rfl) h7p), (Rp.mono _ (mem_at 0 rfl) h7q)⟩ ?_
        rintro _ rfl
        refine ⟨fun q13 => ?_, fun q13 => ?_⟩
        ·simp at q13
         exact ⟨[], ⟨by rw [decide_eq_false (fun e => by subst e; simp at *)], rfl⟩, .mem (by simp)⟩
        ·simp at q13
         exact ⟨[], ⟨by rw [decide_eq_true (Node.eq_iff.2 (by simp_all))], rfl⟩, .mem (by simp)⟩
theorem szNodeS_ct (b : Option Addr) (m c : Nat) (xs : List Node) (left : Int) (h0 : 0 ≤ left) (h1 : left ≤ 1048576) :
  Ct prog 101 [.slice b m c, .int .i64 left] [] (fun H => (gSl 158 gNode).rd H [.slice b m c] xs) (fun v A => (∃ r : Int, v = .int .i64 r ∧ ((r = -1 ∧ left < (szL gNode xs : Int)) ∨ (r = left - (szL gNode xs : Int) ∧ (szL gNode xs : Int) ≤ left))) ∧ A = []) := by
 refine Ct.intro0 G_ok func101 rfl rfl rfl fun E H hp => ?_
 obtain ⟨rfl, hcl, hl⟩ := sl_len hp
 have hq := szL_eq gNode xs
 have ht := List.take_length (l := xs)
 refine ⟨fun q0 => ?_, fun q0 => ?_⟩
 ·simp at q0
  simp (disch := omega) only [wrap_of] at q0
  exact ⟨[], ⟨⟨-1, rfl, .inl ⟨rfl, woI⟩⟩, rfl⟩, .mem (by simp)⟩
 ·simp at q0
  simp (disch := omega) only [wrap_of] at q0
  apply loop_mod (α := (Nat) × (Int)) G_ok [12, 13, 14, 15, 18, 19, 20, 21, 22, 23, 1, 24, 25, 4, 16, 17, 5] (fun z => [(5, .v (.int .i64 z.1)), (1, .v (.int .i64 z.2))]) (fun z => []) (fun z => [H]) (fun z => xs.length - z.1) (fun z => z.1 ≤ xs.length ∧ z.2 = left - xs.length - szE gNode (xs.take z.1) ∧ 0 ≤ z.2) ((0, left - xs.length))
  ·repeat' (first | exact trivial | refine ⟨⟨_, rfl, by first | rfl | exact inc_eq _ (by omega) | (refine sl_eq ?_; simp; done) | (simp (disch := omega) only [wrap_of]), by first | exact trivial | simp [SV.ok]⟩, ?_⟩)
  ·exact trivial
  ·try dsimp only
   exact ⟨by omega, by simp [szE], by omega⟩
  ·exact .refl _
  rintro ⟨k, lf⟩ hI
  try dsimp only at hI
  obtain ⟨hk, hlf, hnn⟩ := hI
  try dsimp only
  refine ⟨fun q1 => ?_, fun q1 => ?_⟩
  ·simp at q1
   have hs := szE_step gNode xs k default (by omega)
   have hs2 := szE_le gNode xs (k + 1)
   refine idx_rd hp ?_ ?_ fun b2 o2 hb2 => ?_
   ·omega
   ·omega
   refine load_allN default (k) rfl hp ?_ ?_ hb2 rfl (mem_at 0 rfl) fun l3 hl3 => ?_
   ·omega
   ·omega
   obtain ⟨l2x3, b5x3, c5x3, l6x3, l7x3, rfl, w0x3, h2x3, w3x3, h5x3, h6x3, h7x3⟩ := gNode_rd.1 hl3 ; obtain ⟨b0_2x3, c0_2x3, rfl, h0_2x3⟩ := gDisk_rd.1 h2x3 ; obtain ⟨l1_6x3, b2_6x3, c2_6x3, b4_6x3, c4_6x3, l11_6x3, b13_6x3, c13_6x3, rfl, h1_6x3, h2_6x3, w3_6x3, h4_6x3, w5_6x3, w8_6x3, h11_6x3, h13_6x3⟩ := gWork_rd.1 h6x3 ; obtain ⟨b1_1_6x3, c1_1_6x3, b2_1_6x3, c2_1_6x3, b3_1_6x3, c3_1_6x3, rfl, h1_1_6x3, h2_1_6x3, h3_1_6x3⟩ := gQuery_rd.1 h1_6x3 ; obtain ⟨l0_11_6x3, b1_11_6x3, c1_11_6x3, b4_11_6x3, c4_11_6x3, rfl, h0_11_6x3, h1_11_6x3, w2_11_6x3, w3_11_6x3, h4_11_6x3⟩ := gCell_rd.1 h11_6x3 ; obtain ⟨b1_0_11_6x3, c1_0_11_6x3, b2_0_11_6x3, c2_0_11_6x3, b3_0_11_6x3, c3_0_11_6x3, rfl, h1_0_11_6x3, h2_0_11_6x3, h3_0_11_6x3⟩ := gQuery_rd.1 h0_11_6x3 ; obtain ⟨l1_7x3, b2_7x3, c2_7x3, b4_7x3, c4_7x3, l6_7x3, rfl, h1_7x3, h2_7x3, w3_7x3, h4_7x3, h6_7x3⟩ := gAsk_rd.1 h7x3 ; obtain ⟨b1_1_7x3, c1_1_7x3, b2_1_7x3, c2_1_7x3, b3_1_7x3, c3_1_7x3, rfl, h1_1_7x3, h2_1_7x3, h3_1_7x3⟩ := gQuery_rd.1 h1_7x3 ; obtain ⟨b0_6_7x3, c0_6_7x3, rfl, h0_6_7x3⟩ := gBag_rd.1 h6_7x3
   refine call_q (szNode_ct _ (xs[k]?.getD default) _ ?_ ?_) (Rp.mono _ (mem_at 0 rfl) hl3) ?_
   ·trivial
   ·omega
   rintro _ ⟨r4, rfl, hr4⟩
   refine ⟨fun q5 => ?_, fun q5 => ?_⟩
   ·simp at q5
    exact ⟨[], ⟨⟨-1, rfl, .inl ⟨rfl, woI⟩⟩, rfl⟩, .mem (by simp)⟩
   ·simp at q5
    apply loop_stepA (k + 1, _)
    ·exact .refl _
    ·repeat' (first | exact trivial | refine ⟨⟨_, rfl, by first | rfl | exact inc_eq _ (by omega) | (refine sl_eq ?_; simp; done) | (simp (disch := omega) only [wrap_of]), by first | exact trivial | simp [SV.ok]⟩, ?_⟩)
    ·exact trivial
    ·try dsimp only
     ((try simp (disch := omega) only [wrap_of] at *); refine ⟨by omega, by omega, by omega⟩)
    try dsimp only
    omega
  ·simp at q1
   obtain rfl : k = xs.length := by omega
   rw [List.take_length] at hlf
   exact ⟨[], ⟨⟨_, rfl, .inr ⟨woI, by omega⟩⟩, rfl⟩, .mem (by simp)⟩
theorem toNodeS_ct (b : Option Addr) (m c : Nat) (xs : List Node) (hx : szL gNode xs ≤ 1048576) :
  Ct prog 110 [.slice b m c] [] (fun H => (gSl 158 gNode).rd H [.slice b m c] xs) (fun v A => ∃ b c, v = .slice b xs.length c ∧ (gSl 158 gNode).ow [.slice b xs.length c] xs A) := by
 refine Ct.intro0 G_ok func110 rfl rfl rfl fun E H hp => ?_
 obtain ⟨rfl, hcl, hl⟩ := sl_len hp
 have hls := len_szL gNode xs
 have hq := szL_eq gNode xs
 refine VCmake.intro ?_ ?_ ?_ ?_ fun x0 => ?_
 ·omega
 ·omega
 ·omega
 ·omega
 apply loop_mod (α := (Nat) × (Hp)) G_ok [8, 9, 10, 11, 14, 15, 16, 17, 18, 19, 20, 21, 12, 13, 4] (fun z => [(4, .v (.int .i64 z.1))]) (fun z => []) (fun z => [z.2, H]) (fun z => xs.length - z.1) (fun z => z.1 ≤ xs.length ∧ (gSl 158 gNode).ow [.slice (some ⟨x0, 0, none⟩) xs.length xs.length] (xs.take z.1 ++ List.replicate (xs.length - z.1) zNode) z.2) ((0, _))
 ·exact frI
 ·exact trivial
 ·try dsimp only
  exact ⟨by omega, by simpa using gmake (g := gNode) (T := 158) (b := x0) (zNode_ow) (Nat.le_refl xs.length) (by omega)⟩
 ·exact .refl _
 rintro ⟨k, A⟩ hI
 try dsimp only at hI
 obtain ⟨hk, oA⟩ := hI
 try dsimp only
 refine ⟨fun q1 => ?_, fun q1 => ?_⟩
 ·simp at q1
  have hs := szE_step gNode xs k default (by omega)
  have hs2 := szE_le gNode xs (k + 1)
  refine idx_rd hp ?_ ?_ fun b2 o2 hb2 => ?_
  ·omega
  ·omega
  refine load_allN default (k) rfl hp ?_ ?_ hb2 rfl (mem_at 1 rfl) fun l3 hl3 => ?_
  ·omega
  ·omega
  obtain ⟨l2x3, b5x3, c5x3, l6x3, l7x3, rfl, w0x3, h2x3, w3x3, h5x3, h6x3, h7x3⟩ := gNode_rd.1 hl3 ; obtain ⟨b0_2x3, c0_2x3, rfl, h0_2x3⟩ := gDisk_rd.1 h2x3 ; obtain ⟨l1_6x3, b2_6x3, c2_6x3, b4_6x3, c4_6x3, l11_6x3, b13_6x3, c13_6x3, rfl, h1_6x3, h2_6x3, w3_6x3, h4_6x3, w5_6x3, w8_6x3, h11_6x3, h13_6x3⟩ := gWork_rd.1 h6x3 ; obtain ⟨b1_1_6x3, c1_1_6x3, b2_1_6x3, c2_1_6x3, b3_1_6x3, c3_1_6x3, rfl, h1_1_6x3, h2_1_6x3, h3_1_6x3⟩ := gQuery_rd.1 h1_6x3 ; obtain ⟨l0_11_6x3, b1_11_6x3, c1_11_6x3, b4_11_6x3, c4_11_6x3, rfl, h0_11_6x3, h1_11_6x3, w2_11_6x3, w3_11_6x3, h4_11_6x3⟩ := gCell_rd.1 h11_6x3 ; obtain ⟨b1_0_11_6x3, c1_0_11_6x3, b2_0_11_6x3, c2_0_11_6x3, b3_0_11_6x3, c3_0_11_6x3, rfl, h1_0_11_6x3, h2_0_11_6x3, h3_0_11_6x3⟩ := gQuery_rd.1 h0_11_6x3 ; obtain ⟨l1_7x3, b2_7x3, c2_7x3, b4_7x3, c4_7x3, l6_7x3, rfl, h1_7x3, h2_7x3, w3_7x3, h4_7x3, h6_7x3⟩ := gAsk_rd.1 h7x3 ; obtain ⟨b1_1_7x3, c1_1_7x3, b2_1_7x3, c2_1_7x3, b3_1_7x3, c3_1_7x3, rfl, h1_1_7x3, h2_1_7x3, h3_1_7x3⟩ := gQuery_rd.1 h1_7x3 ; obtain ⟨b0_6_7x3, c0_6_7x3, rfl, h0_6_7x3⟩ := gBag_rd.1 h6_7x3
  refine call_new (toNode_ct _ (xs[k]?.getD default) ?_) (Rp.mono _ (mem_at 1 rfl) hl3) ?_
  ·omega
  rintro v4 A4 o4
  obtain ⟨l4, rfl, o4⟩ := o4
  have r4 := Gt.owrd _ o4
  obtain ⟨l2x4, b5x4, c5x4, l6x4, l7x4, rfl, w0x4, h2x4, w3x4, h5x4, h6x4, h7x4⟩ := gNode_rd.1 r4
  obtain ⟨b0_2x4, c0_2x4, rfl, h0_2x4⟩ := gDisk_rd.1 h2x4
  obtain ⟨l1_6x4, b2_6x4, c2_6x4, b4_6x4, c4_6x4, l11_6x4, b13_6x4, c13_6x4, rfl, h1_6x4, h2_6x4, w3_6x4, h4_6x4, w5_6x4, w8_6x4, h11_6x4, h13_6x4⟩ := gWork_rd.1 h6x4
  obtain ⟨b1_1_6x4, c1_1_6x4, b2_1_6x4, c2_1_6x4, b3_1_6x4, c3_1_6x4, rfl, h1_1_6x4, h2_1_6x4, h3_1_6x4⟩ := gQuery_rd.1 h1_6x4
  obtain ⟨l0_11_6x4, b1_11_6x4, c1_11_6x4, b4_11_6x4, c4_11_6x4, rfl, h0_11_6x4, h1_11_6x4, w2_11_6x4, w3_11_6x4, h4_11_6x4⟩ := gCell_rd.1 h11_6x4
  obtain ⟨b1_0_11_6x4, c1_0_11_6x4, b2_0_11_6x4, c2_0_11_6x4, b3_0_11_6x4, c3_0_11_6x4, rfl, h1_0_11_6x4, h2_0_11_6x4, h3_0_11_6x4⟩ := gQuery_rd.1 h0_11_6x4
  obtain ⟨l1_7x4, b2_7x4, c2_7x4, b4_7x4, c4_7x4, l6_7x4, rfl, h1_7x4, h2_7x4, w3_7x4, h4_7x4, h6_7x4⟩ := gAsk_rd.1 h7x4
  obtain ⟨b1_1_7x4, c1_1_7x4, b2_1_7x4, c2_1_7x4, b3_1_7x4, c3_1_7x4, rfl, h1_1_7x4, h2_1_7x4, h3_1_7x4⟩ := gQuery_rd.1 h1_7x4
  obtain ⟨b0_6_7x4, c0_6_7x4, rfl, h0_6_7x4⟩ := gBag_rd.1 h6_7x4
  refine idx_rd (Gt.owrd _ oA) ?_ ?_ fun b5 o5 hb5 => ?_
  ·omega
  ·simp; omega
  refine gstore1N (k) (A) (A4) [H] rlA rfl oA ?_ ?_ hb5 rfl _ o4 fun A6 o6 => ?_
  ·omega
  ·simp; omega
  apply loop_stepA (k + 1, _)
  ·exact .refl _
  ·exact frI
  ·exact trivial
  ·try dsimp only
   exact ⟨by omega, by rw [← take_stepz xs k default zNode (by omega)] ; assumption⟩
  try dsimp only
  omega
 ·simp at q1
  obtain rfl : k = xs.length := by omega
  rw [List.take_length, Nat.sub_self, List.replicate_zero, List.append_nil] at oA
  exact ⟨_, ⟨_, _, rfl, oA⟩, rlA⟩
theorem eqNodeS_ct (b1 : Option Addr) (m1 c1 : Nat) (b2 : Option Addr) (m2 c2 : Nat) (xs ys : List Node) :
  Ct prog 118 [.slice b1 m1 c1, .slice b2 m2 c2] [] (fun H => (gSl 158 gNode).rd H [.slice b1 m1 c1] xs ∧ (gSl 158 gNode).rd H [.slice b2 m2 c2] ys) (fun v A => v = .bool (decide (xs = ys)) ∧ A = []) := by
 refine Ct.intro0 G_ok func118 rfl rfl rfl fun E H hp => ?_
 obtain ⟨hp1, hp2⟩ := hp
 obtain ⟨rfl, hc1, hl1⟩ := sl_len hp1
 obtain ⟨rfl, hc2, hl2⟩ := sl_len hp2
 refine ⟨fun q0 => ?_, fun q0 => ?_⟩
 ·simp at q0
  exact ⟨[], ⟨by rw [decide_eq_false (fun e => by subst e; omega)], rfl⟩, .mem (by simp)⟩
 ·simp at q0
  apply loop_mod (α := (Nat)) G_ok [11, 12, 13, 14, 17, 18, 19, 20, 21, 22, 23, 24, 25, 26, 4, 15, 16, 5] (fun z => [(5, .v (.int .i64 z))]) (fun z => []) (fun z => [H]) (fun z => xs.length - z) (fun z => z ≤ xs.length ∧ xs.take z = ys.take z) (0)
  ·exact frI
  ·exact trivial
  ·exact ⟨by omega, by simp⟩
  ·exact .refl _
  rintro k hI
  obtain ⟨hk, he⟩ : k ≤ xs.length ∧ xs.take k = ys.take k := hI
  try dsimp only
  refine ⟨fun q1 => ?_, fun q1 => ?_⟩
  ·simp at q1
   refine draw G_ok mixed none (.q 0 (.q 1 (.q 2 (.q 3 (.q 4 (.q 5 (.q 6 (.q 7 (.f 8 (.q 9 (.nil))))))))))) (by decide +kernel) ?_
   refine idx_rd hp1 ?_ ?_ fun b2 o2 hb2 => ?_
   ·omega
   ·omega
   refine load_allN default (k) rfl hp1 ?_ ?_ hb2 rfl (mem_at 0 rfl) fun l3 hl3 => ?_
   ·omega
   ·omega
   obtain ⟨l2x3, b5x3, c5x3, l6x3, l7x3, rfl, w0x3, h2x3, w3x3, h5x3, h6x3, h7x3⟩ := gNode_rd.1 hl3 ; obtain ⟨b0_2x3, c0_2x3, rfl, h0_2x3⟩ := gDisk_rd.1 h2x3 ; obtain ⟨l1_6x3, b2_6x3, c2_6x3, b4_6x3, c4_6x3, l11_6x3, b13_6x3, c13_6x3, rfl, h1_6x3, h2_6x3, w3_6x3, h4_6x3, w5_6x3, w8_6x3, h11_6x3, h13_6x3⟩ := gWork_rd.1 h6x3 ; obtain ⟨b1_1_6x3, c1_1_6x3, b2_1_6x3, c2_1_6x3, b3_1_6x3, c3_1_6x3, rfl, h1_1_6x3, h2_1_6x3, h3_1_6x3⟩ := gQuery_rd.1 h1_6x3 ; obtain ⟨l0_11_6x3, b1_11_6x3, c1_11_6x3, b4_11_6x3, c4_11_6x3, rfl, h0_11_6x3, h1_11_6x3, w2_11_6x3, w3_11_6x3, h4_11_6x3⟩ := gCell_rd.1 h11_6x3 ; obtain ⟨b1_0_11_6x3, c1_0_11_6x3, b2_0_11_6x3, c2_0_11_6x3, b3_0_11_6x3, c3_0_11_6x3, rfl, h1_0_11_6x3, h2_0_11_6x3, h3_0_11_6x3⟩ := gQuery_rd.1 h0_11_6x3 ; obtain ⟨l1_7x3, b2_7x3, c2_7x3, b4_7x3, c4_7x3, l6_7x3, rfl, h1_7x3, h2_7x3, w3_7x3, h4_7x3, h6_7x3⟩ := gAsk_rd.1 h7x3 ; obtain ⟨b1_1_7x3, c1_1_7x3, b2_1_7x3, c2_1_7x3, b3_1_7x3, c3_1_7x3, rfl, h1_1_7x3, h2_1_7x3, h3_1_7x3⟩ := gQuery_rd.1 h1_7x3 ; obtain ⟨b0_6_7x3, c0_6_7x3, rfl, h0_6_7x3⟩ := gBag_rd.1 h6_7x3
   refine idx_rd hp2 ?_ ?_ fun b4 o4 hb4 => ?_
   ·omega
   ·omega
   refine load_allN default (k) rfl hp2 ?_ ?_ hb4 rfl (mem_at 0 rfl) fun l5 hl5 => ?_
   ·omega
   ·omega
   obtain ⟨l2x5, b5x5, c5x5, l6x5, l7x5, rfl, w0x5, h2x5, w3x5, h5x5, h6x5, h7x5⟩ := gNode_rd.1 hl5 ; obtain ⟨b0_2x5, c0_2x5, rfl, h0_2x5⟩ := gDisk_rd.1 h2x5 ; obtain ⟨l1_6x5, b2_6x5, c2_6x5, b4_6x5, c4_6x5, l11_6x5, b13_6x5, c13_6x5, rfl, h1_6x5, h2_6x5, w3_6x5, h4_6x5, w5_6x5, w8_6x5, h11_6x5, h13_6x5⟩ := gWork_rd.1 h6x5 ; obtain ⟨b1_1_6x5, c1_1_6x5, b2_1_6x5, c2_1_6x5, b3_1_6x5, c3_1_6x5, rfl, h1_1_6x5, h2_1_6x5, h3_1_6x5⟩ := gQuery_rd.1 h1_6x5 ; obtain ⟨l0_11_6x5, b1_11_6x5, c1_11_6x5, b4_11_6x5, c4_11_6x5, rfl, h0_11_6x5, h1_11_6x5, w2_11_6x5, w3_11_6x5, h4_11_6x5⟩ := gCell_rd.1 h11_6x5 ; obtain ⟨b1_0_11_6x5, c1_0_11_6x5, b2_0_11_6x5, c2_0_11_6x5, b3_0_11_6x5, c3_0_11_6x5, rfl, h1_0_11_6x5, h2_0_11_6x5, h3_0_11_6x5⟩ := gQuery_rd.1 h0_11_6x5 ; obtain ⟨l1_7x5, b2_7x5, c2_7x5, b4_7x5, c4_7x5, l6_7x5, rfl, h1_7x5, h2_7x5, w3_7x5, h4_7x5, h6_7x5⟩ := gAsk_rd.1 h7x5 ; obtain ⟨b1_1_7x5, c1_1_7x5, b2_1_7x5, c2_1_7x5, b3_1_7x5, c3_1_7x5, rfl, h1_1_7x5, h2_1_7x5, h3_1_7x5⟩ := gQuery_rd.1 h1_7x5 ; obtain ⟨b0_6_7x5, c0_6_7x5, rfl, h0_6_7x5⟩ := gBag_rd.1 h6_7x5
   refine call_val (eqNode_ct _ _ (xs[k]?.getD default) (ys[k]?.getD default)) ⟨(Rp.mono _ (mem_at 0 rfl) hl3), (Rp.mono _ (mem_at 0 rfl) hl5)⟩ ?_
   rintro _ rfl
   refine VC.intro ?_ ?_
   ·exact fun _ h => h
   refine ⟨fun q7 => ?_, fun q7 => ?_⟩
   ·simp at q7
    exact ⟨[], ⟨by rw [decide_eq_false (fun e => by subst e; simp at *)], rfl⟩, .mem (by simp)⟩
   ·simp at q7
    apply loop_stepA (k + 1)
    ·exact .refl _
    ·exact frI
    ·exact trivial
    ·exact ⟨by omega, eq_step default (by omega) he (by omega) (by simpa using ‹_›)⟩
    omega
  ·simp at q1
   exact ⟨[], ⟨by rw [decide_eq_true]; rw [← List.take_length (l := xs), ← List.take_length (l := ys), ← (by omega : xs.length = ys.length), show xs.length = k by omega]; exact he, rfl⟩, .mem (by simp)⟩
theorem szBagS_ct (b : Option Addr) (m c : Nat) (xs : List Bag) (left : Int) (h0 : 0 ≤ left) (h1 : left ≤ 1048576) :
  Ct prog 102 [.slice b m c, .int .i64 left] [] (fun H => (gSl 33 gBag).rd H [.slice b m c] xs) (fun v A => (∃ r : Int, v = .int .i64 r ∧ ((r = -1 ∧ left < (szL gBag xs : Int)) ∨ (r = left - (szL gBag xs : Int) ∧ (szL gBag xs : Int) ≤ left))) ∧ A = []) := by
 refine Ct.intro0 G_ok func102 rfl rfl rfl fun E H hp => ?_
 obtain ⟨rfl, hcl, hl⟩ := sl_len hp
 have hq := szL_eq gBag xs
 have ht := List.take_length (l := xs)
 refine ⟨fun q0 => ?_, fun q0 => ?_⟩
 ·simp at q0
  simp (disch := omega) only [wrap_of] at q0
  exact ⟨[], ⟨⟨-1, rfl, .inl ⟨rfl, woI⟩⟩, rfl⟩, .mem (by simp)⟩
 ·simp at q0
  simp (disch := omega) only [wrap_of] at q0
  apply loop_mod (α := (Nat) × (Int)) G_ok [12, 13, 14, 15, 18, 19, 20, 21, 22, 23, 1, 24, 25, 4, 16, 17, 5] (fun z => [(5, .v (.int .i64 z.1)), (1, .v (.int .i64 z.2))]) (fun z => []) (fun z => [H]) (fun z => xs.length - z.1) (fun z => z.1 ≤ xs.length ∧ z.2 = left - xs.length - szE gBag (xs.take z.1) ∧ 0 ≤ z.2) ((0, left - xs.length))
  ·repeat' (first | exact trivial | refine ⟨⟨_, rfl, by first | rfl | exact inc_eq _ (by omega) | (refine sl_eq ?_; simp; done) | (simp (disch := omega) only [wrap_of]), by first | exact trivial | simp [SV.ok]⟩, ?_⟩)
  ·exact trivial
  ·try dsimp only
   exact ⟨by omega, by simp [szE], by omega⟩
  ·exact .refl _
  rintro ⟨k, lf⟩ hI
  try dsimp only at hI
  obtain ⟨hk, hlf, hnn⟩ := hI
  try dsimp only
  refine ⟨fun q1 => ?_, fun q1 => ?_⟩
  ·simp at q1
   have hs := szE_step gBag xs k default (by omega)
   have hs2 := szE_le gBag xs (k + 1)
   refine idx_rd hp ?_ ?_ fun b2 o2 hb2 => ?_
   ·omega
   ·omega
   refine load_allN default (k) rfl hp ?_ ?_ hb2 rfl (mem_at 0 rfl) fun l3 hl3 => ?_
   ·omega
   ·omega
   obtain ⟨b0x3, c0x3, rfl, h0x3⟩ := gBag_rd.1 hl3
   refine call_q (szBag_ct _ (xs[k]?.getD default) _ ?_ ?_) (Rp.mono _ (mem_at 0 rfl) hl3) ?_
   ·trivial
   ·omega
   rintro _ ⟨r4, rfl, hr4⟩
   refine ⟨fun q5 => ?_, fun q5 => ?_⟩
   ·simp at q5
    exact ⟨[], ⟨⟨-1, rfl, .inl ⟨rfl, woI⟩⟩, rfl⟩, .mem (by simp)⟩
   ·simp at q5
    apply loop_stepA (k + 1, _)
    ·exact .refl _
    ·repeat' (first | exact trivial | refine ⟨⟨_, rfl, by first | rfl | exact inc_eq _ (by omega) | (refine sl_eq ?_; simp; done) | (simp (disch := omega) only [wrap_of]), by first | exact trivial | simp [SV.ok]⟩, ?_⟩)
    ·exact trivial
    ·try dsimp only
     ((try simp (disch := omega) only [wrap_of] at *); refine ⟨by omega, by omega, by omega⟩)
    try dsimp only
    omega
  ·simp at q1
   obtain rfl : k = xs.length := by omega
   rw [List.take_length] at hlf
   exact ⟨[], ⟨⟨_, rfl, .inr ⟨woI, by omega⟩⟩, rfl⟩, .mem (by simp)⟩
theorem toBagS_ct (b : Option Addr) (m c : Nat) (xs : List Bag) (hx : szL gBag xs ≤ 1048576) :
  Ct prog 111 [.slice b m c] [] (fun H => (gSl 33 gBag).rd H [.slice b m c] xs) (fun v A => ∃ b c, v = .slice b xs.length c ∧ (gSl 33 gBag).ow [.slice b xs.length c] xs A) := by
 refine Ct.intro0 G_ok func111 rfl rfl rfl fun E H hp => ?_
 obtain ⟨rfl, hcl, hl⟩ := sl_len hp
 have hls := len_szL gBag xs
 have hq := szL_eq gBag xs
 refine VCmake.intro ?_ ?_ ?_ ?_ fun x0 => ?_
 ·omega
 ·omega
 ·omega
 ·omega
 apply loop_mod (α := (Nat) × (Hp)) G_ok [8, 9, 10, 11, 14, 15, 16, 17, 18, 19, 20, 21, 12, 13, 4] (fun z => [(4, .v (.int .i64 z.1))]) (fun z => []) (fun z => [z.2, H]) (fun z => xs.length - z.1) (fun z => z.1 ≤ xs.length ∧ (gSl 33 gBag).ow [.slice (some ⟨x0, 0, none⟩) xs.length xs.length] (xs.take z.1 ++ List.replicate (xs.length - z.1) zBag) z.2) ((0, _))
 ·exact frI
 ·exact trivial
 ·try dsimp only
  exact ⟨by omega, by simpa using gmake (g := gBag) (T := 33) (b := x0) (zBag_ow) (Nat.le_refl xs.length) (by omega)⟩
 ·exact .refl _
 rintro ⟨k, A⟩ hI
 try dsimp only at hI
 obtain ⟨hk, oA⟩ := hI
 try dsimp only
 refine ⟨fun q1 => ?_, fun q1 => ?_⟩
 ·simp at q1
  have hs := szE_step gBag xs k default (by omega)
  have hs2 := szE_le gBag xs (k + 1)
  refine idx_rd hp ?_ ?_ fun b2 o2 hb2 => ?_
  ·omega
  ·omega
  refine load_allN default (k) rfl hp ?_ ?_ hb2 rfl (mem_at 1 rfl) fun l3 hl3 => ?_
  ·omega
  ·omega
  obtain ⟨b0x3, c0x3, rfl, h0x3⟩ := gBag_rd.1 hl3
  refine call_new (toBag_ct _ (xs[k]?.getD default) ?_) (Rp.mono _ (mem_at 1 rfl) hl3) ?_
  ·omega
  rintro v4 A4 o4
  obtain ⟨l4, rfl, o4⟩ := o4
  have r4 := Gt.owrd _ o4
  obtain ⟨b0x4, c0x4, rfl, h0x4⟩ := gBag_rd.1 r4
  refine idx_rd (Gt.owrd _ oA) ?_ ?_ fun b5 o5 hb5 => ?_
  ·omega
  ·simp; omega
  refine gstore1N (k) (A) (A4) [H] rlA rfl oA ?_ ?_ hb5 rfl _ o4 fun A6 o6 => ?_
  ·omega
  ·simp; omega
  apply loop_stepA (k + 1, _)
  ·exact .refl _
  ·exact frI
  ·exact trivial
  ·try dsimp only
   exact ⟨by omega, by rw [← take_stepz xs k default zBag (by omega)] ; assumption⟩
  try dsimp only
  omega
 ·simp at q1
  obtain rfl : k = xs.length := by omega
  rw [List.take_length, Nat.sub_self, List.replicate_zero, List.append_nil] at oA
  exact ⟨_, ⟨_, _, rfl, oA⟩, rlA⟩
theorem eqBagS_ct (b1 : Option Addr) (m1 c1 : Nat) (b2 : Option Addr) (m2 c2 : Nat) (xs ys : List Bag) :
  Ct prog 119 [.slice b1 m1 c1, .slice b2 m2 c2] [] (fun H => (gSl 33 gBag).rd H [.slice b1 m1 c1] xs ∧ (gSl 33 gBag).rd H [.slice b2 m2 c2] ys) (fun v A => v = .bool (decide (xs = ys)) ∧ A = []) := by
 refine Ct.intro0 G_ok func119 rfl rfl rfl fun E H hp => ?_
 obtain ⟨hp1, hp2⟩ := hp
 obtain ⟨rfl, hc1, hl1⟩ := sl_len hp1
 obtain ⟨rfl, hc2, hl2⟩ := sl_len hp2
 refine ⟨fun q0 => ?_, fun q0 => ?_⟩
 ·simp at q0
  exact ⟨[], ⟨by rw [decide_eq_false (fun e => by subst e; omega)], rfl⟩, .mem (by simp)⟩
 ·simp at q0
  apply loop_mod (α := (Nat)) G_ok [11, 12, 13, 14, 17, 18, 19, 20, 21, 22, 23, 24, 25, 26, 4, 15, 16, 5] (fun z => [(5, .v (.int .i64 z))]) (fun z => []) (fun z => [H]) (fun z => xs.length - z) (fun z => z ≤ xs.length ∧ xs.take z = ys.take z) (0)
  ·exact frI
  ·exact trivial
  ·exact ⟨by omega, by simp⟩
  ·exact .refl _
  rintro k hI
  obtain ⟨hk, he⟩ : k ≤ xs.length ∧ xs.take k = ys.take k := hI
  try dsimp only
  refine ⟨fun q1 => ?_, fun q1 => ?_⟩
  ·simp at q1
   refine draw G_ok mixed none (.q 0 (.q 1 (.q 2 (.q 3 (.q 4 (.q 5 (.q 6 (.q 7 (.f 8 (.q 9 (.nil))))))))))) (by decide +kernel) ?_
   refine idx_rd hp1 ?_ ?_ fun b2 o2 hb2 => ?_
   ·omega
   ·omega
   refine load_allN default (k) rfl hp1 ?_ ?_ hb2 rfl (mem_at 0 rfl) fun l3 hl3 => ?_
   ·omega
   ·omega
   obtain ⟨b0x3, c0x3, rfl, h0x3⟩ := gBag_rd.1 hl3
   refine idx_rd hp2 ?_ ?_ fun b4 o4 hb4 => ?_
   ·omega
   ·omega
   refine load_allN default (k) rfl hp2 ?_ ?_ hb4 rfl (mem_at 0 rfl) fun l5 hl5 => ?_
   ·omega
   ·omega
   obtain ⟨b0x5, c0x5, rfl, h0x5⟩ := gBag_rd.1 hl5
   refine call_val (eqBag_ct _ _ (xs[k]?.getD default) (ys[k]?.getD default)) ⟨(Rp.mono _ (mem_at 0 rfl) hl3), (Rp.mono _ (mem_at 0 rfl) hl5)⟩ ?_
   rintro _ rfl
   refine VC.intro ?_ ?_
   ·exact fun _ h => h
   refine ⟨fun q7 => ?_, fun q7 => ?_⟩
   ·simp at q7
    exact ⟨[], ⟨by rw [decide_eq_false (fun e => by subst e; simp at *)], rfl⟩, .mem (by simp)⟩
   ·simp at q7
    apply loop_stepA (k + 1)
    ·exact .refl _
    ·exact frI
    ·exact trivial
    ·exact ⟨by omega, eq_step default (by omega) he (by omega) (by simpa using ‹_›)⟩
    omega
  ·simp at q1
   exact ⟨[], ⟨by rw [decide_eq_true]; rw [← List.take_length (l := xs), ← List.take_length (l := ys), ← (by omega : xs.length = ys.length), show xs.length = k by omega]; exact he, rfl⟩, .mem (by simp)⟩
theorem szCluster_ct (l : List Value) (x : Cluster) (left : Int) (h0 : 0 ≤ left) (h1 : left ≤ 1048576) :
  Ct prog 32 [.agg ⟨l⟩, .int .i64 left] [] (fun H => gCluster.rd H l x) (fun v A => (∃ r : Int, v = .int .i64 r ∧ ((r = -1 ∧ left < (gCluster.sz x : Int)) ∨ (r = left - (gCluster.sz x : Int) ∧ (gCluster.sz x : Int) ≤ left))) ∧ A = []) := by
 refine Ct.intro0 G_ok func32 rfl rfl rfl fun E H hp => ?_
 obtain ⟨l0, b1, c1, b2, c2, b3, c3, b4, c4, rfl, h0, h1, h2, h3, h4⟩ := gCluster_rd.1 hp
 obtain ⟨b1_0, c1_0, b2_0, c2_0, b3_0, c3_0, rfl, h1_0, h2_0, h3_0⟩ := gQuery_rd.1 h0
 have hz := gCluster_sz x
 refine ⟨fun x0 => ?_⟩
 refine call_q (szQuery_ct _ (x.query) _ ?_ ?_) (Rp.mono _ (mem_at 0 rfl) h0) ?_
 ·trivial
 ·trivial
 rintro _ ⟨r1, rfl, hr1⟩
 refine ⟨fun q2 => ?_, fun q2 => ?_⟩
 ·simp at q2
  exact ⟨[], ⟨⟨-1, rfl, .inl ⟨rfl, woI⟩⟩, rfl⟩, .mem (by simp)⟩
 ·simp at q2
  refine call_q (szNodeS_ct _ _ _ (x.nodes) _ ?_ ?_) (Rp.mono _ (mem_at 0 rfl) h1) ?_
  ·trivial
  ·omega
  rintro _ ⟨r3, rfl, hr3⟩
  refine ⟨fun q4 => ?_, fun q4 => ?_⟩
  ·simp at q4
   exact ⟨[], ⟨⟨-1, rfl, .inl ⟨rfl, woI⟩⟩, rfl⟩, .mem (by simp)⟩
  ·simp at q4
   refine call_q (szStringS_ct _ _ _ (x.net) _ ?_ ?_) (Rp.mono _ (mem_at 0 rfl) h2) ?_
   ·trivial
   ·omega
   rintro _ ⟨r5, rfl, hr5⟩
   refine ⟨fun q6 => ?_, fun q6 => ?_⟩
   ·simp at q6
    exact ⟨[], ⟨⟨-1, rfl, .inl ⟨rfl, woI⟩⟩, rfl⟩, .mem (by simp)⟩
   ·simp at q6
    refine call_q (szIntS_ct _ _ _ (x.codes) _ ?_ ?_) (Rp.mono _ (mem_at 0 rfl) h3) ?_
    ·trivial
    ·omega
    rintro _ ⟨r7, rfl, hr7⟩
    refine ⟨fun q8 => ?_, fun q8 => ?_⟩
    ·simp at q8
     exact ⟨[], ⟨⟨-1, rfl, .inl ⟨rfl, woI⟩⟩, rfl⟩, .mem (by simp)⟩
    ·simp at q8
     refine call_q (szBagS_ct _ _ _ (x.replies) _ ?_ ?_) (Rp.mono _ (mem_at 0 rfl) h4) ?_
     ·trivial
     ·omega
     rintro _ ⟨r9, rfl, hr9⟩
     refine ⟨fun q10 => ?_, fun q10 => ?_⟩
     ·simp at q10
      exact ⟨[], ⟨⟨-1, rfl, .inl ⟨rfl, woI⟩⟩, rfl⟩, .mem (by simp)⟩
     ·simp at q10
      exact ⟨[], ⟨⟨_, rfl, .inr ⟨woI, by omega⟩⟩, rfl⟩, .mem (by simp)⟩
theorem toCluster_ct (l : List Value) (x : Cluster) (hx : gCluster.sz x ≤ 1048576) :
  Ct prog 35 [.agg ⟨l⟩] [] (fun H => gCluster.rd H l x) (fun v A => ∃ l, v = .agg ⟨l⟩ ∧ gCluster.ow l x A) := by
 refine Ct.intro0 G_ok func35 rfl rfl rfl fun E H hp => ?_
 obtain ⟨l0, b1, c1, b2, c2, b3, c3, b4, c4, rfl, h0, h1, h2, h3, h4⟩ := gCluster_rd.1 hp
 obtain ⟨b1_0, c1_0, b2_0, c2_0, b3_0, c3_0, rfl, h1_0, h2_0, h3_0⟩ := gQuery_rd.1 h0
 have hz := gCluster_sz x
 refine ⟨fun x0 => ?_⟩
 refine ⟨fun x1 => ?_⟩
 refine ⟨fun x2 => ?_⟩
 refine call_new (toQuery_ct _ (x.query) ?_) (Rp.mono _ (mem_at 0 rfl) h0) ?_
 ·omega
 rintro v3 A3 o3
 obtain ⟨l3, rfl, o3⟩ := o3
 have r3 := Gt.owrd _ o3
 obtain ⟨b1x3, c1x3, b2x3, c2x3, b3x3, c3x3, rfl, h1x3, h2x3, h3x3⟩ := gQuery_rd.1 r3
 refine call_new (toNodeS_ct _ _ _ (x.nodes) ?_) (Rp.mono _ (mem_at 1 rfl) h1) ?_
 ·omega
 rintro v4 A4 o4
 obtain ⟨b4, c4, rfl, o4⟩ := o4
 refine call_new (toStringS_ct _ _ _ (x.net) ?_) (Rp.mono _ (mem_at 2 rfl) h2) ?_
 ·omega
 rintro v5 A5 o5
 obtain ⟨b5, c5, rfl, o5⟩ := o5
 refine call_new (toIntS_ct _ _ _ (x.codes) ?_) (Rp.mono _ (mem_at 3 rfl) h3) ?_
 ·omega
 rintro v6 A6 o6
 obtain ⟨b6, c6, rfl, o6⟩ := o6
 refine call_new (toBagS_ct _ _ _ (x.replies) ?_) (Rp.mono _ (mem_at 4 rfl) h4) ?_
 ·omega
 rintro v7 A7 o7
 obtain ⟨b7, c7, rfl, o7⟩ := o7
 exact ⟨_, ⟨_, rfl, gCluster_ow.2 ⟨_, _, _, _, _, _, _, _, _, _, _, _, _, _, rfl, .refl _, by assumption, by assumption, by assumption, by assumption, by assumption⟩⟩, rlA⟩
theorem eqCluster_ct (l1 l2 : List Value) (x y : Cluster) :
  Ct prog 38 [.agg ⟨l1⟩, .agg ⟨l2⟩] [] (fun H => gCluster.rd H l1 x ∧ gCluster.rd H l2 y) (fun v A => v = .bool (decide (x = y)) ∧ A = []) := by
 refine Ct.intro0 G_ok func38 rfl rfl rfl fun E H hp => ?_
 obtain ⟨hp1, hp2⟩ := hp
 obtain ⟨l0p, b1p, c1p, b2p, c2p, b3p, c3p, b4p, c4p, rfl, h0p, h1p, h2p, h3p, h4p⟩ := gCluster_rd.1 hp1
 obtain ⟨b1_0p, c1_0p, b2_0p, c2_0p, b3_0p, c3_0p, rfl, h1_0p, h2_0p, h3_0p⟩ := gQuery_rd.1 h0p
 obtain ⟨l0q, b1q, c1q, b2q, c2q, b3q, c3q, b4q, c4q, rfl, h0q, h1q, h2q, h3q, h4q⟩ := gCluster_rd.1 hp2
 obtain ⟨b1_0q, c1_0q, b2_0q, c2_0q, b3_0q, c3_0q, rfl, h1_0q, h2_0q, h3_0q⟩ := gQuery_rd.1 h0q
 refine ⟨fun x0 => ?_⟩
 refine ⟨fun x1 => ?_⟩
 refine call_val (eqQuery_ct _ _ (x.query) (y.query)) ⟨(Rp.mono _ (mem_at 0 rfl) h0p), (Rp.mono _ (mem_at 0 rfl) h0q)⟩ ?_
 rintro _ rfl
 refine ⟨fun q3 => ?_, fun q3 => ?_⟩
 ·simp at q3
  exact ⟨[], ⟨by rw [decide_eq_false (fun e => by subst e; simp at *)], rfl⟩, .mem (by simp)⟩
 ·simp at q3
  refine call_val (eqNodeS_ct _ _ _ _ _ _ (x.nodes) (y.nodes)) ⟨(Rp.mono _ (mem_at 0 rfl) h1p), (Rp.mono _ (mem_at 0 rfl) h1q)⟩ ?_
  rintro _ rfl
  refine ⟨fun q5 => ?_, fun q5 => ?_⟩
  ·simp at q5
   exact ⟨[], ⟨by rw [decide_eq_false (fun e => by subst e; simp at *)], rfl⟩, .mem (by simp)⟩
  ·simp at q5
   refine call_val (eqStringS_ct _ _ _ _ _ _ (x.net) (y.net)) ⟨(Rp.mono _ (mem_at 0 rfl) h2p), (Rp.mono _ (mem_at 0 rfl) h2q)⟩ ?_
   rintro _ rfl
   refine ⟨fun q7 => ?_, fun q7 => ?_⟩
   ·simp at q7
    exact ⟨[], ⟨by rw [decide_eq_false (fun e => by subst e; simp at *)], rfl⟩, .mem (by simp)⟩
   ·simp at q7
    refine call_val (eqIntS_ct _ _ _ _ _ _ (x.codes) (y.codes)) ⟨(Rp.mono _ (mem_at 0 rfl) h3p), (Rp.mono _ (mem_at 0 rfl) h3q)⟩ ?_
    rintro _ rfl
    refine ⟨fun q9 => ?_, fun q9 => ?_⟩
    ·simp at q9
     exact ⟨[], ⟨by rw [decide_eq_false (fun e => by subst e; simp at *)], rfl⟩, .mem (by simp)⟩
    ·simp at q9
     refine call_val (eqBagS_ct _ _ _ _ _ _ (x.replies) (y.replies)) ⟨(Rp.mono _ (mem_at 0 rfl) h4p), (Rp.mono _ (mem_at 0 rfl) h4q)⟩ ?_
     rintro _ rfl
     refine ⟨fun q11 => ?_, fun q11 => ?_⟩
     ·simp at q11
      exact ⟨[], ⟨by rw [decide_eq_false (fun e => by subst e; simp at *)], rfl⟩, .mem (by simp)⟩
     ·simp at q11
      exact ⟨[], ⟨by rw [decide_eq_true (Cluster.eq_iff.2 (by simp_all))], rfl⟩, .mem (by simp)⟩
end
section
def inR (a b n : Int) : Bool := decide (a ≤ n) && decide (n ≤ b)
theorem inR_iff {a b n : Int} : inR a b n = true ↔ a ≤ n ∧ n ≤ b := by unfold inR; simp
theorem l01In_ct (n a b : Int) : Ct prog 61 [.int .i64 n, .int .i64 a, .int .i64 b] [] (fun _ => True) (fun v A => v = .bool (inR a b n) ∧ A = []) := by
 refine Ct.intro0 G_ok func61 rfl rfl rfl fun E H hp => ?_
 refine ⟨fun q0 => ?_, fun q0 => ?_⟩
 ·simp at q0
  exact ⟨[], ⟨by unfold inR; first | rw [decide_eq_true (by omega : a ≤ n), Bool.true_and] | rw [decide_eq_false (by omega : ¬ a ≤ n), Bool.false_and], rfl⟩, .mem (by simp)⟩
 ·simp at q0
  exact ⟨[], ⟨by unfold inR; first | rw [decide_eq_true (by omega : a ≤ n), Bool.true_and] | rw [decide_eq_false (by omega : ¬ a ≤ n), Bool.false_and], rfl⟩, .mem (by simp)⟩
end
section
def by' (s : ByteArray) : List UInt8 := s.data.toList
def tx (l : List UInt8) : ByteArray := ⟨l.toArray⟩
theorem tx_by (s : ByteArray) : tx (by' s) = s := by unfold tx by'; rfl
theorem by_tx (l : List UInt8) : by' (tx l) = l := by unfold tx by'; simp
theorem by_inj {a b : ByteArray} : by' a = by' b ↔ a = b := ⟨fun h => by rw [← tx_by a, h, tx_by], fun h => by rw [h]⟩
theorem by_size (s : ByteArray) : (by' s).length = s.size := by unfold by'; simp
theorem by_get (s : ByteArray) (i : Nat) : (s[i]?).getD 0 = ((by' s)[i]?).getD 0 := by
 by_cases h : i < s.size
 ·have h2 : i < s.data.size := h
  rw [getElem?_pos s i h, List.getElem?_eq_getElem (by rw [by_size]; exact h)]
  simp [by']; rfl
 rw [getElem?_neg s i h, List.getElem?_eq_none (by rw [by_size]; omega)]
def xu (x y : Int) : Int := IntKind.u32.wrap (BitVec.ofInt IntKind.u32.bits x ^^^ BitVec.ofInt IntKind.u32.bits y).toNat
theorem u32_wrap (x : Int) : IntKind.u32.wrap x = x % 4294967296 := by
 unfold IntKind.wrap
 simp [IntKind.bits, IntKind.signed]
theorem xu_rng (x y : Int) : 0 ≤ xu x y ∧ xu x y < 4294967296 := by unfold xu; rw [u32_wrap]; omega
def bitStep (s : Int) : Int := if s % 2 = 1 then xu (s / 2) 3558460437 else s / 2
theorem bitStep_rng {s : Int} (h : 0 ≤ s ∧ s < 4294967296) : 0 ≤ bitStep s ∧ bitStep s < 4294967296 := by
 unfold bitStep; split
 ·exact xu_rng _ _
 omega
def bits : Nat → Int → Int
 | 0, s => s
 | n + 1, s => bitStep (bits n s)
theorem bits_rng {s : Int} (h : 0 ≤ s ∧ s < 4294967296) : ∀ n, 0 ≤ bits n s ∧ bits n s < 4294967296
 | 0 => h
 | n + 1 => bitStep_rng (bits_rng h n)
def byteStep (s : Int) (b : UInt8) : Int := bits 8 (xu s b.toNat)
def sumMore (s : Int) (l : List UInt8) : Int := l.foldl byteStep s
theorem byteStep_rng (s : Int) (b : UInt8) : 0 ≤ byteStep s b ∧ byteStep s b < 4294967296 := bits_rng (xu_rng _ _) 8
theorem sumMore_rng {s : Int} (h : 0 ≤ s ∧ s < 4294967296) (l : List UInt8) : 0 ≤ sumMore s l ∧ sumMore s l < 4294967296 := by
 unfold sumMore
 induction l generalizing s with
 | nil => exact h
 | cons b r ih => exact ih (byteStep_rng s b)
theorem sumMore_step (s : Int) (t : ByteArray) (k : Nat) (h : k < t.size) : sumMore s ((by' t).take (k + 1)) = byteStep (sumMore s ((by' t).take k)) ((t[k]?).getD 0) := by
 unfold sumMore
 rw [by_get, List.getElem?_eq_getElem (by rw [by_size]; exact h), ← List.take_append_getElem (by rw [by_size]; exact h), List.foldl_append]
 rfl
def sumOf (t : ByteArray) : Int := sumMore 4294967295 (by' t)
theorem sumOf_rng (t : ByteArray) : 0 ≤ sumOf t ∧ sumOf t < 4294967296 := sumMore_rng (by omega) _
theorem xu_in (S : Int) (b : UInt8) : Value.int .u32 (IntKind.u32.wrap (BitVec.ofInt IntKind.u32.bits S ^^^ BitVec.ofInt IntKind.u32.bits (IntKind.u32.wrap (b.toNat : Nat))).toNat) = Value.int .u32 (bits 0 (xu S b.toNat)) := by
 have : IntKind.u32.wrap (b.toNat : Nat) = (b.toNat : Nat) := by rw [u32_wrap]; have := b.toNat_lt; omega
 rw [this]; rfl
theorem sum_out (s : Int) (t : ByteArray) (k : Nat) (h : k < t.size) : Value.int .u32 (bits 8 (xu (sumMore s ((by' t).take k)) ((t[k]?).getD 0).toNat)) = Value.int .u32 (sumMore s ((by' t).take (k + 1))) := by
 rw [sumMore_step s t k h]; rfl
theorem and_one {s : Int} (h : 0 ≤ s ∧ s < 4294967296) : IntKind.u32.wrap (BitVec.ofInt IntKind.u32.bits s &&& BitVec.ofInt IntKind.u32.bits 1).toNat = s % 2 := by
 obtain ⟨n, rfl⟩ := Int.eq_ofNat_of_zero_le h.1
 have hn : n < 4294967296 := by omega
 rw [u32_wrap]
 show (((BitVec.ofInt 32 (n : Int) &&& BitVec.ofInt 32 1).toNat : Nat) : Int) % 4294967296 = _
 have e1 : BitVec.ofInt 32 (n : Int) = BitVec.ofNat 32 n := by simp
 have e2 : BitVec.ofInt 32 1 = BitVec.ofNat 32 1 := by decide
 rw [e1, e2, BitVec.toNat_and, BitVec.toNat_ofNat, BitVec.toNat_ofNat, Nat.mod_eq_of_lt (by omega : n < 2 ^ 32)]
 rw [show 1 % 2 ^ 32 = 1 from rfl, Nat.and_one_is_mod]
 omega
theorem bits_succ (j : Nat) (s : Int) : bits (j + 1) s = bitStep (bits j s) := rfl
theorem sum_in (s : Int) (t : ByteArray) : Value.int .u32 s = Value.int .u32 (sumMore s ((by' t).take 0)) := rfl
theorem half_i (B : Int) : B.fdiv (2 ^ min (Int.toNat 1) IntKind.u32.bits) = B / 2 := by
 rw [show (2 : Int) ^ min (Int.toNat 1) IntKind.u32.bits = 2 from by decide, Int.fdiv_eq_ediv_of_nonneg _ (by omega)]
theorem half_s {B : Int} (hB : 0 ≤ B ∧ B < 4294967296) : IntKind.u32.wrap (B.tdiv 2) = B / 2 := by
 rw [Int.tdiv_eq_ediv_of_nonneg hB.1, u32_wrap]; omega
theorem odd_i {B : Int} (h : B % 2 = 1) : Value.int .u32 (IntKind.u32.wrap (BitVec.ofInt IntKind.u32.bits (B.fdiv (2 ^ min (Int.toNat 1) IntKind.u32.bits)) ^^^ BitVec.ofInt IntKind.u32.bits 3558460437).toNat) = Value.int .u32 (bitStep B) := by
 rw [half_i]; unfold bitStep; rw [if_pos h]; rfl
theorem even_i {B : Int} (h : ¬ B % 2 = 1) : Value.int .u32 (B.fdiv (2 ^ min (Int.toNat 1) IntKind.u32.bits)) = Value.int .u32 (bitStep B) := by
 rw [half_i]; unfold bitStep; rw [if_neg h]
theorem odd_s {B : Int} (hB : 0 ≤ B ∧ B < 4294967296) (h : B % 2 = 1) : Value.int .u32 (IntKind.u32.wrap (BitVec.ofInt IntKind.u32.bits (IntKind.u32.wrap (B.tdiv 2)) ^^^ BitVec.ofInt IntKind.u32.bits 3558460437).toNat) = Value.int .u32 (bitStep B) := by
 rw [half_s hB]; unfold bitStep; rw [if_pos h]; rfl
theorem even_s {B : Int} (hB : 0 ≤ B ∧ B < 4294967296) (h : ¬ B % 2 = 1) : Value.int .u32 (IntKind.u32.wrap (B.tdiv 2)) = Value.int .u32 (bitStep B) := by
 rw [half_s hB]; unfold bitStep; rw [if_neg h]
theorem tmod2 {B : Int} (hB : 0 ≤ B ∧ B < 4294967296) : B.tmod 2 = B % 2 := Int.tmod_eq_emod_of_nonneg hB.1
attribute [irreducible] xu bits sumMore
attribute [local irreducible] IntKind.wrap
theorem implSumMore_ct (s : Int) (t : ByteArray) (hs : 0 ≤ s ∧ s < 4294967296) (ht : t.size ≤ 9223372036854775807) :
  Ct prog 330 [.int .u32 s, .string t] [] (fun _ => True) (fun v A => v = .int .u32 (sumMore s (by' t)) ∧ A = []) := by
 refine Ct.intro0 G_ok func330 rfl rfl rfl fun E H hp => ?_
 apply loop_mod (α := (Nat)) G_ok [7, 8, 9, 10, 13, 14, 15, 16, 17, 18, 0, 19, 20, 21, 22, 6, 23, 24, 25, 26, 27, 28, 29, 11, 12, 5] (fun z => [(5, .v (.int .i64 z)), (0, .v (.int .u32 (sumMore s ((by' t).take z))))]) (fun z => []) (fun z => [H]) (fun z => t.size - z) (fun z => z ≤ t.size) (0)
 ·repeat' (first | exact trivial | refine ⟨⟨_, rfl, by first | rfl | exact inc_eq _ (by omega) | (refine sl_eq ?_; simp; done) | exact xu_in _ _ | exact sum_in _ _ | (rw [bits_succ]; exact odd_i ‹_›) | (rw [bits_succ]; exact even_i ‹_›) | (rw [bits_succ]; exact odd_s hB ‹_›) | (rw [bits_succ]; exact even_s hB ‹_›) | exact sum_out s t k (by omega), by first | exact trivial | simp [SV.ok]⟩, ?_⟩)
 ·exact trivial
 ·omega
 ·exact .refl _
 rintro k hI
 obtain hk : k ≤ t.size := hI
 try dsimp only
 refine ⟨fun q0 => ?_, fun q0 => ?_⟩
 ·simp at q0
  have hS := sumMore_rng hs ((by' t).take k)
  have hX := xu_rng (sumMore s ((by' t).take k)) ((t[k]?).getD 0).toNat
  refine VC.intro ?_ ?_
  ·omega
  apply loop_mod (α := (Nat)) G_ok [20, 21, 22, 6, 23, 24, 0, 25, 26, 27, 28, 29, 19] (fun z => [(19, .v (.int .i64 z)), (0, .v (.int .u32 (bits z (xu (sumMore s ((by' t).take k)) ((t[k]?).getD 0).toNat))))]) (fun z => []) (fun z => [H]) (fun z => 8 - z) (fun z => z ≤ 8) (0)
  ·repeat' (first | exact trivial | refine ⟨⟨_, rfl, by first | rfl | exact inc_eq _ (by omega) | (refine sl_eq ?_; simp; done) | exact xu_in _ _ | exact sum_in _ _ | (rw [bits_succ]; exact odd_i ‹_›) | (rw [bits_succ]; exact even_i ‹_›) | (rw [bits_succ]; exact odd_s hB ‹_›) | (rw [bits_succ]; exact even_s hB ‹_›) | exact sum_out s t k (by omega), by first | exact trivial | simp [SV.ok]⟩, ?_⟩)
  ·exact trivial
  ·trivial
  ·exact .refl _
  rintro j hI
  obtain hj : j ≤ 8 := hI
  try dsimp only
  refine ⟨fun q1 => ?_, fun q1 => ?_⟩
  ·simp at q1
   have hB := bits_rng hX j
   refine VC.intro ?_ ?_
   ·trivial
   refine ⟨fun q2 => ?_, fun q2 => ?_⟩
   ·rw [and_one hB] at q2
    simp at q2
    apply loop_stepA (j + 1)
    ·exact .refl _
    ·repeat' (first | exact trivial | refine ⟨⟨_, rfl, by first | rfl | exact inc_eq _ (by omega) | (refine sl_eq ?_; simp; done) | exact xu_in _ _ | exact sum_in _ _ | (rw [bits_succ]; exact odd_i ‹_›) | (rw [bits_succ]; exact even_i ‹_›) | (rw [bits_succ]; exact odd_s hB ‹_›) | (rw [bits_succ]; exact even_s hB ‹_›) | exact sum_out s t k (by omega), by first | exact trivial | simp [SV.ok]⟩, ?_⟩)
    ·exact trivial
    ·omega
    omega
   ·rw [and_one hB] at q2
    simp at q2
    apply loop_stepA (j + 1)
    ·exact .refl _
    ·repeat' (first | exact trivial | refine ⟨⟨_, rfl, by first | rfl | exact inc_eq _ (by omega) | (refine sl_eq ?_; simp; done) | exact xu_in _ _ | exact sum_in _ _ | (rw [bits_succ]; exact odd_i ‹_›) | (rw [bits_succ]; exact even_i ‹_›) | (rw [bits_succ]; exact odd_s hB ‹_›) | (rw [bits_succ]; exact even_s hB ‹_›) | exact sum_out s t k (by omega), by first | exact trivial | simp [SV.ok]⟩, ?_⟩)
    ·exact trivial
    ·omega
    omega
  ·simp at q1
   obtain rfl : j = 8 := by omega
   apply loop_stepA (k + 1)
   ·exact .refl _
   ·repeat' (first | exact trivial | refine ⟨⟨_, rfl, by first | rfl | exact inc_eq _ (by omega) | (refine sl_eq ?_; simp; done) | exact xu_in _ _ | exact sum_in _ _ | (rw [bits_succ]; exact odd_i ‹_›) | (rw [bits_succ]; exact even_i ‹_›) | (rw [bits_succ]; exact odd_s hB ‹_›) | (rw [bits_succ]; exact even_s hB ‹_›) | exact sum_out s t k (by omega), by first | exact trivial | simp [SV.ok]⟩, ?_⟩)
   ·exact trivial
   ·trivial
   omega
 ·simp at q0
  obtain rfl : k = t.size := by omega
  have hF : (by' t).take t.size = by' t := by rw [← by_size, List.take_length]
  exact ⟨[], ⟨by rw [hF], rfl⟩, .mem (by simp)⟩
theorem specSumMore_ct (s : Int) (t : ByteArray) (hs : 0 ≤ s ∧ s < 4294967296) (ht : t.size ≤ 9223372036854775807) :
  Ct prog 275 [.int .u32 s, .string t] [] (fun _ => True) (fun v A => v = .int .u32 (sumMore s (by' t)) ∧ A = []) := by
 refine Ct.intro0 G_ok func275 rfl rfl rfl fun E H hp => ?_
 apply loop_mod (α := (Nat)) G_ok [8, 9, 10, 11, 14, 15, 16, 17, 18, 19, 0, 6, 20, 21, 24, 25, 26, 7, 27, 28, 29, 30, 31, 22, 23, 12, 13, 5] (fun z => [(5, .v (.int .i64 z)), (0, .v (.int .u32 (sumMore s ((by' t).take z))))]) (fun z => []) (fun z => [H]) (fun z => t.size - z) (fun z => z ≤ t.size) (0)
 ·repeat' (first | exact trivial | refine ⟨⟨_, rfl, by first | rfl | exact inc_eq _ (by omega) | (refine sl_eq ?_; simp; done) | exact xu_in _ _ | exact sum_in _ _ | (rw [bits_succ]; exact odd_i ‹_›) | (rw [bits_succ]; exact even_i ‹_›) | (rw [bits_succ]; exact odd_s hB ‹_›) | (rw [bits_succ]; exact even_s hB ‹_›) | exact sum_out s t k (by omega), by first | exact trivial | simp [SV.ok]⟩, ?_⟩)
 ·exact trivial
 ·omega
 ·exact .refl _
 rintro k hI
 obtain hk : k ≤ t.size := hI
 try dsimp only
 refine ⟨fun q0 => ?_, fun q0 => ?_⟩
 ·simp at q0
  have hS := sumMore_rng hs ((by' t).take k)
  have hX := xu_rng (sumMore s ((by' t).take k)) ((t[k]?).getD 0).toNat
  refine VC.intro ?_ ?_
  ·omega
  apply loop_mod (α := (Nat)) G_ok [20, 21, 24, 25, 26, 7, 27, 28, 0, 29, 30, 31, 22, 23, 6] (fun z => [(6, .v (.int .i64 z)), (0, .v (.int .u32 (bits z (xu (sumMore s ((by' t).take k)) ((t[k]?).getD 0).toNat))))]) (fun z => []) (fun z => [H]) (fun z => 8 - z) (fun z => z ≤ 8) (0)
  ·repeat' (first | exact trivial | refine ⟨⟨_, rfl, by first | rfl | exact inc_eq _ (by omega) | (refine sl_eq ?_; simp; done) | exact xu_in _ _ | exact sum_in _ _ | (rw [bits_succ]; exact odd_i ‹_›) | (rw [bits_succ]; exact even_i ‹_›) | (rw [bits_succ]; exact odd_s hB ‹_›) | (rw [bits_succ]; exact even_s hB ‹_›) | exact sum_out s t k (by omega), by first | exact trivial | simp [SV.ok]⟩, ?_⟩)
  ·exact trivial
  ·trivial
  ·exact .refl _
  rintro j hI
  obtain hj : j ≤ 8 := hI
  try dsimp only
  refine ⟨fun q1 => ?_, fun q1 => ?_⟩
  ·simp at q1
   have hB := bits_rng hX j
   refine VC.intro ?_ ?_
   ·trivial
   refine VC.intro ?_ ?_
   ·trivial
   refine ⟨fun q2 => ?_, fun q2 => ?_⟩
   ·rw [tmod2 hB] at q2
    simp at q2
    apply loop_stepA (j + 1)
    ·exact .refl _
    ·repeat' (first | exact trivial | refine ⟨⟨_, rfl, by first | rfl | exact inc_eq _ (by omega) | (refine sl_eq ?_; simp; done) | exact xu_in _ _ | exact sum_in _ _ | (rw [bits_succ]; exact odd_i ‹_›) | (rw [bits_succ]; exact even_i ‹_›) | (rw [bits_succ]; exact odd_s hB ‹_›) | (rw [bits_succ]; exact even_s hB ‹_›) | exact sum_out s t k (by omega), by first | exact trivial | simp [SV.ok]⟩, ?_⟩)
    ·exact trivial
    ·omega
    omega
   ·rw [tmod2 hB] at q2
    simp at q2
    apply loop_stepA (j + 1)
    ·exact .refl _
    ·repeat' (first | exact trivial | refine ⟨⟨_, rfl, by first | rfl | exact inc_eq _ (by omega) | (refine sl_eq ?_; simp; done) | exact xu_in _ _ | exact sum_in _ _ | (rw [bits_succ]; exact odd_i ‹_›) | (rw [bits_succ]; exact even_i ‹_›) | (rw [bits_succ]; exact odd_s hB ‹_›) | (rw [bits_succ]; exact even_s hB ‹_›) | exact sum_out s t k (by omega), by first | exact trivial | simp [SV.ok]⟩, ?_⟩)
    ·exact trivial
    ·omega
    omega
  ·simp at q1
   obtain rfl : j = 8 := by omega
   apply loop_stepA (k + 1)
   ·exact .refl _
   ·repeat' (first | exact trivial | refine ⟨⟨_, rfl, by first | rfl | exact inc_eq _ (by omega) | (refine sl_eq ?_; simp; done) | exact xu_in _ _ | exact sum_in _ _ | (rw [bits_succ]; exact odd_i ‹_›) | (rw [bits_succ]; exact even_i ‹_›) | (rw [bits_succ]; exact odd_s hB ‹_›) | (rw [bits_succ]; exact even_s hB ‹_›) | exact sum_out s t k (by omega), by first | exact trivial | simp [SV.ok]⟩, ?_⟩)
   ·exact trivial
   ·trivial
   omega
 ·simp at q0
  obtain rfl : k = t.size := by omega
  have hF : (by' t).take t.size = by' t := by rw [← by_size, List.take_length]
  exact ⟨[], ⟨by rw [hF], rfl⟩, .mem (by simp)⟩
end
section
attribute [local irreducible] IntKind.wrap
theorem implSumOf_ct (t : ByteArray) (ht : t.size ≤ 9223372036854775807) : Ct prog 253 [.string t] [] (fun _ => True) (fun v A => v = .int .u32 (sumOf t) ∧ A = []) := by
 refine Ct.intro0 G_ok func253 rfl rfl rfl fun E H hp => ?_
 refine call_val (implSumMore_ct _ _ ?_ ?_) trivial ?_
 ·trivial
 ·trivial
 rintro _ rfl
 exact ⟨[], ⟨rfl, rfl⟩, .mem (by simp)⟩
theorem specSumOf_ct (t : ByteArray) (ht : t.size ≤ 9223372036854775807) : Ct prog 192 [.string t] [] (fun _ => True) (fun v A => v = .int .u32 (sumOf t) ∧ A = []) := by
 refine Ct.intro0 G_ok func192 rfl rfl rfl fun E H hp => ?_
 refine call_val (specSumMore_ct _ _ ?_ ?_) trivial ?_
 ·trivial
 ·trivial
 rintro _ rfl
 exact ⟨[], ⟨rfl, rfl⟩, .mem (by simp)⟩
def varL : Nat → Nat → List UInt8
 | 0, n => [UInt8.ofNat n]
 | f + 1, n => if 127 < n then UInt8.ofNat (128 + n % 128) :: varL f (n / 128) else [UInt8.ofNat n]
def varT (n : Int) : List UInt8 := varL 9 n.toNat
def varText (n : Int) : ByteArray := tx (varT n)
theorem varL_len : ∀ f n, (varL f n).length ≤ f + 1
 | 0, n => by simp [varL]
 | f + 1, n => by
  unfold varL; split
  ·have := varL_len f (n / 128); simp only [List.length_cons]; omega
  simp
theorem varL_low (f n : Nat) (h : n ≤ 127) : varL f n = [UInt8.ofNat n] := by
 cases f with
 | zero => rfl
 | succ f => unfold varL; rw [if_neg (by omega)]
theorem varText_size (n : Int) : (varText n).size ≤ 10 := by
 rw [← by_size]; unfold varText; rw [by_tx]; exact varL_len 9 _
theorem var_b1 (q : Nat) : UInt8.ofNat (IntKind.i64.wrap (128 + (q : Int).tmod 128) % 256).toNat = UInt8.ofNat (128 + q % 128) := by
 rw [Int.tmod_eq_emod_of_nonneg (by omega), wrap_of (by omega) (by omega)]; congr 1; omega
theorem var_b1' (q : Nat) : UInt8.ofNat (IntKind.i64.wrap ((q : Int).tmod 128 + 128) % 256).toNat = UInt8.ofNat (128 + q % 128) := by
 rw [Int.tmod_eq_emod_of_nonneg (by omega), wrap_of (by omega) (by omega)]; congr 1; omega
theorem var_b2 (q : Nat) (h : q ≤ 127) : UInt8.ofNat ((q : Int) % 256).toNat = UInt8.ofNat q := by congr 1; omega
theorem var_q (q : Nat) (h : q ≤ 4611686018427387904) : Value.int .i64 (IntKind.i64.wrap ((q : Int).tdiv 128)) = Value.int .i64 ((q / 128 : Nat) : Int) := by
 rw [Int.tdiv_eq_ediv_of_nonneg (by omega), wrap_of (by omega) (by omega)]; congr 1
theorem pow128 (f q : Nat) (h : q < 128 ^ (f + 1)) (h1 : 127 < q) : ∃ f', f = f' + 1 := by
 cases f with
 | zero => simp at h; omega
 | succ f' => exact ⟨f', rfl⟩
theorem varText_ct (n : Int) (h0 : 0 ≤ n) (h1 : n ≤ 4611686018427387904) : Ct prog 254 [.int .i64 n] [] (fun _ => True) (fun v A => v = .string (varText n) ∧ A = []) := by
 refine Ct.intro0 G_ok func254 rfl rfl rfl fun E H hp => ?_
 apply loop_mod (α := (Nat) × (Nat) × (List UInt8) × (Hp) × (Option Addr) × (Nat)) G_ok [4, 5, 6, 7, 8, 9, 10, 11, 12, 3, 13, 14, 0] (fun z => [(3, .v (.slice z.2.2.2.2.1 z.2.2.1.length z.2.2.2.2.2)), (0, .v (.int .i64 z.2.1))]) (fun z => []) (fun z => [z.2.2.2.1, H]) (fun z => z.2.1) (fun z => (gSl 5 gY).ow [.slice z.2.2.2.2.1 z.2.2.1.length z.2.2.2.2.2] z.2.2.1 z.2.2.2.1 ∧ z.2.2.1 ++ varL z.1 z.2.1 = varT n ∧ z.2.1 < 128 ^ (z.1 + 1) ∧ z.2.2.1.length + z.1 ≤ 9 ∧ z.2.1 ≤ 4611686018427387904) ((9, n.toNat, [], [], none, 0))
 ·repeat' (first | exact trivial | refine ⟨⟨_, rfl, by first | rfl | exact inc_eq _ (by omega) | (refine sl_eq ?_; simp; done) | (refine svi_eq ?_; (try dsimp only); omega) | exact var_q q (by omega), by first | exact trivial | simp [SV.ok]⟩, ?_⟩)
 ·exact trivial
 ·try dsimp only
  exact ⟨sl_nil _ _ _, rfl, by omega, by simp, by omega⟩
 ·exact .refl _
 rintro ⟨f, q, o, A, b, c⟩ hI
 try dsimp only at hI
 obtain ⟨oo, hv, hq, hl, hm⟩ := hI
 try dsimp only
 refine ⟨fun q0 => ?_, fun q0 => ?_⟩
 ·simp at q0
  obtain ⟨f, rfl⟩ := pow128 f q hq (by omega)
  refine VC.intro ?_ ?_
  ·trivial
  refine ⟨fun x1 => ?_⟩
  refine gappend1 (g := gY) (T := (5 : TypeId)) G_ok A [] [H] ?_ oo (gY_owM _) (List.mem_of_getElem? (i := 0) rfl) rfl rfl rfl rfl rfl rfl rfl rfl ?_ fun b2 c2 A2 o2 => ?_
  ·exact .tl
  ·omega
  refine VC.intro ?_ ?_
  ·trivial
  apply loop_stepA (f, q / 128, _, _, _, _)
  ·exact .refl _
  ·repeat' (first | exact trivial | refine ⟨⟨_, rfl, by first | rfl | exact inc_eq _ (by omega) | (refine sl_eq ?_; simp; done) | (refine svi_eq ?_; (try dsimp only); omega) | exact var_q q (by omega), by first | exact trivial | simp [SV.ok]⟩, ?_⟩)
  ·exact trivial
  ·try dsimp only
   exact ⟨‹_›, by rw [var_b1, ← hv]; (conv => rhs; unfold varL; rw [if_pos (by omega)]); rw [List.append_assoc, List.singleton_append], by rw [Nat.pow_succ] at hq; omega, by simp; omega, by omega⟩
  try dsimp only
  omega
 ·simp at q0
  refine ⟨fun x3 => ?_⟩
  refine gappend1 (g := gY) (T := (5 : TypeId)) G_ok A [] [H] ?_ oo (gY_owM _) (List.mem_of_getElem? (i := 0) rfl) rfl rfl rfl rfl rfl rfl rfl rfl ?_ fun b4 c4 A4 o4 => ?_
  ·exact .tl
  ·omega
  refine conv_bs G_ok (o ++ [UInt8.ofNat ((↑q : Int) % (256 : Int)).toNat]) rfl (Rp.mono _ (mem_at 0 rfl) (Gt.owrd _ o4)) rfl rfl rfl ?_
  exact ⟨[], ⟨by rw [var_b2 q (by omega), ← varL_low f q (by omega), hv]; rfl, rfl⟩, .mem (by simp)⟩
theorem l01Var_ct (n : Int) (h0 : 0 ≤ n) (h1 : n ≤ 4611686018427387904) : Ct prog 193 [.int .i64 n] [] (fun _ => True) (fun v A => v = .string (varText n) ∧ A = []) := by
 refine Ct.intro0 G_ok func193 rfl rfl rfl fun E H hp => ?_
 refine ⟨fun x0 => ?_⟩
 apply loop_mod (α := (Nat) × (Nat) × (List UInt8) × (Hp) × (Option Addr) × (Nat)) G_ok [5, 6, 7, 8, 9, 10, 11, 12, 13, 3, 14, 15, 0] (fun z => [(3, .v (.slice z.2.2.2.2.1 z.2.2.1.length z.2.2.2.2.2)), (0, .v (.int .i64 z.2.1))]) (fun z => []) (fun z => [z.2.2.2.1, H]) (fun z => z.2.1) (fun z => (gSl 5 gY).ow [.slice z.2.2.2.2.1 z.2.2.1.length z.2.2.2.2.2] z.2.2.1 z.2.2.2.1 ∧ z.2.2.1 ++ varL z.1 z.2.1 = varT n ∧ z.2.1 < 128 ^ (z.1 + 1) ∧ z.2.2.1.length + z.1 ≤ 9 ∧ z.2.1 ≤ 4611686018427387904) ((9, n.toNat, [], [], some ⟨x0, 0, none⟩, 0))
 ·repeat' (first | exact trivial | refine ⟨⟨_, rfl, by first | rfl | exact inc_eq _ (by omega) | (refine sl_eq ?_; simp; done) | (refine svi_eq ?_; (try dsimp only); omega) | exact var_q q (by omega), by first | exact trivial | simp [SV.ok]⟩, ?_⟩)
 ·exact trivial
 ·try dsimp only
  exact ⟨sl_nil _ _ _, rfl, by omega, by simp, by omega⟩
 ·exact .tl
 rintro ⟨f, q, o, A, b, c⟩ hI
 try dsimp only at hI
 obtain ⟨oo, hv, hq, hl, hm⟩ := hI
 try dsimp only
 refine ⟨fun q1 => ?_, fun q1 => ?_⟩
 ·simp at q1
  obtain ⟨f, rfl⟩ := pow128 f q hq (by omega)
  refine VC.intro ?_ ?_
  ·trivial
  refine ⟨fun x2 => ?_⟩
  refine gappend1 (g := gY) (T := (5 : TypeId)) G_ok A [] [H] ?_ oo (gY_owM _) (List.mem_of_getElem? (i := 0) rfl) rfl rfl rfl rfl rfl rfl rfl rfl ?_ fun b3 c3 A3 o3 => ?_
  ·exact .tl
  ·omega
  refine VC.intro ?_ ?_
  ·trivial
  apply loop_stepA (f, q / 128, _, _, _, _)
  ·exact .refl _
  ·repeat' (first | exact trivial | refine ⟨⟨_, rfl, by first | rfl | exact inc_eq _ (by omega) | (refine sl_eq ?_; simp; done) | (refine svi_eq ?_; (try dsimp only); omega) | exact var_q q (by omega), by first | exact trivial | simp [SV.ok]⟩, ?_⟩)
  ·exact trivial
  ·try dsimp only
   exact ⟨‹_›, by rw [var_b1', ← hv]; (conv => rhs; unfold varL; rw [if_pos (by omega)]); rw [List.append_assoc, List.singleton_append], by rw [Nat.pow_succ] at hq; omega, by simp; omega, by omega⟩
  try dsimp only
  omega
 ·simp at q1
  refine ⟨fun x4 => ?_⟩
  refine gappend1 (g := gY) (T := (5 : TypeId)) G_ok A [] [H] ?_ oo (gY_owM _) (List.mem_of_getElem? (i := 0) rfl) rfl rfl rfl rfl rfl rfl rfl rfl ?_ fun b5 c5 A5 o5 => ?_
  ·exact .tl
  ·omega
  refine conv_bs G_ok (o ++ [UInt8.ofNat ((↑q : Int) % (256 : Int)).toNat]) rfl (Rp.mono _ (mem_at 0 rfl) (Gt.owrd _ o5)) rfl rfl rfl ?_
  exact ⟨[], ⟨by rw [var_b2 q (by omega), ← varL_low f q (by omega), hv]; rfl, rfl⟩, .mem (by simp)⟩
end
section
attribute [local irreducible] IntKind.wrap
def cmpI (a b : Int) : Int := if a < b then -1 else if b < a then 1 else 0
def cmpL : List Int → List Int → Int
 | [], [] => 0
 | [], _ :: _ => -1
 | _ :: _, [] => 1
 | a :: r, b :: s => if a < b then -1 else if b < a then 1 else cmpL r s
theorem isNaN_ct (a : Int) : Ct prog 342 [.int .i64 a] [] (fun _ => True) (fun v A => v = .bool false ∧ A = []) := by
 refine Ct.intro0 G_ok func342 rfl rfl rfl fun E H hp => ?_
 exact ⟨[], ⟨by simp, rfl⟩, .mem (by simp)⟩
theorem cmpCompare_ct (a b : Int) : Ct prog 263 [.int .i64 a, .int .i64 b] [] (fun _ => True) (fun v A => v = .int .i64 (cmpI a b) ∧ A = []) := by
 refine Ct.intro0 G_ok func263 rfl rfl rfl fun E H hp => ?_
 refine call_val (isNaN_ct _) trivial ?_
 rintro _ rfl
 refine call_val (isNaN_ct _) trivial ?_
 rintro _ rfl
 refine ⟨fun q2 => ?_, fun q2 => ?_⟩
 ·simp at q2
 ·simp at q2
  refine ⟨fun q3 => ?_, fun q3 => ?_⟩
  ·simp at q3
  ·simp at q3
   refine ⟨fun q4 => ?_, fun q4 => ?_⟩
   ·simp at q4
    exact ⟨[], ⟨by unfold cmpI; rw [if_pos (by omega)], rfl⟩, .mem (by simp)⟩
   ·simp at q4
    refine ⟨fun q5 => ?_, fun q5 => ?_⟩
    ·simp at q5
     exact ⟨[], ⟨by unfold cmpI; rw [if_neg (by omega), if_pos (by omega)], rfl⟩, .mem (by simp)⟩
    ·simp at q5
     exact ⟨[], ⟨by unfold cmpI; rw [if_neg (by omega), if_neg (by omega)], rfl⟩, .mem (by simp)⟩
theorem cmpL_drop {xs ys : List Int} (k : Nat) (h1 : k < xs.length) (h2 : k < ys.length) :
  cmpL (xs.drop k) (ys.drop k) = if cmpI (xs[k]?.getD 0) (ys[k]?.getD 0) = 0 then cmpL (xs.drop (k + 1)) (ys.drop (k + 1)) else cmpI (xs[k]?.getD 0) (ys[k]?.getD 0) := by
 rw [List.drop_eq_getElem_cons h1, List.drop_eq_getElem_cons h2, List.getElem?_eq_getElem h1, List.getElem?_eq_getElem h2]
 simp only [Option.getD_some, cmpL, cmpI]
 split
 ·simp
 split
 ·simp
 simp
theorem sCompare_ct (b1 : Option Addr) (m1 c1 : Nat) (b2 : Option Addr) (m2 c2 : Nat) (xs ys : List Int) :
  Ct prog 179 [.slice b1 m1 c1, .slice b2 m2 c2] [] (fun H => (gSl 3 gI).rd H [.slice b1 m1 c1] xs ∧ (gSl 3 gI).rd H [.slice b2 m2 c2] ys) (fun v A => v = .int .i64 (cmpL xs ys) ∧ A = []) := by
 refine Ct.intro0 G_ok func179 rfl rfl rfl fun E H hp => ?_
 obtain ⟨hp1, hp2⟩ := hp
 obtain ⟨rfl, hc1, hl1⟩ := sl_len hp1
 obtain ⟨rfl, hc2, hl2⟩ := sl_len hp2
 apply loop_mod (α := (Nat)) G_ok [12, 13, 14, 15, 5, 6, 16, 17, 18, 19, 4, 20, 21, 22, 23, 7, 24, 25, 26, 8, 27, 28, 29, 30, 11] (fun z => [(11, .v (.int .i64 z))]) (fun z => []) (fun z => [H]) (fun z => xs.length - z) (fun z => z ≤ xs.length ∧ z ≤ ys.length ∧ cmpL xs ys = cmpL (xs.drop z) (ys.drop z)) (0)
 ·exact frI
 ·exact trivial
 ·exact ⟨by omega, by omega, by simp⟩
 ·exact .refl _
 rintro k hI
 try dsimp only at hI
 obtain ⟨hk, hk2, he⟩ := hI
 try dsimp only
 refine ⟨fun q0 => ?_, fun q0 => ?_⟩
 ·simp at q0
  refine idx_rd hp1 ?_ ?_ fun b1 o1 hb1 => ?_
  ·omega
  ·omega
  refine load_allN 0 (k) rfl hp1 ?_ ?_ hb1 rfl (mem_at 0 rfl) fun l2 hl2 => ?_
  ·omega
  ·omega
  obtain ⟨rfl, hw2⟩ := hl2; simp only [flStr, flInt, okI] at hw2
  refine ⟨fun q3 => ?_, fun q3 => ?_⟩
  ·simp at q3
   exact ⟨[], ⟨by rw [he, List.drop_eq_getElem_cons (by omega : k < xs.length), List.drop_eq_nil_of_le (by omega : ys.length ≤ k)]; rfl, rfl⟩, .mem (by simp)⟩
  ·simp at q3
   refine idx_rd hp2 ?_ ?_ fun b4 o4 hb4 => ?_
   ·omega
   ·omega
   refine load_allN 0 (k) rfl hp2 ?_ ?_ hb4 rfl (mem_at 0 rfl) fun l5 hl5 => ?_
   ·omega
   ·omega
   obtain ⟨rfl, hw5⟩ := hl5; simp only [flStr, flInt, okI] at hw5
   refine call_val (cmpCompare_ct _ _) trivial ?_
   rintro _ rfl
   refine ⟨fun q7 => ?_, fun q7 => ?_⟩
   ·simp at q7
    exact ⟨[], ⟨by rw [he, cmpL_drop k (by omega) (by omega), if_neg (by assumption)], rfl⟩, .mem (by simp)⟩
   ·simp at q7
    apply loop_stepA (k + 1)
    ·exact .refl _
    ·exact frI
    ·exact trivial
    ·exact ⟨by omega, by omega, by rw [he, cmpL_drop k (by omega) (by omega), if_pos (by assumption)]⟩
    omega
 ·simp at q0
  refine ⟨fun q8 => ?_, fun q8 => ?_⟩
  ·simp at q8
   exact ⟨[], ⟨by rw [he, List.drop_eq_getElem_cons (by omega : k < ys.length), List.drop_eq_nil_of_le (by omega : xs.length ≤ k)]; rfl, rfl⟩, .mem (by simp)⟩
  ·simp at q8
   exact ⟨[], ⟨by rw [he, List.drop_eq_nil_of_le (by omega : ys.length ≤ k), List.drop_eq_nil_of_le (by omega : xs.length ≤ k)]; rfl, rfl⟩, .mem (by simp)⟩
def labelOk (b : UInt8) : Bool := decide (97 ≤ (b.toNat : Int)) && decide ((b.toNat : Int) ≤ 100)
theorem isLabel_ct (b : UInt8) : Ct prog 198 [.int .u8 b.toNat] [] (fun _ => True) (fun v A => v = .bool (labelOk b) ∧ A = []) := by
 refine Ct.intro0 G_ok func198 rfl rfl rfl fun E H hp => ?_
 refine ⟨fun q0 => ?_, fun q0 => ?_⟩
 ·simp at q0
  exact ⟨[], ⟨by unfold labelOk; first | rw [decide_eq_true (by omega : (97 : Int) ≤ b.toNat), Bool.true_and] | rw [decide_eq_false (by omega : ¬ (97 : Int) ≤ b.toNat), Bool.false_and], rfl⟩, .mem (by simp)⟩
 ·simp at q0
  exact ⟨[], ⟨by unfold labelOk; first | rw [decide_eq_true (by omega : (97 : Int) ≤ b.toNat), Bool.true_and] | rw [decide_eq_false (by omega : ¬ (97 : Int) ≤ b.toNat), Bool.false_and], rfl⟩, .mem (by simp)⟩
end
end Go.Proofs.YtjgehblllhkdbaaGreat
