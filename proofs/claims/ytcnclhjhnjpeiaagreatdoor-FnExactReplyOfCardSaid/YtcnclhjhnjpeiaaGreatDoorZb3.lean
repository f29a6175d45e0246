/-
  The laws' helpers over their types: sizes, copies, likeness (printed by gent.py). Ranges. Decimal numerals (plain). Checksums and numbers as bytes, on both sides. Decimal numerals: both sides (the program's for numbers of two digits). The library's numerals laid at this program. Decimal numerals of all numbers: the program's side. Conditions: none.
-/
import Derived.Test.YtcnclhjhnjpeiaaGreatDoorZb2

namespace Go.Proofs.YtcnclhjhnjpeiaaGreatDoor
open Go.SX Go.Proofs
set_option maxHeartbeats 4000000
set_option linter.unusedSimpArgs false
set_option linter.unusedVariables false
--@ct laws.szIntS raw refine call_q (szIntS_ct _ _ _ $1 _ ?_ ?_) %1 ?_ | | rintro _ ⟨r#, rfl, hr#⟩
theorem szIntS_ct (b : Option Addr) (m c : Nat) (xs : List Int) (left : Int) (h0 : 0 ≤ left) (h1 : left ≤ 1048576) :
    Ct Tryz.prog 29 [.slice b m c, .int .i64 left] [] (fun H => (gSl 3 gI).rd H [.slice b m c] xs) (fun v A => (∃ r : Int, v = .int .i64 r ∧ ((r = -1 ∧ left < (szL gI xs : Int)) ∨ (r = left - (szL gI xs : Int) ∧ (szL gI xs : Int) ≤ left))) ∧ A = []) := by
  refine Ct.intro0 G_ok Tryz.func29 rfl rfl rfl fun E H hp => ?_
  obtain ⟨rfl, hcl, hl⟩ := sl_len hp
  have hq := szL_eq gI xs
  have hz := szE_zero gI (fun _ => rfl) xs
  refine VCsplit.intro (fun q0 => ?_) (fun q0 => ?_)
  ·
    simp at q0
    simp (disch := omega) only [wrap_of] at q0
    exact ⟨[], ⟨⟨-1, rfl, .inl ⟨rfl, by (try simp (disch := omega) only [wrap_of] at *); omega⟩⟩, rfl⟩, (.le fun a => by (try simp only [setR, List.cons_append, List.nil_append]); simp only [List.flatten_append, List.flatten_cons, List.flatten_nil, List.count_append, List.count_nil, List.append_nil, List.nil_append]; omega)⟩
  ·
    simp at q0
    simp (disch := omega) only [wrap_of] at q0
    exact ⟨[], ⟨⟨_, rfl, .inr ⟨by (try simp (disch := omega) only [wrap_of] at *); omega, by omega⟩⟩, rfl⟩, (.le fun a => by (try simp only [setR, List.cons_append, List.nil_append]); simp only [List.flatten_append, List.flatten_cons, List.flatten_nil, List.count_append, List.count_nil, List.append_nil, List.nil_append]; omega)⟩
--@ct laws.toIntS new toIntS_ct _ _ _ $1 ?_ | %1 | obtain ⟨b#, c#, rfl, o#⟩ := o#
theorem toIntS_ct (b : Option Addr) (m c : Nat) (xs : List Int) (hx : szL gI xs ≤ 1048576) :
    Ct Tryz.prog 36 [.slice b m c] [] (fun H => (gSl 3 gI).rd H [.slice b m c] xs) (fun v A => ∃ b c, v = .slice b xs.length c ∧ (gSl 3 gI).ow [.slice b xs.length c] xs A) := by
  refine Ct.intro0 G_ok Tryz.func36 rfl rfl rfl fun E H hp => ?_
  obtain ⟨rfl, hcl, hl⟩ := sl_len hp
  have hls := len_szL gI xs
  refine VCmake.intro ?_ ?_ ?_ ?_ fun x0 => ?_
  · omega
  · omega
  · omega
  · omega
  apply loop_mod (α := (Nat) × (Hp)) G_ok [8, 9, 10, 11, 14, 15, 16, 17, 18, 19, 20, 12, 13, 4] (fun z => [(4, .v (.int .i64 z.1))]) (fun z => []) (fun z => [z.2, H]) (fun z => xs.length - z.1) (fun z => z.1 ≤ xs.length ∧ (gSl 3 gI).ow [.slice (some ⟨x0, 0, none⟩) xs.length xs.length] (xs.take z.1 ++ List.replicate (xs.length - z.1) 0) z.2) ((0, _))
  · repeat' (first | exact trivial | refine ⟨⟨_, rfl, by first | rfl | exact inc_eq _ (by omega) | (refine sl_eq ?_; simp; done), by first | exact trivial | simp [SV.ok]⟩, ?_⟩)
  · exact trivial
  · try dsimp only
    exact ⟨by omega, by simpa using gmake (g := gI) (T := 3) (b := x0) (gI_ow (by unfold okI; decide)) (Nat.le_refl xs.length) (by omega)⟩
  · exact .refl _
  rintro ⟨k, A⟩ hI
  obtain ⟨hk, oA⟩ : k ≤ xs.length ∧ (gSl 3 gI).ow [.slice (some ⟨x0, 0, none⟩) xs.length xs.length] (xs.take k ++ List.replicate (xs.length - k) 0) A := hI
  try dsimp only
  refine VCsplit.intro (fun q1 => ?_) (fun q1 => ?_)
  ·
    simp at q1
    refine idx_rd hp ?_ ?_ fun b2 o2 hb2 => ?_
    · omega
    · omega
    refine load_allN 0 (k) rfl hp ?_ ?_ hb2 rfl (mem_at 1 rfl) fun l3 hl3 => ?_
    · omega
    · omega
    obtain ⟨rfl, hw3⟩ := hl3; simp only [flStr, flInt, okI] at hw3
    refine idx_rd (Gt.owrd _ oA) ?_ ?_ fun b4 o4 hb4 => ?_
    · omega
    · simp; omega
    refine gstoreN (Fld.id _) 0 (k) 0 rfl rfl oA ?_ ?_ hb4 rfl gI_pl _ (gI_ow ?_) fun A5 o5 => ?_
    · omega
    · simp; omega
    · trivial
    apply loop_stepA (k + 1, _)
    · exact .refl _
    · repeat' (first | exact trivial | refine ⟨⟨_, rfl, by first | rfl | exact inc_eq _ (by omega) | (refine sl_eq ?_; simp; done), by first | exact trivial | simp [SV.ok]⟩, ?_⟩)
    · exact trivial
    · try dsimp only
      exact ⟨by omega, by rw [← take_step xs k 0 (by omega)] ; assumption⟩
    try dsimp only
    omega
  ·
    simp at q1
    obtain rfl : k = xs.length := by omega
    rw [List.take_length, Nat.sub_self, List.replicate_zero, List.append_nil] at oA
    exact ⟨_, ⟨_, _, rfl, oA⟩, (.le fun a => by (try simp only [setR, List.cons_append, List.nil_append]); simp only [List.flatten_append, List.flatten_cons, List.flatten_nil, List.count_append, List.count_nil, List.append_nil, List.nil_append]; omega)⟩
--@ct laws.eqIntS val eqIntS_ct _ _ _ _ _ _ $1 $2 | ⟨%1, %2⟩
theorem eqIntS_ct (b1 : Option Addr) (m1 c1 : Nat) (b2 : Option Addr) (m2 c2 : Nat) (xs ys : List Int) :
    Ct Tryz.prog 41 [.slice b1 m1 c1, .slice b2 m2 c2] [] (fun H => (gSl 3 gI).rd H [.slice b1 m1 c1] xs ∧ (gSl 3 gI).rd H [.slice b2 m2 c2] ys) (fun v A => v = .bool (decide (xs = ys)) ∧ A = []) := by
  refine Ct.intro0 G_ok Tryz.func41 rfl rfl rfl fun E H hp => ?_
  obtain ⟨hp1, hp2⟩ := hp
  obtain ⟨rfl, hc1, hl1⟩ := sl_len hp1
  obtain ⟨rfl, hc2, hl2⟩ := sl_len hp2
  refine VCsplit.intro (fun q0 => ?_) (fun q0 => ?_)
  ·
    simp at q0
    exact ⟨[], ⟨by rw [decide_eq_false (fun e => by subst e; omega)], rfl⟩, (.le fun a => by (try simp only [setR, List.cons_append, List.nil_append]); simp only [List.flatten_append, List.flatten_cons, List.flatten_nil, List.count_append, List.count_nil, List.append_nil, List.nil_append]; omega)⟩
  ·
    simp at q0
    apply loop_mod (α := (Nat)) G_ok [11, 12, 13, 14, 17, 18, 19, 20, 21, 22, 23, 24, 25, 4, 15, 16, 5] (fun z => [(5, .v (.int .i64 z))]) (fun z => []) (fun z => [H]) (fun z => xs.length - z) (fun z => z ≤ xs.length ∧ xs.take z = ys.take z) (0)
    · repeat' (first | exact trivial | refine ⟨⟨_, rfl, by first | rfl | exact inc_eq _ (by omega) | (refine sl_eq ?_; simp; done), by first | exact trivial | simp [SV.ok]⟩, ?_⟩)
    · exact trivial
    · exact ⟨by omega, by simp⟩
    · exact .refl _
    rintro k hI
    obtain ⟨hk, he⟩ : k ≤ xs.length ∧ xs.take k = ys.take k := hI
    try dsimp only
    refine VCsplit.intro (fun q1 => ?_) (fun q1 => ?_)
    ·
      simp at q1
      refine draw G_ok mixed none (.q 0 (.q 1 (.q 2 (.q 3 (.q 4 (.q 5 (.q 6 (.q 7 (.q 8 (.nil)))))))))) (by decide +kernel) ?_
      refine idx_rd hp1 ?_ ?_ fun b2 o2 hb2 => ?_
      · omega
      · omega
      refine load_allN 0 (k) rfl hp1 ?_ ?_ hb2 rfl (mem_at 0 rfl) fun l3 hl3 => ?_
      · omega
      · omega
      obtain ⟨rfl, hw3⟩ := hl3; simp only [flStr, flInt, okI] at hw3
      refine idx_rd hp2 ?_ ?_ fun b4 o4 hb4 => ?_
      · omega
      · omega
      refine load_allN 0 (k) rfl hp2 ?_ ?_ hb4 rfl (mem_at 0 rfl) fun l5 hl5 => ?_
      · omega
      · omega
      obtain ⟨rfl, hw5⟩ := hl5; simp only [flStr, flInt, okI] at hw5
      refine VCsplit.intro (fun q6 => ?_) (fun q6 => ?_)
      ·
        simp at q6
        exact ⟨[], ⟨by rw [decide_eq_false (fun e => by subst e; omega)], rfl⟩, (.le fun a => by (try simp only [setR, List.cons_append, List.nil_append]); simp only [List.flatten_append, List.flatten_cons, List.flatten_nil, List.count_append, List.count_nil, List.append_nil, List.nil_append]; omega)⟩
      ·
        simp at q6
        apply loop_stepA (k + 1)
        · exact .refl _
        · repeat' (first | exact trivial | refine ⟨⟨_, rfl, by first | rfl | exact inc_eq _ (by omega) | (refine sl_eq ?_; simp; done), by first | exact trivial | simp [SV.ok]⟩, ?_⟩)
        · exact trivial
        · exact ⟨by omega, eq_step 0 (by omega) he (by omega) (by simpa using ‹_›)⟩
        omega
    ·
      simp at q1
      exact ⟨[], ⟨by rw [decide_eq_true]; rw [← List.take_length (l := xs), ← List.take_length (l := ys), ← (by omega : xs.length = ys.length), show xs.length = k by omega]; exact he, rfl⟩, (.le fun a => by (try simp only [setR, List.cons_append, List.nil_append]); simp only [List.flatten_append, List.flatten_cons, List.flatten_nil, List.count_append, List.count_nil, List.append_nil, List.nil_append]; omega)⟩
--@ct laws.szStringS raw refine call_q (szStringS_ct _ _ _ $1 _ ?_ ?_) %1 ?_ | | rintro _ ⟨r#, rfl, hr#⟩
theorem szStringS_ct (b : Option Addr) (m c : Nat) (xs : List ByteArray) (left : Int) (h0 : 0 ≤ left) (h1 : left ≤ 1048576) :
    Ct Tryz.prog 28 [.slice b m c, .int .i64 left] [] (fun H => (gSl 9 gS).rd H [.slice b m c] xs) (fun v A => (∃ r : Int, v = .int .i64 r ∧ ((r = -1 ∧ left < (szL gS xs : Int)) ∨ (r = left - (szL gS xs : Int) ∧ (szL gS xs : Int) ≤ left))) ∧ A = []) := by
  refine Ct.intro0 G_ok Tryz.func28 rfl rfl rfl fun E H hp => ?_
  obtain ⟨rfl, hcl, hl⟩ := sl_len hp
  have hq := szL_eq gS xs
  have ht := List.take_length (l := xs)
  refine VCsplit.intro (fun q0 => ?_) (fun q0 => ?_)
  ·
    simp at q0
    simp (disch := omega) only [wrap_of] at q0
    exact ⟨[], ⟨⟨-1, rfl, .inl ⟨rfl, by (try simp (disch := omega) only [wrap_of] at *); omega⟩⟩, rfl⟩, (.le fun a => by (try simp only [setR, List.cons_append, List.nil_append]); simp only [List.flatten_append, List.flatten_cons, List.flatten_nil, List.count_append, List.count_nil, List.append_nil, List.nil_append]; omega)⟩
  ·
    simp at q0
    simp (disch := omega) only [wrap_of] at q0
    apply loop_mod (α := (Nat) × (Int)) G_ok [12, 13, 14, 15, 18, 19, 20, 21, 22, 23, 24, 1, 25, 26, 4, 16, 17, 5] (fun z => [(5, .v (.int .i64 z.1)), (1, .v (.int .i64 z.2))]) (fun z => []) (fun z => [H]) (fun z => xs.length - z.1) (fun z => z.1 ≤ xs.length ∧ z.2 = left - xs.length - szE gS (xs.take z.1) ∧ 0 ≤ z.2) ((0, left - xs.length))
    · repeat' (first | exact trivial | refine ⟨⟨_, rfl, by first | rfl | exact inc_eq _ (by omega) | (refine sl_eq ?_; simp; done) | (simp (disch := omega) only [wrap_of]), by first | exact trivial | simp [SV.ok]⟩, ?_⟩)
    · exact trivial
    · try dsimp only
      exact ⟨by omega, by simp [szE], by omega⟩
    · exact .refl _
    rintro ⟨k, lf⟩ hI
    obtain ⟨hk, hlf, hnn⟩ : k ≤ xs.length ∧ lf = left - xs.length - szE gS (xs.take k) ∧ 0 ≤ lf := hI
    try dsimp only
    refine VCsplit.intro (fun q1 => ?_) (fun q1 => ?_)
    ·
      simp at q1
      have hs := szE_step gS xs k ByteArray.empty (by omega)
      have hs2 := szE_le gS xs (k + 1)
      refine idx_rd hp ?_ ?_ fun b2 o2 hb2 => ?_
      · omega
      · omega
      refine load_allN ByteArray.empty (k) rfl hp ?_ ?_ hb2 rfl (mem_at 0 rfl) fun l3 hl3 => ?_
      · omega
      · omega
      have hss : gS.sz (xs[k]?.getD ByteArray.empty) = (xs[k]?.getD ByteArray.empty).size := rfl
      obtain ⟨rfl, hw3⟩ := hl3; simp only [flStr, flInt, okI] at hw3
      refine VCsplit.intro (fun q4 => ?_) (fun q4 => ?_)
      ·
        simp at q4
        simp (disch := omega) only [wrap_of] at q4
        exact ⟨[], ⟨⟨-1, rfl, .inl ⟨rfl, by (try simp (disch := omega) only [wrap_of] at *); omega⟩⟩, rfl⟩, (.le fun a => by (try simp only [setR, List.cons_append, List.nil_append]); simp only [List.flatten_append, List.flatten_cons, List.flatten_nil, List.count_append, List.count_nil, List.append_nil, List.nil_append]; omega)⟩
      ·
        simp at q4
        simp (disch := omega) only [wrap_of] at q4
        apply loop_stepA (k + 1, lf - ((xs[k]?.getD ByteArray.empty).size : Int))
        · exact .refl _
        · repeat' (first | exact trivial | refine ⟨⟨_, rfl, by first | rfl | exact inc_eq _ (by omega) | (refine sl_eq ?_; simp; done) | (simp (disch := omega) only [wrap_of]), by first | exact trivial | simp [SV.ok]⟩, ?_⟩)
        · exact trivial
        · try dsimp only
          ((try simp (disch := omega) only [wrap_of] at *); refine ⟨by omega, by omega, by omega⟩)
        try dsimp only
        omega
    ·
      simp at q1
      obtain rfl : k = xs.length := by omega
      rw [List.take_length] at hlf
      exact ⟨[], ⟨⟨_, rfl, .inr ⟨by (try simp (disch := omega) only [wrap_of] at *); omega, by omega⟩⟩, rfl⟩, (.le fun a => by (try simp only [setR, List.cons_append, List.nil_append]); simp only [List.flatten_append, List.flatten_cons, List.flatten_nil, List.count_append, List.count_nil, List.append_nil, List.nil_append]; omega)⟩
--@ct laws.toStringS new toStringS_ct _ _ _ $1 ?_ | %1 | obtain ⟨b#, c#, rfl, o#⟩ := o#
theorem toStringS_ct (b : Option Addr) (m c : Nat) (xs : List ByteArray) (hx : szL gS xs ≤ 1048576) :
    Ct Tryz.prog 35 [.slice b m c] [] (fun H => (gSl 9 gS).rd H [.slice b m c] xs) (fun v A => ∃ b c, v = .slice b xs.length c ∧ (gSl 9 gS).ow [.slice b xs.length c] xs A) := by
  refine Ct.intro0 G_ok Tryz.func35 rfl rfl rfl fun E H hp => ?_
  obtain ⟨rfl, hcl, hl⟩ := sl_len hp
  have hls := len_szL gS xs
  refine VCmake.intro ?_ ?_ ?_ ?_ fun x0 => ?_
  · omega
  · omega
  · omega
  · omega
  apply loop_mod (α := (Nat) × (Hp)) G_ok [8, 9, 10, 11, 14, 15, 16, 17, 18, 19, 20, 12, 13, 4] (fun z => [(4, .v (.int .i64 z.1))]) (fun z => []) (fun z => [z.2, H]) (fun z => xs.length - z.1) (fun z => z.1 ≤ xs.length ∧ (gSl 9 gS).ow [.slice (some ⟨x0, 0, none⟩) xs.length xs.length] (xs.take z.1 ++ List.replicate (xs.length - z.1) ByteArray.empty) z.2) ((0, _))
  · repeat' (first | exact trivial | refine ⟨⟨_, rfl, by first | rfl | exact inc_eq _ (by omega) | (refine sl_eq ?_; simp; done), by first | exact trivial | simp [SV.ok]⟩, ?_⟩)
  · exact trivial
  · try dsimp only
    exact ⟨by omega, by simpa using gmake (g := gS) (T := 9) (b := x0) (gS_ow (by decide)) (Nat.le_refl xs.length) (by omega)⟩
  · exact .refl _
  rintro ⟨k, A⟩ hI
  obtain ⟨hk, oA⟩ : k ≤ xs.length ∧ (gSl 9 gS).ow [.slice (some ⟨x0, 0, none⟩) xs.length xs.length] (xs.take k ++ List.replicate (xs.length - k) ByteArray.empty) A := hI
  try dsimp only
  refine VCsplit.intro (fun q1 => ?_) (fun q1 => ?_)
  ·
    simp at q1
    refine idx_rd hp ?_ ?_ fun b2 o2 hb2 => ?_
    · omega
    · omega
    refine load_allN ByteArray.empty (k) rfl hp ?_ ?_ hb2 rfl (mem_at 1 rfl) fun l3 hl3 => ?_
    · omega
    · omega
    obtain ⟨rfl, hw3⟩ := hl3; simp only [flStr, flInt, okI] at hw3
    refine idx_rd (Gt.owrd _ oA) ?_ ?_ fun b4 o4 hb4 => ?_
    · omega
    · simp; omega
    refine gstoreN (Fld.id _) ByteArray.empty (k) 0 rfl rfl oA ?_ ?_ hb4 rfl fl_pl _ (gS_ow ?_) fun A5 o5 => ?_
    · omega
    · simp; omega
    · trivial
    apply loop_stepA (k + 1, _)
    · exact .refl _
    · repeat' (first | exact trivial | refine ⟨⟨_, rfl, by first | rfl | exact inc_eq _ (by omega) | (refine sl_eq ?_; simp; done), by first | exact trivial | simp [SV.ok]⟩, ?_⟩)
    · exact trivial
    · try dsimp only
      exact ⟨by omega, by rw [← take_step xs k ByteArray.empty (by omega)] ; assumption⟩
    try dsimp only
    omega
  ·
    simp at q1
    obtain rfl : k = xs.length := by omega
    rw [List.take_length, Nat.sub_self, List.replicate_zero, List.append_nil] at oA
    exact ⟨_, ⟨_, _, rfl, oA⟩, (.le fun a => by (try simp only [setR, List.cons_append, List.nil_append]); simp only [List.flatten_append, List.flatten_cons, List.flatten_nil, List.count_append, List.count_nil, List.append_nil, List.nil_append]; omega)⟩
--@ct laws.eqStringS val eqStringS_ct _ _ _ _ _ _ $1 $2 | ⟨%1, %2⟩
theorem eqStringS_ct (b1 : Option Addr) (m1 c1 : Nat) (b2 : Option Addr) (m2 c2 : Nat) (xs ys : List ByteArray) :
    Ct Tryz.prog 40 [.slice b1 m1 c1, .slice b2 m2 c2] [] (fun H => (gSl 9 gS).rd H [.slice b1 m1 c1] xs ∧ (gSl 9 gS).rd H [.slice b2 m2 c2] ys) (fun v A => v = .bool (decide (xs = ys)) ∧ A = []) := by
  refine Ct.intro0 G_ok Tryz.func40 rfl rfl rfl fun E H hp => ?_
  obtain ⟨hp1, hp2⟩ := hp
  obtain ⟨rfl, hc1, hl1⟩ := sl_len hp1
  obtain ⟨rfl, hc2, hl2⟩ := sl_len hp2
  refine VCsplit.intro (fun q0 => ?_) (fun q0 => ?_)
  ·
    simp at q0
    exact ⟨[], ⟨by rw [decide_eq_false (fun e => by subst e; omega)], rfl⟩, (.le fun a => by (try simp only [setR, List.cons_append, List.nil_append]); simp only [List.flatten_append, List.flatten_cons, List.flatten_nil, List.count_append, List.count_nil, List.append_nil, List.nil_append]; omega)⟩
  ·
    simp at q0
    apply loop_mod (α := (Nat)) G_ok [11, 12, 13, 14, 17, 18, 19, 20, 21, 22, 23, 24, 25, 4, 15, 16, 5] (fun z => [(5, .v (.int .i64 z))]) (fun z => []) (fun z => [H]) (fun z => xs.length - z) (fun z => z ≤ xs.length ∧ xs.take z = ys.take z) (0)
    · repeat' (first | exact trivial | refine ⟨⟨_, rfl, by first | rfl | exact inc_eq _ (by omega) | (refine sl_eq ?_; simp; done), by first | exact trivial | simp [SV.ok]⟩, ?_⟩)
    · exact trivial
    · exact ⟨by omega, by simp⟩
    · exact .refl _
    rintro k hI
    obtain ⟨hk, he⟩ : k ≤ xs.length ∧ xs.take k = ys.take k := hI
    try dsimp only
    refine VCsplit.intro (fun q1 => ?_) (fun q1 => ?_)
    ·
      simp at q1
      refine draw G_ok mixed none (.q 0 (.q 1 (.q 2 (.q 3 (.q 4 (.q 5 (.q 6 (.q 7 (.q 8 (.nil)))))))))) (by decide +kernel) ?_
      refine idx_rd hp1 ?_ ?_ fun b2 o2 hb2 => ?_
      · omega
      · omega
      refine load_allN ByteArray.empty (k) rfl hp1 ?_ ?_ hb2 rfl (mem_at 0 rfl) fun l3 hl3 => ?_
      · omega
      · omega
      obtain ⟨rfl, hw3⟩ := hl3; simp only [flStr, flInt, okI] at hw3
      refine idx_rd hp2 ?_ ?_ fun b4 o4 hb4 => ?_
      · omega
      · omega
      refine load_allN ByteArray.empty (k) rfl hp2 ?_ ?_ hb4 rfl (mem_at 0 rfl) fun l5 hl5 => ?_
      · omega
      · omega
      obtain ⟨rfl, hw5⟩ := hl5; simp only [flStr, flInt, okI] at hw5
      refine VCsplit.intro (fun q6 => ?_) (fun q6 => ?_)
      ·
        simp at q6
        simp only [str_inj, u8_inj, u8_wrap] at q6
        exact ⟨[], ⟨by rw [decide_eq_false (fun e => by subst e; simp at *)], rfl⟩, (.le fun a => by (try simp only [setR, List.cons_append, List.nil_append]); simp only [List.flatten_append, List.flatten_cons, List.flatten_nil, List.count_append, List.count_nil, List.append_nil, List.nil_append]; omega)⟩
      ·
        simp at q6
        simp only [str_inj, u8_inj, u8_wrap] at q6
        apply loop_stepA (k + 1)
        · exact .refl _
        · repeat' (first | exact trivial | refine ⟨⟨_, rfl, by first | rfl | exact inc_eq _ (by omega) | (refine sl_eq ?_; simp; done), by first | exact trivial | simp [SV.ok]⟩, ?_⟩)
        · exact trivial
        · exact ⟨by omega, eq_step ByteArray.empty (by omega) he (by omega) (by simpa using ‹_›)⟩
        omega
    ·
      simp at q1
      exact ⟨[], ⟨by rw [decide_eq_true]; rw [← List.take_length (l := xs), ← List.take_length (l := ys), ← (by omega : xs.length = ys.length), show xs.length = k by omega]; exact he, rfl⟩, (.le fun a => by (try simp only [setR, List.cons_append, List.nil_append]); simp only [List.flatten_append, List.flatten_cons, List.flatten_nil, List.count_append, List.count_nil, List.append_nil, List.nil_append]; omega)⟩
--@ct laws.szItem raw refine call_q (szItem_ct _ $1 _ ?_ ?_) %1 ?_ | | rintro _ ⟨r#, rfl, hr#⟩
theorem szItem_ct (l : List Value) (x : Item) (left : Int) (h0 : 0 ≤ left) (h1 : left ≤ 1048576) :
    Ct Tryz.prog 152 [.agg ⟨l⟩, .int .i64 left] [] (fun H => gItem.rd H l x) (fun v A => (∃ r : Int, v = .int .i64 r ∧ ((r = -1 ∧ left < (gItem.sz x : Int)) ∨ (r = left - (gItem.sz x : Int) ∧ (gItem.sz x : Int) ≤ left))) ∧ A = []) := by
  refine Ct.intro0 G_ok Tryz.func152 rfl rfl rfl fun E H hp => ?_
  obtain ⟨b0, c0, rfl, h0, w1⟩ := gItem_rd.1 hp
  have hz := gItem_sz x
  refine VCnew.intro fun x0 => ?_
  refine call_q (szIntS_ct _ _ _ (x.row) _ ?_ ?_) (Rp.mono _ (mem_at 0 rfl) h0) ?_
  · trivial
  · trivial
  rintro _ ⟨r1, rfl, hr1⟩
  refine VCsplit.intro (fun q2 => ?_) (fun q2 => ?_)
  ·
    simp at q2
    exact ⟨[], ⟨⟨-1, rfl, .inl ⟨rfl, by (try simp (disch := omega) only [wrap_of] at *); omega⟩⟩, rfl⟩, (.le fun a => by (try simp only [setR, List.cons_append, List.nil_append]); simp only [List.flatten_append, List.flatten_cons, List.flatten_nil, List.count_append, List.count_nil, List.append_nil, List.nil_append]; omega)⟩
  ·
    simp at q2
    exact ⟨[], ⟨⟨_, rfl, .inr ⟨by (try simp (disch := omega) only [wrap_of] at *); omega, by omega⟩⟩, rfl⟩, (.le fun a => by (try simp only [setR, List.cons_append, List.nil_append]); simp only [List.flatten_append, List.flatten_cons, List.flatten_nil, List.count_append, List.count_nil, List.append_nil, List.nil_append]; omega)⟩
--@ct laws.toItem new toItem_ct _ $1 ?_ | %1 | obtain ⟨l#, rfl, o#⟩ := o# ;; have r# := Gt.owrd _ o# ;; obtain ⟨b0x#, c0x#, rfl, h0x#, w1x#⟩ := gItem_rd.1 r#
theorem toItem_ct (l : List Value) (x : Item) (hx : gItem.sz x ≤ 1048576) :
    Ct Tryz.prog 153 [.agg ⟨l⟩] [] (fun H => gItem.rd H l x) (fun v A => ∃ l, v = .agg ⟨l⟩ ∧ gItem.ow l x A) := by
  refine Ct.intro0 G_ok Tryz.func153 rfl rfl rfl fun E H hp => ?_
  obtain ⟨b0, c0, rfl, h0, w1⟩ := gItem_rd.1 hp
  have hz := gItem_sz x
  refine VCnew.intro fun x0 => ?_
  refine VCnew.intro fun x1 => ?_
  refine VCnew.intro fun x2 => ?_
  refine call_new (toIntS_ct _ _ _ (x.row) ?_) (Rp.mono _ (mem_at 0 rfl) h0) ?_
  · trivial
  rintro v3 A3 o3
  obtain ⟨b3, c3, rfl, o3⟩ := o3
  exact ⟨_, ⟨_, rfl, gItem_ow.2 ⟨_, _, _, rfl, .refl _, by assumption, by assumption⟩⟩, (.le fun a => by (try simp only [setR, List.cons_append, List.nil_append]); simp only [List.flatten_append, List.flatten_cons, List.flatten_nil, List.count_append, List.count_nil, List.append_nil, List.nil_append]; omega)⟩
--@ct laws.eqItem val eqItem_ct _ _ $1 $2 | ⟨%1, %2⟩
theorem eqItem_ct (l1 l2 : List Value) (x y : Item) :
    Ct Tryz.prog 151 [.agg ⟨l1⟩, .agg ⟨l2⟩] [] (fun H => gItem.rd H l1 x ∧ gItem.rd H l2 y) (fun v A => v = .bool (decide (x = y)) ∧ A = []) := by
  refine Ct.intro0 G_ok Tryz.func151 rfl rfl rfl fun E H hp => ?_
  obtain ⟨hp1, hp2⟩ := hp
  obtain ⟨b0p, c0p, rfl, h0p, w1p⟩ := gItem_rd.1 hp1
  obtain ⟨b0q, c0q, rfl, h0q, w1q⟩ := gItem_rd.1 hp2
  refine VCnew.intro fun x0 => ?_
  refine VCnew.intro fun x1 => ?_
  refine call_val (eqIntS_ct _ _ _ _ _ _ (x.row) (y.row)) ⟨(Rp.mono _ (mem_at 0 rfl) h0p), (Rp.mono _ (mem_at 0 rfl) h0q)⟩ ?_
  rintro _ rfl
  refine VCsplit.intro (fun q3 => ?_) (fun q3 => ?_)
  ·
    simp at q3
    exact ⟨[], ⟨by rw [decide_eq_false (fun e => by subst e; simp at *)], rfl⟩, (.le fun a => by (try simp only [setR, List.cons_append, List.nil_append]); simp only [List.flatten_append, List.flatten_cons, List.flatten_nil, List.count_append, List.count_nil, List.append_nil, List.nil_append]; omega)⟩
  ·
    simp at q3
    refine VCsplit.intro (fun q4 => ?_) (fun q4 => ?_)
    ·
      simp at q4
      exact ⟨[], ⟨by rw [decide_eq_false (fun e => by subst e; simp at *)], rfl⟩, (.le fun a => by (try simp only [setR, List.cons_append, List.nil_append]); simp only [List.flatten_append, List.flatten_cons, List.flatten_nil, List.count_append, List.count_nil, List.append_nil, List.nil_append]; omega)⟩
    ·
      simp at q4
      exact ⟨[], ⟨by rw [decide_eq_true (Item.eq_iff.2 (by simp_all))], rfl⟩, (.le fun a => by (try simp only [setR, List.cons_append, List.nil_append]); simp only [List.flatten_append, List.flatten_cons, List.flatten_nil, List.count_append, List.count_nil, List.append_nil, List.nil_append]; omega)⟩
--@ct laws.szItemS raw refine call_q (szItemS_ct _ _ _ $1 _ ?_ ?_) %1 ?_ | | rintro _ ⟨r#, rfl, hr#⟩
theorem szItemS_ct (b : Option Addr) (m c : Nat) (xs : List Item) (left : Int) (h0 : 0 ≤ left) (h1 : left ≤ 1048576) :
    Ct Tryz.prog 122 [.slice b m c, .int .i64 left] [] (fun H => (gSl 134 gItem).rd H [.slice b m c] xs) (fun v A => (∃ r : Int, v = .int .i64 r ∧ ((r = -1 ∧ left < (szL gItem xs : Int)) ∨ (r = left - (szL gItem xs : Int) ∧ (szL gItem xs : Int) ≤ left))) ∧ A = []) := by
  refine Ct.intro0 G_ok Tryz.func122 rfl rfl rfl fun E H hp => ?_
  obtain ⟨rfl, hcl, hl⟩ := sl_len hp
  have hq := szL_eq gItem xs
  have ht := List.take_length (l := xs)
  refine VCsplit.intro (fun q0 => ?_) (fun q0 => ?_)
  ·
    simp at q0
    simp (disch := omega) only [wrap_of] at q0
    exact ⟨[], ⟨⟨-1, rfl, .inl ⟨rfl, by (try simp (disch := omega) only [wrap_of] at *); omega⟩⟩, rfl⟩, (.le fun a => by (try simp only [setR, List.cons_append, List.nil_append]); simp only [List.flatten_append, List.flatten_cons, List.flatten_nil, List.count_append, List.count_nil, List.append_nil, List.nil_append]; omega)⟩
  ·
    simp at q0
    simp (disch := omega) only [wrap_of] at q0
    apply loop_mod (α := (Nat) × (Int)) G_ok [12, 13, 14, 15, 18, 19, 20, 21, 22, 23, 1, 24, 25, 4, 16, 17, 5] (fun z => [(5, .v (.int .i64 z.1)), (1, .v (.int .i64 z.2))]) (fun z => []) (fun z => [H]) (fun z => xs.length - z.1) (fun z => z.1 ≤ xs.length ∧ z.2 = left - xs.length - szE gItem (xs.take z.1) ∧ 0 ≤ z.2) ((0, left - xs.length))
    · repeat' (first | exact trivial | refine ⟨⟨_, rfl, by first | rfl | exact inc_eq _ (by omega) | (refine sl_eq ?_; simp; done) | (simp (disch := omega) only [wrap_of]), by first | exact trivial | simp [SV.ok]⟩, ?_⟩)
    · exact trivial
    · try dsimp only
      exact ⟨by omega, by simp [szE], by omega⟩
    · exact .refl _
    rintro ⟨k, lf⟩ hI
    obtain ⟨hk, hlf, hnn⟩ : k ≤ xs.length ∧ lf = left - xs.length - szE gItem (xs.take k) ∧ 0 ≤ lf := hI
    try dsimp only
    refine VCsplit.intro (fun q1 => ?_) (fun q1 => ?_)
    ·
      simp at q1
      have hs := szE_step gItem xs k default (by omega)
      have hs2 := szE_le gItem xs (k + 1)
      refine idx_rd hp ?_ ?_ fun b2 o2 hb2 => ?_
      · omega
      · omega
      refine load_allN default (k) rfl hp ?_ ?_ hb2 rfl (mem_at 0 rfl) fun l3 hl3 => ?_
      · omega
      · omega
      obtain ⟨b0x3, c0x3, rfl, h0x3, w1x3⟩ := gItem_rd.1 hl3
      refine call_q (szItem_ct _ (xs[k]?.getD default) _ ?_ ?_) (Rp.mono _ (mem_at 0 rfl) hl3) ?_
      · trivial
      · omega
      rintro _ ⟨r4, rfl, hr4⟩
      refine VCsplit.intro (fun q5 => ?_) (fun q5 => ?_)
      ·
        simp at q5
        exact ⟨[], ⟨⟨-1, rfl, .inl ⟨rfl, by (try simp (disch := omega) only [wrap_of] at *); omega⟩⟩, rfl⟩, (.le fun a => by (try simp only [setR, List.cons_append, List.nil_append]); simp only [List.flatten_append, List.flatten_cons, List.flatten_nil, List.count_append, List.count_nil, List.append_nil, List.nil_append]; omega)⟩
      ·
        simp at q5
        apply loop_stepA (k + 1, _)
        · exact .refl _
        · repeat' (first | exact trivial | refine ⟨⟨_, rfl, by first | rfl | exact inc_eq _ (by omega) | (refine sl_eq ?_; simp; done) | (simp (disch := omega) only [wrap_of]), by first | exact trivial | simp [SV.ok]⟩, ?_⟩)
        · exact trivial
        · try dsimp only
          ((try simp (disch := omega) only [wrap_of] at *); refine ⟨by omega, by omega, by omega⟩)
        try dsimp only
        omega
    ·
      simp at q1
      obtain rfl : k = xs.length := by omega
      rw [List.take_length] at hlf
      exact ⟨[], ⟨⟨_, rfl, .inr ⟨by (try simp (disch := omega) only [wrap_of] at *); omega, by omega⟩⟩, rfl⟩, (.le fun a => by (try simp only [setR, List.cons_append, List.nil_append]); simp only [List.flatten_append, List.flatten_cons, List.flatten_nil, List.count_append, List.count_nil, List.append_nil, List.nil_append]; omega)⟩
--@ct laws.toItemS new toItemS_ct _ _ _ $1 ?_ | %1 | obtain ⟨b#, c#, rfl, o#⟩ := o#
theorem toItemS_ct (b : Option Addr) (m c : Nat) (xs : List Item) (hx : szL gItem xs ≤ 1048576) :
    Ct Tryz.prog 124 [.slice b m c] [] (fun H => (gSl 134 gItem).rd H [.slice b m c] xs) (fun v A => ∃ b c, v = .slice b xs.length c ∧ (gSl 134 gItem).ow [.slice b xs.length c] xs A) := by
  refine Ct.intro0 G_ok Tryz.func124 rfl rfl rfl fun E H hp => ?_
  obtain ⟨rfl, hcl, hl⟩ := sl_len hp
  have hls := len_szL gItem xs
  have hq := szL_eq gItem xs
  refine VCmake.intro ?_ ?_ ?_ ?_ fun x0 => ?_
  · omega
  · omega
  · omega
  · omega
  apply loop_mod (α := (Nat) × (Hp)) G_ok [8, 9, 10, 11, 14, 15, 16, 17, 18, 19, 20, 21, 12, 13, 4] (fun z => [(4, .v (.int .i64 z.1))]) (fun z => []) (fun z => [z.2, H]) (fun z => xs.length - z.1) (fun z => z.1 ≤ xs.length ∧ (gSl 134 gItem).ow [.slice (some ⟨x0, 0, none⟩) xs.length xs.length] (xs.take z.1 ++ List.replicate (xs.length - z.1) zItem) z.2) ((0, _))
  · repeat' (first | exact trivial | refine ⟨⟨_, rfl, by first | rfl | exact inc_eq _ (by omega) | (refine sl_eq ?_; simp; done), by first | exact trivial | simp [SV.ok]⟩, ?_⟩)
  · exact trivial
  · try dsimp only
    exact ⟨by omega, by simpa using gmake (g := gItem) (T := 134) (b := x0) (zItem_ow) (Nat.le_refl xs.length) (by omega)⟩
  · exact .refl _
  rintro ⟨k, A⟩ hI
  obtain ⟨hk, oA⟩ : k ≤ xs.length ∧ (gSl 134 gItem).ow [.slice (some ⟨x0, 0, none⟩) xs.length xs.length] (xs.take k ++ List.replicate (xs.length - k) zItem) A := hI
  try dsimp only
  refine VCsplit.intro (fun q1 => ?_) (fun q1 => ?_)
  ·
    simp at q1
    have hs := szE_step gItem xs k default (by omega)
    have hs2 := szE_le gItem xs (k + 1)
    refine idx_rd hp ?_ ?_ fun b2 o2 hb2 => ?_
    · omega
    · omega
    refine load_allN default (k) rfl hp ?_ ?_ hb2 rfl (mem_at 1 rfl) fun l3 hl3 => ?_
    · omega
    · omega
    obtain ⟨b0x3, c0x3, rfl, h0x3, w1x3⟩ := gItem_rd.1 hl3
    refine call_new (toItem_ct _ (xs[k]?.getD default) ?_) (Rp.mono _ (mem_at 1 rfl) hl3) ?_
    · omega
    rintro v4 A4 o4
    obtain ⟨l4, rfl, o4⟩ := o4
    have r4 := Gt.owrd _ o4
    obtain ⟨b0x4, c0x4, rfl, h0x4, w1x4⟩ := gItem_rd.1 r4
    refine idx_rd (Gt.owrd _ oA) ?_ ?_ fun b5 o5 hb5 => ?_
    · omega
    · simp; omega
    refine gstore1N (k) (A) (A4) [H] (.le fun a => by (try simp only [setR, List.cons_append, List.nil_append]); simp only [List.flatten_append, List.flatten_cons, List.flatten_nil, List.count_append, List.count_nil, List.append_nil, List.nil_append]; omega) rfl oA ?_ ?_ hb5 rfl _ o4 fun A6 o6 => ?_
    · omega
    · simp; omega
    apply loop_stepA (k + 1, _)
    · exact .refl _
    · repeat' (first | exact trivial | refine ⟨⟨_, rfl, by first | rfl | exact inc_eq _ (by omega) | (refine sl_eq ?_; simp; done), by first | exact trivial | simp [SV.ok]⟩, ?_⟩)
    · exact trivial
    · try dsimp only
      exact ⟨by omega, by rw [← take_stepz xs k default zItem (by omega)] ; assumption⟩
    try dsimp only
    omega
  ·
    simp at q1
    obtain rfl : k = xs.length := by omega
    rw [List.take_length, Nat.sub_self, List.replicate_zero, List.append_nil] at oA
    exact ⟨_, ⟨_, _, rfl, oA⟩, (.le fun a => by (try simp only [setR, List.cons_append, List.nil_append]); simp only [List.flatten_append, List.flatten_cons, List.flatten_nil, List.count_append, List.count_nil, List.append_nil, List.nil_append]; omega)⟩
--@ct laws.eqItemS val eqItemS_ct _ _ _ _ _ _ $1 $2 | ⟨%1, %2⟩
theorem eqItemS_ct (b1 : Option Addr) (m1 c1 : Nat) (b2 : Option Addr) (m2 c2 : Nat) (xs ys : List Item) :
    Ct Tryz.prog 113 [.slice b1 m1 c1, .slice b2 m2 c2] [] (fun H => (gSl 134 gItem).rd H [.slice b1 m1 c1] xs ∧ (gSl 134 gItem).rd H [.slice b2 m2 c2] ys) (fun v A => v = .bool (decide (xs = ys)) ∧ A = []) := by
  refine Ct.intro0 G_ok Tryz.func113 rfl rfl rfl fun E H hp => ?_
  obtain ⟨hp1, hp2⟩ := hp
  obtain ⟨rfl, hc1, hl1⟩ := sl_len hp1
  obtain ⟨rfl, hc2, hl2⟩ := sl_len hp2
  refine VCsplit.intro (fun q0 => ?_) (fun q0 => ?_)
  ·
    simp at q0
    exact ⟨[], ⟨by rw [decide_eq_false (fun e => by subst e; omega)], rfl⟩, (.le fun a => by (try simp only [setR, List.cons_append, List.nil_append]); simp only [List.flatten_append, List.flatten_cons, List.flatten_nil, List.count_append, List.count_nil, List.append_nil, List.nil_append]; omega)⟩
  ·
    simp at q0
    apply loop_mod (α := (Nat)) G_ok [11, 12, 13, 14, 17, 18, 19, 20, 21, 22, 23, 24, 25, 26, 4, 15, 16, 5] (fun z => [(5, .v (.int .i64 z))]) (fun z => []) (fun z => [H]) (fun z => xs.length - z) (fun z => z ≤ xs.length ∧ xs.take z = ys.take z) (0)
    · repeat' (first | exact trivial | refine ⟨⟨_, rfl, by first | rfl | exact inc_eq _ (by omega) | (refine sl_eq ?_; simp; done), by first | exact trivial | simp [SV.ok]⟩, ?_⟩)
    · exact trivial
    · exact ⟨by omega, by simp⟩
    · exact .refl _
    rintro k hI
    obtain ⟨hk, he⟩ : k ≤ xs.length ∧ xs.take k = ys.take k := hI
    try dsimp only
    refine VCsplit.intro (fun q1 => ?_) (fun q1 => ?_)
    ·
      simp at q1
      refine draw G_ok mixed none (.q 0 (.q 1 (.q 2 (.q 3 (.q 4 (.q 5 (.q 6 (.q 7 (.f 8 (.q 9 (.nil))))))))))) (by decide +kernel) ?_
      refine idx_rd hp1 ?_ ?_ fun b2 o2 hb2 => ?_
      · omega
      · omega
      refine load_allN default (k) rfl hp1 ?_ ?_ hb2 rfl (mem_at 0 rfl) fun l3 hl3 => ?_
      · omega
      · omega
      obtain ⟨b0x3, c0x3, rfl, h0x3, w1x3⟩ := gItem_rd.1 hl3
      refine idx_rd hp2 ?_ ?_ fun b4 o4 hb4 => ?_
      · omega
      · omega
      refine load_allN default (k) rfl hp2 ?_ ?_ hb4 rfl (mem_at 0 rfl) fun l5 hl5 => ?_
      · omega
      · omega
      obtain ⟨b0x5, c0x5, rfl, h0x5, w1x5⟩ := gItem_rd.1 hl5
      refine call_val (eqItem_ct _ _ (xs[k]?.getD default) (ys[k]?.getD default)) ⟨(Rp.mono _ (mem_at 0 rfl) hl3), (Rp.mono _ (mem_at 0 rfl) hl5)⟩ ?_
      rintro _ rfl
      refine VC.intro ?_ ?_
      · exact fun _ h => h
      refine VCsplit.intro (fun q7 => ?_) (fun q7 => ?_)
      ·
        simp at q7
        exact ⟨[], ⟨by rw [decide_eq_false (fun e => by subst e; simp at *)], rfl⟩, (.le fun a => by (try simp only [setR, List.cons_append, List.nil_append]); simp only [List.flatten_append, List.flatten_cons, List.flatten_nil, List.count_append, List.count_nil, List.append_nil, List.nil_append]; omega)⟩
      ·
        simp at q7
        apply loop_stepA (k + 1)
        · exact .refl _
        · repeat' (first | exact trivial | refine ⟨⟨_, rfl, by first | rfl | exact inc_eq _ (by omega) | (refine sl_eq ?_; simp; done), by first | exact trivial | simp [SV.ok]⟩, ?_⟩)
        · exact trivial
        · exact ⟨by omega, eq_step default (by omega) he (by omega) (by simpa using ‹_›)⟩
        omega
    ·
      simp at q1
      exact ⟨[], ⟨by rw [decide_eq_true]; rw [← List.take_length (l := xs), ← List.take_length (l := ys), ← (by omega : xs.length = ys.length), show xs.length = k by omega]; exact he, rfl⟩, (.le fun a => by (try simp only [setR, List.cons_append, List.nil_append]); simp only [List.flatten_append, List.flatten_cons, List.flatten_nil, List.count_append, List.count_nil, List.append_nil, List.nil_append]; omega)⟩
--@ct laws.szBag raw refine call_q (szBag_ct _ $1 _ ?_ ?_) %1 ?_ | | rintro _ ⟨r#, rfl, hr#⟩
theorem szBag_ct (l : List Value) (x : Bag) (left : Int) (h0 : 0 ≤ left) (h1 : left ≤ 1048576) :
    Ct Tryz.prog 70 [.agg ⟨l⟩, .int .i64 left] [] (fun H => gBag.rd H l x) (fun v A => (∃ r : Int, v = .int .i64 r ∧ ((r = -1 ∧ left < (gBag.sz x : Int)) ∨ (r = left - (gBag.sz x : Int) ∧ (gBag.sz x : Int) ≤ left))) ∧ A = []) := by
  refine Ct.intro0 G_ok Tryz.func70 rfl rfl rfl fun E H hp => ?_
  obtain ⟨b0, c0, rfl, h0⟩ := gBag_rd.1 hp
  have hz := gBag_sz x
  refine VCnew.intro fun x0 => ?_
  refine call_q (szItemS_ct _ _ _ (x.items) _ ?_ ?_) (Rp.mono _ (mem_at 0 rfl) h0) ?_
  · trivial
  · trivial
  rintro _ ⟨r1, rfl, hr1⟩
  refine VCsplit.intro (fun q2 => ?_) (fun q2 => ?_)
  ·
    simp at q2
    exact ⟨[], ⟨⟨-1, rfl, .inl ⟨rfl, by (try simp (disch := omega) only [wrap_of] at *); omega⟩⟩, rfl⟩, (.le fun a => by (try simp only [setR, List.cons_append, List.nil_append]); simp only [List.flatten_append, List.flatten_cons, List.flatten_nil, List.count_append, List.count_nil, List.append_nil, List.nil_append]; omega)⟩
  ·
    simp at q2
    exact ⟨[], ⟨⟨_, rfl, .inr ⟨by (try simp (disch := omega) only [wrap_of] at *); omega, by omega⟩⟩, rfl⟩, (.le fun a => by (try simp only [setR, List.cons_append, List.nil_append]); simp only [List.flatten_append, List.flatten_cons, List.flatten_nil, List.count_append, List.count_nil, List.append_nil, List.nil_append]; omega)⟩
--@ct laws.toBag new toBag_ct _ $1 ?_ | %1 | obtain ⟨l#, rfl, o#⟩ := o# ;; have r# := Gt.owrd _ o# ;; obtain ⟨b0x#, c0x#, rfl, h0x#⟩ := gBag_rd.1 r#
theorem toBag_ct (l : List Value) (x : Bag) (hx : gBag.sz x ≤ 1048576) :
    Ct Tryz.prog 72 [.agg ⟨l⟩] [] (fun H => gBag.rd H l x) (fun v A => ∃ l, v = .agg ⟨l⟩ ∧ gBag.ow l x A) := by
  refine Ct.intro0 G_ok Tryz.func72 rfl rfl rfl fun E H hp => ?_
  obtain ⟨b0, c0, rfl, h0⟩ := gBag_rd.1 hp
  have hz := gBag_sz x
  refine VCnew.intro fun x0 => ?_
  refine VCnew.intro fun x1 => ?_
  refine VCnew.intro fun x2 => ?_
  refine call_new (toItemS_ct _ _ _ (x.items) ?_) (Rp.mono _ (mem_at 0 rfl) h0) ?_
  · trivial
  rintro v3 A3 o3
  obtain ⟨b3, c3, rfl, o3⟩ := o3
  exact ⟨_, ⟨_, rfl, gBag_ow.2 ⟨_, _, _, rfl, .refl _, by assumption⟩⟩, (.le fun a => by (try simp only [setR, List.cons_append, List.nil_append]); simp only [List.flatten_append, List.flatten_cons, List.flatten_nil, List.count_append, List.count_nil, List.append_nil, List.nil_append]; omega)⟩
--@ct laws.eqBag val eqBag_ct _ _ $1 $2 | ⟨%1, %2⟩
theorem eqBag_ct (l1 l2 : List Value) (x y : Bag) :
    Ct Tryz.prog 56 [.agg ⟨l1⟩, .agg ⟨l2⟩] [] (fun H => gBag.rd H l1 x ∧ gBag.rd H l2 y) (fun v A => v = .bool (decide (x = y)) ∧ A = []) := by
  refine Ct.intro0 G_ok Tryz.func56 rfl rfl rfl fun E H hp => ?_
  obtain ⟨hp1, hp2⟩ := hp
  obtain ⟨b0p, c0p, rfl, h0p⟩ := gBag_rd.1 hp1
  obtain ⟨b0q, c0q, rfl, h0q⟩ := gBag_rd.1 hp2
  refine VCnew.intro fun x0 => ?_
  refine VCnew.intro fun x1 => ?_
  refine call_val (eqItemS_ct _ _ _ _ _ _ (x.items) (y.items)) ⟨(Rp.mono _ (mem_at 0 rfl) h0p), (Rp.mono _ (mem_at 0 rfl) h0q)⟩ ?_
  rintro _ rfl
  refine VCsplit.intro (fun q3 => ?_) (fun q3 => ?_)
  ·
    simp at q3
    exact ⟨[], ⟨by rw [decide_eq_false (fun e => by subst e; simp at *)], rfl⟩, (.le fun a => by (try simp only [setR, List.cons_append, List.nil_append]); simp only [List.flatten_append, List.flatten_cons, List.flatten_nil, List.count_append, List.count_nil, List.append_nil, List.nil_append]; omega)⟩
  ·
    simp at q3
    exact ⟨[], ⟨by rw [decide_eq_true (Bag.eq_iff.2 (by simp_all))], rfl⟩, (.le fun a => by (try simp only [setR, List.cons_append, List.nil_append]); simp only [List.flatten_append, List.flatten_cons, List.flatten_nil, List.count_append, List.count_nil, List.append_nil, List.nil_append]; omega)⟩
--@ct laws.szAtom raw refine call_q (szAtom_ct _ $1 _ ?_ ?_) %1 ?_ | | rintro _ ⟨r#, rfl, hr#⟩
theorem szAtom_ct (l : List Value) (x : Atom) (left : Int) (h0 : 0 ≤ left) (h1 : left ≤ 1048576) :
    Ct Tryz.prog 86 [.agg ⟨l⟩, .int .i64 left] [] (fun H => gAtom.rd H l x) (fun v A => (∃ r : Int, v = .int .i64 r ∧ ((r = -1 ∧ left < (gAtom.sz x : Int)) ∨ (r = left - (gAtom.sz x : Int) ∧ (gAtom.sz x : Int) ≤ left))) ∧ A = []) := by
  refine Ct.intro0 G_ok Tryz.func86 rfl rfl rfl fun E H hp => ?_
  obtain ⟨rfl, w0, w1, w2⟩ := gAtom_rd.1 hp
  have hz := gAtom_sz x
  refine VCnew.intro fun x0 => ?_
  refine VCsplit.intro (fun q1 => ?_) (fun q1 => ?_)
  ·
    simp at q1
    simp (disch := omega) only [wrap_of] at q1
    exact ⟨[], ⟨⟨-1, rfl, .inl ⟨rfl, by (try simp (disch := omega) only [wrap_of] at *); omega⟩⟩, rfl⟩, (.le fun a => by (try simp only [setR, List.cons_append, List.nil_append]); simp only [List.flatten_append, List.flatten_cons, List.flatten_nil, List.count_append, List.count_nil, List.append_nil, List.nil_append]; omega)⟩
  ·
    simp at q1
    simp (disch := omega) only [wrap_of] at q1
    refine VCsplit.intro (fun q2 => ?_) (fun q2 => ?_)
    ·
      simp at q2
      simp (disch := omega) only [wrap_of] at q2
      exact ⟨[], ⟨⟨-1, rfl, .inl ⟨rfl, by (try simp (disch := omega) only [wrap_of] at *); omega⟩⟩, rfl⟩, (.le fun a => by (try simp only [setR, List.cons_append, List.nil_append]); simp only [List.flatten_append, List.flatten_cons, List.flatten_nil, List.count_append, List.count_nil, List.append_nil, List.nil_append]; omega)⟩
    ·
      simp at q2
      simp (disch := omega) only [wrap_of] at q2
      refine VCsplit.intro (fun q3 => ?_) (fun q3 => ?_)
      ·
        simp at q3
        simp (disch := omega) only [wrap_of] at q3
        exact ⟨[], ⟨⟨-1, rfl, .inl ⟨rfl, by (try simp (disch := omega) only [wrap_of] at *); omega⟩⟩, rfl⟩, (.le fun a => by (try simp only [setR, List.cons_append, List.nil_append]); simp only [List.flatten_append, List.flatten_cons, List.flatten_nil, List.count_append, List.count_nil, List.append_nil, List.nil_append]; omega)⟩
      ·
        simp at q3
        simp (disch := omega) only [wrap_of] at q3
        exact ⟨[], ⟨⟨_, rfl, .inr ⟨by (try simp (disch := omega) only [wrap_of] at *); omega, by omega⟩⟩, rfl⟩, (.le fun a => by (try simp only [setR, List.cons_append, List.nil_append]); simp only [List.flatten_append, List.flatten_cons, List.flatten_nil, List.count_append, List.count_nil, List.append_nil, List.nil_append]; omega)⟩
--@ct laws.toAtom new toAtom_ct _ $1 ?_ | %1 | obtain ⟨l#, rfl, o#⟩ := o# ;; have r# := Gt.owrd _ o# ;; obtain ⟨rfl, w0x#, w1x#, w2x#⟩ := gAtom_rd.1 r#
theorem toAtom_ct (l : List Value) (x : Atom) (hx : gAtom.sz x ≤ 1048576) :
    Ct Tryz.prog 97 [.agg ⟨l⟩] [] (fun H => gAtom.rd H l x) (fun v A => ∃ l, v = .agg ⟨l⟩ ∧ gAtom.ow l x A) := by
  refine Ct.intro0 G_ok Tryz.func97 rfl rfl rfl fun E H hp => ?_
  obtain ⟨rfl, w0, w1, w2⟩ := gAtom_rd.1 hp
  have hz := gAtom_sz x
  refine VCnew.intro fun x0 => ?_
  refine VCnew.intro fun x1 => ?_
  refine VCnew.intro fun x2 => ?_
  exact ⟨_, ⟨_, rfl, gAtom_ow.2 ⟨rfl, .refl _, by assumption, by assumption, by assumption⟩⟩, (.le fun a => by (try simp only [setR, List.cons_append, List.nil_append]); simp only [List.flatten_append, List.flatten_cons, List.flatten_nil, List.count_append, List.count_nil, List.append_nil, List.nil_append]; omega)⟩
--@ct laws.eqAtom val eqAtom_ct _ _ $1 $2 | ⟨%1, %2⟩
theorem eqAtom_ct (l1 l2 : List Value) (x y : Atom) :
    Ct Tryz.prog 114 [.agg ⟨l1⟩, .agg ⟨l2⟩] [] (fun H => gAtom.rd H l1 x ∧ gAtom.rd H l2 y) (fun v A => v = .bool (decide (x = y)) ∧ A = []) := by
  refine Ct.intro0 G_ok Tryz.func114 rfl rfl rfl fun E H hp => ?_
  obtain ⟨hp1, hp2⟩ := hp
  obtain ⟨rfl, w0p, w1p, w2p⟩ := gAtom_rd.1 hp1
  obtain ⟨rfl, w0q, w1q, w2q⟩ := gAtom_rd.1 hp2
  refine VCnew.intro fun x0 => ?_
  refine VCnew.intro fun x1 => ?_
  refine VCsplit.intro (fun q2 => ?_) (fun q2 => ?_)
  ·
    simp at q2
    simp only [str_inj, u8_inj, u8_wrap] at q2
    exact ⟨[], ⟨by rw [decide_eq_false (fun e => by subst e; simp at *)], rfl⟩, (.le fun a => by (try simp only [setR, List.cons_append, List.nil_append]); simp only [List.flatten_append, List.flatten_cons, List.flatten_nil, List.count_append, List.count_nil, List.append_nil, List.nil_append]; omega)⟩
  ·
    simp at q2
    simp only [str_inj, u8_inj, u8_wrap] at q2
    refine VCsplit.intro (fun q3 => ?_) (fun q3 => ?_)
    ·
      simp at q3
      simp only [str_inj, u8_inj, u8_wrap] at q3
      exact ⟨[], ⟨by rw [decide_eq_false (fun e => by subst e; simp at *)], rfl⟩, (.le fun a => by (try simp only [setR, List.cons_append, List.nil_append]); simp only [List.flatten_append, List.flatten_cons, List.flatten_nil, List.count_append, List.count_nil, List.append_nil, List.nil_append]; omega)⟩
    ·
      simp at q3
      simp only [str_inj, u8_inj, u8_wrap] at q3
      refine VCsplit.intro (fun q4 => ?_) (fun q4 => ?_)
      ·
        simp at q4
        simp only [str_inj, u8_inj, u8_wrap] at q4
        exact ⟨[], ⟨by rw [decide_eq_false (fun e => by subst e; simp at *)], rfl⟩, (.le fun a => by (try simp only [setR, List.cons_append, List.nil_append]); simp only [List.flatten_append, List.flatten_cons, List.flatten_nil, List.count_append, List.count_nil, List.append_nil, List.nil_append]; omega)⟩
      ·
        simp at q4
        simp only [str_inj, u8_inj, u8_wrap] at q4
        exact ⟨[], ⟨by rw [decide_eq_true (Atom.eq_iff.2 (by simp_all))], rfl⟩, (.le fun a => by (try simp only [setR, List.cons_append, List.nil_append]); simp only [List.flatten_append, List.flatten_cons, List.flatten_nil, List.count_append, List.count_nil, List.append_nil, List.nil_append]; omega)⟩
--@ct laws.szFilter raw refine call_q (szFilter_ct _ $1 _ ?_ ?_) %1 ?_ | | rintro _ ⟨r#, rfl, hr#⟩
theorem szFilter_ct (l : List Value) (x : Filter) (left : Int) (h0 : 0 ≤ left) (h1 : left ≤ 1048576) :
    Ct Tryz.prog 87 [.agg ⟨l⟩, .int .i64 left] [] (fun H => gFilter.rd H l x) (fun v A => (∃ r : Int, v = .int .i64 r ∧ ((r = -1 ∧ left < (gFilter.sz x : Int)) ∨ (r = left - (gFilter.sz x : Int) ∧ (gFilter.sz x : Int) ≤ left))) ∧ A = []) := by
  refine Ct.intro0 G_ok Tryz.func87 rfl rfl rfl fun E H hp => ?_
  obtain ⟨rfl, w0, w1, w2, w3⟩ := gFilter_rd.1 hp
  have hz := gFilter_sz x
  refine VCnew.intro fun x0 => ?_
  refine VCsplit.intro (fun q1 => ?_) (fun q1 => ?_)
  ·
    simp at q1
    simp (disch := omega) only [wrap_of] at q1
    exact ⟨[], ⟨⟨-1, rfl, .inl ⟨rfl, by (try simp (disch := omega) only [wrap_of] at *); omega⟩⟩, rfl⟩, (.le fun a => by (try simp only [setR, List.cons_append, List.nil_append]); simp only [List.flatten_append, List.flatten_cons, List.flatten_nil, List.count_append, List.count_nil, List.append_nil, List.nil_append]; omega)⟩
  ·
    simp at q1
    simp (disch := omega) only [wrap_of] at q1
    refine VCsplit.intro (fun q2 => ?_) (fun q2 => ?_)
    ·
      simp at q2
      simp (disch := omega) only [wrap_of] at q2
      exact ⟨[], ⟨⟨-1, rfl, .inl ⟨rfl, by (try simp (disch := omega) only [wrap_of] at *); omega⟩⟩, rfl⟩, (.le fun a => by (try simp only [setR, List.cons_append, List.nil_append]); simp only [List.flatten_append, List.flatten_cons, List.flatten_nil, List.count_append, List.count_nil, List.append_nil, List.nil_append]; omega)⟩
    ·
      simp at q2
      simp (disch := omega) only [wrap_of] at q2
      exact ⟨[], ⟨⟨_, rfl, .inr ⟨by (try simp (disch := omega) only [wrap_of] at *); omega, by omega⟩⟩, rfl⟩, (.le fun a => by (try simp only [setR, List.cons_append, List.nil_append]); simp only [List.flatten_append, List.flatten_cons, List.flatten_nil, List.count_append, List.count_nil, List.append_nil, List.nil_append]; omega)⟩
--@ct laws.toFilter new toFilter_ct _ $1 ?_ | %1 | obtain ⟨l#, rfl, o#⟩ := o# ;; have r# := Gt.owrd _ o# ;; obtain ⟨rfl, w0x#, w1x#, w2x#, w3x#⟩ := gFilter_rd.1 r#
theorem toFilter_ct (l : List Value) (x : Filter) (hx : gFilter.sz x ≤ 1048576) :
    Ct Tryz.prog 98 [.agg ⟨l⟩] [] (fun H => gFilter.rd H l x) (fun v A => ∃ l, v = .agg ⟨l⟩ ∧ gFilter.ow l x A) := by
  refine Ct.intro0 G_ok Tryz.func98 rfl rfl rfl fun E H hp => ?_
  obtain ⟨rfl, w0, w1, w2, w3⟩ := gFilter_rd.1 hp
  have hz := gFilter_sz x
  refine VCnew.intro fun x0 => ?_
  refine VCnew.intro fun x1 => ?_
  refine VCnew.intro fun x2 => ?_
  exact ⟨_, ⟨_, rfl, gFilter_ow.2 ⟨rfl, .refl _, by assumption, by assumption, by assumption, by assumption⟩⟩, (.le fun a => by (try simp only [setR, List.cons_append, List.nil_append]); simp only [List.flatten_append, List.flatten_cons, List.flatten_nil, List.count_append, List.count_nil, List.append_nil, List.nil_append]; omega)⟩
--@ct laws.eqFilter val eqFilter_ct _ _ $1 $2 | ⟨%1, %2⟩
theorem eqFilter_ct (l1 l2 : List Value) (x y : Filter) :
    Ct Tryz.prog 115 [.agg ⟨l1⟩, .agg ⟨l2⟩] [] (fun H => gFilter.rd H l1 x ∧ gFilter.rd H l2 y) (fun v A => v = .bool (decide (x = y)) ∧ A = []) := by
  refine Ct.intro0 G_ok Tryz.func115 rfl rfl rfl fun E H hp => ?_
  obtain ⟨hp1, hp2⟩ := hp
  obtain ⟨rfl, w0p, w1p, w2p, w3p⟩ := gFilter_rd.1 hp1
  obtain ⟨rfl, w0q, w1q, w2q, w3q⟩ := gFilter_rd.1 hp2
  refine VCnew.intro fun x0 => ?_
  refine VCnew.intro fun x1 => ?_
  refine VCsplit.intro (fun q2 => ?_) (fun q2 => ?_)
  ·
    simp at q2
    simp only [str_inj, u8_inj, u8_wrap] at q2
    exact ⟨[], ⟨by rw [decide_eq_false (fun e => by subst e; simp at *)], rfl⟩, (.le fun a => by (try simp only [setR, List.cons_append, List.nil_append]); simp only [List.flatten_append, List.flatten_cons, List.flatten_nil, List.count_append, List.count_nil, List.append_nil, List.nil_append]; omega)⟩
  ·
    simp at q2
    simp only [str_inj, u8_inj, u8_wrap] at q2
    refine VCsplit.intro (fun q3 => ?_) (fun q3 => ?_)
    ·
      simp at q3
      exact ⟨[], ⟨by rw [decide_eq_false (fun e => by subst e; simp at *)], rfl⟩, (.le fun a => by (try simp only [setR, List.cons_append, List.nil_append]); simp only [List.flatten_append, List.flatten_cons, List.flatten_nil, List.count_append, List.count_nil, List.append_nil, List.nil_append]; omega)⟩
    ·
      simp at q3
      refine VCsplit.intro (fun q4 => ?_) (fun q4 => ?_)
      ·
        simp at q4
        simp only [str_inj, u8_inj, u8_wrap] at q4
        exact ⟨[], ⟨by rw [decide_eq_false (fun e => by subst e; simp at *)], rfl⟩, (.le fun a => by (try simp only [setR, List.cons_append, List.nil_append]); simp only [List.flatten_append, List.flatten_cons, List.flatten_nil, List.count_append, List.count_nil, List.append_nil, List.nil_append]; omega)⟩
      ·
        simp at q4
        simp only [str_inj, u8_inj, u8_wrap] at q4
        refine VCsplit.intro (fun q5 => ?_) (fun q5 => ?_)
        ·
          simp at q5
          exact ⟨[], ⟨by rw [decide_eq_false (fun e => by subst e; simp at *)], rfl⟩, (.le fun a => by (try simp only [setR, List.cons_append, List.nil_append]); simp only [List.flatten_append, List.flatten_cons, List.flatten_nil, List.count_append, List.count_nil, List.append_nil, List.nil_append]; omega)⟩
        ·
          simp at q5
          exact ⟨[], ⟨by rw [decide_eq_true (Filter.eq_iff.2 (by simp_all))], rfl⟩, (.le fun a => by (try simp only [setR, List.cons_append, List.nil_append]); simp only [List.flatten_append, List.flatten_cons, List.flatten_nil, List.count_append, List.count_nil, List.append_nil, List.nil_append]; omega)⟩
--@ct laws.szAtomS raw refine call_q (szAtomS_ct _ _ _ $1 _ ?_ ?_) %1 ?_ | | rintro _ ⟨r#, rfl, hr#⟩
theorem szAtomS_ct (b : Option Addr) (m c : Nat) (xs : List Atom) (left : Int) (h0 : 0 ≤ left) (h1 : left ≤ 1048576) :
    Ct Tryz.prog 43 [.slice b m c, .int .i64 left] [] (fun H => (gSl 154 gAtom).rd H [.slice b m c] xs) (fun v A => (∃ r : Int, v = .int .i64 r ∧ ((r = -1 ∧ left < (szL gAtom xs : Int)) ∨ (r = left - (szL gAtom xs : Int) ∧ (szL gAtom xs : Int) ≤ left))) ∧ A = []) := by
  refine Ct.intro0 G_ok Tryz.func43 rfl rfl rfl fun E H hp => ?_
  obtain ⟨rfl, hcl, hl⟩ := sl_len hp
  have hq := szL_eq gAtom xs
  have ht := List.take_length (l := xs)
  refine VCsplit.intro (fun q0 => ?_) (fun q0 => ?_)
  ·
    simp at q0
    simp (disch := omega) only [wrap_of] at q0
    exact ⟨[], ⟨⟨-1, rfl, .inl ⟨rfl, by (try simp (disch := omega) only [wrap_of] at *); omega⟩⟩, rfl⟩, (.le fun a => by (try simp only [setR, List.cons_append, List.nil_append]); simp only [List.flatten_append, List.flatten_cons, List.flatten_nil, List.count_append, List.count_nil, List.append_nil, List.nil_append]; omega)⟩
  ·
    simp at q0
    simp (disch := omega) only [wrap_of] at q0
    apply loop_mod (α := (Nat) × (Int)) G_ok [12, 13, 14, 15, 18, 19, 20, 21, 22, 23, 1, 24, 25, 4, 16, 17, 5] (fun z => [(5, .v (.int .i64 z.1)), (1, .v (.int .i64 z.2))]) (fun z => []) (fun z => [H]) (fun z => xs.length - z.1) (fun z => z.1 ≤ xs.length ∧ z.2 = left - xs.length - szE gAtom (xs.take z.1) ∧ 0 ≤ z.2) ((0, left - xs.length))
    · repeat' (first | exact trivial | refine ⟨⟨_, rfl, by first | rfl | exact inc_eq _ (by omega) | (refine sl_eq ?_; simp; done) | (simp (disch := omega) only [wrap_of]), by first | exact trivial | simp [SV.ok]⟩, ?_⟩)
    · exact trivial
    · try dsimp only
      exact ⟨by omega, by simp [szE], by omega⟩
    · exact .refl _
    rintro ⟨k, lf⟩ hI
    obtain ⟨hk, hlf, hnn⟩ : k ≤ xs.length ∧ lf = left - xs.length - szE gAtom (xs.take k) ∧ 0 ≤ lf := hI
    try dsimp only
    refine VCsplit.intro (fun q1 => ?_) (fun q1 => ?_)
    ·
      simp at q1
      have hs := szE_step gAtom xs k default (by omega)
      have hs2 := szE_le gAtom xs (k + 1)
      refine idx_rd hp ?_ ?_ fun b2 o2 hb2 => ?_
      · omega
      · omega
      refine load_allN default (k) rfl hp ?_ ?_ hb2 rfl (mem_at 0 rfl) fun l3 hl3 => ?_
      · omega
      · omega
      obtain ⟨rfl, w0x3, w1x3, w2x3⟩ := gAtom_rd.1 hl3
      refine call_q (szAtom_ct _ (xs[k]?.getD default) _ ?_ ?_) (Rp.mono _ (mem_at 0 rfl) hl3) ?_
      · trivial
      · omega
      rintro _ ⟨r4, rfl, hr4⟩
      refine VCsplit.intro (fun q5 => ?_) (fun q5 => ?_)
      ·
        simp at q5
        exact ⟨[], ⟨⟨-1, rfl, .inl ⟨rfl, by (try simp (disch := omega) only [wrap_of] at *); omega⟩⟩, rfl⟩, (.le fun a => by (try simp only [setR, List.cons_append, List.nil_append]); simp only [List.flatten_append, List.flatten_cons, List.flatten_nil, List.count_append, List.count_nil, List.append_nil, List.nil_append]; omega)⟩
      ·
        simp at q5
        apply loop_stepA (k + 1, _)
        · exact .refl _
        · repeat' (first | exact trivial | refine ⟨⟨_, rfl, by first | rfl | exact inc_eq _ (by omega) | (refine sl_eq ?_; simp; done) | (simp (disch := omega) only [wrap_of]), by first | exact trivial | simp [SV.ok]⟩, ?_⟩)
        · exact trivial
        · try dsimp only
          ((try simp (disch := omega) only [wrap_of] at *); refine ⟨by omega, by omega, by omega⟩)
        try dsimp only
        omega
    ·
      simp at q1
      obtain rfl : k = xs.length := by omega
      rw [List.take_length] at hlf
      exact ⟨[], ⟨⟨_, rfl, .inr ⟨by (try simp (disch := omega) only [wrap_of] at *); omega, by omega⟩⟩, rfl⟩, (.le fun a => by (try simp only [setR, List.cons_append, List.nil_append]); simp only [List.flatten_append, List.flatten_cons, List.flatten_nil, List.count_append, List.count_nil, List.append_nil, List.nil_append]; omega)⟩
--@ct laws.toAtomS new toAtomS_ct _ _ _ $1 ?_ | %1 | obtain ⟨b#, c#, rfl, o#⟩ := o#
theorem toAtomS_ct (b : Option Addr) (m c : Nat) (xs : List Atom) (hx : szL gAtom xs ≤ 1048576) :
    Ct Tryz.prog 50 [.slice b m c] [] (fun H => (gSl 154 gAtom).rd H [.slice b m c] xs) (fun v A => ∃ b c, v = .slice b xs.length c ∧ (gSl 154 gAtom).ow [.slice b xs.length c] xs A) := by
  refine Ct.intro0 G_ok Tryz.func50 rfl rfl rfl fun E H hp => ?_
  obtain ⟨rfl, hcl, hl⟩ := sl_len hp
  have hls := len_szL gAtom xs
  have hq := szL_eq gAtom xs
  refine VCmake.intro ?_ ?_ ?_ ?_ fun x0 => ?_
  · omega
  · omega
  · omega
  · omega
  apply loop_mod (α := (Nat) × (Hp)) G_ok [8, 9, 10, 11, 14, 15, 16, 17, 18, 19, 20, 21, 12, 13, 4] (fun z => [(4, .v (.int .i64 z.1))]) (fun z => []) (fun z => [z.2, H]) (fun z => xs.length - z.1) (fun z => z.1 ≤ xs.length ∧ (gSl 154 gAtom).ow [.slice (some ⟨x0, 0, none⟩) xs.length xs.length] (xs.take z.1 ++ List.replicate (xs.length - z.1) zAtom) z.2) ((0, _))
  · repeat' (first | exact trivial | refine ⟨⟨_, rfl, by first | rfl | exact inc_eq _ (by omega) | (refine sl_eq ?_; simp; done), by first | exact trivial | simp [SV.ok]⟩, ?_⟩)
  · exact trivial
  · try dsimp only
    exact ⟨by omega, by simpa using gmake (g := gAtom) (T := 154) (b := x0) (zAtom_ow) (Nat.le_refl xs.length) (by omega)⟩
  · exact .refl _
  rintro ⟨k, A⟩ hI
  obtain ⟨hk, oA⟩ : k ≤ xs.length ∧ (gSl 154 gAtom).ow [.slice (some ⟨x0, 0, none⟩) xs.length xs.length] (xs.take k ++ List.replicate (xs.length - k) zAtom) A := hI
  try dsimp only
  refine VCsplit.intro (fun q1 => ?_) (fun q1 => ?_)
  ·
    simp at q1
    have hs := szE_step gAtom xs k default (by omega)
    have hs2 := szE_le gAtom xs (k + 1)
    refine idx_rd hp ?_ ?_ fun b2 o2 hb2 => ?_
    · omega
    · omega
    refine load_allN default (k) rfl hp ?_ ?_ hb2 rfl (mem_at 1 rfl) fun l3 hl3 => ?_
    · omega
    · omega
    obtain ⟨rfl, w0x3, w1x3, w2x3⟩ := gAtom_rd.1 hl3
    refine call_new (toAtom_ct _ (xs[k]?.getD default) ?_) (Rp.mono _ (mem_at 1 rfl) hl3) ?_
    · omega
    rintro v4 A4 o4
    obtain ⟨l4, rfl, o4⟩ := o4
    have r4 := Gt.owrd _ o4
    obtain ⟨rfl, w0x4, w1x4, w2x4⟩ := gAtom_rd.1 r4
    refine idx_rd (Gt.owrd _ oA) ?_ ?_ fun b5 o5 hb5 => ?_
    · omega
    · simp; omega
    refine gstore1N (k) (A) (A4) [H] (.le fun a => by (try simp only [setR, List.cons_append, List.nil_append]); simp only [List.flatten_append, List.flatten_cons, List.flatten_nil, List.count_append, List.count_nil, List.append_nil, List.nil_append]; omega) rfl oA ?_ ?_ hb5 rfl _ o4 fun A6 o6 => ?_
    · omega
    · simp; omega
    apply loop_stepA (k + 1, _)
    · exact .refl _
    · repeat' (first | exact trivial | refine ⟨⟨_, rfl, by first | rfl | exact inc_eq _ (by omega) | (refine sl_eq ?_; simp; done), by first | exact trivial | simp [SV.ok]⟩, ?_⟩)
    · exact trivial
    · try dsimp only
      exact ⟨by omega, by rw [← take_stepz xs k default zAtom (by omega)] ; assumption⟩
    try dsimp only
    omega
  ·
    simp at q1
    obtain rfl : k = xs.length := by omega
    rw [List.take_length, Nat.sub_self, List.replicate_zero, List.append_nil] at oA
    exact ⟨_, ⟨_, _, rfl, oA⟩, (.le fun a => by (try simp only [setR, List.cons_append, List.nil_append]); simp only [List.flatten_append, List.flatten_cons, List.flatten_nil, List.count_append, List.count_nil, List.append_nil, List.nil_append]; omega)⟩
--@ct laws.eqAtomS val eqAtomS_ct _ _ _ _ _ _ $1 $2 | ⟨%1, %2⟩
theorem eqAtomS_ct (b1 : Option Addr) (m1 c1 : Nat) (b2 : Option Addr) (m2 c2 : Nat) (xs ys : List Atom) :
    Ct Tryz.prog 57 [.slice b1 m1 c1, .slice b2 m2 c2] [] (fun H => (gSl 154 gAtom).rd H [.slice b1 m1 c1] xs ∧ (gSl 154 gAtom).rd H [.slice b2 m2 c2] ys) (fun v A => v = .bool (decide (xs = ys)) ∧ A = []) := by
  refine Ct.intro0 G_ok Tryz.func57 rfl rfl rfl fun E H hp => ?_
  obtain ⟨hp1, hp2⟩ := hp
  obtain ⟨rfl, hc1, hl1⟩ := sl_len hp1
  obtain ⟨rfl, hc2, hl2⟩ := sl_len hp2
  refine VCsplit.intro (fun q0 => ?_) (fun q0 => ?_)
  ·
    simp at q0
    exact ⟨[], ⟨by rw [decide_eq_false (fun e => by subst e; omega)], rfl⟩, (.le fun a => by (try simp only [setR, List.cons_append, List.nil_append]); simp only [List.flatten_append, List.flatten_cons, List.flatten_nil, List.count_append, List.count_nil, List.append_nil, List.nil_append]; omega)⟩
  ·
    simp at q0
    apply loop_mod (α := (Nat)) G_ok [11, 12, 13, 14, 17, 18, 19, 20, 21, 22, 23, 24, 25, 26, 4, 15, 16, 5] (fun z => [(5, .v (.int .i64 z))]) (fun z => []) (fun z => [H]) (fun z => xs.length - z) (fun z => z ≤ xs.length ∧ xs.take z = ys.take z) (0)
    · repeat' (first | exact trivial | refine ⟨⟨_, rfl, by first | rfl | exact inc_eq _ (by omega) | (refine sl_eq ?_; simp; done), by first | exact trivial | simp [SV.ok]⟩, ?_⟩)
    · exact trivial
    · exact ⟨by omega, by simp⟩
    · exact .refl _
    rintro k hI
    obtain ⟨hk, he⟩ : k ≤ xs.length ∧ xs.take k = ys.take k := hI
    try dsimp only
    refine VCsplit.intro (fun q1 => ?_) (fun q1 => ?_)
    ·
      simp at q1
      refine draw G_ok mixed none (.q 0 (.q 1 (.q 2 (.q 3 (.q 4 (.q 5 (.q 6 (.q 7 (.f 8 (.q 9 (.nil))))))))))) (by decide +kernel) ?_
      refine idx_rd hp1 ?_ ?_ fun b2 o2 hb2 => ?_
      · omega
      · omega
      refine load_allN default (k) rfl hp1 ?_ ?_ hb2 rfl (mem_at 0 rfl) fun l3 hl3 => ?_
      · omega
      · omega
      obtain ⟨rfl, w0x3, w1x3, w2x3⟩ := gAtom_rd.1 hl3
      refine idx_rd hp2 ?_ ?_ fun b4 o4 hb4 => ?_
      · omega
      · omega
      refine load_allN default (k) rfl hp2 ?_ ?_ hb4 rfl (mem_at 0 rfl) fun l5 hl5 => ?_
      · omega
      · omega
      obtain ⟨rfl, w0x5, w1x5, w2x5⟩ := gAtom_rd.1 hl5
      refine call_val (eqAtom_ct _ _ (xs[k]?.getD default) (ys[k]?.getD default)) ⟨(Rp.mono _ (mem_at 0 rfl) hl3), (Rp.mono _ (mem_at 0 rfl) hl5)⟩ ?_
      rintro _ rfl
      refine VC.intro ?_ ?_
      · exact fun _ h => h
      refine VCsplit.intro (fun q7 => ?_) (fun q7 => ?_)
      ·
        simp at q7
        exact ⟨[], ⟨by rw [decide_eq_false (fun e => by subst e; simp at *)], rfl⟩, (.le fun a => by (try simp only [setR, List.cons_append, List.nil_append]); simp only [List.flatten_append, List.flatten_cons, List.flatten_nil, List.count_append, List.count_nil, List.append_nil, List.nil_append]; omega)⟩
      ·
        simp at q7
        apply loop_stepA (k + 1)
        · exact .refl _
        · repeat' (first | exact trivial | refine ⟨⟨_, rfl, by first | rfl | exact inc_eq _ (by omega) | (refine sl_eq ?_; simp; done), by first | exact trivial | simp [SV.ok]⟩, ?_⟩)
        · exact trivial
        · exact ⟨by omega, eq_step default (by omega) he (by omega) (by simpa using ‹_›)⟩
        omega
    ·
      simp at q1
      exact ⟨[], ⟨by rw [decide_eq_true]; rw [← List.take_length (l := xs), ← List.take_length (l := ys), ← (by omega : xs.length = ys.length), show xs.length = k by omega]; exact he, rfl⟩, (.le fun a => by (try simp only [setR, List.cons_append, List.nil_append]); simp only [List.flatten_append, List.flatten_cons, List.flatten_nil, List.count_append, List.count_nil, List.append_nil, List.nil_append]; omega)⟩
--@ct laws.szFilterS raw refine call_q (szFilterS_ct _ _ _ $1 _ ?_ ?_) %1 ?_ | | rintro _ ⟨r#, rfl, hr#⟩
theorem szFilterS_ct (b : Option Addr) (m c : Nat) (xs : List Filter) (left : Int) (h0 : 0 ≤ left) (h1 : left ≤ 1048576) :
    Ct Tryz.prog 44 [.slice b m c, .int .i64 left] [] (fun H => (gSl 157 gFilter).rd H [.slice b m c] xs) (fun v A => (∃ r : Int, v = .int .i64 r ∧ ((r = -1 ∧ left < (szL gFilter xs : Int)) ∨ (r = left - (szL gFilter xs : Int) ∧ (szL gFilter xs : Int) ≤ left))) ∧ A = []) := by
  refine Ct.intro0 G_ok Tryz.func44 rfl rfl rfl fun E H hp => ?_
  obtain ⟨rfl, hcl, hl⟩ := sl_len hp
  have hq := szL_eq gFilter xs
  have ht := List.take_length (l := xs)
  refine VCsplit.intro (fun q0 => ?_) (fun q0 => ?_)
  ·
    simp at q0
    simp (disch := omega) only [wrap_of] at q0
    exact ⟨[], ⟨⟨-1, rfl, .inl ⟨rfl, by (try simp (disch := omega) only [wrap_of] at *); omega⟩⟩, rfl⟩, (.le fun a => by (try simp only [setR, List.cons_append, List.nil_append]); simp only [List.flatten_append, List.flatten_cons, List.flatten_nil, List.count_append, List.count_nil, List.append_nil, List.nil_append]; omega)⟩
  ·
    simp at q0
    simp (disch := omega) only [wrap_of] at q0
    apply loop_mod (α := (Nat) × (Int)) G_ok [12, 13, 14, 15, 18, 19, 20, 21, 22, 23, 1, 24, 25, 4, 16, 17, 5] (fun z => [(5, .v (.int .i64 z.1)), (1, .v (.int .i64 z.2))]) (fun z => []) (fun z => [H]) (fun z => xs.length - z.1) (fun z => z.1 ≤ xs.length ∧ z.2 = left - xs.length - szE gFilter (xs.take z.1) ∧ 0 ≤ z.2) ((0, left - xs.length))
    · repeat' (first | exact trivial | refine ⟨⟨_, rfl, by first | rfl | exact inc_eq _ (by omega) | (refine sl_eq ?_; simp; done) | (simp (disch := omega) only [wrap_of]), by first | exact trivial | simp [SV.ok]⟩, ?_⟩)
    · exact trivial
    · try dsimp only
      exact ⟨by omega, by simp [szE], by omega⟩
    · exact .refl _
    rintro ⟨k, lf⟩ hI
    obtain ⟨hk, hlf, hnn⟩ : k ≤ xs.length ∧ lf = left - xs.length - szE gFilter (xs.take k) ∧ 0 ≤ lf := hI
    try dsimp only
    refine VCsplit.intro (fun q1 => ?_) (fun q1 => ?_)
    ·
      simp at q1
      have hs := szE_step gFilter xs k default (by omega)
      have hs2 := szE_le gFilter xs (k + 1)
      refine idx_rd hp ?_ ?_ fun b2 o2 hb2 => ?_
      · omega
      · omega
      refine load_allN default (k) rfl hp ?_ ?_ hb2 rfl (mem_at 0 rfl) fun l3 hl3 => ?_
      · omega
      · omega
      obtain ⟨rfl, w0x3, w1x3, w2x3, w3x3⟩ := gFilter_rd.1 hl3
      refine call_q (szFilter_ct _ (xs[k]?.getD default) _ ?_ ?_) (Rp.mono _ (mem_at 0 rfl) hl3) ?_
      · trivial
      · omega
      rintro _ ⟨r4, rfl, hr4⟩
      refine VCsplit.intro (fun q5 => ?_) (fun q5 => ?_)
      ·
        simp at q5
        exact ⟨[], ⟨⟨-1, rfl, .inl ⟨rfl, by (try simp (disch := omega) only [wrap_of] at *); omega⟩⟩, rfl⟩, (.le fun a => by (try simp only [setR, List.cons_append, List.nil_append]); simp only [List.flatten_append, List.flatten_cons, List.flatten_nil, List.count_append, List.count_nil, List.append_nil, List.nil_append]; omega)⟩
      ·
        simp at q5
        apply loop_stepA (k + 1, _)
        · exact .refl _
        · repeat' (first | exact trivial | refine ⟨⟨_, rfl, by first | rfl | exact inc_eq _ (by omega) | (refine sl_eq ?_; simp; done) | (simp (disch := omega) only [wrap_of]), by first | exact trivial | simp [SV.ok]⟩, ?_⟩)
        · exact trivial
        · try dsimp only
          ((try simp (disch := omega) only [wrap_of] at *); refine ⟨by omega, by omega, by omega⟩)
        try dsimp only
        omega
    ·
      simp at q1
      obtain rfl : k = xs.length := by omega
      rw [List.take_length] at hlf
      exact ⟨[], ⟨⟨_, rfl, .inr ⟨by (try simp (disch := omega) only [wrap_of] at *); omega, by omega⟩⟩, rfl⟩, (.le fun a => by (try simp only [setR, List.cons_append, List.nil_append]); simp only [List.flatten_append, List.flatten_cons, List.flatten_nil, List.count_append, List.count_nil, List.append_nil, List.nil_append]; omega)⟩
--@ct laws.toFilterS new toFilterS_ct _ _ _ $1 ?_ | %1 | obtain ⟨b#, c#, rfl, o#⟩ := o#
theorem toFilterS_ct (b : Option Addr) (m c : Nat) (xs : List Filter) (hx : szL gFilter xs ≤ 1048576) :
    Ct Tryz.prog 51 [.slice b m c] [] (fun H => (gSl 157 gFilter).rd H [.slice b m c] xs) (fun v A => ∃ b c, v = .slice b xs.length c ∧ (gSl 157 gFilter).ow [.slice b xs.length c] xs A) := by
  refine Ct.intro0 G_ok Tryz.func51 rfl rfl rfl fun E H hp => ?_
  obtain ⟨rfl, hcl, hl⟩ := sl_len hp
  have hls := len_szL gFilter xs
  have hq := szL_eq gFilter xs
  refine VCmake.intro ?_ ?_ ?_ ?_ fun x0 => ?_
  · omega
  · omega
  · omega
  · omega
  apply loop_mod (α := (Nat) × (Hp)) G_ok [8, 9, 10, 11, 14, 15, 16, 17, 18, 19, 20, 21, 12, 13, 4] (fun z => [(4, .v (.int .i64 z.1))]) (fun z => []) (fun z => [z.2, H]) (fun z => xs.length - z.1) (fun z => z.1 ≤ xs.length ∧ (gSl 157 gFilter).ow [.slice (some ⟨x0, 0, none⟩) xs.length xs.length] (xs.take z.1 ++ List.replicate (xs.length - z.1) zFilter) z.2) ((0, _))
  · repeat' (first | exact trivial | refine ⟨⟨_, rfl, by first | rfl | exact inc_eq _ (by omega) | (refine sl_eq ?_; simp; done), by first | exact trivial | simp [SV.ok]⟩, ?_⟩)
  · exact trivial
  · try dsimp only
    exact ⟨by omega, by simpa using gmake (g := gFilter) (T := 157) (b := x0) (zFilter_ow) (Nat.le_refl xs.length) (by omega)⟩
  · exact .refl _
  rintro ⟨k, A⟩ hI
  obtain ⟨hk, oA⟩ : k ≤ xs.length ∧ (gSl 157 gFilter).ow [.slice (some ⟨x0, 0, none⟩) xs.length xs.length] (xs.take k ++ List.replicate (xs.length - k) zFilter) A := hI
  try dsimp only
  refine VCsplit.intro (fun q1 => ?_) (fun q1 => ?_)
  ·
    simp at q1
    have hs := szE_step gFilter xs k default (by omega)
    have hs2 := szE_le gFilter xs (k + 1)
    refine idx_rd hp ?_ ?_ fun b2 o2 hb2 => ?_
    · omega
    · omega
    refine load_allN default (k) rfl hp ?_ ?_ hb2 rfl (mem_at 1 rfl) fun l3 hl3 => ?_
    · omega
    · omega
    obtain ⟨rfl, w0x3, w1x3, w2x3, w3x3⟩ := gFilter_rd.1 hl3
    refine call_new (toFilter_ct _ (xs[k]?.getD default) ?_) (Rp.mono _ (mem_at 1 rfl) hl3) ?_
    · omega
    rintro v4 A4 o4
    obtain ⟨l4, rfl, o4⟩ := o4
    have r4 := Gt.owrd _ o4
    obtain ⟨rfl, w0x4, w1x4, w2x4, w3x4⟩ := gFilter_rd.1 r4
    refine idx_rd (Gt.owrd _ oA) ?_ ?_ fun b5 o5 hb5 => ?_
    · omega
    · simp; omega
    refine gstore1N (k) (A) (A4) [H] (.le fun a => by (try simp only [setR, List.cons_append, List.nil_append]); simp only [List.flatten_append, List.flatten_cons, List.flatten_nil, List.count_append, List.count_nil, List.append_nil, List.nil_append]; omega) rfl oA ?_ ?_ hb5 rfl _ o4 fun A6 o6 => ?_
    · omega
    · simp; omega
    apply loop_stepA (k + 1, _)
    · exact .refl _
    · repeat' (first | exact trivial | refine ⟨⟨_, rfl, by first | rfl | exact inc_eq _ (by omega) | (refine sl_eq ?_; simp; done), by first | exact trivial | simp [SV.ok]⟩, ?_⟩)
    · exact trivial
    · try dsimp only
      exact ⟨by omega, by rw [← take_stepz xs k default zFilter (by omega)] ; assumption⟩
    try dsimp only
    omega
  ·
    simp at q1
    obtain rfl : k = xs.length := by omega
    rw [List.take_length, Nat.sub_self, List.replicate_zero, List.append_nil] at oA
    exact ⟨_, ⟨_, _, rfl, oA⟩, (.le fun a => by (try simp only [setR, List.cons_append, List.nil_append]); simp only [List.flatten_append, List.flatten_cons, List.flatten_nil, List.count_append, List.count_nil, List.append_nil, List.nil_append]; omega)⟩
--@ct laws.eqFilterS val eqFilterS_ct _ _ _ _ _ _ $1 $2 | ⟨%1, %2⟩
theorem eqFilterS_ct (b1 : Option Addr) (m1 c1 : Nat) (b2 : Option Addr) (m2 c2 : Nat) (xs ys : List Filter) :
    Ct Tryz.prog 58 [.slice b1 m1 c1, .slice b2 m2 c2] [] (fun H => (gSl 157 gFilter).rd H [.slice b1 m1 c1] xs ∧ (gSl 157 gFilter).rd H [.slice b2 m2 c2] ys) (fun v A => v = .bool (decide (xs = ys)) ∧ A = []) := by
  refine Ct.intro0 G_ok Tryz.func58 rfl rfl rfl fun E H hp => ?_
  obtain ⟨hp1, hp2⟩ := hp
  obtain ⟨rfl, hc1, hl1⟩ := sl_len hp1
  obtain ⟨rfl, hc2, hl2⟩ := sl_len hp2
  refine VCsplit.intro (fun q0 => ?_) (fun q0 => ?_)
  ·
    simp at q0
    exact ⟨[], ⟨by rw [decide_eq_false (fun e => by subst e; omega)], rfl⟩, (.le fun a => by (try simp only [setR, List.cons_append, List.nil_append]); simp only [List.flatten_append, List.flatten_cons, List.flatten_nil, List.count_append, List.count_nil, List.append_nil, List.nil_append]; omega)⟩
  ·
    simp at q0
    apply loop_mod (α := (Nat)) G_ok [11, 12, 13, 14, 17, 18, 19, 20, 21, 22, 23, 24, 25, 26, 4, 15, 16, 5] (fun z => [(5, .v (.int .i64 z))]) (fun z => []) (fun z => [H]) (fun z => xs.length - z) (fun z => z ≤ xs.length ∧ xs.take z = ys.take z) (0)
    · repeat' (first | exact trivial | refine ⟨⟨_, rfl, by first | rfl | exact inc_eq _ (by omega) | (refine sl_eq ?_; simp; done), by first | exact trivial | simp [SV.ok]⟩, ?_⟩)
    · exact trivial
    · exact ⟨by omega, by simp⟩
    · exact .refl _
    rintro k hI
    obtain ⟨hk, he⟩ : k ≤ xs.length ∧ xs.take k = ys.take k := hI
    try dsimp only
    refine VCsplit.intro (fun q1 => ?_) (fun q1 => ?_)
    ·
      simp at q1
      refine draw G_ok mixed none (.q 0 (.q 1 (.q 2 (.q 3 (.q 4 (.q 5 (.q 6 (.q 7 (.f 8 (.q 9 (.nil))))))))))) (by decide +kernel) ?_
      refine idx_rd hp1 ?_ ?_ fun b2 o2 hb2 => ?_
      · omega
      · omega
      refine load_allN default (k) rfl hp1 ?_ ?_ hb2 rfl (mem_at 0 rfl) fun l3 hl3 => ?_
      · omega
      · omega
      obtain ⟨rfl, w0x3, w1x3, w2x3, w3x3⟩ := gFilter_rd.1 hl3
      refine idx_rd hp2 ?_ ?_ fun b4 o4 hb4 => ?_
      · omega
      · omega
      refine load_allN default (k) rfl hp2 ?_ ?_ hb4 rfl (mem_at 0 rfl) fun l5 hl5 => ?_
      · omega
      · omega
      obtain ⟨rfl, w0x5, w1x5, w2x5, w3x5⟩ := gFilter_rd.1 hl5
      refine call_val (eqFilter_ct _ _ (xs[k]?.getD default) (ys[k]?.getD default)) ⟨(Rp.mono _ (mem_at 0 rfl) hl3), (Rp.mono _ (mem_at 0 rfl) hl5)⟩ ?_
      rintro _ rfl
      refine VC.intro ?_ ?_
      · exact fun _ h => h
      refine VCsplit.intro (fun q7 => ?_) (fun q7 => ?_)
      ·
        simp at q7
        exact ⟨[], ⟨by rw [decide_eq_false (fun e => by subst e; simp at *)], rfl⟩, (.le fun a => by (try simp only [setR, List.cons_append, List.nil_append]); simp only [List.flatten_append, List.flatten_cons, List.flatten_nil, List.count_append, List.count_nil, List.append_nil, List.nil_append]; omega)⟩
      ·
        simp at q7
        apply loop_stepA (k + 1)
        · exact .refl _
        · repeat' (first | exact trivial | refine ⟨⟨_, rfl, by first | rfl | exact inc_eq _ (by omega) | (refine sl_eq ?_; simp; done), by first | exact trivial | simp [SV.ok]⟩, ?_⟩)
        · exact trivial
        · exact ⟨by omega, eq_step default (by omega) he (by omega) (by simpa using ‹_›)⟩
        omega
    ·
      simp at q1
      exact ⟨[], ⟨by rw [decide_eq_true]; rw [← List.take_length (l := xs), ← List.take_length (l := ys), ← (by omega : xs.length = ys.length), show xs.length = k by omega]; exact he, rfl⟩, (.le fun a => by (try simp only [setR, List.cons_append, List.nil_append]); simp only [List.flatten_append, List.flatten_cons, List.flatten_nil, List.count_append, List.count_nil, List.append_nil, List.nil_append]; omega)⟩
--@ct laws.szQuery raw refine call_q (szQuery_ct _ $1 _ ?_ ?_) %1 ?_ | | rintro _ ⟨r#, rfl, hr#⟩
theorem szQuery_ct (l : List Value) (x : Query) (left : Int) (h0 : 0 ≤ left) (h1 : left ≤ 1048576) :
    Ct Tryz.prog 11 [.agg ⟨l⟩, .int .i64 left] [] (fun H => gQuery.rd H l x) (fun v A => (∃ r : Int, v = .int .i64 r ∧ ((r = -1 ∧ left < (gQuery.sz x : Int)) ∨ (r = left - (gQuery.sz x : Int) ∧ (gQuery.sz x : Int) ≤ left))) ∧ A = []) := by
  refine Ct.intro0 G_ok Tryz.func11 rfl rfl rfl fun E H hp => ?_
  obtain ⟨b1, c1, b2, c2, b3, c3, rfl, h1, h2, h3⟩ := gQuery_rd.1 hp
  have hz := gQuery_sz x
  refine VCnew.intro fun x0 => ?_
  refine call_q (szStringS_ct _ _ _ (x.out) _ ?_ ?_) (Rp.mono _ (mem_at 0 rfl) h1) ?_
  · trivial
  · trivial
  rintro _ ⟨r1, rfl, hr1⟩
  refine VCsplit.intro (fun q2 => ?_) (fun q2 => ?_)
  ·
    simp at q2
    exact ⟨[], ⟨⟨-1, rfl, .inl ⟨rfl, by (try simp (disch := omega) only [wrap_of] at *); omega⟩⟩, rfl⟩, (.le fun a => by (try simp only [setR, List.cons_append, List.nil_append]); simp only [List.flatten_append, List.flatten_cons, List.flatten_nil, List.count_append, List.count_nil, List.append_nil, List.nil_append]; omega)⟩
  ·
    simp at q2
    refine call_q (szAtomS_ct _ _ _ (x.atoms) _ ?_ ?_) (Rp.mono _ (mem_at 0 rfl) h2) ?_
    · trivial
    · omega
    rintro _ ⟨r3, rfl, hr3⟩
    refine VCsplit.intro (fun q4 => ?_) (fun q4 => ?_)
    ·
      simp at q4
      exact ⟨[], ⟨⟨-1, rfl, .inl ⟨rfl, by (try simp (disch := omega) only [wrap_of] at *); omega⟩⟩, rfl⟩, (.le fun a => by (try simp only [setR, List.cons_append, List.nil_append]); simp only [List.flatten_append, List.flatten_cons, List.flatten_nil, List.count_append, List.count_nil, List.append_nil, List.nil_append]; omega)⟩
    ·
      simp at q4
      refine call_q (szFilterS_ct _ _ _ (x.filters) _ ?_ ?_) (Rp.mono _ (mem_at 0 rfl) h3) ?_
      · trivial
      · omega
      rintro _ ⟨r5, rfl, hr5⟩
      refine VCsplit.intro (fun q6 => ?_) (fun q6 => ?_)
      ·
        simp at q6
        exact ⟨[], ⟨⟨-1, rfl, .inl ⟨rfl, by (try simp (disch := omega) only [wrap_of] at *); omega⟩⟩, rfl⟩, (.le fun a => by (try simp only [setR, List.cons_append, List.nil_append]); simp only [List.flatten_append, List.flatten_cons, List.flatten_nil, List.count_append, List.count_nil, List.append_nil, List.nil_append]; omega)⟩
      ·
        simp at q6
        exact ⟨[], ⟨⟨_, rfl, .inr ⟨by (try simp (disch := omega) only [wrap_of] at *); omega, by omega⟩⟩, rfl⟩, (.le fun a => by (try simp only [setR, List.cons_append, List.nil_append]); simp only [List.flatten_append, List.flatten_cons, List.flatten_nil, List.count_append, List.count_nil, List.append_nil, List.nil_append]; omega)⟩
--@ct laws.toQuery new toQuery_ct _ $1 ?_ | %1 | obtain ⟨l#, rfl, o#⟩ := o# ;; have r# := Gt.owrd _ o# ;; obtain ⟨b1x#, c1x#, b2x#, c2x#, b3x#, c3x#, rfl, h1x#, h2x#, h3x#⟩ := gQuery_rd.1 r#
theorem toQuery_ct (l : List Value) (x : Query) (hx : gQuery.sz x ≤ 1048576) :
    Ct Tryz.prog 13 [.agg ⟨l⟩] [] (fun H => gQuery.rd H l x) (fun v A => ∃ l, v = .agg ⟨l⟩ ∧ gQuery.ow l x A) := by
  refine Ct.intro0 G_ok Tryz.func13 rfl rfl rfl fun E H hp => ?_
  obtain ⟨b1, c1, b2, c2, b3, c3, rfl, h1, h2, h3⟩ := gQuery_rd.1 hp
  have hz := gQuery_sz x
  refine VCnew.intro fun x0 => ?_
  refine VCnew.intro fun x1 => ?_
  refine VCnew.intro fun x2 => ?_
  refine call_new (toStringS_ct _ _ _ (x.out) ?_) (Rp.mono _ (mem_at 0 rfl) h1) ?_
  · omega
  rintro v3 A3 o3
  obtain ⟨b3, c3, rfl, o3⟩ := o3
  refine call_new (toAtomS_ct _ _ _ (x.atoms) ?_) (Rp.mono _ (mem_at 1 rfl) h2) ?_
  · omega
  rintro v4 A4 o4
  obtain ⟨b4, c4, rfl, o4⟩ := o4
  refine call_new (toFilterS_ct _ _ _ (x.filters) ?_) (Rp.mono _ (mem_at 2 rfl) h3) ?_
  · omega
  rintro v5 A5 o5
  obtain ⟨b5, c5, rfl, o5⟩ := o5
  exact ⟨_, ⟨_, rfl, gQuery_ow.2 ⟨_, _, _, _, _, _, _, _, _, rfl, .refl _, by assumption, by assumption, by assumption⟩⟩, (.le fun a => by (try simp only [setR, List.cons_append, List.nil_append]); simp only [List.flatten_append, List.flatten_cons, List.flatten_nil, List.count_append, List.count_nil, List.append_nil, List.nil_append]; omega)⟩
--@ct laws.eqQuery val eqQuery_ct _ _ $1 $2 | ⟨%1, %2⟩
theorem eqQuery_ct (l1 l2 : List Value) (x y : Query) :
    Ct Tryz.prog 16 [.agg ⟨l1⟩, .agg ⟨l2⟩] [] (fun H => gQuery.rd H l1 x ∧ gQuery.rd H l2 y) (fun v A => v = .bool (decide (x = y)) ∧ A = []) := by
  refine Ct.intro0 G_ok Tryz.func16 rfl rfl rfl fun E H hp => ?_
  obtain ⟨hp1, hp2⟩ := hp
  obtain ⟨b1p, c1p, b2p, c2p, b3p, c3p, rfl, h1p, h2p, h3p⟩ := gQuery_rd.1 hp1
  obtain ⟨b1q, c1q, b2q, c2q, b3q, c3q, rfl, h1q, h2q, h3q⟩ := gQuery_rd.1 hp2
  refine VCnew.intro fun x0 => ?_
  refine VCnew.intro fun x1 => ?_
  refine VCsplit.intro (fun q2 => ?_) (fun q2 => ?_)
  ·
    simp at q2
    exact ⟨[], ⟨by rw [decide_eq_false (fun e => by subst e; simp at *)], rfl⟩, (.le fun a => by (try simp only [setR, List.cons_append, List.nil_append]); simp only [List.flatten_append, List.flatten_cons, List.flatten_nil, List.count_append, List.count_nil, List.append_nil, List.nil_append]; omega)⟩
  ·
    simp at q2
    refine call_val (eqStringS_ct _ _ _ _ _ _ (x.out) (y.out)) ⟨(Rp.mono _ (mem_at 0 rfl) h1p), (Rp.mono _ (mem_at 0 rfl) h1q)⟩ ?_
    rintro _ rfl
    refine VCsplit.intro (fun q4 => ?_) (fun q4 => ?_)
    ·
      simp at q4
      exact ⟨[], ⟨by rw [decide_eq_false (fun e => by subst e; simp at *)], rfl⟩, (.le fun a => by (try simp only [setR, List.cons_append, List.nil_append]); simp only [List.flatten_append, List.flatten_cons, List.flatten_nil, List.count_append, List.count_nil, List.append_nil, List.nil_append]; omega)⟩
    ·
      simp at q4
      refine call_val (eqAtomS_ct _ _ _ _ _ _ (x.atoms) (y.atoms)) ⟨(Rp.mono _ (mem_at 0 rfl) h2p), (Rp.mono _ (mem_at 0 rfl) h2q)⟩ ?_
      rintro _ rfl
      refine VCsplit.intro (fun q6 => ?_) (fun q6 => ?_)
      ·
        simp at q6
        exact ⟨[], ⟨by rw [decide_eq_false (fun e => by subst e; simp at *)], rfl⟩, (.le fun a => by (try simp only [setR, List.cons_append, List.nil_append]); simp only [List.flatten_append, List.flatten_cons, List.flatten_nil, List.count_append, List.count_nil, List.append_nil, List.nil_append]; omega)⟩
      ·
        simp at q6
        refine call_val (eqFilterS_ct _ _ _ _ _ _ (x.filters) (y.filters)) ⟨(Rp.mono _ (mem_at 0 rfl) h3p), (Rp.mono _ (mem_at 0 rfl) h3q)⟩ ?_
        rintro _ rfl
        refine VCsplit.intro (fun q8 => ?_) (fun q8 => ?_)
        ·
          simp at q8
          exact ⟨[], ⟨by rw [decide_eq_false (fun e => by subst e; simp at *)], rfl⟩, (.le fun a => by (try simp only [setR, List.cons_append, List.nil_append]); simp only [List.flatten_append, List.flatten_cons, List.flatten_nil, List.count_append, List.count_nil, List.append_nil, List.nil_append]; omega)⟩
        ·
          simp at q8
          exact ⟨[], ⟨by rw [decide_eq_true (Query.eq_iff.2 (by simp_all))], rfl⟩, (.le fun a => by (try simp only [setR, List.cons_append, List.nil_append]); simp only [List.flatten_append, List.flatten_cons, List.flatten_nil, List.count_append, List.count_nil, List.append_nil, List.nil_append]; omega)⟩
--@ct laws.szFile raw refine call_q (szFile_ct _ $1 _ ?_ ?_) %1 ?_ | | rintro _ ⟨r#, rfl, hr#⟩
theorem szFile_ct (l : List Value) (x : File) (left : Int) (h0 : 0 ≤ left) (h1 : left ≤ 1048576) :
    Ct Tryz.prog 184 [.agg ⟨l⟩, .int .i64 left] [] (fun H => gFile.rd H l x) (fun v A => (∃ r : Int, v = .int .i64 r ∧ ((r = -1 ∧ left < (gFile.sz x : Int)) ∨ (r = left - (gFile.sz x : Int) ∧ (gFile.sz x : Int) ≤ left))) ∧ A = []) := by
  refine Ct.intro0 G_ok Tryz.func184 rfl rfl rfl fun E H hp => ?_
  obtain ⟨rfl, w0, w1, w2⟩ := gFile_rd.1 hp
  have hz := gFile_sz x
  refine VCnew.intro fun x0 => ?_
  refine VCsplit.intro (fun q1 => ?_) (fun q1 => ?_)
  ·
    simp at q1
    simp (disch := omega) only [wrap_of] at q1
    exact ⟨[], ⟨⟨-1, rfl, .inl ⟨rfl, by (try simp (disch := omega) only [wrap_of] at *); omega⟩⟩, rfl⟩, (.le fun a => by (try simp only [setR, List.cons_append, List.nil_append]); simp only [List.flatten_append, List.flatten_cons, List.flatten_nil, List.count_append, List.count_nil, List.append_nil, List.nil_append]; omega)⟩
  ·
    simp at q1
    simp (disch := omega) only [wrap_of] at q1
    refine VCsplit.intro (fun q2 => ?_) (fun q2 => ?_)
    ·
      simp at q2
      simp (disch := omega) only [wrap_of] at q2
      exact ⟨[], ⟨⟨-1, rfl, .inl ⟨rfl, by (try simp (disch := omega) only [wrap_of] at *); omega⟩⟩, rfl⟩, (.le fun a => by (try simp only [setR, List.cons_append, List.nil_append]); simp only [List.flatten_append, List.flatten_cons, List.flatten_nil, List.count_append, List.count_nil, List.append_nil, List.nil_append]; omega)⟩
    ·
      simp at q2
      simp (disch := omega) only [wrap_of] at q2
      exact ⟨[], ⟨⟨_, rfl, .inr ⟨by (try simp (disch := omega) only [wrap_of] at *); omega, by omega⟩⟩, rfl⟩, (.le fun a => by (try simp only [setR, List.cons_append, List.nil_append]); simp only [List.flatten_append, List.flatten_cons, List.flatten_nil, List.count_append, List.count_nil, List.append_nil, List.nil_append]; omega)⟩
--@ct laws.toFile new toFile_ct _ $1 ?_ | %1 | obtain ⟨l#, rfl, o#⟩ := o# ;; have r# := Gt.owrd _ o# ;; obtain ⟨rfl, w0x#, w1x#, w2x#⟩ := gFile_rd.1 r#
theorem toFile_ct (l : List Value) (x : File) (hx : gFile.sz x ≤ 1048576) :
    Ct Tryz.prog 186 [.agg ⟨l⟩] [] (fun H => gFile.rd H l x) (fun v A => ∃ l, v = .agg ⟨l⟩ ∧ gFile.ow l x A) := by
  refine Ct.intro0 G_ok Tryz.func186 rfl rfl rfl fun E H hp => ?_
  obtain ⟨rfl, w0, w1, w2⟩ := gFile_rd.1 hp
  have hz := gFile_sz x
  refine VCnew.intro fun x0 => ?_
  refine VCnew.intro fun x1 => ?_
  refine VCnew.intro fun x2 => ?_
  exact ⟨_, ⟨_, rfl, gFile_ow.2 ⟨rfl, .refl _, by assumption, by assumption, by assumption⟩⟩, (.le fun a => by (try simp only [setR, List.cons_append, List.nil_append]); simp only [List.flatten_append, List.flatten_cons, List.flatten_nil, List.count_append, List.count_nil, List.append_nil, List.nil_append]; omega)⟩
--@ct laws.eqFile val eqFile_ct _ _ $1 $2 | ⟨%1, %2⟩
theorem eqFile_ct (l1 l2 : List Value) (x y : File) :
    Ct Tryz.prog 192 [.agg ⟨l1⟩, .agg ⟨l2⟩] [] (fun H => gFile.rd H l1 x ∧ gFile.rd H l2 y) (fun v A => v = .bool (decide (x = y)) ∧ A = []) := by
  refine Ct.intro0 G_ok Tryz.func192 rfl rfl rfl fun E H hp => ?_
  obtain ⟨hp1, hp2⟩ := hp
  obtain ⟨rfl, w0p, w1p, w2p⟩ := gFile_rd.1 hp1
  obtain ⟨rfl, w0q, w1q, w2q⟩ := gFile_rd.1 hp2
  refine VCnew.intro fun x0 => ?_
  refine VCnew.intro fun x1 => ?_
  refine VCsplit.intro (fun q2 => ?_) (fun q2 => ?_)
  ·
    simp at q2
    simp only [str_inj, u8_inj, u8_wrap] at q2
    exact ⟨[], ⟨by rw [decide_eq_false (fun e => by subst e; simp at *)], rfl⟩, (.le fun a => by (try simp only [setR, List.cons_append, List.nil_append]); simp only [List.flatten_append, List.flatten_cons, List.flatten_nil, List.count_append, List.count_nil, List.append_nil, List.nil_append]; omega)⟩
  ·
    simp at q2
    simp only [str_inj, u8_inj, u8_wrap] at q2
    refine VCsplit.intro (fun q3 => ?_) (fun q3 => ?_)
    ·
      simp at q3
      simp only [str_inj, u8_inj, u8_wrap] at q3
      exact ⟨[], ⟨by rw [decide_eq_false (fun e => by subst e; simp at *)], rfl⟩, (.le fun a => by (try simp only [setR, List.cons_append, List.nil_append]); simp only [List.flatten_append, List.flatten_cons, List.flatten_nil, List.count_append, List.count_nil, List.append_nil, List.nil_append]; omega)⟩
    ·
      simp at q3
      simp only [str_inj, u8_inj, u8_wrap] at q3
      refine VCsplit.intro (fun q4 => ?_) (fun q4 => ?_)
      ·
        simp at q4
        exact ⟨[], ⟨by rw [decide_eq_false (fun e => by subst e; simp at *)], rfl⟩, (.le fun a => by (try simp only [setR, List.cons_append, List.nil_append]); simp only [List.flatten_append, List.flatten_cons, List.flatten_nil, List.count_append, List.count_nil, List.append_nil, List.nil_append]; omega)⟩
      ·
        simp at q4
        exact ⟨[], ⟨by rw [decide_eq_true (File.eq_iff.2 (by simp_all))], rfl⟩, (.le fun a => by (try simp only [setR, List.cons_append, List.nil_append]); simp only [List.flatten_append, List.flatten_cons, List.flatten_nil, List.count_append, List.count_nil, List.append_nil, List.nil_append]; omega)⟩
--@ct laws.szFileS raw refine call_q (szFileS_ct _ _ _ $1 _ ?_ ?_) %1 ?_ | | rintro _ ⟨r#, rfl, hr#⟩
theorem szFileS_ct (b : Option Addr) (m c : Nat) (xs : List File) (left : Int) (h0 : 0 ≤ left) (h1 : left ≤ 1048576) :
    Ct Tryz.prog 155 [.slice b m c, .int .i64 left] [] (fun H => (gSl 267 gFile).rd H [.slice b m c] xs) (fun v A => (∃ r : Int, v = .int .i64 r ∧ ((r = -1 ∧ left < (szL gFile xs : Int)) ∨ (r = left - (szL gFile xs : Int) ∧ (szL gFile xs : Int) ≤ left))) ∧ A = []) := by
  refine Ct.intro0 G_ok Tryz.func155 rfl rfl rfl fun E H hp => ?_
  obtain ⟨rfl, hcl, hl⟩ := sl_len hp
  have hq := szL_eq gFile xs
  have ht := List.take_length (l := xs)
  refine VCsplit.intro (fun q0 => ?_) (fun q0 => ?_)
  ·
    simp at q0
    simp (disch := omega) only [wrap_of] at q0
    exact ⟨[], ⟨⟨-1, rfl, .inl ⟨rfl, by (try simp (disch := omega) only [wrap_of] at *); omega⟩⟩, rfl⟩, (.le fun a => by (try simp only [setR, List.cons_append, List.nil_append]); simp only [List.flatten_append, List.flatten_cons, List.flatten_nil, List.count_append, List.count_nil, List.append_nil, List.nil_append]; omega)⟩
  ·
    simp at q0
    simp (disch := omega) only [wrap_of] at q0
    apply loop_mod (α := (Nat) × (Int)) G_ok [12, 13, 14, 15, 18, 19, 20, 21, 22, 23, 1, 24, 25, 4, 16, 17, 5] (fun z => [(5, .v (.int .i64 z.1)), (1, .v (.int .i64 z.2))]) (fun z => []) (fun z => [H]) (fun z => xs.length - z.1) (fun z => z.1 ≤ xs.length ∧ z.2 = left - xs.length - szE gFile (xs.take z.1) ∧ 0 ≤ z.2) ((0, left - xs.length))
    · repeat' (first | exact trivial | refine ⟨⟨_, rfl, by first | rfl | exact inc_eq _ (by omega) | (refine sl_eq ?_; simp; done) | (simp (disch := omega) only [wrap_of]), by first | exact trivial | simp [SV.ok]⟩, ?_⟩)
    · exact trivial
    · try dsimp only
      exact ⟨by omega, by simp [szE], by omega⟩
    · exact .refl _
    rintro ⟨k, lf⟩ hI
    obtain ⟨hk, hlf, hnn⟩ : k ≤ xs.length ∧ lf = left - xs.length - szE gFile (xs.take k) ∧ 0 ≤ lf := hI
    try dsimp only
    refine VCsplit.intro (fun q1 => ?_) (fun q1 => ?_)
    ·
      simp at q1
      have hs := szE_step gFile xs k default (by omega)
      have hs2 := szE_le gFile xs (k + 1)
      refine idx_rd hp ?_ ?_ fun b2 o2 hb2 => ?_
      · omega
      · omega
      refine load_allN default (k) rfl hp ?_ ?_ hb2 rfl (mem_at 0 rfl) fun l3 hl3 => ?_
      · omega
      · omega
      obtain ⟨rfl, w0x3, w1x3, w2x3⟩ := gFile_rd.1 hl3
      refine call_q (szFile_ct _ (xs[k]?.getD default) _ ?_ ?_) (Rp.mono _ (mem_at 0 rfl) hl3) ?_
      · trivial
      · omega
      rintro _ ⟨r4, rfl, hr4⟩
      refine VCsplit.intro (fun q5 => ?_) (fun q5 => ?_)
      ·
        simp at q5
        exact ⟨[], ⟨⟨-1, rfl, .inl ⟨rfl, by (try simp (disch := omega) only [wrap_of] at *); omega⟩⟩, rfl⟩, (.le fun a => by (try simp only [setR, List.cons_append, List.nil_append]); simp only [List.flatten_append, List.flatten_cons, List.flatten_nil, List.count_append, List.count_nil, List.append_nil, List.nil_append]; omega)⟩
      ·
        simp at q5
        apply loop_stepA (k + 1, _)
        · exact .refl _
        · repeat' (first | exact trivial | refine ⟨⟨_, rfl, by first | rfl | exact inc_eq _ (by omega) | (refine sl_eq ?_; simp; done) | (simp (disch := omega) only [wrap_of]), by first | exact trivial | simp [SV.ok]⟩, ?_⟩)
        · exact trivial
        · try dsimp only
          ((try simp (disch := omega) only [wrap_of] at *); refine ⟨by omega, by omega, by omega⟩)
        try dsimp only
        omega
    ·
      simp at q1
      obtain rfl : k = xs.length := by omega
      rw [List.take_length] at hlf
      exact ⟨[], ⟨⟨_, rfl, .inr ⟨by (try simp (disch := omega) only [wrap_of] at *); omega, by omega⟩⟩, rfl⟩, (.le fun a => by (try simp only [setR, List.cons_append, List.nil_append]); simp only [List.flatten_append, List.flatten_cons, List.flatten_nil, List.count_append, List.count_nil, List.append_nil, List.nil_append]; omega)⟩
--@ct laws.toFileS new toFileS_ct _ _ _ $1 ?_ | %1 | obtain ⟨b#, c#, rfl, o#⟩ := o#
theorem toFileS_ct (b : Option Addr) (m c : Nat) (xs : List File) (hx : szL gFile xs ≤ 1048576) :
    Ct Tryz.prog 160 [.slice b m c] [] (fun H => (gSl 267 gFile).rd H [.slice b m c] xs) (fun v A => ∃ b c, v = .slice b xs.length c ∧ (gSl 267 gFile).ow [.slice b xs.length c] xs A) := by
  refine Ct.intro0 G_ok Tryz.func160 rfl rfl rfl fun E H hp => ?_
  obtain ⟨rfl, hcl, hl⟩ := sl_len hp
  have hls := len_szL gFile xs
  have hq := szL_eq gFile xs
  refine VCmake.intro ?_ ?_ ?_ ?_ fun x0 => ?_
  · omega
  · omega
  · omega
  · omega
  apply loop_mod (α := (Nat) × (Hp)) G_ok [8, 9, 10, 11, 14, 15, 16, 17, 18, 19, 20, 21, 12, 13, 4] (fun z => [(4, .v (.int .i64 z.1))]) (fun z => []) (fun z => [z.2, H]) (fun z => xs.length - z.1) (fun z => z.1 ≤ xs.length ∧ (gSl 267 gFile).ow [.slice (some ⟨x0, 0, none⟩) xs.length xs.length] (xs.take z.1 ++ List.replicate (xs.length - z.1) zFile) z.2) ((0, _))
  · repeat' (first | exact trivial | refine ⟨⟨_, rfl, by first | rfl | exact inc_eq _ (by omega) | (refine sl_eq ?_; simp; done), by first | exact trivial | simp [SV.ok]⟩, ?_⟩)
  · exact trivial
  · try dsimp only
    exact ⟨by omega, by simpa using gmake (g := gFile) (T := 267) (b := x0) (zFile_ow) (Nat.le_refl xs.length) (by omega)⟩
  · exact .refl _
  rintro ⟨k, A⟩ hI
  obtain ⟨hk, oA⟩ : k ≤ xs.length ∧ (gSl 267 gFile).ow [.slice (some ⟨x0, 0, none⟩) xs.length xs.length] (xs.take k ++ List.replicate (xs.length - k) zFile) A := hI
  try dsimp only
  refine VCsplit.intro (fun q1 => ?_) (fun q1 => ?_)
  ·
    simp at q1
    have hs := szE_step gFile xs k default (by omega)
    have hs2 := szE_le gFile xs (k + 1)
    refine idx_rd hp ?_ ?_ fun b2 o2 hb2 => ?_
    · omega
    · omega
    refine load_allN default (k) rfl hp ?_ ?_ hb2 rfl (mem_at 1 rfl) fun l3 hl3 => ?_
    · omega
    · omega
    obtain ⟨rfl, w0x3, w1x3, w2x3⟩ := gFile_rd.1 hl3
    refine call_new (toFile_ct _ (xs[k]?.getD default) ?_) (Rp.mono _ (mem_at 1 rfl) hl3) ?_
    · omega
    rintro v4 A4 o4
    obtain ⟨l4, rfl, o4⟩ := o4
    have r4 := Gt.owrd _ o4
    obtain ⟨rfl, w0x4, w1x4, w2x4⟩ := gFile_rd.1 r4
    refine idx_rd (Gt.owrd _ oA) ?_ ?_ fun b5 o5 hb5 => ?_
    · omega
    · simp; omega
    refine gstore1N (k) (A) (A4) [H] (.le fun a => by (try simp only [setR, List.cons_append, List.nil_append]); simp only [List.flatten_append, List.flatten_cons, List.flatten_nil, List.count_append, List.count_nil, List.append_nil, List.nil_append]; omega) rfl oA ?_ ?_ hb5 rfl _ o4 fun A6 o6 => ?_
    · omega
    · simp; omega
    apply loop_stepA (k + 1, _)
    · exact .refl _
    · repeat' (first | exact trivial | refine ⟨⟨_, rfl, by first | rfl | exact inc_eq _ (by omega) | (refine sl_eq ?_; simp; done), by first | exact trivial | simp [SV.ok]⟩, ?_⟩)
    · exact trivial
    · try dsimp only
      exact ⟨by omega, by rw [← take_stepz xs k default zFile (by omega)] ; assumption⟩
    try dsimp only
    omega
  ·
    simp at q1
    obtain rfl : k = xs.length := by omega
    rw [List.take_length, Nat.sub_self, List.replicate_zero, List.append_nil] at oA
    exact ⟨_, ⟨_, _, rfl, oA⟩, (.le fun a => by (try simp only [setR, List.cons_append, List.nil_append]); simp only [List.flatten_append, List.flatten_cons, List.flatten_nil, List.count_append, List.count_nil, List.append_nil, List.nil_append]; omega)⟩
--@ct laws.eqFileS val eqFileS_ct _ _ _ _ _ _ $1 $2 | ⟨%1, %2⟩
theorem eqFileS_ct (b1 : Option Addr) (m1 c1 : Nat) (b2 : Option Addr) (m2 c2 : Nat) (xs ys : List File) :
    Ct Tryz.prog 170 [.slice b1 m1 c1, .slice b2 m2 c2] [] (fun H => (gSl 267 gFile).rd H [.slice b1 m1 c1] xs ∧ (gSl 267 gFile).rd H [.slice b2 m2 c2] ys) (fun v A => v = .bool (decide (xs = ys)) ∧ A = []) := by
  refine Ct.intro0 G_ok Tryz.func170 rfl rfl rfl fun E H hp => ?_
  obtain ⟨hp1, hp2⟩ := hp
  obtain ⟨rfl, hc1, hl1⟩ := sl_len hp1
  obtain ⟨rfl, hc2, hl2⟩ := sl_len hp2
  refine VCsplit.intro (fun q0 => ?_) (fun q0 => ?_)
  ·
    simp at q0
    exact ⟨[], ⟨by rw [decide_eq_false (fun e => by subst e; omega)], rfl⟩, (.le fun a => by (try simp only [setR, List.cons_append, List.nil_append]); simp only [List.flatten_append, List.flatten_cons, List.flatten_nil, List.count_append, List.count_nil, List.append_nil, List.nil_append]; omega)⟩
  ·
    simp at q0
    apply loop_mod (α := (Nat)) G_ok [11, 12, 13, 14, 17, 18, 19, 20, 21, 22, 23, 24, 25, 26, 4, 15, 16, 5] (fun z => [(5, .v (.int .i64 z))]) (fun z => []) (fun z => [H]) (fun z => xs.length - z) (fun z => z ≤ xs.length ∧ xs.take z = ys.take z) (0)
    · repeat' (first | exact trivial | refine ⟨⟨_, rfl, by first | rfl | exact inc_eq _ (by omega) | (refine sl_eq ?_; simp; done), by first | exact trivial | simp [SV.ok]⟩, ?_⟩)
    · exact trivial
    · exact ⟨by omega, by simp⟩
    · exact .refl _
    rintro k hI
    obtain ⟨hk, he⟩ : k ≤ xs.length ∧ xs.take k = ys.take k := hI
    try dsimp only
    refine VCsplit.intro (fun q1 => ?_) (fun q1 => ?_)
    ·
      simp at q1
      refine draw G_ok mixed none (.q 0 (.q 1 (.q 2 (.q 3 (.q 4 (.q 5 (.q 6 (.q 7 (.f 8 (.q 9 (.nil))))))))))) (by decide +kernel) ?_
      refine idx_rd hp1 ?_ ?_ fun b2 o2 hb2 => ?_
      · omega
      · omega
      refine load_allN default (k) rfl hp1 ?_ ?_ hb2 rfl (mem_at 0 rfl) fun l3 hl3 => ?_
      · omega
      · omega
      obtain ⟨rfl, w0x3, w1x3, w2x3⟩ := gFile_rd.1 hl3
      refine idx_rd hp2 ?_ ?_ fun b4 o4 hb4 => ?_
      · omega
      · omega
      refine load_allN default (k) rfl hp2 ?_ ?_ hb4 rfl (mem_at 0 rfl) fun l5 hl5 => ?_
      · omega
      · omega
      obtain ⟨rfl, w0x5, w1x5, w2x5⟩ := gFile_rd.1 hl5
      refine call_val (eqFile_ct _ _ (xs[k]?.getD default) (ys[k]?.getD default)) ⟨(Rp.mono _ (mem_at 0 rfl) hl3), (Rp.mono _ (mem_at 0 rfl) hl5)⟩ ?_
      rintro _ rfl
      refine VC.intro ?_ ?_
      · exact fun _ h => h
      refine VCsplit.intro (fun q7 => ?_) (fun q7 => ?_)
      ·
        simp at q7
        exact ⟨[], ⟨by rw [decide_eq_false (fun e => by subst e; simp at *)], rfl⟩, (.le fun a => by (try simp only [setR, List.cons_append, List.nil_append]); simp only [List.flatten_append, List.flatten_cons, List.flatten_nil, List.count_append, List.count_nil, List.append_nil, List.nil_append]; omega)⟩
      ·
        simp at q7
        apply loop_stepA (k + 1)
        · exact .refl _
        · repeat' (first | exact trivial | refine ⟨⟨_, rfl, by first | rfl | exact inc_eq _ (by omega) | (refine sl_eq ?_; simp; done), by first | exact trivial | simp [SV.ok]⟩, ?_⟩)
        · exact trivial
        · exact ⟨by omega, eq_step default (by omega) he (by omega) (by simpa using ‹_›)⟩
        omega
    ·
      simp at q1
      exact ⟨[], ⟨by rw [decide_eq_true]; rw [← List.take_length (l := xs), ← List.take_length (l := ys), ← (by omega : xs.length = ys.length), show xs.length = k by omega]; exact he, rfl⟩, (.le fun a => by (try simp only [setR, List.cons_append, List.nil_append]); simp only [List.flatten_append, List.flatten_cons, List.flatten_nil, List.count_append, List.count_nil, List.append_nil, List.nil_append]; omega)⟩
--@ct laws.szDisk raw refine call_q (szDisk_ct _ $1 _ ?_ ?_) %1 ?_ | | rintro _ ⟨r#, rfl, hr#⟩
theorem szDisk_ct (l : List Value) (x : Disk) (left : Int) (h0 : 0 ≤ left) (h1 : left ≤ 1048576) :
    Ct Tryz.prog 126 [.agg ⟨l⟩, .int .i64 left] [] (fun H => gDisk.rd H l x) (fun v A => (∃ r : Int, v = .int .i64 r ∧ ((r = -1 ∧ left < (gDisk.sz x : Int)) ∨ (r = left - (gDisk.sz x : Int) ∧ (gDisk.sz x : Int) ≤ left))) ∧ A = []) := by
  refine Ct.intro0 G_ok Tryz.func126 rfl rfl rfl fun E H hp => ?_
  obtain ⟨b0, c0, rfl, h0⟩ := gDisk_rd.1 hp
  have hz := gDisk_sz x
  refine VCnew.intro fun x0 => ?_
  refine call_q (szFileS_ct _ _ _ (x.files) _ ?_ ?_) (Rp.mono _ (mem_at 0 rfl) h0) ?_
  · trivial
  · trivial
  rintro _ ⟨r1, rfl, hr1⟩
  refine VCsplit.intro (fun q2 => ?_) (fun q2 => ?_)
  ·
    simp at q2
    exact ⟨[], ⟨⟨-1, rfl, .inl ⟨rfl, by (try simp (disch := omega) only [wrap_of] at *); omega⟩⟩, rfl⟩, (.le fun a => by (try simp only [setR, List.cons_append, List.nil_append]); simp only [List.flatten_append, List.flatten_cons, List.flatten_nil, List.count_append, List.count_nil, List.append_nil, List.nil_append]; omega)⟩
  ·
    simp at q2
    exact ⟨[], ⟨⟨_, rfl, .inr ⟨by (try simp (disch := omega) only [wrap_of] at *); omega, by omega⟩⟩, rfl⟩, (.le fun a => by (try simp only [setR, List.cons_append, List.nil_append]); simp only [List.flatten_append, List.flatten_cons, List.flatten_nil, List.count_append, List.count_nil, List.append_nil, List.nil_append]; omega)⟩
--@ct laws.toDisk new toDisk_ct _ $1 ?_ | %1 | obtain ⟨l#, rfl, o#⟩ := o# ;; have r# := Gt.owrd _ o# ;; obtain ⟨b0x#, c0x#, rfl, h0x#⟩ := gDisk_rd.1 r#
theorem toDisk_ct (l : List Value) (x : Disk) (hx : gDisk.sz x ≤ 1048576) :
    Ct Tryz.prog 130 [.agg ⟨l⟩] [] (fun H => gDisk.rd H l x) (fun v A => ∃ l, v = .agg ⟨l⟩ ∧ gDisk.ow l x A) := by
  refine Ct.intro0 G_ok Tryz.func130 rfl rfl rfl fun E H hp => ?_
  obtain ⟨b0, c0, rfl, h0⟩ := gDisk_rd.1 hp
  have hz := gDisk_sz x
  refine VCnew.intro fun x0 => ?_
  refine VCnew.intro fun x1 => ?_
  refine VCnew.intro fun x2 => ?_
  refine call_new (toFileS_ct _ _ _ (x.files) ?_) (Rp.mono _ (mem_at 0 rfl) h0) ?_
  · trivial
  rintro v3 A3 o3
  obtain ⟨b3, c3, rfl, o3⟩ := o3
  exact ⟨_, ⟨_, rfl, gDisk_ow.2 ⟨_, _, _, rfl, .refl _, by assumption⟩⟩, (.le fun a => by (try simp only [setR, List.cons_append, List.nil_append]); simp only [List.flatten_append, List.flatten_cons, List.flatten_nil, List.count_append, List.count_nil, List.append_nil, List.nil_append]; omega)⟩
--@ct laws.eqDisk val eqDisk_ct _ _ $1 $2 | ⟨%1, %2⟩
theorem eqDisk_ct (l1 l2 : List Value) (x y : Disk) :
    Ct Tryz.prog 137 [.agg ⟨l1⟩, .agg ⟨l2⟩] [] (fun H => gDisk.rd H l1 x ∧ gDisk.rd H l2 y) (fun v A => v = .bool (decide (x = y)) ∧ A = []) := by
  refine Ct.intro0 G_ok Tryz.func137 rfl rfl rfl fun E H hp => ?_
  obtain ⟨hp1, hp2⟩ := hp
  obtain ⟨b0p, c0p, rfl, h0p⟩ := gDisk_rd.1 hp1
  obtain ⟨b0q, c0q, rfl, h0q⟩ := gDisk_rd.1 hp2
  refine VCnew.intro fun x0 => ?_
  refine VCnew.intro fun x1 => ?_
  refine call_val (eqFileS_ct _ _ _ _ _ _ (x.files) (y.files)) ⟨(Rp.mono _ (mem_at 0 rfl) h0p), (Rp.mono _ (mem_at 0 rfl) h0q)⟩ ?_
  rintro _ rfl
  refine VCsplit.intro (fun q3 => ?_) (fun q3 => ?_)
  ·
    simp at q3
    exact ⟨[], ⟨by rw [decide_eq_false (fun e => by subst e; simp at *)], rfl⟩, (.le fun a => by (try simp only [setR, List.cons_append, List.nil_append]); simp only [List.flatten_append, List.flatten_cons, List.flatten_nil, List.count_append, List.count_nil, List.append_nil, List.nil_append]; omega)⟩
  ·
    simp at q3
    exact ⟨[], ⟨by rw [decide_eq_true (Disk.eq_iff.2 (by simp_all))], rfl⟩, (.le fun a => by (try simp only [setR, List.cons_append, List.nil_append]); simp only [List.flatten_append, List.flatten_cons, List.flatten_nil, List.count_append, List.count_nil, List.append_nil, List.nil_append]; omega)⟩
--@ct laws.toWalk new toWalk_ct _ $1 ?_ | %1 | obtain ⟨l#, rfl, o#⟩ := o# ;; have r# := Gt.owrd _ o# ;; obtain ⟨rfl, w0x#, w1x#, w2x#, w3x#⟩ := gWalk_rd.1 r#
theorem toWalk_ct (l : List Value) (x : Walk) (hx : gWalk.sz x ≤ 1048576) :
    Ct Tryz.prog 187 [.agg ⟨l⟩] [] (fun H => gWalk.rd H l x) (fun v A => ∃ l, v = .agg ⟨l⟩ ∧ gWalk.ow l x A) := by
  refine Ct.intro0 G_ok Tryz.func187 rfl rfl rfl fun E H hp => ?_
  obtain ⟨rfl, w0, w1, w2, w3⟩ := gWalk_rd.1 hp
  have hz := gWalk_sz x
  refine VCnew.intro fun x0 => ?_
  refine VCnew.intro fun x1 => ?_
  refine VCnew.intro fun x2 => ?_
  exact ⟨_, ⟨_, rfl, gWalk_ow.2 ⟨rfl, .refl _, by assumption, by assumption, by assumption, by assumption⟩⟩, (.le fun a => by (try simp only [setR, List.cons_append, List.nil_append]); simp only [List.flatten_append, List.flatten_cons, List.flatten_nil, List.count_append, List.count_nil, List.append_nil, List.nil_append]; omega)⟩
--@ct laws.eqWalk val eqWalk_ct _ _ $1 $2 | ⟨%1, %2⟩
theorem eqWalk_ct (l1 l2 : List Value) (x y : Walk) :
    Ct Tryz.prog 183 [.agg ⟨l1⟩, .agg ⟨l2⟩] [] (fun H => gWalk.rd H l1 x ∧ gWalk.rd H l2 y) (fun v A => v = .bool (decide (x = y)) ∧ A = []) := by
  refine Ct.intro0 G_ok Tryz.func183 rfl rfl rfl fun E H hp => ?_
  obtain ⟨hp1, hp2⟩ := hp
  obtain ⟨rfl, w0p, w1p, w2p, w3p⟩ := gWalk_rd.1 hp1
  obtain ⟨rfl, w0q, w1q, w2q, w3q⟩ := gWalk_rd.1 hp2
  refine VCnew.intro fun x0 => ?_
  refine VCnew.intro fun x1 => ?_
  refine VCsplit.intro (fun q2 => ?_) (fun q2 => ?_)
  ·
    simp at q2
    exact ⟨[], ⟨by rw [decide_eq_false (fun e => by subst e; simp at *)], rfl⟩, (.le fun a => by (try simp only [setR, List.cons_append, List.nil_append]); simp only [List.flatten_append, List.flatten_cons, List.flatten_nil, List.count_append, List.count_nil, List.append_nil, List.nil_append]; omega)⟩
  ·
    simp at q2
    refine VCsplit.intro (fun q3 => ?_) (fun q3 => ?_)
    ·
      simp at q3
      exact ⟨[], ⟨by rw [decide_eq_false (fun e => by subst e; simp at *)], rfl⟩, (.le fun a => by (try simp only [setR, List.cons_append, List.nil_append]); simp only [List.flatten_append, List.flatten_cons, List.flatten_nil, List.count_append, List.count_nil, List.append_nil, List.nil_append]; omega)⟩
    ·
      simp at q3
      refine VCsplit.intro (fun q4 => ?_) (fun q4 => ?_)
      ·
        simp at q4
        exact ⟨[], ⟨by rw [decide_eq_false (fun e => by subst e; simp at *)], rfl⟩, (.le fun a => by (try simp only [setR, List.cons_append, List.nil_append]); simp only [List.flatten_append, List.flatten_cons, List.flatten_nil, List.count_append, List.count_nil, List.append_nil, List.nil_append]; omega)⟩
      ·
        simp at q4
        refine VCsplit.intro (fun q5 => ?_) (fun q5 => ?_)
        ·
          simp at q5
          exact ⟨[], ⟨by rw [decide_eq_false (fun e => by subst e; simp at *)], rfl⟩, (.le fun a => by (try simp only [setR, List.cons_append, List.nil_append]); simp only [List.flatten_append, List.flatten_cons, List.flatten_nil, List.count_append, List.count_nil, List.append_nil, List.nil_append]; omega)⟩
        ·
          simp at q5
          exact ⟨[], ⟨by rw [decide_eq_true (Walk.eq_iff.2 (by simp_all))], rfl⟩, (.le fun a => by (try simp only [setR, List.cons_append, List.nil_append]); simp only [List.flatten_append, List.flatten_cons, List.flatten_nil, List.count_append, List.count_nil, List.append_nil, List.nil_append]; omega)⟩
--@ct laws.szWalkS raw refine call_q (szWalkS_ct _ _ _ $1 _ ?_ ?_) %1 ?_ | | rintro _ ⟨r#, rfl, hr#⟩
theorem szWalkS_ct (b : Option Addr) (m c : Nat) (xs : List Walk) (left : Int) (h0 : 0 ≤ left) (h1 : left ≤ 1048576) :
    Ct Tryz.prog 157 [.slice b m c, .int .i64 left] [] (fun H => (gSl 184 gWalk).rd H [.slice b m c] xs) (fun v A => (∃ r : Int, v = .int .i64 r ∧ ((r = -1 ∧ left < (szL gWalk xs : Int)) ∨ (r = left - (szL gWalk xs : Int) ∧ (szL gWalk xs : Int) ≤ left))) ∧ A = []) := by
  refine Ct.intro0 G_ok Tryz.func157 rfl rfl rfl fun E H hp => ?_
  obtain ⟨rfl, hcl, hl⟩ := sl_len hp
  have hq := szL_eq gWalk xs
  have hz := szE_zero gWalk (fun _ => rfl) xs
  refine VCsplit.intro (fun q0 => ?_) (fun q0 => ?_)
  ·
    simp at q0
    simp (disch := omega) only [wrap_of] at q0
    exact ⟨[], ⟨⟨-1, rfl, .inl ⟨rfl, by (try simp (disch := omega) only [wrap_of] at *); omega⟩⟩, rfl⟩, (.le fun a => by (try simp only [setR, List.cons_append, List.nil_append]); simp only [List.flatten_append, List.flatten_cons, List.flatten_nil, List.count_append, List.count_nil, List.append_nil, List.nil_append]; omega)⟩
  ·
    simp at q0
    simp (disch := omega) only [wrap_of] at q0
    exact ⟨[], ⟨⟨_, rfl, .inr ⟨by (try simp (disch := omega) only [wrap_of] at *); omega, by omega⟩⟩, rfl⟩, (.le fun a => by (try simp only [setR, List.cons_append, List.nil_append]); simp only [List.flatten_append, List.flatten_cons, List.flatten_nil, List.count_append, List.count_nil, List.append_nil, List.nil_append]; omega)⟩
--@ct laws.toWalkS new toWalkS_ct _ _ _ $1 ?_ | %1 | obtain ⟨b#, c#, rfl, o#⟩ := o#
theorem toWalkS_ct (b : Option Addr) (m c : Nat) (xs : List Walk) (hx : szL gWalk xs ≤ 1048576) :
    Ct Tryz.prog 162 [.slice b m c] [] (fun H => (gSl 184 gWalk).rd H [.slice b m c] xs) (fun v A => ∃ b c, v = .slice b xs.length c ∧ (gSl 184 gWalk).ow [.slice b xs.length c] xs A) := by
  refine Ct.intro0 G_ok Tryz.func162 rfl rfl rfl fun E H hp => ?_
  obtain ⟨rfl, hcl, hl⟩ := sl_len hp
  have hls := len_szL gWalk xs
  refine VCmake.intro ?_ ?_ ?_ ?_ fun x0 => ?_
  · omega
  · omega
  · omega
  · omega
  apply loop_mod (α := (Nat) × (Hp)) G_ok [8, 9, 10, 11, 14, 15, 16, 17, 18, 19, 20, 21, 12, 13, 4] (fun z => [(4, .v (.int .i64 z.1))]) (fun z => []) (fun z => [z.2, H]) (fun z => xs.length - z.1) (fun z => z.1 ≤ xs.length ∧ (gSl 184 gWalk).ow [.slice (some ⟨x0, 0, none⟩) xs.length xs.length] (xs.take z.1 ++ List.replicate (xs.length - z.1) zWalk) z.2) ((0, _))
  · repeat' (first | exact trivial | refine ⟨⟨_, rfl, by first | rfl | exact inc_eq _ (by omega) | (refine sl_eq ?_; simp; done), by first | exact trivial | simp [SV.ok]⟩, ?_⟩)
  · exact trivial
  · try dsimp only
    exact ⟨by omega, by simpa using gmake (g := gWalk) (T := 184) (b := x0) (zWalk_ow) (Nat.le_refl xs.length) (by omega)⟩
  · exact .refl _
  rintro ⟨k, A⟩ hI
  obtain ⟨hk, oA⟩ : k ≤ xs.length ∧ (gSl 184 gWalk).ow [.slice (some ⟨x0, 0, none⟩) xs.length xs.length] (xs.take k ++ List.replicate (xs.length - k) zWalk) A := hI
  try dsimp only
  refine VCsplit.intro (fun q1 => ?_) (fun q1 => ?_)
  ·
    simp at q1
    refine idx_rd hp ?_ ?_ fun b2 o2 hb2 => ?_
    · omega
    · omega
    refine load_allN default (k) rfl hp ?_ ?_ hb2 rfl (mem_at 1 rfl) fun l3 hl3 => ?_
    · omega
    · omega
    obtain ⟨rfl, w0x3, w1x3, w2x3, w3x3⟩ := gWalk_rd.1 hl3
    refine call_new (toWalk_ct _ (xs[k]?.getD default) ?_) (Rp.mono _ (mem_at 1 rfl) hl3) ?_
    · exact Nat.zero_le 1048576
    rintro v4 A4 o4
    obtain ⟨l4, rfl, o4⟩ := o4
    have r4 := Gt.owrd _ o4
    obtain ⟨rfl, w0x4, w1x4, w2x4, w3x4⟩ := gWalk_rd.1 r4
    refine idx_rd (Gt.owrd _ oA) ?_ ?_ fun b5 o5 hb5 => ?_
    · omega
    · simp; omega
    refine gstore1N (k) (A) (A4) [H] (.le fun a => by (try simp only [setR, List.cons_append, List.nil_append]); simp only [List.flatten_append, List.flatten_cons, List.flatten_nil, List.count_append, List.count_nil, List.append_nil, List.nil_append]; omega) rfl oA ?_ ?_ hb5 rfl _ o4 fun A6 o6 => ?_
    · omega
    · simp; omega
    apply loop_stepA (k + 1, _)
    · exact .refl _
    · repeat' (first | exact trivial | refine ⟨⟨_, rfl, by first | rfl | exact inc_eq _ (by omega) | (refine sl_eq ?_; simp; done), by first | exact trivial | simp [SV.ok]⟩, ?_⟩)
    · exact trivial
    · try dsimp only
      exact ⟨by omega, by rw [← take_stepz xs k default zWalk (by omega)] ; assumption⟩
    try dsimp only
    omega
  ·
    simp at q1
    obtain rfl : k = xs.length := by omega
    rw [List.take_length, Nat.sub_self, List.replicate_zero, List.append_nil] at oA
    exact ⟨_, ⟨_, _, rfl, oA⟩, (.le fun a => by (try simp only [setR, List.cons_append, List.nil_append]); simp only [List.flatten_append, List.flatten_cons, List.flatten_nil, List.count_append, List.count_nil, List.append_nil, List.nil_append]; omega)⟩
--@ct laws.eqWalkS val eqWalkS_ct _ _ _ _ _ _ $1 $2 | ⟨%1, %2⟩
theorem eqWalkS_ct (b1 : Option Addr) (m1 c1 : Nat) (b2 : Option Addr) (m2 c2 : Nat) (xs ys : List Walk) :
    Ct Tryz.prog 154 [.slice b1 m1 c1, .slice b2 m2 c2] [] (fun H => (gSl 184 gWalk).rd H [.slice b1 m1 c1] xs ∧ (gSl 184 gWalk).rd H [.slice b2 m2 c2] ys) (fun v A => v = .bool (decide (xs = ys)) ∧ A = []) := by
  refine Ct.intro0 G_ok Tryz.func154 rfl rfl rfl fun E H hp => ?_
  obtain ⟨hp1, hp2⟩ := hp
  obtain ⟨rfl, hc1, hl1⟩ := sl_len hp1
  obtain ⟨rfl, hc2, hl2⟩ := sl_len hp2
  refine VCsplit.intro (fun q0 => ?_) (fun q0 => ?_)
  ·
    simp at q0
    exact ⟨[], ⟨by rw [decide_eq_false (fun e => by subst e; omega)], rfl⟩, (.le fun a => by (try simp only [setR, List.cons_append, List.nil_append]); simp only [List.flatten_append, List.flatten_cons, List.flatten_nil, List.count_append, List.count_nil, List.append_nil, List.nil_append]; omega)⟩
  ·
    simp at q0
    apply loop_mod (α := (Nat)) G_ok [11, 12, 13, 14, 17, 18, 19, 20, 21, 22, 23, 24, 25, 26, 4, 15, 16, 5] (fun z => [(5, .v (.int .i64 z))]) (fun z => []) (fun z => [H]) (fun z => xs.length - z) (fun z => z ≤ xs.length ∧ xs.take z = ys.take z) (0)
    · repeat' (first | exact trivial | refine ⟨⟨_, rfl, by first | rfl | exact inc_eq _ (by omega) | (refine sl_eq ?_; simp; done), by first | exact trivial | simp [SV.ok]⟩, ?_⟩)
    · exact trivial
    · exact ⟨by omega, by simp⟩
    · exact .refl _
    rintro k hI
    obtain ⟨hk, he⟩ : k ≤ xs.length ∧ xs.take k = ys.take k := hI
    try dsimp only
    refine VCsplit.intro (fun q1 => ?_) (fun q1 => ?_)
    ·
      simp at q1
      refine draw G_ok mixed none (.q 0 (.q 1 (.q 2 (.q 3 (.q 4 (.q 5 (.q 6 (.q 7 (.f 8 (.q 9 (.nil))))))))))) (by decide +kernel) ?_
      refine idx_rd hp1 ?_ ?_ fun b2 o2 hb2 => ?_
      · omega
      · omega
      refine load_allN default (k) rfl hp1 ?_ ?_ hb2 rfl (mem_at 0 rfl) fun l3 hl3 => ?_
      · omega
      · omega
      obtain ⟨rfl, w0x3, w1x3, w2x3, w3x3⟩ := gWalk_rd.1 hl3
      refine idx_rd hp2 ?_ ?_ fun b4 o4 hb4 => ?_
      · omega
      · omega
      refine load_allN default (k) rfl hp2 ?_ ?_ hb4 rfl (mem_at 0 rfl) fun l5 hl5 => ?_
      · omega
      · omega
      obtain ⟨rfl, w0x5, w1x5, w2x5, w3x5⟩ := gWalk_rd.1 hl5
      refine call_val (eqWalk_ct _ _ (xs[k]?.getD default) (ys[k]?.getD default)) ⟨(Rp.mono _ (mem_at 0 rfl) hl3), (Rp.mono _ (mem_at 0 rfl) hl5)⟩ ?_
      rintro _ rfl
      refine VC.intro ?_ ?_
      · exact fun _ h => h
      refine VCsplit.intro (fun q7 => ?_) (fun q7 => ?_)
      ·
        simp at q7
        exact ⟨[], ⟨by rw [decide_eq_false (fun e => by subst e; simp at *)], rfl⟩, (.le fun a => by (try simp only [setR, List.cons_append, List.nil_append]); simp only [List.flatten_append, List.flatten_cons, List.flatten_nil, List.count_append, List.count_nil, List.append_nil, List.nil_append]; omega)⟩
      ·
        simp at q7
        apply loop_stepA (k + 1)
        · exact .refl _
        · repeat' (first | exact trivial | refine ⟨⟨_, rfl, by first | rfl | exact inc_eq _ (by omega) | (refine sl_eq ?_; simp; done), by first | exact trivial | simp [SV.ok]⟩, ?_⟩)
        · exact trivial
        · exact ⟨by omega, eq_step default (by omega) he (by omega) (by simpa using ‹_›)⟩
        omega
    ·
      simp at q1
      exact ⟨[], ⟨by rw [decide_eq_true]; rw [← List.take_length (l := xs), ← List.take_length (l := ys), ← (by omega : xs.length = ys.length), show xs.length = k by omega]; exact he, rfl⟩, (.le fun a => by (try simp only [setR, List.cons_append, List.nil_append]); simp only [List.flatten_append, List.flatten_cons, List.flatten_nil, List.count_append, List.count_nil, List.append_nil, List.nil_append]; omega)⟩
--@ct laws.szLetter raw refine call_q (szLetter_ct _ $1 _ ?_ ?_) %1 ?_ | | rintro _ ⟨r#, rfl, hr#⟩
theorem szLetter_ct (l : List Value) (x : Letter) (left : Int) (h0 : 0 ≤ left) (h1 : left ≤ 1048576) :
    Ct Tryz.prog 200 [.agg ⟨l⟩, .int .i64 left] [] (fun H => gLetter.rd H l x) (fun v A => (∃ r : Int, v = .int .i64 r ∧ ((r = -1 ∧ left < (gLetter.sz x : Int)) ∨ (r = left - (gLetter.sz x : Int) ∧ (gLetter.sz x : Int) ≤ left))) ∧ A = []) := by
  refine Ct.intro0 G_ok Tryz.func200 rfl rfl rfl fun E H hp => ?_
  obtain ⟨b4, c4, rfl, w0, w1, w2, h4, w5⟩ := gLetter_rd.1 hp
  have hz := gLetter_sz x
  refine VCnew.intro fun x0 => ?_
  refine call_q (szWalkS_ct _ _ _ (x.walks) _ ?_ ?_) (Rp.mono _ (mem_at 0 rfl) h4) ?_
  · trivial
  · trivial
  rintro _ ⟨r1, rfl, hr1⟩
  refine VCsplit.intro (fun q2 => ?_) (fun q2 => ?_)
  ·
    simp at q2
    exact ⟨[], ⟨⟨-1, rfl, .inl ⟨rfl, by (try simp (disch := omega) only [wrap_of] at *); omega⟩⟩, rfl⟩, (.le fun a => by (try simp only [setR, List.cons_append, List.nil_append]); simp only [List.flatten_append, List.flatten_cons, List.flatten_nil, List.count_append, List.count_nil, List.append_nil, List.nil_append]; omega)⟩
  ·
    simp at q2
    refine VCsplit.intro (fun q3 => ?_) (fun q3 => ?_)
    ·
      simp at q3
      simp (disch := omega) only [wrap_of] at q3
      exact ⟨[], ⟨⟨-1, rfl, .inl ⟨rfl, by (try simp (disch := omega) only [wrap_of] at *); omega⟩⟩, rfl⟩, (.le fun a => by (try simp only [setR, List.cons_append, List.nil_append]); simp only [List.flatten_append, List.flatten_cons, List.flatten_nil, List.count_append, List.count_nil, List.append_nil, List.nil_append]; omega)⟩
    ·
      simp at q3
      simp (disch := omega) only [wrap_of] at q3
      exact ⟨[], ⟨⟨_, rfl, .inr ⟨by (try simp (disch := omega) only [wrap_of] at *); omega, by omega⟩⟩, rfl⟩, (.le fun a => by (try simp only [setR, List.cons_append, List.nil_append]); simp only [List.flatten_append, List.flatten_cons, List.flatten_nil, List.count_append, List.count_nil, List.append_nil, List.nil_append]; omega)⟩
--@ct laws.toLetter new toLetter_ct _ $1 ?_ | %1 | obtain ⟨l#, rfl, o#⟩ := o# ;; have r# := Gt.owrd _ o# ;; obtain ⟨b4x#, c4x#, rfl, w0x#, w1x#, w2x#, h4x#, w5x#⟩ := gLetter_rd.1 r#
theorem toLetter_ct (l : List Value) (x : Letter) (hx : gLetter.sz x ≤ 1048576) :
    Ct Tryz.prog 201 [.agg ⟨l⟩] [] (fun H => gLetter.rd H l x) (fun v A => ∃ l, v = .agg ⟨l⟩ ∧ gLetter.ow l x A) := by
  refine Ct.intro0 G_ok Tryz.func201 rfl rfl rfl fun E H hp => ?_
  obtain ⟨b4, c4, rfl, w0, w1, w2, h4, w5⟩ := gLetter_rd.1 hp
  have hz := gLetter_sz x
  refine VCnew.intro fun x0 => ?_
  refine VCnew.intro fun x1 => ?_
  refine VCnew.intro fun x2 => ?_
  refine call_new (toWalkS_ct _ _ _ (x.walks) ?_) (Rp.mono _ (mem_at 0 rfl) h4) ?_
  · omega
  rintro v3 A3 o3
  obtain ⟨b3, c3, rfl, o3⟩ := o3
  exact ⟨_, ⟨_, rfl, gLetter_ow.2 ⟨_, _, _, rfl, .refl _, by assumption, by assumption, by assumption, by assumption, by assumption⟩⟩, (.le fun a => by (try simp only [setR, List.cons_append, List.nil_append]); simp only [List.flatten_append, List.flatten_cons, List.flatten_nil, List.count_append, List.count_nil, List.append_nil, List.nil_append]; omega)⟩
--@ct laws.eqLetter val eqLetter_ct _ _ $1 $2 | ⟨%1, %2⟩
theorem eqLetter_ct (l1 l2 : List Value) (x y : Letter) :
    Ct Tryz.prog 125 [.agg ⟨l1⟩, .agg ⟨l2⟩] [] (fun H => gLetter.rd H l1 x ∧ gLetter.rd H l2 y) (fun v A => v = .bool (decide (x = y)) ∧ A = []) := by
  refine Ct.intro0 G_ok Tryz.func125 rfl rfl rfl fun E H hp => ?_
  obtain ⟨hp1, hp2⟩ := hp
  obtain ⟨b4p, c4p, rfl, w0p, w1p, w2p, h4p, w5p⟩ := gLetter_rd.1 hp1
  obtain ⟨b4q, c4q, rfl, w0q, w1q, w2q, h4q, w5q⟩ := gLetter_rd.1 hp2
  refine VCnew.intro fun x0 => ?_
  refine VCnew.intro fun x1 => ?_
  refine VCsplit.intro (fun q2 => ?_) (fun q2 => ?_)
  ·
    simp at q2
    exact ⟨[], ⟨by rw [decide_eq_false (fun e => by subst e; simp at *)], rfl⟩, (.le fun a => by (try simp only [setR, List.cons_append, List.nil_append]); simp only [List.flatten_append, List.flatten_cons, List.flatten_nil, List.count_append, List.count_nil, List.append_nil, List.nil_append]; omega)⟩
  ·
    simp at q2
    refine VCsplit.intro (fun q3 => ?_) (fun q3 => ?_)
    ·
      simp at q3
      exact ⟨[], ⟨by rw [decide_eq_false (fun e => by subst e; simp at *)], rfl⟩, (.le fun a => by (try simp only [setR, List.cons_append, List.nil_append]); simp only [List.flatten_append, List.flatten_cons, List.flatten_nil, List.count_append, List.count_nil, List.append_nil, List.nil_append]; omega)⟩
    ·
      simp at q3
      refine VCsplit.intro (fun q4 => ?_) (fun q4 => ?_)
      ·
        simp at q4
        exact ⟨[], ⟨by rw [decide_eq_false (fun e => by subst e; simp at *)], rfl⟩, (.le fun a => by (try simp only [setR, List.cons_append, List.nil_append]); simp only [List.flatten_append, List.flatten_cons, List.flatten_nil, List.count_append, List.count_nil, List.append_nil, List.nil_append]; omega)⟩
      ·
        simp at q4
        refine VCsplit.intro (fun q5 => ?_) (fun q5 => ?_)
        ·
          simp at q5
          exact ⟨[], ⟨by rw [decide_eq_false (fun e => by subst e; simp at *)], rfl⟩, (.le fun a => by (try simp only [setR, List.cons_append, List.nil_append]); simp only [List.flatten_append, List.flatten_cons, List.flatten_nil, List.count_append, List.count_nil, List.append_nil, List.nil_append]; omega)⟩
        ·
          simp at q5
          refine call_val (eqWalkS_ct _ _ _ _ _ _ (x.walks) (y.walks)) ⟨(Rp.mono _ (mem_at 0 rfl) h4p), (Rp.mono _ (mem_at 0 rfl) h4q)⟩ ?_
          rintro _ rfl
          refine VCsplit.intro (fun q7 => ?_) (fun q7 => ?_)
          ·
            simp at q7
            exact ⟨[], ⟨by rw [decide_eq_false (fun e => by subst e; simp at *)], rfl⟩, (.le fun a => by (try simp only [setR, List.cons_append, List.nil_append]); simp only [List.flatten_append, List.flatten_cons, List.flatten_nil, List.count_append, List.count_nil, List.append_nil, List.nil_append]; omega)⟩
          ·
            simp at q7
            refine VCsplit.intro (fun q8 => ?_) (fun q8 => ?_)
            ·
              simp at q8
              simp only [str_inj, u8_inj, u8_wrap] at q8
              exact ⟨[], ⟨by rw [decide_eq_false (fun e => by subst e; simp at *)], rfl⟩, (.le fun a => by (try simp only [setR, List.cons_append, List.nil_append]); simp only [List.flatten_append, List.flatten_cons, List.flatten_nil, List.count_append, List.count_nil, List.append_nil, List.nil_append]; omega)⟩
            ·
              simp at q8
              simp only [str_inj, u8_inj, u8_wrap] at q8
              exact ⟨[], ⟨by rw [decide_eq_true (Letter.eq_iff.2 (by simp_all))], rfl⟩, (.le fun a => by (try simp only [setR, List.cons_append, List.nil_append]); simp only [List.flatten_append, List.flatten_cons, List.flatten_nil, List.count_append, List.count_nil, List.append_nil, List.nil_append]; omega)⟩
--@ct laws.szLink raw refine call_q (szLink_ct _ $1 _ ?_ ?_) %1 ?_ | | rintro _ ⟨r#, rfl, hr#⟩
theorem szLink_ct (l : List Value) (x : Link) (left : Int) (h0 : 0 ≤ left) (h1 : left ≤ 1048576) :
    Ct Tryz.prog 156 [.agg ⟨l⟩, .int .i64 left] [] (fun H => gLink.rd H l x) (fun v A => (∃ r : Int, v = .int .i64 r ∧ ((r = -1 ∧ left < (gLink.sz x : Int)) ∨ (r = left - (gLink.sz x : Int) ∧ (gLink.sz x : Int) ≤ left))) ∧ A = []) := by
  refine Ct.intro0 G_ok Tryz.func156 rfl rfl rfl fun E H hp => ?_
  obtain ⟨b0, c0, rfl, h0, w1, w2⟩ := gLink_rd.1 hp
  have hz := gLink_sz x
  refine VCnew.intro fun x0 => ?_
  refine call_q (szStringS_ct _ _ _ (x.sent) _ ?_ ?_) (Rp.mono _ (mem_at 0 rfl) h0) ?_
  · trivial
  · trivial
  rintro _ ⟨r1, rfl, hr1⟩
  refine VCsplit.intro (fun q2 => ?_) (fun q2 => ?_)
  ·
    simp at q2
    exact ⟨[], ⟨⟨-1, rfl, .inl ⟨rfl, by (try simp (disch := omega) only [wrap_of] at *); omega⟩⟩, rfl⟩, (.le fun a => by (try simp only [setR, List.cons_append, List.nil_append]); simp only [List.flatten_append, List.flatten_cons, List.flatten_nil, List.count_append, List.count_nil, List.append_nil, List.nil_append]; omega)⟩
  ·
    simp at q2
    exact ⟨[], ⟨⟨_, rfl, .inr ⟨by (try simp (disch := omega) only [wrap_of] at *); omega, by omega⟩⟩, rfl⟩, (.le fun a => by (try simp only [setR, List.cons_append, List.nil_append]); simp only [List.flatten_append, List.flatten_cons, List.flatten_nil, List.count_append, List.count_nil, List.append_nil, List.nil_append]; omega)⟩
--@ct laws.toLink new toLink_ct _ $1 ?_ | %1 | obtain ⟨l#, rfl, o#⟩ := o# ;; have r# := Gt.owrd _ o# ;; obtain ⟨b0x#, c0x#, rfl, h0x#, w1x#, w2x#⟩ := gLink_rd.1 r#
theorem toLink_ct (l : List Value) (x : Link) (hx : gLink.sz x ≤ 1048576) :
    Ct Tryz.prog 161 [.agg ⟨l⟩] [] (fun H => gLink.rd H l x) (fun v A => ∃ l, v = .agg ⟨l⟩ ∧ gLink.ow l x A) := by
  refine Ct.intro0 G_ok Tryz.func161 rfl rfl rfl fun E H hp => ?_
  obtain ⟨b0, c0, rfl, h0, w1, w2⟩ := gLink_rd.1 hp
  have hz := gLink_sz x
  refine VCnew.intro fun x0 => ?_
  refine VCnew.intro fun x1 => ?_
  refine VCnew.intro fun x2 => ?_
  refine call_new (toStringS_ct _ _ _ (x.sent) ?_) (Rp.mono _ (mem_at 0 rfl) h0) ?_
  · trivial
  rintro v3 A3 o3
  obtain ⟨b3, c3, rfl, o3⟩ := o3
  exact ⟨_, ⟨_, rfl, gLink_ow.2 ⟨_, _, _, rfl, .refl _, by assumption, by assumption, by assumption⟩⟩, (.le fun a => by (try simp only [setR, List.cons_append, List.nil_append]); simp only [List.flatten_append, List.flatten_cons, List.flatten_nil, List.count_append, List.count_nil, List.append_nil, List.nil_append]; omega)⟩
--@ct laws.eqLink val eqLink_ct _ _ $1 $2 | ⟨%1, %2⟩
theorem eqLink_ct (l1 l2 : List Value) (x y : Link) :
    Ct Tryz.prog 171 [.agg ⟨l1⟩, .agg ⟨l2⟩] [] (fun H => gLink.rd H l1 x ∧ gLink.rd H l2 y) (fun v A => v = .bool (decide (x = y)) ∧ A = []) := by
  refine Ct.intro0 G_ok Tryz.func171 rfl rfl rfl fun E H hp => ?_
  obtain ⟨hp1, hp2⟩ := hp
  obtain ⟨b0p, c0p, rfl, h0p, w1p, w2p⟩ := gLink_rd.1 hp1
  obtain ⟨b0q, c0q, rfl, h0q, w1q, w2q⟩ := gLink_rd.1 hp2
  refine VCnew.intro fun x0 => ?_
  refine VCnew.intro fun x1 => ?_
  refine call_val (eqStringS_ct _ _ _ _ _ _ (x.sent) (y.sent)) ⟨(Rp.mono _ (mem_at 0 rfl) h0p), (Rp.mono _ (mem_at 0 rfl) h0q)⟩ ?_
  rintro _ rfl
  refine VCsplit.intro (fun q3 => ?_) (fun q3 => ?_)
  ·
    simp at q3
    exact ⟨[], ⟨by rw [decide_eq_false (fun e => by subst e; simp at *)], rfl⟩, (.le fun a => by (try simp only [setR, List.cons_append, List.nil_append]); simp only [List.flatten_append, List.flatten_cons, List.flatten_nil, List.count_append, List.count_nil, List.append_nil, List.nil_append]; omega)⟩
  ·
    simp at q3
    refine VCsplit.intro (fun q4 => ?_) (fun q4 => ?_)
    ·
      simp at q4
      exact ⟨[], ⟨by rw [decide_eq_false (fun e => by subst e; simp at *)], rfl⟩, (.le fun a => by (try simp only [setR, List.cons_append, List.nil_append]); simp only [List.flatten_append, List.flatten_cons, List.flatten_nil, List.count_append, List.count_nil, List.append_nil, List.nil_append]; omega)⟩
    ·
      simp at q4
      refine VCsplit.intro (fun q5 => ?_) (fun q5 => ?_)
      ·
        simp at q5
        exact ⟨[], ⟨by rw [decide_eq_false (fun e => by subst e; simp at *)], rfl⟩, (.le fun a => by (try simp only [setR, List.cons_append, List.nil_append]); simp only [List.flatten_append, List.flatten_cons, List.flatten_nil, List.count_append, List.count_nil, List.append_nil, List.nil_append]; omega)⟩
      ·
        simp at q5
        exact ⟨[], ⟨by rw [decide_eq_true (Link.eq_iff.2 (by simp_all))], rfl⟩, (.le fun a => by (try simp only [setR, List.cons_append, List.nil_append]); simp only [List.flatten_append, List.flatten_cons, List.flatten_nil, List.count_append, List.count_nil, List.append_nil, List.nil_append]; omega)⟩
--@ct laws.szGot raw refine call_q (szGot_ct _ $1 _ ?_ ?_) %1 ?_ | | rintro _ ⟨r#, rfl, hr#⟩
theorem szGot_ct (l : List Value) (x : Got) (left : Int) (h0 : 0 ≤ left) (h1 : left ≤ 1048576) :
    Ct Tryz.prog 121 [.agg ⟨l⟩, .int .i64 left] [] (fun H => gGot.rd H l x) (fun v A => (∃ r : Int, v = .int .i64 r ∧ ((r = -1 ∧ left < (gGot.sz x : Int)) ∨ (r = left - (gGot.sz x : Int) ∧ (gGot.sz x : Int) ≤ left))) ∧ A = []) := by
  refine Ct.intro0 G_ok Tryz.func121 rfl rfl rfl fun E H hp => ?_
  obtain ⟨l2, rfl, w0, w1, h2⟩ := gGot_rd.1 hp
  obtain ⟨b0_2, c0_2, rfl, h0_2⟩ := gBag_rd.1 h2
  have hz := gGot_sz x
  refine VCnew.intro fun x0 => ?_
  refine call_q (szBag_ct _ (x.bag) _ ?_ ?_) (Rp.mono _ (mem_at 0 rfl) h2) ?_
  · trivial
  · trivial
  rintro _ ⟨r1, rfl, hr1⟩
  refine VCsplit.intro (fun q2 => ?_) (fun q2 => ?_)
  ·
    simp at q2
    exact ⟨[], ⟨⟨-1, rfl, .inl ⟨rfl, by (try simp (disch := omega) only [wrap_of] at *); omega⟩⟩, rfl⟩, (.le fun a => by (try simp only [setR, List.cons_append, List.nil_append]); simp only [List.flatten_append, List.flatten_cons, List.flatten_nil, List.count_append, List.count_nil, List.append_nil, List.nil_append]; omega)⟩
  ·
    simp at q2
    exact ⟨[], ⟨⟨_, rfl, .inr ⟨by (try simp (disch := omega) only [wrap_of] at *); omega, by omega⟩⟩, rfl⟩, (.le fun a => by (try simp only [setR, List.cons_append, List.nil_append]); simp only [List.flatten_append, List.flatten_cons, List.flatten_nil, List.count_append, List.count_nil, List.append_nil, List.nil_append]; omega)⟩
--@ct laws.toGot new toGot_ct _ $1 ?_ | %1 | obtain ⟨l#, rfl, o#⟩ := o# ;; have r# := Gt.owrd _ o# ;; obtain ⟨l2x#, rfl, w0x#, w1x#, h2x#⟩ := gGot_rd.1 r# ;; obtain ⟨b0_2x#, c0_2x#, rfl, h0_2x#⟩ := gBag_rd.1 h2x#
theorem toGot_ct (l : List Value) (x : Got) (hx : gGot.sz x ≤ 1048576) :
    Ct Tryz.prog 123 [.agg ⟨l⟩] [] (fun H => gGot.rd H l x) (fun v A => ∃ l, v = .agg ⟨l⟩ ∧ gGot.ow l x A) := by
  refine Ct.intro0 G_ok Tryz.func123 rfl rfl rfl fun E H hp => ?_
  obtain ⟨l2, rfl, w0, w1, h2⟩ := gGot_rd.1 hp
  obtain ⟨b0_2, c0_2, rfl, h0_2⟩ := gBag_rd.1 h2
  have hz := gGot_sz x
  refine VCnew.intro fun x0 => ?_
  refine VCnew.intro fun x1 => ?_
  refine VCnew.intro fun x2 => ?_
  refine call_new (toBag_ct _ (x.bag) ?_) (Rp.mono _ (mem_at 0 rfl) h2) ?_
  · omega
  rintro v3 A3 o3
  obtain ⟨l3, rfl, o3⟩ := o3
  have r3 := Gt.owrd _ o3
  obtain ⟨b0x3, c0x3, rfl, h0x3⟩ := gBag_rd.1 r3
  exact ⟨_, ⟨_, rfl, gGot_ow.2 ⟨_, _, rfl, .refl _, by assumption, by assumption, by assumption⟩⟩, (.le fun a => by (try simp only [setR, List.cons_append, List.nil_append]); simp only [List.flatten_append, List.flatten_cons, List.flatten_nil, List.count_append, List.count_nil, List.append_nil, List.nil_append]; omega)⟩
--@ct laws.eqGot val eqGot_ct _ _ $1 $2 | ⟨%1, %2⟩
theorem eqGot_ct (l1 l2 : List Value) (x y : Got) :
    Ct Tryz.prog 112 [.agg ⟨l1⟩, .agg ⟨l2⟩] [] (fun H => gGot.rd H l1 x ∧ gGot.rd H l2 y) (fun v A => v = .bool (decide (x = y)) ∧ A = []) := by
  refine Ct.intro0 G_ok Tryz.func112 rfl rfl rfl fun E H hp => ?_
  obtain ⟨hp1, hp2⟩ := hp
  obtain ⟨l2p, rfl, w0p, w1p, h2p⟩ := gGot_rd.1 hp1
  obtain ⟨b0_2p, c0_2p, rfl, h0_2p⟩ := gBag_rd.1 h2p
  obtain ⟨l2q, rfl, w0q, w1q, h2q⟩ := gGot_rd.1 hp2
  obtain ⟨b0_2q, c0_2q, rfl, h0_2q⟩ := gBag_rd.1 h2q
  refine VCnew.intro fun x0 => ?_
  refine VCnew.intro fun x1 => ?_
  refine VCsplit.intro (fun q2 => ?_) (fun q2 => ?_)
  ·
    simp at q2
    exact ⟨[], ⟨by rw [decide_eq_false (fun e => by subst e; simp at *)], rfl⟩, (.le fun a => by (try simp only [setR, List.cons_append, List.nil_append]); simp only [List.flatten_append, List.flatten_cons, List.flatten_nil, List.count_append, List.count_nil, List.append_nil, List.nil_append]; omega)⟩
  ·
    simp at q2
    refine VCsplit.intro (fun q3 => ?_) (fun q3 => ?_)
    ·
      simp at q3
      exact ⟨[], ⟨by rw [decide_eq_false (fun e => by subst e; simp at *)], rfl⟩, (.le fun a => by (try simp only [setR, List.cons_append, List.nil_append]); simp only [List.flatten_append, List.flatten_cons, List.flatten_nil, List.count_append, List.count_nil, List.append_nil, List.nil_append]; omega)⟩
    ·
      simp at q3
      refine call_val (eqBag_ct _ _ (x.bag) (y.bag)) ⟨(Rp.mono _ (mem_at 0 rfl) h2p), (Rp.mono _ (mem_at 0 rfl) h2q)⟩ ?_
      rintro _ rfl
      refine VCsplit.intro (fun q5 => ?_) (fun q5 => ?_)
      ·
        simp at q5
        exact ⟨[], ⟨by rw [decide_eq_false (fun e => by subst e; simp at *)], rfl⟩, (.le fun a => by (try simp only [setR, List.cons_append, List.nil_append]); simp only [List.flatten_append, List.flatten_cons, List.flatten_nil, List.count_append, List.count_nil, List.append_nil, List.nil_append]; omega)⟩
      ·
        simp at q5
        exact ⟨[], ⟨by rw [decide_eq_true (Got.eq_iff.2 (by simp_all))], rfl⟩, (.le fun a => by (try simp only [setR, List.cons_append, List.nil_append]); simp only [List.flatten_append, List.flatten_cons, List.flatten_nil, List.count_append, List.count_nil, List.append_nil, List.nil_append]; omega)⟩
--@ct laws.szGotS raw refine call_q (szGotS_ct _ _ _ $1 _ ?_ ?_) %1 ?_ | | rintro _ ⟨r#, rfl, hr#⟩
theorem szGotS_ct (b : Option Addr) (m c : Nat) (xs : List Got) (left : Int) (h0 : 0 ≤ left) (h1 : left ≤ 1048576) :
    Ct Tryz.prog 69 [.slice b m c, .int .i64 left] [] (fun H => (gSl 171 gGot).rd H [.slice b m c] xs) (fun v A => (∃ r : Int, v = .int .i64 r ∧ ((r = -1 ∧ left < (szL gGot xs : Int)) ∨ (r = left - (szL gGot xs : Int) ∧ (szL gGot xs : Int) ≤ left))) ∧ A = []) := by
  refine Ct.intro0 G_ok Tryz.func69 rfl rfl rfl fun E H hp => ?_
  obtain ⟨rfl, hcl, hl⟩ := sl_len hp
  have hq := szL_eq gGot xs
  have ht := List.take_length (l := xs)
  refine VCsplit.intro (fun q0 => ?_) (fun q0 => ?_)
  ·
    simp at q0
    simp (disch := omega) only [wrap_of] at q0
    exact ⟨[], ⟨⟨-1, rfl, .inl ⟨rfl, by (try simp (disch := omega) only [wrap_of] at *); omega⟩⟩, rfl⟩, (.le fun a => by (try simp only [setR, List.cons_append, List.nil_append]); simp only [List.flatten_append, List.flatten_cons, List.flatten_nil, List.count_append, List.count_nil, List.append_nil, List.nil_append]; omega)⟩
  ·
    simp at q0
    simp (disch := omega) only [wrap_of] at q0
    apply loop_mod (α := (Nat) × (Int)) G_ok [12, 13, 14, 15, 18, 19, 20, 21, 22, 23, 1, 24, 25, 4, 16, 17, 5] (fun z => [(5, .v (.int .i64 z.1)), (1, .v (.int .i64 z.2))]) (fun z => []) (fun z => [H]) (fun z => xs.length - z.1) (fun z => z.1 ≤ xs.length ∧ z.2 = left - xs.length - szE gGot (xs.take z.1) ∧ 0 ≤ z.2) ((0, left - xs.length))
    · repeat' (first | exact trivial | refine ⟨⟨_, rfl, by first | rfl | exact inc_eq _ (by omega) | (refine sl_eq ?_; simp; done) | (simp (disch := omega) only [wrap_of]), by first | exact trivial | simp [SV.ok]⟩, ?_⟩)
    · exact trivial
    · try dsimp only
      exact ⟨by omega, by simp [szE], by omega⟩
    · exact .refl _
    rintro ⟨k, lf⟩ hI
    obtain ⟨hk, hlf, hnn⟩ : k ≤ xs.length ∧ lf = left - xs.length - szE gGot (xs.take k) ∧ 0 ≤ lf := hI
    try dsimp only
    refine VCsplit.intro (fun q1 => ?_) (fun q1 => ?_)
    ·
      simp at q1
      have hs := szE_step gGot xs k default (by omega)
      have hs2 := szE_le gGot xs (k + 1)
      refine idx_rd hp ?_ ?_ fun b2 o2 hb2 => ?_
      · omega
      · omega
      refine load_allN default (k) rfl hp ?_ ?_ hb2 rfl (mem_at 0 rfl) fun l3 hl3 => ?_
      · omega
      · omega
      obtain ⟨l2x3, rfl, w0x3, w1x3, h2x3⟩ := gGot_rd.1 hl3 ; obtain ⟨b0_2x3, c0_2x3, rfl, h0_2x3⟩ := gBag_rd.1 h2x3
      refine call_q (szGot_ct _ (xs[k]?.getD default) _ ?_ ?_) (Rp.mono _ (mem_at 0 rfl) hl3) ?_
      · trivial
      · omega
      rintro _ ⟨r4, rfl, hr4⟩
      refine VCsplit.intro (fun q5 => ?_) (fun q5 => ?_)
      ·
        simp at q5
        exact ⟨[], ⟨⟨-1, rfl, .inl ⟨rfl, by (try simp (disch := omega) only [wrap_of] at *); omega⟩⟩, rfl⟩, (.le fun a => by (try simp only [setR, List.cons_append, List.nil_append]); simp only [List.flatten_append, List.flatten_cons, List.flatten_nil, List.count_append, List.count_nil, List.append_nil, List.nil_append]; omega)⟩
      ·
        simp at q5
        apply loop_stepA (k + 1, _)
        · exact .refl _
        · repeat' (first | exact trivial | refine ⟨⟨_, rfl, by first | rfl | exact inc_eq _ (by omega) | (refine sl_eq ?_; simp; done) | (simp (disch := omega) only [wrap_of]), by first | exact trivial | simp [SV.ok]⟩, ?_⟩)
        · exact trivial
        · try dsimp only
          ((try simp (disch := omega) only [wrap_of] at *); refine ⟨by omega, by omega, by omega⟩)
        try dsimp only
        omega
    ·
      simp at q1
      obtain rfl : k = xs.length := by omega
      rw [List.take_length] at hlf
      exact ⟨[], ⟨⟨_, rfl, .inr ⟨by (try simp (disch := omega) only [wrap_of] at *); omega, by omega⟩⟩, rfl⟩, (.le fun a => by (try simp only [setR, List.cons_append, List.nil_append]); simp only [List.flatten_append, List.flatten_cons, List.flatten_nil, List.count_append, List.count_nil, List.append_nil, List.nil_append]; omega)⟩
--@ct laws.toGotS new toGotS_ct _ _ _ $1 ?_ | %1 | obtain ⟨b#, c#, rfl, o#⟩ := o#
theorem toGotS_ct (b : Option Addr) (m c : Nat) (xs : List Got) (hx : szL gGot xs ≤ 1048576) :
    Ct Tryz.prog 71 [.slice b m c] [] (fun H => (gSl 171 gGot).rd H [.slice b m c] xs) (fun v A => ∃ b c, v = .slice b xs.length c ∧ (gSl 171 gGot).ow [.slice b xs.length c] xs A) := by
  refine Ct.intro0 G_ok Tryz.func71 rfl rfl rfl fun E H hp => ?_
  obtain ⟨rfl, hcl, hl⟩ := sl_len hp
  have hls := len_szL gGot xs
  have hq := szL_eq gGot xs
  refine VCmake.intro ?_ ?_ ?_ ?_ fun x0 => ?_
  · omega
  · omega
  · omega
  · omega
  apply loop_mod (α := (Nat) × (Hp)) G_ok [8, 9, 10, 11, 14, 15, 16, 17, 18, 19, 20, 21, 12, 13, 4] (fun z => [(4, .v (.int .i64 z.1))]) (fun z => []) (fun z => [z.2, H]) (fun z => xs.length - z.1) (fun z => z.1 ≤ xs.length ∧ (gSl 171 gGot).ow [.slice (some ⟨x0, 0, none⟩) xs.length xs.length] (xs.take z.1 ++ List.replicate (xs.length - z.1) zGot) z.2) ((0, _))
  · repeat' (first | exact trivial | refine ⟨⟨_, rfl, by first | rfl | exact inc_eq _ (by omega) | (refine sl_eq ?_; simp; done), by first | exact trivial | simp [SV.ok]⟩, ?_⟩)
  · exact trivial
  · try dsimp only
    exact ⟨by omega, by simpa using gmake (g := gGot) (T := 171) (b := x0) (zGot_ow) (Nat.le_refl xs.length) (by omega)⟩
  · exact .refl _
  rintro ⟨k, A⟩ hI
  obtain ⟨hk, oA⟩ : k ≤ xs.length ∧ (gSl 171 gGot).ow [.slice (some ⟨x0, 0, none⟩) xs.length xs.length] (xs.take k ++ List.replicate (xs.length - k) zGot) A := hI
  try dsimp only
  refine VCsplit.intro (fun q1 => ?_) (fun q1 => ?_)
  ·
    simp at q1
    have hs := szE_step gGot xs k default (by omega)
    have hs2 := szE_le gGot xs (k + 1)
    refine idx_rd hp ?_ ?_ fun b2 o2 hb2 => ?_
    · omega
    · omega
    refine load_allN default (k) rfl hp ?_ ?_ hb2 rfl (mem_at 1 rfl) fun l3 hl3 => ?_
    · omega
    · omega
    obtain ⟨l2x3, rfl, w0x3, w1x3, h2x3⟩ := gGot_rd.1 hl3 ; obtain ⟨b0_2x3, c0_2x3, rfl, h0_2x3⟩ := gBag_rd.1 h2x3
    refine call_new (toGot_ct _ (xs[k]?.getD default) ?_) (Rp.mono _ (mem_at 1 rfl) hl3) ?_
    · omega
    rintro v4 A4 o4
    obtain ⟨l4, rfl, o4⟩ := o4
    have r4 := Gt.owrd _ o4
    obtain ⟨l2x4, rfl, w0x4, w1x4, h2x4⟩ := gGot_rd.1 r4
    obtain ⟨b0_2x4, c0_2x4, rfl, h0_2x4⟩ := gBag_rd.1 h2x4
    refine idx_rd (Gt.owrd _ oA) ?_ ?_ fun b5 o5 hb5 => ?_
    · omega
    · simp; omega
    refine gstore1N (k) (A) (A4) [H] (.le fun a => by (try simp only [setR, List.cons_append, List.nil_append]); simp only [List.flatten_append, List.flatten_cons, List.flatten_nil, List.count_append, List.count_nil, List.append_nil, List.nil_append]; omega) rfl oA ?_ ?_ hb5 rfl _ o4 fun A6 o6 => ?_
    · omega
    · simp; omega
    apply loop_stepA (k + 1, _)
    · exact .refl _
    · repeat' (first | exact trivial | refine ⟨⟨_, rfl, by first | rfl | exact inc_eq _ (by omega) | (refine sl_eq ?_; simp; done), by first | exact trivial | simp [SV.ok]⟩, ?_⟩)
    · exact trivial
    · try dsimp only
      exact ⟨by omega, by rw [← take_stepz xs k default zGot (by omega)] ; assumption⟩
    try dsimp only
    omega
  ·
    simp at q1
    obtain rfl : k = xs.length := by omega
    rw [List.take_length, Nat.sub_self, List.replicate_zero, List.append_nil] at oA
    exact ⟨_, ⟨_, _, rfl, oA⟩, (.le fun a => by (try simp only [setR, List.cons_append, List.nil_append]); simp only [List.flatten_append, List.flatten_cons, List.flatten_nil, List.count_append, List.count_nil, List.append_nil, List.nil_append]; omega)⟩
--@ct laws.eqGotS val eqGotS_ct _ _ _ _ _ _ $1 $2 | ⟨%1, %2⟩
theorem eqGotS_ct (b1 : Option Addr) (m1 c1 : Nat) (b2 : Option Addr) (m2 c2 : Nat) (xs ys : List Got) :
    Ct Tryz.prog 55 [.slice b1 m1 c1, .slice b2 m2 c2] [] (fun H => (gSl 171 gGot).rd H [.slice b1 m1 c1] xs ∧ (gSl 171 gGot).rd H [.slice b2 m2 c2] ys) (fun v A => v = .bool (decide (xs = ys)) ∧ A = []) := by
  refine Ct.intro0 G_ok Tryz.func55 rfl rfl rfl fun E H hp => ?_
  obtain ⟨hp1, hp2⟩ := hp
  obtain ⟨rfl, hc1, hl1⟩ := sl_len hp1
  obtain ⟨rfl, hc2, hl2⟩ := sl_len hp2
  refine VCsplit.intro (fun q0 => ?_) (fun q0 => ?_)
  ·
    simp at q0
    exact ⟨[], ⟨by rw [decide_eq_false (fun e => by subst e; omega)], rfl⟩, (.le fun a => by (try simp only [setR, List.cons_append, List.nil_append]); simp only [List.flatten_append, List.flatten_cons, List.flatten_nil, List.count_append, List.count_nil, List.append_nil, List.nil_append]; omega)⟩
  ·
    simp at q0
    apply loop_mod (α := (Nat)) G_ok [11, 12, 13, 14, 17, 18, 19, 20, 21, 22, 23, 24, 25, 26, 4, 15, 16, 5] (fun z => [(5, .v (.int .i64 z))]) (fun z => []) (fun z => [H]) (fun z => xs.length - z) (fun z => z ≤ xs.length ∧ xs.take z = ys.take z) (0)
    · repeat' (first | exact trivial | refine ⟨⟨_, rfl, by first | rfl | exact inc_eq _ (by omega) | (refine sl_eq ?_; simp; done), by first | exact trivial | simp [SV.ok]⟩, ?_⟩)
    · exact trivial
    · exact ⟨by omega, by simp⟩
    · exact .refl _
    rintro k hI
    obtain ⟨hk, he⟩ : k ≤ xs.length ∧ xs.take k = ys.take k := hI
    try dsimp only
    refine VCsplit.intro (fun q1 => ?_) (fun q1 => ?_)
    ·
      simp at q1
      refine draw G_ok mixed none (.q 0 (.q 1 (.q 2 (.q 3 (.q 4 (.q 5 (.q 6 (.q 7 (.f 8 (.q 9 (.nil))))))))))) (by decide +kernel) ?_
      refine idx_rd hp1 ?_ ?_ fun b2 o2 hb2 => ?_
      · omega
      · omega
      refine load_allN default (k) rfl hp1 ?_ ?_ hb2 rfl (mem_at 0 rfl) fun l3 hl3 => ?_
      · omega
      · omega
      obtain ⟨l2x3, rfl, w0x3, w1x3, h2x3⟩ := gGot_rd.1 hl3 ; obtain ⟨b0_2x3, c0_2x3, rfl, h0_2x3⟩ := gBag_rd.1 h2x3
      refine idx_rd hp2 ?_ ?_ fun b4 o4 hb4 => ?_
      · omega
      · omega
      refine load_allN default (k) rfl hp2 ?_ ?_ hb4 rfl (mem_at 0 rfl) fun l5 hl5 => ?_
      · omega
      · omega
      obtain ⟨l2x5, rfl, w0x5, w1x5, h2x5⟩ := gGot_rd.1 hl5 ; obtain ⟨b0_2x5, c0_2x5, rfl, h0_2x5⟩ := gBag_rd.1 h2x5
      refine call_val (eqGot_ct _ _ (xs[k]?.getD default) (ys[k]?.getD default)) ⟨(Rp.mono _ (mem_at 0 rfl) hl3), (Rp.mono _ (mem_at 0 rfl) hl5)⟩ ?_
      rintro _ rfl
      refine VC.intro ?_ ?_
      · exact fun _ h => h
      refine VCsplit.intro (fun q7 => ?_) (fun q7 => ?_)
      ·
        simp at q7
        exact ⟨[], ⟨by rw [decide_eq_false (fun e => by subst e; simp at *)], rfl⟩, (.le fun a => by (try simp only [setR, List.cons_append, List.nil_append]); simp only [List.flatten_append, List.flatten_cons, List.flatten_nil, List.count_append, List.count_nil, List.append_nil, List.nil_append]; omega)⟩
      ·
        simp at q7
        apply loop_stepA (k + 1)
        · exact .refl _
        · repeat' (first | exact trivial | refine ⟨⟨_, rfl, by first | rfl | exact inc_eq _ (by omega) | (refine sl_eq ?_; simp; done), by first | exact trivial | simp [SV.ok]⟩, ?_⟩)
        · exact trivial
        · exact ⟨by omega, eq_step default (by omega) he (by omega) (by simpa using ‹_›)⟩
        omega
    ·
      simp at q1
      exact ⟨[], ⟨by rw [decide_eq_true]; rw [← List.take_length (l := xs), ← List.take_length (l := ys), ← (by omega : xs.length = ys.length), show xs.length = k by omega]; exact he, rfl⟩, (.le fun a => by (try simp only [setR, List.cons_append, List.nil_append]); simp only [List.flatten_append, List.flatten_cons, List.flatten_nil, List.count_append, List.count_nil, List.append_nil, List.nil_append]; omega)⟩
--@ct laws.szCell raw refine call_q (szCell_ct _ $1 _ ?_ ?_) %1 ?_ | | rintro _ ⟨r#, rfl, hr#⟩
theorem szCell_ct (l : List Value) (x : Cell) (left : Int) (h0 : 0 ≤ left) (h1 : left ≤ 1048576) :
    Ct Tryz.prog 158 [.agg ⟨l⟩, .int .i64 left] [] (fun H => gCell.rd H l x) (fun v A => (∃ r : Int, v = .int .i64 r ∧ ((r = -1 ∧ left < (gCell.sz x : Int)) ∨ (r = left - (gCell.sz x : Int) ∧ (gCell.sz x : Int) ≤ left))) ∧ A = []) := by
  refine Ct.intro0 G_ok Tryz.func158 rfl rfl rfl fun E H hp => ?_
  obtain ⟨l0, b1, c1, b4, c4, rfl, h0, h1, w2, w3, h4⟩ := gCell_rd.1 hp
  obtain ⟨b1_0, c1_0, b2_0, c2_0, b3_0, c3_0, rfl, h1_0, h2_0, h3_0⟩ := gQuery_rd.1 h0
  have hz := gCell_sz x
  refine VCnew.intro fun x0 => ?_
  refine call_q (szQuery_ct _ (x.query) _ ?_ ?_) (Rp.mono _ (mem_at 0 rfl) h0) ?_
  · trivial
  · trivial
  rintro _ ⟨r1, rfl, hr1⟩
  refine VCsplit.intro (fun q2 => ?_) (fun q2 => ?_)
  ·
    simp at q2
    exact ⟨[], ⟨⟨-1, rfl, .inl ⟨rfl, by (try simp (disch := omega) only [wrap_of] at *); omega⟩⟩, rfl⟩, (.le fun a => by (try simp only [setR, List.cons_append, List.nil_append]); simp only [List.flatten_append, List.flatten_cons, List.flatten_nil, List.count_append, List.count_nil, List.append_nil, List.nil_append]; omega)⟩
  ·
    simp at q2
    refine call_q (szIntS_ct _ _ _ (x.shares) _ ?_ ?_) (Rp.mono _ (mem_at 0 rfl) h1) ?_
    · trivial
    · omega
    rintro _ ⟨r3, rfl, hr3⟩
    refine VCsplit.intro (fun q4 => ?_) (fun q4 => ?_)
    ·
      simp at q4
      exact ⟨[], ⟨⟨-1, rfl, .inl ⟨rfl, by (try simp (disch := omega) only [wrap_of] at *); omega⟩⟩, rfl⟩, (.le fun a => by (try simp only [setR, List.cons_append, List.nil_append]); simp only [List.flatten_append, List.flatten_cons, List.flatten_nil, List.count_append, List.count_nil, List.append_nil, List.nil_append]; omega)⟩
    ·
      simp at q4
      refine call_q (szGotS_ct _ _ _ (x.gots) _ ?_ ?_) (Rp.mono _ (mem_at 0 rfl) h4) ?_
      · trivial
      · omega
      rintro _ ⟨r5, rfl, hr5⟩
      refine VCsplit.intro (fun q6 => ?_) (fun q6 => ?_)
      ·
        simp at q6
        exact ⟨[], ⟨⟨-1, rfl, .inl ⟨rfl, by (try simp (disch := omega) only [wrap_of] at *); omega⟩⟩, rfl⟩, (.le fun a => by (try simp only [setR, List.cons_append, List.nil_append]); simp only [List.flatten_append, List.flatten_cons, List.flatten_nil, List.count_append, List.count_nil, List.append_nil, List.nil_append]; omega)⟩
      ·
        simp at q6
        exact ⟨[], ⟨⟨_, rfl, .inr ⟨by (try simp (disch := omega) only [wrap_of] at *); omega, by omega⟩⟩, rfl⟩, (.le fun a => by (try simp only [setR, List.cons_append, List.nil_append]); simp only [List.flatten_append, List.flatten_cons, List.flatten_nil, List.count_append, List.count_nil, List.append_nil, List.nil_append]; omega)⟩
--@ct laws.toCell new toCell_ct _ $1 ?_ | %1 | obtain ⟨l#, rfl, o#⟩ := o# ;; have r# := Gt.owrd _ o# ;; obtain ⟨l0x#, b1x#, c1x#, b4x#, c4x#, rfl, h0x#, h1x#, w2x#, w3x#, h4x#⟩ := gCell_rd.1 r# ;; obtain ⟨b1_0x#, c1_0x#, b2_0x#, c2_0x#, b3_0x#, c3_0x#, rfl, h1_0x#, h2_0x#, h3_0x#⟩ := gQuery_rd.1 h0x#
theorem toCell_ct (l : List Value) (x : Cell) (hx : gCell.sz x ≤ 1048576) :
    Ct Tryz.prog 163 [.agg ⟨l⟩] [] (fun H => gCell.rd H l x) (fun v A => ∃ l, v = .agg ⟨l⟩ ∧ gCell.ow l x A) := by
  refine Ct.intro0 G_ok Tryz.func163 rfl rfl rfl fun E H hp => ?_
  obtain ⟨l0, b1, c1, b4, c4, rfl, h0, h1, w2, w3, h4⟩ := gCell_rd.1 hp
  obtain ⟨b1_0, c1_0, b2_0, c2_0, b3_0, c3_0, rfl, h1_0, h2_0, h3_0⟩ := gQuery_rd.1 h0
  have hz := gCell_sz x
  refine VCnew.intro fun x0 => ?_
  refine VCnew.intro fun x1 => ?_
  refine VCnew.intro fun x2 => ?_
  refine call_new (toQuery_ct _ (x.query) ?_) (Rp.mono _ (mem_at 0 rfl) h0) ?_
  · omega
  rintro v3 A3 o3
  obtain ⟨l3, rfl, o3⟩ := o3
  have r3 := Gt.owrd _ o3
  obtain ⟨b1x3, c1x3, b2x3, c2x3, b3x3, c3x3, rfl, h1x3, h2x3, h3x3⟩ := gQuery_rd.1 r3
  refine call_new (toIntS_ct _ _ _ (x.shares) ?_) (Rp.mono _ (mem_at 1 rfl) h1) ?_
  · omega
  rintro v4 A4 o4
  obtain ⟨b4, c4, rfl, o4⟩ := o4
  refine call_new (toGotS_ct _ _ _ (x.gots) ?_) (Rp.mono _ (mem_at 2 rfl) h4) ?_
  · omega
  rintro v5 A5 o5
  obtain ⟨b5, c5, rfl, o5⟩ := o5
  exact ⟨_, ⟨_, rfl, gCell_ow.2 ⟨_, _, _, _, _, _, _, _, rfl, .refl _, by assumption, by assumption, by assumption, by assumption, by assumption⟩⟩, (.le fun a => by (try simp only [setR, List.cons_append, List.nil_append]); simp only [List.flatten_append, List.flatten_cons, List.flatten_nil, List.count_append, List.count_nil, List.append_nil, List.nil_append]; omega)⟩
--@ct laws.eqCell val eqCell_ct _ _ $1 $2 | ⟨%1, %2⟩
theorem eqCell_ct (l1 l2 : List Value) (x y : Cell) :
    Ct Tryz.prog 172 [.agg ⟨l1⟩, .agg ⟨l2⟩] [] (fun H => gCell.rd H l1 x ∧ gCell.rd H l2 y) (fun v A => v = .bool (decide (x = y)) ∧ A = []) := by
  refine Ct.intro0 G_ok Tryz.func172 rfl rfl rfl fun E H hp => ?_
  obtain ⟨hp1, hp2⟩ := hp
  obtain ⟨l0p, b1p, c1p, b4p, c4p, rfl, h0p, h1p, w2p, w3p, h4p⟩ := gCell_rd.1 hp1
  obtain ⟨b1_0p, c1_0p, b2_0p, c2_0p, b3_0p, c3_0p, rfl, h1_0p, h2_0p, h3_0p⟩ := gQuery_rd.1 h0p
  obtain ⟨l0q, b1q, c1q, b4q, c4q, rfl, h0q, h1q, w2q, w3q, h4q⟩ := gCell_rd.1 hp2
  obtain ⟨b1_0q, c1_0q, b2_0q, c2_0q, b3_0q, c3_0q, rfl, h1_0q, h2_0q, h3_0q⟩ := gQuery_rd.1 h0q
  refine VCnew.intro fun x0 => ?_
  refine VCnew.intro fun x1 => ?_
  refine call_val (eqQuery_ct _ _ (x.query) (y.query)) ⟨(Rp.mono _ (mem_at 0 rfl) h0p), (Rp.mono _ (mem_at 0 rfl) h0q)⟩ ?_
  rintro _ rfl
  refine VCsplit.intro (fun q3 => ?_) (fun q3 => ?_)
  ·
    simp at q3
    exact ⟨[], ⟨by rw [decide_eq_false (fun e => by subst e; simp at *)], rfl⟩, (.le fun a => by (try simp only [setR, List.cons_append, List.nil_append]); simp only [List.flatten_append, List.flatten_cons, List.flatten_nil, List.count_append, List.count_nil, List.append_nil, List.nil_append]; omega)⟩
  ·
    simp at q3
    refine call_val (eqIntS_ct _ _ _ _ _ _ (x.shares) (y.shares)) ⟨(Rp.mono _ (mem_at 0 rfl) h1p), (Rp.mono _ (mem_at 0 rfl) h1q)⟩ ?_
    rintro _ rfl
    refine VCsplit.intro (fun q5 => ?_) (fun q5 => ?_)
    ·
      simp at q5
      exact ⟨[], ⟨by rw [decide_eq_false (fun e => by subst e; simp at *)], rfl⟩, (.le fun a => by (try simp only [setR, List.cons_append, List.nil_append]); simp only [List.flatten_append, List.flatten_cons, List.flatten_nil, List.count_append, List.count_nil, List.append_nil, List.nil_append]; omega)⟩
    ·
      simp at q5
      refine VCsplit.intro (fun q6 => ?_) (fun q6 => ?_)
      ·
        simp at q6
        exact ⟨[], ⟨by rw [decide_eq_false (fun e => by subst e; simp at *)], rfl⟩, (.le fun a => by (try simp only [setR, List.cons_append, List.nil_append]); simp only [List.flatten_append, List.flatten_cons, List.flatten_nil, List.count_append, List.count_nil, List.append_nil, List.nil_append]; omega)⟩
      ·
        simp at q6
        refine VCsplit.intro (fun q7 => ?_) (fun q7 => ?_)
        ·
          simp at q7
          exact ⟨[], ⟨by rw [decide_eq_false (fun e => by subst e; simp at *)], rfl⟩, (.le fun a => by (try simp only [setR, List.cons_append, List.nil_append]); simp only [List.flatten_append, List.flatten_cons, List.flatten_nil, List.count_append, List.count_nil, List.append_nil, List.nil_append]; omega)⟩
        ·
          simp at q7
          refine call_val (eqGotS_ct _ _ _ _ _ _ (x.gots) (y.gots)) ⟨(Rp.mono _ (mem_at 0 rfl) h4p), (Rp.mono _ (mem_at 0 rfl) h4q)⟩ ?_
          rintro _ rfl
          refine VCsplit.intro (fun q9 => ?_) (fun q9 => ?_)
          ·
            simp at q9
            exact ⟨[], ⟨by rw [decide_eq_false (fun e => by subst e; simp at *)], rfl⟩, (.le fun a => by (try simp only [setR, List.cons_append, List.nil_append]); simp only [List.flatten_append, List.flatten_cons, List.flatten_nil, List.count_append, List.count_nil, List.append_nil, List.nil_append]; omega)⟩
          ·
            simp at q9
            exact ⟨[], ⟨by rw [decide_eq_true (Cell.eq_iff.2 (by simp_all))], rfl⟩, (.le fun a => by (try simp only [setR, List.cons_append, List.nil_append]); simp only [List.flatten_append, List.flatten_cons, List.flatten_nil, List.count_append, List.count_nil, List.append_nil, List.nil_append]; omega)⟩
--@ct laws.szMail raw refine call_q (szMail_ct _ $1 _ ?_ ?_) %1 ?_ | | rintro _ ⟨r#, rfl, hr#⟩
theorem szMail_ct (l : List Value) (x : Mail) (left : Int) (h0 : 0 ≤ left) (h1 : left ≤ 1048576) :
    Ct Tryz.prog 185 [.agg ⟨l⟩, .int .i64 left] [] (fun H => gMail.rd H l x) (fun v A => (∃ r : Int, v = .int .i64 r ∧ ((r = -1 ∧ left < (gMail.sz x : Int)) ∨ (r = left - (gMail.sz x : Int) ∧ (gMail.sz x : Int) ≤ left))) ∧ A = []) := by
  refine Ct.intro0 G_ok Tryz.func185 rfl rfl rfl fun E H hp => ?_
  obtain ⟨l1, rfl, w0, h1⟩ := gMail_rd.1 hp
  obtain ⟨b4_1, c4_1, rfl, w0_1, w1_1, w2_1, h4_1, w5_1⟩ := gLetter_rd.1 h1
  have hz := gMail_sz x
  refine VCnew.intro fun x0 => ?_
  refine call_q (szLetter_ct _ (x.letter) _ ?_ ?_) (Rp.mono _ (mem_at 0 rfl) h1) ?_
  · trivial
  · trivial
  rintro _ ⟨r1, rfl, hr1⟩
  refine VCsplit.intro (fun q2 => ?_) (fun q2 => ?_)
  ·
    simp at q2
    exact ⟨[], ⟨⟨-1, rfl, .inl ⟨rfl, by (try simp (disch := omega) only [wrap_of] at *); omega⟩⟩, rfl⟩, (.le fun a => by (try simp only [setR, List.cons_append, List.nil_append]); simp only [List.flatten_append, List.flatten_cons, List.flatten_nil, List.count_append, List.count_nil, List.append_nil, List.nil_append]; omega)⟩
  ·
    simp at q2
    exact ⟨[], ⟨⟨_, rfl, .inr ⟨by (try simp (disch := omega) only [wrap_of] at *); omega, by omega⟩⟩, rfl⟩, (.le fun a => by (try simp only [setR, List.cons_append, List.nil_append]); simp only [List.flatten_append, List.flatten_cons, List.flatten_nil, List.count_append, List.count_nil, List.append_nil, List.nil_append]; omega)⟩
--@ct laws.toMail new toMail_ct _ $1 ?_ | %1 | obtain ⟨l#, rfl, o#⟩ := o# ;; have r# := Gt.owrd _ o# ;; obtain ⟨l1x#, rfl, w0x#, h1x#⟩ := gMail_rd.1 r# ;; obtain ⟨b4_1x#, c4_1x#, rfl, w0_1x#, w1_1x#, w2_1x#, h4_1x#, w5_1x#⟩ := gLetter_rd.1 h1x#
theorem toMail_ct (l : List Value) (x : Mail) (hx : gMail.sz x ≤ 1048576) :
    Ct Tryz.prog 188 [.agg ⟨l⟩] [] (fun H => gMail.rd H l x) (fun v A => ∃ l, v = .agg ⟨l⟩ ∧ gMail.ow l x A) := by
  refine Ct.intro0 G_ok Tryz.func188 rfl rfl rfl fun E H hp => ?_
  obtain ⟨l1, rfl, w0, h1⟩ := gMail_rd.1 hp
  obtain ⟨b4_1, c4_1, rfl, w0_1, w1_1, w2_1, h4_1, w5_1⟩ := gLetter_rd.1 h1
  have hz := gMail_sz x
  refine VCnew.intro fun x0 => ?_
  refine VCnew.intro fun x1 => ?_
  refine VCnew.intro fun x2 => ?_
  refine call_new (toLetter_ct _ (x.letter) ?_) (Rp.mono _ (mem_at 0 rfl) h1) ?_
  · omega
  rintro v3 A3 o3
  obtain ⟨l3, rfl, o3⟩ := o3
  have r3 := Gt.owrd _ o3
  obtain ⟨b4x3, c4x3, rfl, w0x3, w1x3, w2x3, h4x3, w5x3⟩ := gLetter_rd.1 r3
  exact ⟨_, ⟨_, rfl, gMail_ow.2 ⟨_, _, rfl, .refl _, by assumption, by assumption⟩⟩, (.le fun a => by (try simp only [setR, List.cons_append, List.nil_append]); simp only [List.flatten_append, List.flatten_cons, List.flatten_nil, List.count_append, List.count_nil, List.append_nil, List.nil_append]; omega)⟩
--@ct laws.eqMail val eqMail_ct _ _ $1 $2 | ⟨%1, %2⟩
theorem eqMail_ct (l1 l2 : List Value) (x y : Mail) :
    Ct Tryz.prog 73 [.agg ⟨l1⟩, .agg ⟨l2⟩] [] (fun H => gMail.rd H l1 x ∧ gMail.rd H l2 y) (fun v A => v = .bool (decide (x = y)) ∧ A = []) := by
  refine Ct.intro0 G_ok Tryz.func73 rfl rfl rfl fun E H hp => ?_
  obtain ⟨hp1, hp2⟩ := hp
  obtain ⟨l1p, rfl, w0p, h1p⟩ := gMail_rd.1 hp1
  obtain ⟨b4_1p, c4_1p, rfl, w0_1p, w1_1p, w2_1p, h4_1p, w5_1p⟩ := gLetter_rd.1 h1p
  obtain ⟨l1q, rfl, w0q, h1q⟩ := gMail_rd.1 hp2
  obtain ⟨b4_1q, c4_1q, rfl, w0_1q, w1_1q, w2_1q, h4_1q, w5_1q⟩ := gLetter_rd.1 h1q
  refine VCnew.intro fun x0 => ?_
  refine VCnew.intro fun x1 => ?_
  refine VCsplit.intro (fun q2 => ?_) (fun q2 => ?_)
  ·
    simp at q2
    exact ⟨[], ⟨by rw [decide_eq_false (fun e => by subst e; simp at *)], rfl⟩, (.le fun a => by (try simp only [setR, List.cons_append, List.nil_append]); simp only [List.flatten_append, List.flatten_cons, List.flatten_nil, List.count_append, List.count_nil, List.append_nil, List.nil_append]; omega)⟩
  ·
    simp at q2
    refine call_val (eqLetter_ct _ _ (x.letter) (y.letter)) ⟨(Rp.mono _ (mem_at 0 rfl) h1p), (Rp.mono _ (mem_at 0 rfl) h1q)⟩ ?_
    rintro _ rfl
    refine VCsplit.intro (fun q4 => ?_) (fun q4 => ?_)
    ·
      simp at q4
      exact ⟨[], ⟨by rw [decide_eq_false (fun e => by subst e; simp at *)], rfl⟩, (.le fun a => by (try simp only [setR, List.cons_append, List.nil_append]); simp only [List.flatten_append, List.flatten_cons, List.flatten_nil, List.count_append, List.count_nil, List.append_nil, List.nil_append]; omega)⟩
    ·
      simp at q4
      exact ⟨[], ⟨by rw [decide_eq_true (Mail.eq_iff.2 (by simp_all))], rfl⟩, (.le fun a => by (try simp only [setR, List.cons_append, List.nil_append]); simp only [List.flatten_append, List.flatten_cons, List.flatten_nil, List.count_append, List.count_nil, List.append_nil, List.nil_append]; omega)⟩
--@ct laws.szMailS raw refine call_q (szMailS_ct _ _ _ $1 _ ?_ ?_) %1 ?_ | | rintro _ ⟨r#, rfl, hr#⟩
theorem szMailS_ct (b : Option Addr) (m c : Nat) (xs : List Mail) (left : Int) (h0 : 0 ≤ left) (h1 : left ≤ 1048576) :
    Ct Tryz.prog 159 [.slice b m c, .int .i64 left] [] (fun H => (gSl 112 gMail).rd H [.slice b m c] xs) (fun v A => (∃ r : Int, v = .int .i64 r ∧ ((r = -1 ∧ left < (szL gMail xs : Int)) ∨ (r = left - (szL gMail xs : Int) ∧ (szL gMail xs : Int) ≤ left))) ∧ A = []) := by
  refine Ct.intro0 G_ok Tryz.func159 rfl rfl rfl fun E H hp => ?_
  obtain ⟨rfl, hcl, hl⟩ := sl_len hp
  have hq := szL_eq gMail xs
  have ht := List.take_length (l := xs)
  refine VCsplit.intro (fun q0 => ?_) (fun q0 => ?_)
  ·
    simp at q0
    simp (disch := omega) only [wrap_of] at q0
    exact ⟨[], ⟨⟨-1, rfl, .inl ⟨rfl, by (try simp (disch := omega) only [wrap_of] at *); omega⟩⟩, rfl⟩, (.le fun a => by (try simp only [setR, List.cons_append, List.nil_append]); simp only [List.flatten_append, List.flatten_cons, List.flatten_nil, List.count_append, List.count_nil, List.append_nil, List.nil_append]; omega)⟩
  ·
    simp at q0
    simp (disch := omega) only [wrap_of] at q0
    apply loop_mod (α := (Nat) × (Int)) G_ok [12, 13, 14, 15, 18, 19, 20, 21, 22, 23, 1, 24, 25, 4, 16, 17, 5] (fun z => [(5, .v (.int .i64 z.1)), (1, .v (.int .i64 z.2))]) (fun z => []) (fun z => [H]) (fun z => xs.length - z.1) (fun z => z.1 ≤ xs.length ∧ z.2 = left - xs.length - szE gMail (xs.take z.1) ∧ 0 ≤ z.2) ((0, left - xs.length))
    · repeat' (first | exact trivial | refine ⟨⟨_, rfl, by first | rfl | exact inc_eq _ (by omega) | (refine sl_eq ?_; simp; done) | (simp (disch := omega) only [wrap_of]), by first | exact trivial | simp [SV.ok]⟩, ?_⟩)
    · exact trivial
    · try dsimp only
      exact ⟨by omega, by simp [szE], by omega⟩
    · exact .refl _
    rintro ⟨k, lf⟩ hI
    obtain ⟨hk, hlf, hnn⟩ : k ≤ xs.length ∧ lf = left - xs.length - szE gMail (xs.take k) ∧ 0 ≤ lf := hI
    try dsimp only
    refine VCsplit.intro (fun q1 => ?_) (fun q1 => ?_)
    ·
      simp at q1
      have hs := szE_step gMail xs k default (by omega)
      have hs2 := szE_le gMail xs (k + 1)
      refine idx_rd hp ?_ ?_ fun b2 o2 hb2 => ?_
      · omega
      · omega
      refine load_allN default (k) rfl hp ?_ ?_ hb2 rfl (mem_at 0 rfl) fun l3 hl3 => ?_
      · omega
      · omega
      obtain ⟨l1x3, rfl, w0x3, h1x3⟩ := gMail_rd.1 hl3 ; obtain ⟨b4_1x3, c4_1x3, rfl, w0_1x3, w1_1x3, w2_1x3, h4_1x3, w5_1x3⟩ := gLetter_rd.1 h1x3
      refine call_q (szMail_ct _ (xs[k]?.getD default) _ ?_ ?_) (Rp.mono _ (mem_at 0 rfl) hl3) ?_
      · trivial
      · omega
      rintro _ ⟨r4, rfl, hr4⟩
      refine VCsplit.intro (fun q5 => ?_) (fun q5 => ?_)
      ·
        simp at q5
        exact ⟨[], ⟨⟨-1, rfl, .inl ⟨rfl, by (try simp (disch := omega) only [wrap_of] at *); omega⟩⟩, rfl⟩, (.le fun a => by (try simp only [setR, List.cons_append, List.nil_append]); simp only [List.flatten_append, List.flatten_cons, List.flatten_nil, List.count_append, List.count_nil, List.append_nil, List.nil_append]; omega)⟩
      ·
        simp at q5
        apply loop_stepA (k + 1, _)
        · exact .refl _
        · repeat' (first | exact trivial | refine ⟨⟨_, rfl, by first | rfl | exact inc_eq _ (by omega) | (refine sl_eq ?_; simp; done) | (simp (disch := omega) only [wrap_of]), by first | exact trivial | simp [SV.ok]⟩, ?_⟩)
        · exact trivial
        · try dsimp only
          ((try simp (disch := omega) only [wrap_of] at *); refine ⟨by omega, by omega, by omega⟩)
        try dsimp only
        omega
    ·
      simp at q1
      obtain rfl : k = xs.length := by omega
      rw [List.take_length] at hlf
      exact ⟨[], ⟨⟨_, rfl, .inr ⟨by (try simp (disch := omega) only [wrap_of] at *); omega, by omega⟩⟩, rfl⟩, (.le fun a => by (try simp only [setR, List.cons_append, List.nil_append]); simp only [List.flatten_append, List.flatten_cons, List.flatten_nil, List.count_append, List.count_nil, List.append_nil, List.nil_append]; omega)⟩
--@ct laws.toMailS new toMailS_ct _ _ _ $1 ?_ | %1 | obtain ⟨b#, c#, rfl, o#⟩ := o#
theorem toMailS_ct (b : Option Addr) (m c : Nat) (xs : List Mail) (hx : szL gMail xs ≤ 1048576) :
    Ct Tryz.prog 164 [.slice b m c] [] (fun H => (gSl 112 gMail).rd H [.slice b m c] xs) (fun v A => ∃ b c, v = .slice b xs.length c ∧ (gSl 112 gMail).ow [.slice b xs.length c] xs A) := by
  refine Ct.intro0 G_ok Tryz.func164 rfl rfl rfl fun E H hp => ?_
  obtain ⟨rfl, hcl, hl⟩ := sl_len hp
  have hls := len_szL gMail xs
  have hq := szL_eq gMail xs
  refine VCmake.intro ?_ ?_ ?_ ?_ fun x0 => ?_
  · omega
  · omega
  · omega
  · omega
  apply loop_mod (α := (Nat) × (Hp)) G_ok [8, 9, 10, 11, 14, 15, 16, 17, 18, 19, 20, 21, 12, 13, 4] (fun z => [(4, .v (.int .i64 z.1))]) (fun z => []) (fun z => [z.2, H]) (fun z => xs.length - z.1) (fun z => z.1 ≤ xs.length ∧ (gSl 112 gMail).ow [.slice (some ⟨x0, 0, none⟩) xs.length xs.length] (xs.take z.1 ++ List.replicate (xs.length - z.1) zMail) z.2) ((0, _))
  · repeat' (first | exact trivial | refine ⟨⟨_, rfl, by first | rfl | exact inc_eq _ (by omega) | (refine sl_eq ?_; simp; done), by first | exact trivial | simp [SV.ok]⟩, ?_⟩)
  · exact trivial
  · try dsimp only
    exact ⟨by omega, by simpa using gmake (g := gMail) (T := 112) (b := x0) (zMail_ow) (Nat.le_refl xs.length) (by omega)⟩
  · exact .refl _
  rintro ⟨k, A⟩ hI
  obtain ⟨hk, oA⟩ : k ≤ xs.length ∧ (gSl 112 gMail).ow [.slice (some ⟨x0, 0, none⟩) xs.length xs.length] (xs.take k ++ List.replicate (xs.length - k) zMail) A := hI
  try dsimp only
  refine VCsplit.intro (fun q1 => ?_) (fun q1 => ?_)
  ·
    simp at q1
    have hs := szE_step gMail xs k default (by omega)
    have hs2 := szE_le gMail xs (k + 1)
    refine idx_rd hp ?_ ?_ fun b2 o2 hb2 => ?_
    · omega
    · omega
    refine load_allN default (k) rfl hp ?_ ?_ hb2 rfl (mem_at 1 rfl) fun l3 hl3 => ?_
    · omega
    · omega
    obtain ⟨l1x3, rfl, w0x3, h1x3⟩ := gMail_rd.1 hl3 ; obtain ⟨b4_1x3, c4_1x3, rfl, w0_1x3, w1_1x3, w2_1x3, h4_1x3, w5_1x3⟩ := gLetter_rd.1 h1x3
    refine call_new (toMail_ct _ (xs[k]?.getD default) ?_) (Rp.mono _ (mem_at 1 rfl) hl3) ?_
    · omega
    rintro v4 A4 o4
    obtain ⟨l4, rfl, o4⟩ := o4
    have r4 := Gt.owrd _ o4
    obtain ⟨l1x4, rfl, w0x4, h1x4⟩ := gMail_rd.1 r4
    obtain ⟨b4_1x4, c4_1x4, rfl, w0_1x4, w1_1x4, w2_1x4, h4_1x4, w5_1x4⟩ := gLetter_rd.1 h1x4
    refine idx_rd (Gt.owrd _ oA) ?_ ?_ fun b5 o5 hb5 => ?_
    · omega
    · simp; omega
    refine gstore1N (k) (A) (A4) [H] (.le fun a => by (try simp only [setR, List.cons_append, List.nil_append]); simp only [List.flatten_append, List.flatten_cons, List.flatten_nil, List.count_append, List.count_nil, List.append_nil, List.nil_append]; omega) rfl oA ?_ ?_ hb5 rfl _ o4 fun A6 o6 => ?_
    · omega
    · simp; omega
    apply loop_stepA (k + 1, _)
    · exact .refl _
    · repeat' (first | exact trivial | refine ⟨⟨_, rfl, by first | rfl | exact inc_eq _ (by omega) | (refine sl_eq ?_; simp; done), by first | exact trivial | simp [SV.ok]⟩, ?_⟩)
    · exact trivial
    · try dsimp only
      exact ⟨by omega, by rw [← take_stepz xs k default zMail (by omega)] ; assumption⟩
    try dsimp only
    omega
  ·
    simp at q1
    obtain rfl : k = xs.length := by omega
    rw [List.take_length, Nat.sub_self, List.replicate_zero, List.append_nil] at oA
    exact ⟨_, ⟨_, _, rfl, oA⟩, (.le fun a => by (try simp only [setR, List.cons_append, List.nil_append]); simp only [List.flatten_append, List.flatten_cons, List.flatten_nil, List.count_append, List.count_nil, List.append_nil, List.nil_append]; omega)⟩
--@ct laws.eqMailS val eqMailS_ct _ _ _ _ _ _ $1 $2 | ⟨%1, %2⟩
theorem eqMailS_ct (b1 : Option Addr) (m1 c1 : Nat) (b2 : Option Addr) (m2 c2 : Nat) (xs ys : List Mail) :
    Ct Tryz.prog 24 [.slice b1 m1 c1, .slice b2 m2 c2] [] (fun H => (gSl 112 gMail).rd H [.slice b1 m1 c1] xs ∧ (gSl 112 gMail).rd H [.slice b2 m2 c2] ys) (fun v A => v = .bool (decide (xs = ys)) ∧ A = []) := by
  refine Ct.intro0 G_ok Tryz.func24 rfl rfl rfl fun E H hp => ?_
  obtain ⟨hp1, hp2⟩ := hp
  obtain ⟨rfl, hc1, hl1⟩ := sl_len hp1
  obtain ⟨rfl, hc2, hl2⟩ := sl_len hp2
  refine VCsplit.intro (fun q0 => ?_) (fun q0 => ?_)
  ·
    simp at q0
    exact ⟨[], ⟨by rw [decide_eq_false (fun e => by subst e; omega)], rfl⟩, (.le fun a => by (try simp only [setR, List.cons_append, List.nil_append]); simp only [List.flatten_append, List.flatten_cons, List.flatten_nil, List.count_append, List.count_nil, List.append_nil, List.nil_append]; omega)⟩
  ·
    simp at q0
    apply loop_mod (α := (Nat)) G_ok [11, 12, 13, 14, 17, 18, 19, 20, 21, 22, 23, 24, 25, 26, 4, 15, 16, 5] (fun z => [(5, .v (.int .i64 z))]) (fun z => []) (fun z => [H]) (fun z => xs.length - z) (fun z => z ≤ xs.length ∧ xs.take z = ys.take z) (0)
    · repeat' (first | exact trivial | refine ⟨⟨_, rfl, by first | rfl | exact inc_eq _ (by omega) | (refine sl_eq ?_; simp; done), by first | exact trivial | simp [SV.ok]⟩, ?_⟩)
    · exact trivial
    · exact ⟨by omega, by simp⟩
    · exact .refl _
    rintro k hI
    obtain ⟨hk, he⟩ : k ≤ xs.length ∧ xs.take k = ys.take k := hI
    try dsimp only
    refine VCsplit.intro (fun q1 => ?_) (fun q1 => ?_)
    ·
      simp at q1
      refine draw G_ok mixed none (.q 0 (.q 1 (.q 2 (.q 3 (.q 4 (.q 5 (.q 6 (.q 7 (.f 8 (.q 9 (.nil))))))))))) (by decide +kernel) ?_
      refine idx_rd hp1 ?_ ?_ fun b2 o2 hb2 => ?_
      · omega
      · omega
      refine load_allN default (k) rfl hp1 ?_ ?_ hb2 rfl (mem_at 0 rfl) fun l3 hl3 => ?_
      · omega
      · omega
      obtain ⟨l1x3, rfl, w0x3, h1x3⟩ := gMail_rd.1 hl3 ; obtain ⟨b4_1x3, c4_1x3, rfl, w0_1x3, w1_1x3, w2_1x3, h4_1x3, w5_1x3⟩ := gLetter_rd.1 h1x3
      refine idx_rd hp2 ?_ ?_ fun b4 o4 hb4 => ?_
      · omega
      · omega
      refine load_allN default (k) rfl hp2 ?_ ?_ hb4 rfl (mem_at 0 rfl) fun l5 hl5 => ?_
      · omega
      · omega
      obtain ⟨l1x5, rfl, w0x5, h1x5⟩ := gMail_rd.1 hl5 ; obtain ⟨b4_1x5, c4_1x5, rfl, w0_1x5, w1_1x5, w2_1x5, h4_1x5, w5_1x5⟩ := gLetter_rd.1 h1x5
      refine call_val (eqMail_ct _ _ (xs[k]?.getD default) (ys[k]?.getD default)) ⟨(Rp.mono _ (mem_at 0 rfl) hl3), (Rp.mono _ (mem_at 0 rfl) hl5)⟩ ?_
      rintro _ rfl
      refine VC.intro ?_ ?_
      · exact fun _ h => h
      refine VCsplit.intro (fun q7 => ?_) (fun q7 => ?_)
      ·
        simp at q7
        exact ⟨[], ⟨by rw [decide_eq_false (fun e => by subst e; simp at *)], rfl⟩, (.le fun a => by (try simp only [setR, List.cons_append, List.nil_append]); simp only [List.flatten_append, List.flatten_cons, List.flatten_nil, List.count_append, List.count_nil, List.append_nil, List.nil_append]; omega)⟩
      ·
        simp at q7
        apply loop_stepA (k + 1)
        · exact .refl _
        · repeat' (first | exact trivial | refine ⟨⟨_, rfl, by first | rfl | exact inc_eq _ (by omega) | (refine sl_eq ?_; simp; done), by first | exact trivial | simp [SV.ok]⟩, ?_⟩)
        · exact trivial
        · exact ⟨by omega, eq_step default (by omega) he (by omega) (by simpa using ‹_›)⟩
        omega
    ·
      simp at q1
      exact ⟨[], ⟨by rw [decide_eq_true]; rw [← List.take_length (l := xs), ← List.take_length (l := ys), ← (by omega : xs.length = ys.length), show xs.length = k by omega]; exact he, rfl⟩, (.le fun a => by (try simp only [setR, List.cons_append, List.nil_append]); simp only [List.flatten_append, List.flatten_cons, List.flatten_nil, List.count_append, List.count_nil, List.append_nil, List.nil_append]; omega)⟩
--@ct laws.szWork raw refine call_q (szWork_ct _ $1 _ ?_ ?_) %1 ?_ | | rintro _ ⟨r#, rfl, hr#⟩
theorem szWork_ct (l : List Value) (x : Work) (left : Int) (h0 : 0 ≤ left) (h1 : left ≤ 1048576) :
    Ct Tryz.prog 128 [.agg ⟨l⟩, .int .i64 left] [] (fun H => gWork.rd H l x) (fun v A => (∃ r : Int, v = .int .i64 r ∧ ((r = -1 ∧ left < (gWork.sz x : Int)) ∨ (r = left - (gWork.sz x : Int) ∧ (gWork.sz x : Int) ≤ left))) ∧ A = []) := by
  refine Ct.intro0 G_ok Tryz.func128 rfl rfl rfl fun E H hp => ?_
  obtain ⟨l1, b2, c2, b4, c4, l11, b13, c13, rfl, h1, h2, w3, h4, w5, w8, h11, h13⟩ := gWork_rd.1 hp
  obtain ⟨b1_1, c1_1, b2_1, c2_1, b3_1, c3_1, rfl, h1_1, h2_1, h3_1⟩ := gQuery_rd.1 h1
  obtain ⟨l0_11, b1_11, c1_11, b4_11, c4_11, rfl, h0_11, h1_11, w2_11, w3_11, h4_11⟩ := gCell_rd.1 h11
  obtain ⟨b1_0_11, c1_0_11, b2_0_11, c2_0_11, b3_0_11, c3_0_11, rfl, h1_0_11, h2_0_11, h3_0_11⟩ := gQuery_rd.1 h0_11
  have hz := gWork_sz x
  refine VCnew.intro fun x0 => ?_
  refine call_q (szQuery_ct _ (x.query) _ ?_ ?_) (Rp.mono _ (mem_at 0 rfl) h1) ?_
  · trivial
  · trivial
  rintro _ ⟨r1, rfl, hr1⟩
  refine VCsplit.intro (fun q2 => ?_) (fun q2 => ?_)
  ·
    simp at q2
    exact ⟨[], ⟨⟨-1, rfl, .inl ⟨rfl, by (try simp (disch := omega) only [wrap_of] at *); omega⟩⟩, rfl⟩, (.le fun a => by (try simp only [setR, List.cons_append, List.nil_append]); simp only [List.flatten_append, List.flatten_cons, List.flatten_nil, List.count_append, List.count_nil, List.append_nil, List.nil_append]; omega)⟩
  ·
    simp at q2
    refine call_q (szIntS_ct _ _ _ (x.shares) _ ?_ ?_) (Rp.mono _ (mem_at 0 rfl) h2) ?_
    · trivial
    · omega
    rintro _ ⟨r3, rfl, hr3⟩
    refine VCsplit.intro (fun q4 => ?_) (fun q4 => ?_)
    ·
      simp at q4
      exact ⟨[], ⟨⟨-1, rfl, .inl ⟨rfl, by (try simp (disch := omega) only [wrap_of] at *); omega⟩⟩, rfl⟩, (.le fun a => by (try simp only [setR, List.cons_append, List.nil_append]); simp only [List.flatten_append, List.flatten_cons, List.flatten_nil, List.count_append, List.count_nil, List.append_nil, List.nil_append]; omega)⟩
    ·
      simp at q4
      refine call_q (szWalkS_ct _ _ _ (x.seen) _ ?_ ?_) (Rp.mono _ (mem_at 0 rfl) h4) ?_
      · trivial
      · omega
      rintro _ ⟨r5, rfl, hr5⟩
      refine VCsplit.intro (fun q6 => ?_) (fun q6 => ?_)
      ·
        simp at q6
        exact ⟨[], ⟨⟨-1, rfl, .inl ⟨rfl, by (try simp (disch := omega) only [wrap_of] at *); omega⟩⟩, rfl⟩, (.le fun a => by (try simp only [setR, List.cons_append, List.nil_append]); simp only [List.flatten_append, List.flatten_cons, List.flatten_nil, List.count_append, List.count_nil, List.append_nil, List.nil_append]; omega)⟩
      ·
        simp at q6
        refine call_q (szCell_ct _ (x.cell) _ ?_ ?_) (Rp.mono _ (mem_at 0 rfl) h11) ?_
        · trivial
        · omega
        rintro _ ⟨r7, rfl, hr7⟩
        refine VCsplit.intro (fun q8 => ?_) (fun q8 => ?_)
        ·
          simp at q8
          exact ⟨[], ⟨⟨-1, rfl, .inl ⟨rfl, by (try simp (disch := omega) only [wrap_of] at *); omega⟩⟩, rfl⟩, (.le fun a => by (try simp only [setR, List.cons_append, List.nil_append]); simp only [List.flatten_append, List.flatten_cons, List.flatten_nil, List.count_append, List.count_nil, List.append_nil, List.nil_append]; omega)⟩
        ·
          simp at q8
          refine call_q (szMailS_ct _ _ _ (x.waits) _ ?_ ?_) (Rp.mono _ (mem_at 0 rfl) h13) ?_
          · trivial
          · omega
          rintro _ ⟨r9, rfl, hr9⟩
          refine VCsplit.intro (fun q10 => ?_) (fun q10 => ?_)
          ·
            simp at q10
            exact ⟨[], ⟨⟨-1, rfl, .inl ⟨rfl, by (try simp (disch := omega) only [wrap_of] at *); omega⟩⟩, rfl⟩, (.le fun a => by (try simp only [setR, List.cons_append, List.nil_append]); simp only [List.flatten_append, List.flatten_cons, List.flatten_nil, List.count_append, List.count_nil, List.append_nil, List.nil_append]; omega)⟩
          ·
            simp at q10
            exact ⟨[], ⟨⟨_, rfl, .inr ⟨by (try simp (disch := omega) only [wrap_of] at *); omega, by omega⟩⟩, rfl⟩, (.le fun a => by (try simp only [setR, List.cons_append, List.nil_append]); simp only [List.flatten_append, List.flatten_cons, List.flatten_nil, List.count_append, List.count_nil, List.append_nil, List.nil_append]; omega)⟩
--@ct laws.toWork new toWork_ct _ $1 ?_ | %1 | obtain ⟨l#, rfl, o#⟩ := o# ;; have r# := Gt.owrd _ o# ;; obtain ⟨l1x#, b2x#, c2x#, b4x#, c4x#, l11x#, b13x#, c13x#, rfl, h1x#, h2x#, w3x#, h4x#, w5x#, w8x#, h11x#, h13x#⟩ := gWork_rd.1 r# ;; obtain ⟨b1_1x#, c1_1x#, b2_1x#, c2_1x#, b3_1x#, c3_1x#, rfl, h1_1x#, h2_1x#, h3_1x#⟩ := gQuery_rd.1 h1x# ;; obtain ⟨l0_11x#, b1_11x#, c1_11x#, b4_11x#, c4_11x#, rfl, h0_11x#, h1_11x#, w2_11x#, w3_11x#, h4_11x#⟩ := gCell_rd.1 h11x# ;; obtain ⟨b1_0_11x#, c1_0_11x#, b2_0_11x#, c2_0_11x#, b3_0_11x#, c3_0_11x#, rfl, h1_0_11x#, h2_0_11x#, h3_0_11x#⟩ := gQuery_rd.1 h0_11x#
theorem toWork_ct (l : List Value) (x : Work) (hx : gWork.sz x ≤ 1048576) :
    Ct Tryz.prog 132 [.agg ⟨l⟩] [] (fun H => gWork.rd H l x) (fun v A => ∃ l, v = .agg ⟨l⟩ ∧ gWork.ow l x A) := by
  refine Ct.intro0 G_ok Tryz.func132 rfl rfl rfl fun E H hp => ?_
  obtain ⟨l1, b2, c2, b4, c4, l11, b13, c13, rfl, h1, h2, w3, h4, w5, w8, h11, h13⟩ := gWork_rd.1 hp
  obtain ⟨b1_1, c1_1, b2_1, c2_1, b3_1, c3_1, rfl, h1_1, h2_1, h3_1⟩ := gQuery_rd.1 h1
  obtain ⟨l0_11, b1_11, c1_11, b4_11, c4_11, rfl, h0_11, h1_11, w2_11, w3_11, h4_11⟩ := gCell_rd.1 h11
  obtain ⟨b1_0_11, c1_0_11, b2_0_11, c2_0_11, b3_0_11, c3_0_11, rfl, h1_0_11, h2_0_11, h3_0_11⟩ := gQuery_rd.1 h0_11
  have hz := gWork_sz x
  refine VCnew.intro fun x0 => ?_
  refine VCnew.intro fun x1 => ?_
  refine VCnew.intro fun x2 => ?_
  refine call_new (toQuery_ct _ (x.query) ?_) (Rp.mono _ (mem_at 0 rfl) h1) ?_
  · omega
  rintro v3 A3 o3
  obtain ⟨l3, rfl, o3⟩ := o3
  have r3 := Gt.owrd _ o3
  obtain ⟨b1x3, c1x3, b2x3, c2x3, b3x3, c3x3, rfl, h1x3, h2x3, h3x3⟩ := gQuery_rd.1 r3
  refine call_new (toIntS_ct _ _ _ (x.shares) ?_) (Rp.mono _ (mem_at 1 rfl) h2) ?_
  · omega
  rintro v4 A4 o4
  obtain ⟨b4, c4, rfl, o4⟩ := o4
  refine call_new (toWalkS_ct _ _ _ (x.seen) ?_) (Rp.mono _ (mem_at 2 rfl) h4) ?_
  · omega
  rintro v5 A5 o5
  obtain ⟨b5, c5, rfl, o5⟩ := o5
  refine call_new (toCell_ct _ (x.cell) ?_) (Rp.mono _ (mem_at 3 rfl) h11) ?_
  · omega
  rintro v6 A6 o6
  obtain ⟨l6, rfl, o6⟩ := o6
  have r6 := Gt.owrd _ o6
  obtain ⟨l0x6, b1x6, c1x6, b4x6, c4x6, rfl, h0x6, h1x6, w2x6, w3x6, h4x6⟩ := gCell_rd.1 r6
  obtain ⟨b1_0x6, c1_0x6, b2_0x6, c2_0x6, b3_0x6, c3_0x6, rfl, h1_0x6, h2_0x6, h3_0x6⟩ := gQuery_rd.1 h0x6
  refine call_new (toMailS_ct _ _ _ (x.waits) ?_) (Rp.mono _ (mem_at 4 rfl) h13) ?_
  · omega
  rintro v7 A7 o7
  obtain ⟨b7, c7, rfl, o7⟩ := o7
  exact ⟨_, ⟨_, rfl, gWork_ow.2 ⟨_, _, _, _, _, _, _, _, _, _, _, _, _, rfl, .refl _, by assumption, by assumption, by assumption, by assumption, by assumption, by assumption, by assumption, by assumption⟩⟩, (.le fun a => by (try simp only [setR, List.cons_append, List.nil_append]); simp only [List.flatten_append, List.flatten_cons, List.flatten_nil, List.count_append, List.count_nil, List.append_nil, List.nil_append]; omega)⟩
--@ct laws.eqWork val eqWork_ct _ _ $1 $2 | ⟨%1, %2⟩
theorem eqWork_ct (l1 l2 : List Value) (x y : Work) :
    Ct Tryz.prog 139 [.agg ⟨l1⟩, .agg ⟨l2⟩] [] (fun H => gWork.rd H l1 x ∧ gWork.rd H l2 y) (fun v A => v = .bool (decide (x = y)) ∧ A = []) := by
  refine Ct.intro0 G_ok Tryz.func139 rfl rfl rfl fun E H hp => ?_
  obtain ⟨hp1, hp2⟩ := hp
  obtain ⟨l1p, b2p, c2p, b4p, c4p, l11p, b13p, c13p, rfl, h1p, h2p, w3p, h4p, w5p, w8p, h11p, h13p⟩ := gWork_rd.1 hp1
  obtain ⟨b1_1p, c1_1p, b2_1p, c2_1p, b3_1p, c3_1p, rfl, h1_1p, h2_1p, h3_1p⟩ := gQuery_rd.1 h1p
  obtain ⟨l0_11p, b1_11p, c1_11p, b4_11p, c4_11p, rfl, h0_11p, h1_11p, w2_11p, w3_11p, h4_11p⟩ := gCell_rd.1 h11p
  obtain ⟨b1_0_11p, c1_0_11p, b2_0_11p, c2_0_11p, b3_0_11p, c3_0_11p, rfl, h1_0_11p, h2_0_11p, h3_0_11p⟩ := gQuery_rd.1 h0_11p
  obtain ⟨l1q, b2q, c2q, b4q, c4q, l11q, b13q, c13q, rfl, h1q, h2q, w3q, h4q, w5q, w8q, h11q, h13q⟩ := gWork_rd.1 hp2
  obtain ⟨b1_1q, c1_1q, b2_1q, c2_1q, b3_1q, c3_1q, rfl, h1_1q, h2_1q, h3_1q⟩ := gQuery_rd.1 h1q
  obtain ⟨l0_11q, b1_11q, c1_11q, b4_11q, c4_11q, rfl, h0_11q, h1_11q, w2_11q, w3_11q, h4_11q⟩ := gCell_rd.1 h11q
  obtain ⟨b1_0_11q, c1_0_11q, b2_0_11q, c2_0_11q, b3_0_11q, c3_0_11q, rfl, h1_0_11q, h2_0_11q, h3_0_11q⟩ := gQuery_rd.1 h0_11q
  refine VCnew.intro fun x0 => ?_
  refine VCnew.intro fun x1 => ?_
  refine VCsplit.intro (fun q2 => ?_) (fun q2 => ?_)
  ·
    simp at q2
    exact ⟨[], ⟨by rw [decide_eq_false (fun e => by subst e; simp at *)], rfl⟩, (.le fun a => by (try simp only [setR, List.cons_append, List.nil_append]); simp only [List.flatten_append, List.flatten_cons, List.flatten_nil, List.count_append, List.count_nil, List.append_nil, List.nil_append]; omega)⟩
  ·
    simp at q2
    refine call_val (eqQuery_ct _ _ (x.query) (y.query)) ⟨(Rp.mono _ (mem_at 0 rfl) h1p), (Rp.mono _ (mem_at 0 rfl) h1q)⟩ ?_
    rintro _ rfl
    refine VCsplit.intro (fun q4 => ?_) (fun q4 => ?_)
    ·
      simp at q4
      exact ⟨[], ⟨by rw [decide_eq_false (fun e => by subst e; simp at *)], rfl⟩, (.le fun a => by (try simp only [setR, List.cons_append, List.nil_append]); simp only [List.flatten_append, List.flatten_cons, List.flatten_nil, List.count_append, List.count_nil, List.append_nil, List.nil_append]; omega)⟩
    ·
      simp at q4
      refine call_val (eqIntS_ct _ _ _ _ _ _ (x.shares) (y.shares)) ⟨(Rp.mono _ (mem_at 0 rfl) h2p), (Rp.mono _ (mem_at 0 rfl) h2q)⟩ ?_
      rintro _ rfl
      refine VCsplit.intro (fun q6 => ?_) (fun q6 => ?_)
      ·
        simp at q6
        exact ⟨[], ⟨by rw [decide_eq_false (fun e => by subst e; simp at *)], rfl⟩, (.le fun a => by (try simp only [setR, List.cons_append, List.nil_append]); simp only [List.flatten_append, List.flatten_cons, List.flatten_nil, List.count_append, List.count_nil, List.append_nil, List.nil_append]; omega)⟩
      ·
        simp at q6
        refine VCsplit.intro (fun q7 => ?_) (fun q7 => ?_)
        ·
          simp at q7
          exact ⟨[], ⟨by rw [decide_eq_false (fun e => by subst e; simp at *)], rfl⟩, (.le fun a => by (try simp only [setR, List.cons_append, List.nil_append]); simp only [List.flatten_append, List.flatten_cons, List.flatten_nil, List.count_append, List.count_nil, List.append_nil, List.nil_append]; omega)⟩
        ·
          simp at q7
          refine call_val (eqWalkS_ct _ _ _ _ _ _ (x.seen) (y.seen)) ⟨(Rp.mono _ (mem_at 0 rfl) h4p), (Rp.mono _ (mem_at 0 rfl) h4q)⟩ ?_
          rintro _ rfl
          refine VCsplit.intro (fun q9 => ?_) (fun q9 => ?_)
          ·
            simp at q9
            exact ⟨[], ⟨by rw [decide_eq_false (fun e => by subst e; simp at *)], rfl⟩, (.le fun a => by (try simp only [setR, List.cons_append, List.nil_append]); simp only [List.flatten_append, List.flatten_cons, List.flatten_nil, List.count_append, List.count_nil, List.append_nil, List.nil_append]; omega)⟩
          ·
            simp at q9
            refine VCsplit.intro (fun q10 => ?_) (fun q10 => ?_)
            ·
              simp at q10
              exact ⟨[], ⟨by rw [decide_eq_false (fun e => by subst e; simp at *)], rfl⟩, (.le fun a => by (try simp only [setR, List.cons_append, List.nil_append]); simp only [List.flatten_append, List.flatten_cons, List.flatten_nil, List.count_append, List.count_nil, List.append_nil, List.nil_append]; omega)⟩
            ·
              simp at q10
              refine VCsplit.intro (fun q11 => ?_) (fun q11 => ?_)
              ·
                simp at q11
                exact ⟨[], ⟨by rw [decide_eq_false (fun e => by subst e; simp at *)], rfl⟩, (.le fun a => by (try simp only [setR, List.cons_append, List.nil_append]); simp only [List.flatten_append, List.flatten_cons, List.flatten_nil, List.count_append, List.count_nil, List.append_nil, List.nil_append]; omega)⟩
              ·
                simp at q11
                refine VCsplit.intro (fun q12 => ?_) (fun q12 => ?_)
                ·
                  simp at q12
                  exact ⟨[], ⟨by rw [decide_eq_false (fun e => by subst e; simp at *)], rfl⟩, (.le fun a => by (try simp only [setR, List.cons_append, List.nil_append]); simp only [List.flatten_append, List.flatten_cons, List.flatten_nil, List.count_append, List.count_nil, List.append_nil, List.nil_append]; omega)⟩
                ·
                  simp at q12
                  refine VCsplit.intro (fun q13 => ?_) (fun q13 => ?_)
                  ·
                    simp at q13
                    exact ⟨[], ⟨by rw [decide_eq_false (fun e => by subst e; simp at *)], rfl⟩, (.le fun a => by (try simp only [setR, List.cons_append, List.nil_append]); simp only [List.flatten_append, List.flatten_cons, List.flatten_nil, List.count_append, List.count_nil, List.append_nil, List.nil_append]; omega)⟩
                  ·
                    simp at q13
                    refine VCsplit.intro (fun q14 => ?_) (fun q14 => ?_)
                    ·
                      simp at q14
                      exact ⟨[], ⟨by rw [decide_eq_false (fun e => by subst e; simp at *)], rfl⟩, (.le fun a => by (try simp only [setR, List.cons_append, List.nil_append]); simp only [List.flatten_append, List.flatten_cons, List.flatten_nil, List.count_append, List.count_nil, List.append_nil, List.nil_append]; omega)⟩
                    ·
                      simp at q14
                      refine VCsplit.intro (fun q15 => ?_) (fun q15 => ?_)
                      ·
                        simp at q15
                        exact ⟨[], ⟨by rw [decide_eq_false (fun e => by subst e; simp at *)], rfl⟩, (.le fun a => by (try simp only [setR, List.cons_append, List.nil_append]); simp only [List.flatten_append, List.flatten_cons, List.flatten_nil, List.count_append, List.count_nil, List.append_nil, List.nil_append]; omega)⟩
                      ·
                        simp at q15
                        refine call_val (eqCell_ct _ _ (x.cell) (y.cell)) ⟨(Rp.mono _ (mem_at 0 rfl) h11p), (Rp.mono _ (mem_at 0 rfl) h11q)⟩ ?_
                        rintro _ rfl
                        refine VCsplit.intro (fun q17 => ?_) (fun q17 => ?_)
                        ·
                          simp at q17
                          exact ⟨[], ⟨by rw [decide_eq_false (fun e => by subst e; simp at *)], rfl⟩, (.le fun a => by (try simp only [setR, List.cons_append, List.nil_append]); simp only [List.flatten_append, List.flatten_cons, List.flatten_nil, List.count_append, List.count_nil, List.append_nil, List.nil_append]; omega)⟩
                        ·
                          simp at q17
                          refine VCsplit.intro (fun q18 => ?_) (fun q18 => ?_)
                          ·
                            simp at q18
                            exact ⟨[], ⟨by rw [decide_eq_false (fun e => by subst e; simp at *)], rfl⟩, (.le fun a => by (try simp only [setR, List.cons_append, List.nil_append]); simp only [List.flatten_append, List.flatten_cons, List.flatten_nil, List.count_append, List.count_nil, List.append_nil, List.nil_append]; omega)⟩
                          ·
                            simp at q18
                            refine call_val (eqMailS_ct _ _ _ _ _ _ (x.waits) (y.waits)) ⟨(Rp.mono _ (mem_at 0 rfl) h13p), (Rp.mono _ (mem_at 0 rfl) h13q)⟩ ?_
                            rintro _ rfl
                            refine VCsplit.intro (fun q20 => ?_) (fun q20 => ?_)
                            ·
                              simp at q20
                              exact ⟨[], ⟨by rw [decide_eq_false (fun e => by subst e; simp at *)], rfl⟩, (.le fun a => by (try simp only [setR, List.cons_append, List.nil_append]); simp only [List.flatten_append, List.flatten_cons, List.flatten_nil, List.count_append, List.count_nil, List.append_nil, List.nil_append]; omega)⟩
                            ·
                              simp at q20
                              exact ⟨[], ⟨by rw [decide_eq_true (Work.eq_iff.2 (by simp_all))], rfl⟩, (.le fun a => by (try simp only [setR, List.cons_append, List.nil_append]); simp only [List.flatten_append, List.flatten_cons, List.flatten_nil, List.count_append, List.count_nil, List.append_nil, List.nil_append]; omega)⟩
--@ct laws.szAsk raw refine call_q (szAsk_ct _ $1 _ ?_ ?_) %1 ?_ | | rintro _ ⟨r#, rfl, hr#⟩
theorem szAsk_ct (l : List Value) (x : Ask) (left : Int) (h0 : 0 ≤ left) (h1 : left ≤ 1048576) :
    Ct Tryz.prog 20 [.agg ⟨l⟩, .int .i64 left] [] (fun H => gAsk.rd H l x) (fun v A => (∃ r : Int, v = .int .i64 r ∧ ((r = -1 ∧ left < (gAsk.sz x : Int)) ∨ (r = left - (gAsk.sz x : Int) ∧ (gAsk.sz x : Int) ≤ left))) ∧ A = []) := by
  refine Ct.intro0 G_ok Tryz.func20 rfl rfl rfl fun E H hp => ?_
  obtain ⟨l1, b2, c2, b4, c4, l6, rfl, h1, h2, w3, h4, h6⟩ := gAsk_rd.1 hp
  obtain ⟨b1_1, c1_1, b2_1, c2_1, b3_1, c3_1, rfl, h1_1, h2_1, h3_1⟩ := gQuery_rd.1 h1
  obtain ⟨b0_6, c0_6, rfl, h0_6⟩ := gBag_rd.1 h6
  have hz := gAsk_sz x
  refine VCnew.intro fun x0 => ?_
  refine call_q (szQuery_ct _ (x.query) _ ?_ ?_) (Rp.mono _ (mem_at 0 rfl) h1) ?_
  · trivial
  · trivial
  rintro _ ⟨r1, rfl, hr1⟩
  refine VCsplit.intro (fun q2 => ?_) (fun q2 => ?_)
  ·
    simp at q2
    exact ⟨[], ⟨⟨-1, rfl, .inl ⟨rfl, by (try simp (disch := omega) only [wrap_of] at *); omega⟩⟩, rfl⟩, (.le fun a => by (try simp only [setR, List.cons_append, List.nil_append]); simp only [List.flatten_append, List.flatten_cons, List.flatten_nil, List.count_append, List.count_nil, List.append_nil, List.nil_append]; omega)⟩
  ·
    simp at q2
    refine call_q (szIntS_ct _ _ _ (x.shares) _ ?_ ?_) (Rp.mono _ (mem_at 0 rfl) h2) ?_
    · trivial
    · omega
    rintro _ ⟨r3, rfl, hr3⟩
    refine VCsplit.intro (fun q4 => ?_) (fun q4 => ?_)
    ·
      simp at q4
      exact ⟨[], ⟨⟨-1, rfl, .inl ⟨rfl, by (try simp (disch := omega) only [wrap_of] at *); omega⟩⟩, rfl⟩, (.le fun a => by (try simp only [setR, List.cons_append, List.nil_append]); simp only [List.flatten_append, List.flatten_cons, List.flatten_nil, List.count_append, List.count_nil, List.append_nil, List.nil_append]; omega)⟩
    ·
      simp at q4
      refine call_q (szGotS_ct _ _ _ (x.results) _ ?_ ?_) (Rp.mono _ (mem_at 0 rfl) h4) ?_
      · trivial
      · omega
      rintro _ ⟨r5, rfl, hr5⟩
      refine VCsplit.intro (fun q6 => ?_) (fun q6 => ?_)
      ·
        simp at q6
        exact ⟨[], ⟨⟨-1, rfl, .inl ⟨rfl, by (try simp (disch := omega) only [wrap_of] at *); omega⟩⟩, rfl⟩, (.le fun a => by (try simp only [setR, List.cons_append, List.nil_append]); simp only [List.flatten_append, List.flatten_cons, List.flatten_nil, List.count_append, List.count_nil, List.append_nil, List.nil_append]; omega)⟩
      ·
        simp at q6
        refine call_q (szBag_ct _ (x.answer) _ ?_ ?_) (Rp.mono _ (mem_at 0 rfl) h6) ?_
        · trivial
        · omega
        rintro _ ⟨r7, rfl, hr7⟩
        refine VCsplit.intro (fun q8 => ?_) (fun q8 => ?_)
        ·
          simp at q8
          exact ⟨[], ⟨⟨-1, rfl, .inl ⟨rfl, by (try simp (disch := omega) only [wrap_of] at *); omega⟩⟩, rfl⟩, (.le fun a => by (try simp only [setR, List.cons_append, List.nil_append]); simp only [List.flatten_append, List.flatten_cons, List.flatten_nil, List.count_append, List.count_nil, List.append_nil, List.nil_append]; omega)⟩
        ·
          simp at q8
          exact ⟨[], ⟨⟨_, rfl, .inr ⟨by (try simp (disch := omega) only [wrap_of] at *); omega, by omega⟩⟩, rfl⟩, (.le fun a => by (try simp only [setR, List.cons_append, List.nil_append]); simp only [List.flatten_append, List.flatten_cons, List.flatten_nil, List.count_append, List.count_nil, List.append_nil, List.nil_append]; omega)⟩
--@ct laws.toAsk new toAsk_ct _ $1 ?_ | %1 | obtain ⟨l#, rfl, o#⟩ := o# ;; have r# := Gt.owrd _ o# ;; obtain ⟨l1x#, b2x#, c2x#, b4x#, c4x#, l6x#, rfl, h1x#, h2x#, w3x#, h4x#, h6x#⟩ := gAsk_rd.1 r# ;; obtain ⟨b1_1x#, c1_1x#, b2_1x#, c2_1x#, b3_1x#, c3_1x#, rfl, h1_1x#, h2_1x#, h3_1x#⟩ := gQuery_rd.1 h1x# ;; obtain ⟨b0_6x#, c0_6x#, rfl, h0_6x#⟩ := gBag_rd.1 h6x#
theorem toAsk_ct (l : List Value) (x : Ask) (hx : gAsk.sz x ≤ 1048576) :
    Ct Tryz.prog 22 [.agg ⟨l⟩] [] (fun H => gAsk.rd H l x) (fun v A => ∃ l, v = .agg ⟨l⟩ ∧ gAsk.ow l x A) := by
  refine Ct.intro0 G_ok Tryz.func22 rfl rfl rfl fun E H hp => ?_
  obtain ⟨l1, b2, c2, b4, c4, l6, rfl, h1, h2, w3, h4, h6⟩ := gAsk_rd.1 hp
  obtain ⟨b1_1, c1_1, b2_1, c2_1, b3_1, c3_1, rfl, h1_1, h2_1, h3_1⟩ := gQuery_rd.1 h1
  obtain ⟨b0_6, c0_6, rfl, h0_6⟩ := gBag_rd.1 h6
  have hz := gAsk_sz x
  refine VCnew.intro fun x0 => ?_
  refine VCnew.intro fun x1 => ?_
  refine VCnew.intro fun x2 => ?_
  refine call_new (toQuery_ct _ (x.query) ?_) (Rp.mono _ (mem_at 0 rfl) h1) ?_
  · omega
  rintro v3 A3 o3
  obtain ⟨l3, rfl, o3⟩ := o3
  have r3 := Gt.owrd _ o3
  obtain ⟨b1x3, c1x3, b2x3, c2x3, b3x3, c3x3, rfl, h1x3, h2x3, h3x3⟩ := gQuery_rd.1 r3
  refine call_new (toIntS_ct _ _ _ (x.shares) ?_) (Rp.mono _ (mem_at 1 rfl) h2) ?_
  · omega
  rintro v4 A4 o4
  obtain ⟨b4, c4, rfl, o4⟩ := o4
  refine call_new (toGotS_ct _ _ _ (x.results) ?_) (Rp.mono _ (mem_at 2 rfl) h4) ?_
  · omega
  rintro v5 A5 o5
  obtain ⟨b5, c5, rfl, o5⟩ := o5
  refine call_new (toBag_ct _ (x.answer) ?_) (Rp.mono _ (mem_at 3 rfl) h6) ?_
  · omega
  rintro v6 A6 o6
  obtain ⟨l6, rfl, o6⟩ := o6
  have r6 := Gt.owrd _ o6
  obtain ⟨b0x6, c0x6, rfl, h0x6⟩ := gBag_rd.1 r6
  exact ⟨_, ⟨_, rfl, gAsk_ow.2 ⟨_, _, _, _, _, _, _, _, _, _, rfl, .refl _, by assumption, by assumption, by assumption, by assumption, by assumption⟩⟩, (.le fun a => by (try simp only [setR, List.cons_append, List.nil_append]); simp only [List.flatten_append, List.flatten_cons, List.flatten_nil, List.count_append, List.count_nil, List.append_nil, List.nil_append]; omega)⟩
--@ct laws.eqAsk val eqAsk_ct _ _ $1 $2 | ⟨%1, %2⟩
theorem eqAsk_ct (l1 l2 : List Value) (x y : Ask) :
    Ct Tryz.prog 15 [.agg ⟨l1⟩, .agg ⟨l2⟩] [] (fun H => gAsk.rd H l1 x ∧ gAsk.rd H l2 y) (fun v A => v = .bool (decide (x = y)) ∧ A = []) := by
  refine Ct.intro0 G_ok Tryz.func15 rfl rfl rfl fun E H hp => ?_
  obtain ⟨hp1, hp2⟩ := hp
  obtain ⟨l1p, b2p, c2p, b4p, c4p, l6p, rfl, h1p, h2p, w3p, h4p, h6p⟩ := gAsk_rd.1 hp1
  obtain ⟨b1_1p, c1_1p, b2_1p, c2_1p, b3_1p, c3_1p, rfl, h1_1p, h2_1p, h3_1p⟩ := gQuery_rd.1 h1p
  obtain ⟨b0_6p, c0_6p, rfl, h0_6p⟩ := gBag_rd.1 h6p
  obtain ⟨l1q, b2q, c2q, b4q, c4q, l6q, rfl, h1q, h2q, w3q, h4q, h6q⟩ := gAsk_rd.1 hp2
  obtain ⟨b1_1q, c1_1q, b2_1q, c2_1q, b3_1q, c3_1q, rfl, h1_1q, h2_1q, h3_1q⟩ := gQuery_rd.1 h1q
  obtain ⟨b0_6q, c0_6q, rfl, h0_6q⟩ := gBag_rd.1 h6q
  refine VCnew.intro fun x0 => ?_
  refine VCnew.intro fun x1 => ?_
  refine VCsplit.intro (fun q2 => ?_) (fun q2 => ?_)
  ·
    simp at q2
    exact ⟨[], ⟨by rw [decide_eq_false (fun e => by subst e; simp at *)], rfl⟩, (.le fun a => by (try simp only [setR, List.cons_append, List.nil_append]); simp only [List.flatten_append, List.flatten_cons, List.flatten_nil, List.count_append, List.count_nil, List.append_nil, List.nil_append]; omega)⟩
  ·
    simp at q2
    refine call_val (eqQuery_ct _ _ (x.query) (y.query)) ⟨(Rp.mono _ (mem_at 0 rfl) h1p), (Rp.mono _ (mem_at 0 rfl) h1q)⟩ ?_
    rintro _ rfl
    refine VCsplit.intro (fun q4 => ?_) (fun q4 => ?_)
    ·
      simp at q4
      exact ⟨[], ⟨by rw [decide_eq_false (fun e => by subst e; simp at *)], rfl⟩, (.le fun a => by (try simp only [setR, List.cons_append, List.nil_append]); simp only [List.flatten_append, List.flatten_cons, List.flatten_nil, List.count_append, List.count_nil, List.append_nil, List.nil_append]; omega)⟩
    ·
      simp at q4
      refine call_val (eqIntS_ct _ _ _ _ _ _ (x.shares) (y.shares)) ⟨(Rp.mono _ (mem_at 0 rfl) h2p), (Rp.mono _ (mem_at 0 rfl) h2q)⟩ ?_
      rintro _ rfl
      refine VCsplit.intro (fun q6 => ?_) (fun q6 => ?_)
      ·
        simp at q6
        exact ⟨[], ⟨by rw [decide_eq_false (fun e => by subst e; simp at *)], rfl⟩, (.le fun a => by (try simp only [setR, List.cons_append, List.nil_append]); simp only [List.flatten_append, List.flatten_cons, List.flatten_nil, List.count_append, List.count_nil, List.append_nil, List.nil_append]; omega)⟩
      ·
        simp at q6
        refine VCsplit.intro (fun q7 => ?_) (fun q7 => ?_)
        ·
          simp at q7
          exact ⟨[], ⟨by rw [decide_eq_false (fun e => by subst e; simp at *)], rfl⟩, (.le fun a => by (try simp only [setR, List.cons_append, List.nil_append]); simp only [List.flatten_append, List.flatten_cons, List.flatten_nil, List.count_append, List.count_nil, List.append_nil, List.nil_append]; omega)⟩
        ·
          simp at q7
          refine call_val (eqGotS_ct _ _ _ _ _ _ (x.results) (y.results)) ⟨(Rp.mono _ (mem_at 0 rfl) h4p), (Rp.mono _ (mem_at 0 rfl) h4q)⟩ ?_
          rintro _ rfl
          refine VCsplit.intro (fun q9 => ?_) (fun q9 => ?_)
          ·
            simp at q9
            exact ⟨[], ⟨by rw [decide_eq_false (fun e => by subst e; simp at *)], rfl⟩, (.le fun a => by (try simp only [setR, List.cons_append, List.nil_append]); simp only [List.flatten_append, List.flatten_cons, List.flatten_nil, List.count_append, List.count_nil, List.append_nil, List.nil_append]; omega)⟩
          ·
            simp at q9
            refine VCsplit.intro (fun q10 => ?_) (fun q10 => ?_)
            ·
              simp at q10
              exact ⟨[], ⟨by rw [decide_eq_false (fun e => by subst e; simp at *)], rfl⟩, (.le fun a => by (try simp only [setR, List.cons_append, List.nil_append]); simp only [List.flatten_append, List.flatten_cons, List.flatten_nil, List.count_append, List.count_nil, List.append_nil, List.nil_append]; omega)⟩
            ·
              simp at q10
              refine call_val (eqBag_ct _ _ (x.answer) (y.answer)) ⟨(Rp.mono _ (mem_at 0 rfl) h6p), (Rp.mono _ (mem_at 0 rfl) h6q)⟩ ?_
              rintro _ rfl
              refine VCsplit.intro (fun q12 => ?_) (fun q12 => ?_)
              ·
                simp at q12
                exact ⟨[], ⟨by rw [decide_eq_false (fun e => by subst e; simp at *)], rfl⟩, (.le fun a => by (try simp only [setR, List.cons_append, List.nil_append]); simp only [List.flatten_append, List.flatten_cons, List.flatten_nil, List.count_append, List.count_nil, List.append_nil, List.nil_append]; omega)⟩
              ·
                simp at q12
                exact ⟨[], ⟨by rw [decide_eq_true (Ask.eq_iff.2 (by simp_all))], rfl⟩, (.le fun a => by (try simp only [setR, List.cons_append, List.nil_append]); simp only [List.flatten_append, List.flatten_cons, List.flatten_nil, List.count_append, List.count_nil, List.append_nil, List.nil_append]; omega)⟩
--@ct laws.szLinkS raw refine call_q (szLinkS_ct _ _ _ $1 _ ?_ ?_) %1 ?_ | | rintro _ ⟨r#, rfl, hr#⟩
theorem szLinkS_ct (b : Option Addr) (m c : Nat) (xs : List Link) (left : Int) (h0 : 0 ≤ left) (h1 : left ≤ 1048576) :
    Ct Tryz.prog 127 [.slice b m c, .int .i64 left] [] (fun H => (gSl 232 gLink).rd H [.slice b m c] xs) (fun v A => (∃ r : Int, v = .int .i64 r ∧ ((r = -1 ∧ left < (szL gLink xs : Int)) ∨ (r = left - (szL gLink xs : Int) ∧ (szL gLink xs : Int) ≤ left))) ∧ A = []) := by
  refine Ct.intro0 G_ok Tryz.func127 rfl rfl rfl fun E H hp => ?_
  obtain ⟨rfl, hcl, hl⟩ := sl_len hp
  have hq := szL_eq gLink xs
  have ht := List.take_length (l := xs)
  refine VCsplit.intro (fun q0 => ?_) (fun q0 => ?_)
  ·
    simp at q0
    simp (disch := omega) only [wrap_of] at q0
    exact ⟨[], ⟨⟨-1, rfl, .inl ⟨rfl, by (try simp (disch := omega) only [wrap_of] at *); omega⟩⟩, rfl⟩, (.le fun a => by (try simp only [setR, List.cons_append, List.nil_append]); simp only [List.flatten_append, List.flatten_cons, List.flatten_nil, List.count_append, List.count_nil, List.append_nil, List.nil_append]; omega)⟩
  ·
    simp at q0
    simp (disch := omega) only [wrap_of] at q0
    apply loop_mod (α := (Nat) × (Int)) G_ok [12, 13, 14, 15, 18, 19, 20, 21, 22, 23, 1, 24, 25, 4, 16, 17, 5] (fun z => [(5, .v (.int .i64 z.1)), (1, .v (.int .i64 z.2))]) (fun z => []) (fun z => [H]) (fun z => xs.length - z.1) (fun z => z.1 ≤ xs.length ∧ z.2 = left - xs.length - szE gLink (xs.take z.1) ∧ 0 ≤ z.2) ((0, left - xs.length))
    · repeat' (first | exact trivial | refine ⟨⟨_, rfl, by first | rfl | exact inc_eq _ (by omega) | (refine sl_eq ?_; simp; done) | (simp (disch := omega) only [wrap_of]), by first | exact trivial | simp [SV.ok]⟩, ?_⟩)
    · exact trivial
    · try dsimp only
      exact ⟨by omega, by simp [szE], by omega⟩
    · exact .refl _
    rintro ⟨k, lf⟩ hI
    obtain ⟨hk, hlf, hnn⟩ : k ≤ xs.length ∧ lf = left - xs.length - szE gLink (xs.take k) ∧ 0 ≤ lf := hI
    try dsimp only
    refine VCsplit.intro (fun q1 => ?_) (fun q1 => ?_)
    ·
      simp at q1
      have hs := szE_step gLink xs k default (by omega)
      have hs2 := szE_le gLink xs (k + 1)
      refine idx_rd hp ?_ ?_ fun b2 o2 hb2 => ?_
      · omega
      · omega
      refine load_allN default (k) rfl hp ?_ ?_ hb2 rfl (mem_at 0 rfl) fun l3 hl3 => ?_
      · omega
      · omega
      obtain ⟨b0x3, c0x3, rfl, h0x3, w1x3, w2x3⟩ := gLink_rd.1 hl3
      refine call_q (szLink_ct _ (xs[k]?.getD default) _ ?_ ?_) (Rp.mono _ (mem_at 0 rfl) hl3) ?_
      · trivial
      · omega
      rintro _ ⟨r4, rfl, hr4⟩
      refine VCsplit.intro (fun q5 => ?_) (fun q5 => ?_)
      ·
        simp at q5
        exact ⟨[], ⟨⟨-1, rfl, .inl ⟨rfl, by (try simp (disch := omega) only [wrap_of] at *); omega⟩⟩, rfl⟩, (.le fun a => by (try simp only [setR, List.cons_append, List.nil_append]); simp only [List.flatten_append, List.flatten_cons, List.flatten_nil, List.count_append, List.count_nil, List.append_nil, List.nil_append]; omega)⟩
      ·
        simp at q5
        apply loop_stepA (k + 1, _)
        · exact .refl _
        · repeat' (first | exact trivial | refine ⟨⟨_, rfl, by first | rfl | exact inc_eq _ (by omega) | (refine sl_eq ?_; simp; done) | (simp (disch := omega) only [wrap_of]), by first | exact trivial | simp [SV.ok]⟩, ?_⟩)
        · exact trivial
        · try dsimp only
          ((try simp (disch := omega) only [wrap_of] at *); refine ⟨by omega, by omega, by omega⟩)
        try dsimp only
        omega
    ·
      simp at q1
      obtain rfl : k = xs.length := by omega
      rw [List.take_length] at hlf
      exact ⟨[], ⟨⟨_, rfl, .inr ⟨by (try simp (disch := omega) only [wrap_of] at *); omega, by omega⟩⟩, rfl⟩, (.le fun a => by (try simp only [setR, List.cons_append, List.nil_append]); simp only [List.flatten_append, List.flatten_cons, List.flatten_nil, List.count_append, List.count_nil, List.append_nil, List.nil_append]; omega)⟩
--@ct laws.toLinkS new toLinkS_ct _ _ _ $1 ?_ | %1 | obtain ⟨b#, c#, rfl, o#⟩ := o#
theorem toLinkS_ct (b : Option Addr) (m c : Nat) (xs : List Link) (hx : szL gLink xs ≤ 1048576) :
    Ct Tryz.prog 131 [.slice b m c] [] (fun H => (gSl 232 gLink).rd H [.slice b m c] xs) (fun v A => ∃ b c, v = .slice b xs.length c ∧ (gSl 232 gLink).ow [.slice b xs.length c] xs A) := by
  refine Ct.intro0 G_ok Tryz.func131 rfl rfl rfl fun E H hp => ?_
  obtain ⟨rfl, hcl, hl⟩ := sl_len hp
  have hls := len_szL gLink xs
  have hq := szL_eq gLink xs
  refine VCmake.intro ?_ ?_ ?_ ?_ fun x0 => ?_
  · omega
  · omega
  · omega
  · omega
  apply loop_mod (α := (Nat) × (Hp)) G_ok [8, 9, 10, 11, 14, 15, 16, 17, 18, 19, 20, 21, 12, 13, 4] (fun z => [(4, .v (.int .i64 z.1))]) (fun z => []) (fun z => [z.2, H]) (fun z => xs.length - z.1) (fun z => z.1 ≤ xs.length ∧ (gSl 232 gLink).ow [.slice (some ⟨x0, 0, none⟩) xs.length xs.length] (xs.take z.1 ++ List.replicate (xs.length - z.1) zLink) z.2) ((0, _))
  · repeat' (first | exact trivial | refine ⟨⟨_, rfl, by first | rfl | exact inc_eq _ (by omega) | (refine sl_eq ?_; simp; done), by first | exact trivial | simp [SV.ok]⟩, ?_⟩)
  · exact trivial
  · try dsimp only
    exact ⟨by omega, by simpa using gmake (g := gLink) (T := 232) (b := x0) (zLink_ow) (Nat.le_refl xs.length) (by omega)⟩
  · exact .refl _
  rintro ⟨k, A⟩ hI
  obtain ⟨hk, oA⟩ : k ≤ xs.length ∧ (gSl 232 gLink).ow [.slice (some ⟨x0, 0, none⟩) xs.length xs.length] (xs.take k ++ List.replicate (xs.length - k) zLink) A := hI
  try dsimp only
  refine VCsplit.intro (fun q1 => ?_) (fun q1 => ?_)
  ·
    simp at q1
    have hs := szE_step gLink xs k default (by omega)
    have hs2 := szE_le gLink xs (k + 1)
    refine idx_rd hp ?_ ?_ fun b2 o2 hb2 => ?_
    · omega
    · omega
    refine load_allN default (k) rfl hp ?_ ?_ hb2 rfl (mem_at 1 rfl) fun l3 hl3 => ?_
    · omega
    · omega
    obtain ⟨b0x3, c0x3, rfl, h0x3, w1x3, w2x3⟩ := gLink_rd.1 hl3
    refine call_new (toLink_ct _ (xs[k]?.getD default) ?_) (Rp.mono _ (mem_at 1 rfl) hl3) ?_
    · omega
    rintro v4 A4 o4
    obtain ⟨l4, rfl, o4⟩ := o4
    have r4 := Gt.owrd _ o4
    obtain ⟨b0x4, c0x4, rfl, h0x4, w1x4, w2x4⟩ := gLink_rd.1 r4
    refine idx_rd (Gt.owrd _ oA) ?_ ?_ fun b5 o5 hb5 => ?_
    · omega
    · simp; omega
    refine gstore1N (k) (A) (A4) [H] (.le fun a => by (try simp only [setR, List.cons_append, List.nil_append]); simp only [List.flatten_append, List.flatten_cons, List.flatten_nil, List.count_append, List.count_nil, List.append_nil, List.nil_append]; omega) rfl oA ?_ ?_ hb5 rfl _ o4 fun A6 o6 => ?_
    · omega
    · simp; omega
    apply loop_stepA (k + 1, _)
    · exact .refl _
    · repeat' (first | exact trivial | refine ⟨⟨_, rfl, by first | rfl | exact inc_eq _ (by omega) | (refine sl_eq ?_; simp; done), by first | exact trivial | simp [SV.ok]⟩, ?_⟩)
    · exact trivial
    · try dsimp only
      exact ⟨by omega, by rw [← take_stepz xs k default zLink (by omega)] ; assumption⟩
    try dsimp only
    omega
  ·
    simp at q1
    obtain rfl : k = xs.length := by omega
    rw [List.take_length, Nat.sub_self, List.replicate_zero, List.append_nil] at oA
    exact ⟨_, ⟨_, _, rfl, oA⟩, (.le fun a => by (try simp only [setR, List.cons_append, List.nil_append]); simp only [List.flatten_append, List.flatten_cons, List.flatten_nil, List.count_append, List.count_nil, List.append_nil, List.nil_append]; omega)⟩
--@ct laws.eqLinkS val eqLinkS_ct _ _ _ _ _ _ $1 $2 | ⟨%1, %2⟩
theorem eqLinkS_ct (b1 : Option Addr) (m1 c1 : Nat) (b2 : Option Addr) (m2 c2 : Nat) (xs ys : List Link) :
    Ct Tryz.prog 138 [.slice b1 m1 c1, .slice b2 m2 c2] [] (fun H => (gSl 232 gLink).rd H [.slice b1 m1 c1] xs ∧ (gSl 232 gLink).rd H [.slice b2 m2 c2] ys) (fun v A => v = .bool (decide (xs = ys)) ∧ A = []) := by
  refine Ct.intro0 G_ok Tryz.func138 rfl rfl rfl fun E H hp => ?_
  obtain ⟨hp1, hp2⟩ := hp
  obtain ⟨rfl, hc1, hl1⟩ := sl_len hp1
  obtain ⟨rfl, hc2, hl2⟩ := sl_len hp2
  refine VCsplit.intro (fun q0 => ?_) (fun q0 => ?_)
  ·
    simp at q0
    exact ⟨[], ⟨by rw [decide_eq_false (fun e => by subst e; omega)], rfl⟩, (.le fun a => by (try simp only [setR, List.cons_append, List.nil_append]); simp only [List.flatten_append, List.flatten_cons, List.flatten_nil, List.count_append, List.count_nil, List.append_nil, List.nil_append]; omega)⟩
  ·
    simp at q0
    apply loop_mod (α := (Nat)) G_ok [11, 12, 13, 14, 17, 18, 19, 20, 21, 22, 23, 24, 25, 26, 4, 15, 16, 5] (fun z => [(5, .v (.int .i64 z))]) (fun z => []) (fun z => [H]) (fun z => xs.length - z) (fun z => z ≤ xs.length ∧ xs.take z = ys.take z) (0)
    · repeat' (first | exact trivial | refine ⟨⟨_, rfl, by first | rfl | exact inc_eq _ (by omega) | (refine sl_eq ?_; simp; done), by first | exact trivial | simp [SV.ok]⟩, ?_⟩)
    · exact trivial
    · exact ⟨by omega, by simp⟩
    · exact .refl _
    rintro k hI
    obtain ⟨hk, he⟩ : k ≤ xs.length ∧ xs.take k = ys.take k := hI
    try dsimp only
    refine VCsplit.intro (fun q1 => ?_) (fun q1 => ?_)
    ·
      simp at q1
      refine draw G_ok mixed none (.q 0 (.q 1 (.q 2 (.q 3 (.q 4 (.q 5 (.q 6 (.q 7 (.f 8 (.q 9 (.nil))))))))))) (by decide +kernel) ?_
      refine idx_rd hp1 ?_ ?_ fun b2 o2 hb2 => ?_
      · omega
      · omega
      refine load_allN default (k) rfl hp1 ?_ ?_ hb2 rfl (mem_at 0 rfl) fun l3 hl3 => ?_
      · omega
      · omega
      obtain ⟨b0x3, c0x3, rfl, h0x3, w1x3, w2x3⟩ := gLink_rd.1 hl3
      refine idx_rd hp2 ?_ ?_ fun b4 o4 hb4 => ?_
      · omega
      · omega
      refine load_allN default (k) rfl hp2 ?_ ?_ hb4 rfl (mem_at 0 rfl) fun l5 hl5 => ?_
      · omega
      · omega
      obtain ⟨b0x5, c0x5, rfl, h0x5, w1x5, w2x5⟩ := gLink_rd.1 hl5
      refine call_val (eqLink_ct _ _ (xs[k]?.getD default) (ys[k]?.getD default)) ⟨(Rp.mono _ (mem_at 0 rfl) hl3), (Rp.mono _ (mem_at 0 rfl) hl5)⟩ ?_
      rintro _ rfl
      refine VC.intro ?_ ?_
      · exact fun _ h => h
      refine VCsplit.intro (fun q7 => ?_) (fun q7 => ?_)
      ·
        simp at q7
        exact ⟨[], ⟨by rw [decide_eq_false (fun e => by subst e; simp at *)], rfl⟩, (.le fun a => by (try simp only [setR, List.cons_append, List.nil_append]); simp only [List.flatten_append, List.flatten_cons, List.flatten_nil, List.count_append, List.count_nil, List.append_nil, List.nil_append]; omega)⟩
      ·
        simp at q7
        apply loop_stepA (k + 1)
        · exact .refl _
        · repeat' (first | exact trivial | refine ⟨⟨_, rfl, by first | rfl | exact inc_eq _ (by omega) | (refine sl_eq ?_; simp; done), by first | exact trivial | simp [SV.ok]⟩, ?_⟩)
        · exact trivial
        · exact ⟨by omega, eq_step default (by omega) he (by omega) (by simpa using ‹_›)⟩
        omega
    ·
      simp at q1
      exact ⟨[], ⟨by rw [decide_eq_true]; rw [← List.take_length (l := xs), ← List.take_length (l := ys), ← (by omega : xs.length = ys.length), show xs.length = k by omega]; exact he, rfl⟩, (.le fun a => by (try simp only [setR, List.cons_append, List.nil_append]); simp only [List.flatten_append, List.flatten_cons, List.flatten_nil, List.count_append, List.count_nil, List.append_nil, List.nil_append]; omega)⟩
--@ct laws.szNode raw refine call_q (szNode_ct _ $1 _ ?_ ?_) %1 ?_ | | rintro _ ⟨r#, rfl, hr#⟩
theorem szNode_ct (l : List Value) (x : Node) (left : Int) (h0 : 0 ≤ left) (h1 : left ≤ 1048576) :
    Ct Tryz.prog 77 [.agg ⟨l⟩, .int .i64 left] [] (fun H => gNode.rd H l x) (fun v A => (∃ r : Int, v = .int .i64 r ∧ ((r = -1 ∧ left < (gNode.sz x : Int)) ∨ (r = left - (gNode.sz x : Int) ∧ (gNode.sz x : Int) ≤ left))) ∧ A = []) := by
  refine Ct.intro0 G_ok Tryz.func77 rfl rfl rfl fun E H hp => ?_
  obtain ⟨l2, b5, c5, l6, l7, rfl, w0, h2, w3, h5, h6, h7⟩ := gNode_rd.1 hp
  obtain ⟨b0_2, c0_2, rfl, h0_2⟩ := gDisk_rd.1 h2
  obtain ⟨l1_6, b2_6, c2_6, b4_6, c4_6, l11_6, b13_6, c13_6, rfl, h1_6, h2_6, w3_6, h4_6, w5_6, w8_6, h11_6, h13_6⟩ := gWork_rd.1 h6
  obtain ⟨b1_1_6, c1_1_6, b2_1_6, c2_1_6, b3_1_6, c3_1_6, rfl, h1_1_6, h2_1_6, h3_1_6⟩ := gQuery_rd.1 h1_6
  obtain ⟨l0_11_6, b1_11_6, c1_11_6, b4_11_6, c4_11_6, rfl, h0_11_6, h1_11_6, w2_11_6, w3_11_6, h4_11_6⟩ := gCell_rd.1 h11_6
  obtain ⟨b1_0_11_6, c1_0_11_6, b2_0_11_6, c2_0_11_6, b3_0_11_6, c3_0_11_6, rfl, h1_0_11_6, h2_0_11_6, h3_0_11_6⟩ := gQuery_rd.1 h0_11_6
  obtain ⟨l1_7, b2_7, c2_7, b4_7, c4_7, l6_7, rfl, h1_7, h2_7, w3_7, h4_7, h6_7⟩ := gAsk_rd.1 h7
  obtain ⟨b1_1_7, c1_1_7, b2_1_7, c2_1_7, b3_1_7, c3_1_7, rfl, h1_1_7, h2_1_7, h3_1_7⟩ := gQuery_rd.1 h1_7
  obtain ⟨b0_6_7, c0_6_7, rfl, h0_6_7⟩ := gBag_rd.1 h6_7
  have hz := gNode_sz x
  refine VCnew.intro fun x0 => ?_
  refine call_q (szDisk_ct _ (x.disk) _ ?_ ?_) (Rp.mono _ (mem_at 0 rfl) h2) ?_
  · trivial
  · trivial
  rintro _ ⟨r1, rfl, hr1⟩
  refine VCsplit.intro (fun q2 => ?_) (fun q2 => ?_)
  ·
    simp at q2
    exact ⟨[], ⟨⟨-1, rfl, .inl ⟨rfl, by (try simp (disch := omega) only [wrap_of] at *); omega⟩⟩, rfl⟩, (.le fun a => by (try simp only [setR, List.cons_append, List.nil_append]); simp only [List.flatten_append, List.flatten_cons, List.flatten_nil, List.count_append, List.count_nil, List.append_nil, List.nil_append]; omega)⟩
  ·
    simp at q2
    refine call_q (szLinkS_ct _ _ _ (x.links) _ ?_ ?_) (Rp.mono _ (mem_at 0 rfl) h5) ?_
    · trivial
    · omega
    rintro _ ⟨r3, rfl, hr3⟩
    refine VCsplit.intro (fun q4 => ?_) (fun q4 => ?_)
    ·
      simp at q4
      exact ⟨[], ⟨⟨-1, rfl, .inl ⟨rfl, by (try simp (disch := omega) only [wrap_of] at *); omega⟩⟩, rfl⟩, (.le fun a => by (try simp only [setR, List.cons_append, List.nil_append]); simp only [List.flatten_append, List.flatten_cons, List.flatten_nil, List.count_append, List.count_nil, List.append_nil, List.nil_append]; omega)⟩
    ·
      simp at q4
      refine call_q (szWork_ct _ (x.work) _ ?_ ?_) (Rp.mono _ (mem_at 0 rfl) h6) ?_
      · trivial
      · omega
      rintro _ ⟨r5, rfl, hr5⟩
      refine VCsplit.intro (fun q6 => ?_) (fun q6 => ?_)
      ·
        simp at q6
        exact ⟨[], ⟨⟨-1, rfl, .inl ⟨rfl, by (try simp (disch := omega) only [wrap_of] at *); omega⟩⟩, rfl⟩, (.le fun a => by (try simp only [setR, List.cons_append, List.nil_append]); simp only [List.flatten_append, List.flatten_cons, List.flatten_nil, List.count_append, List.count_nil, List.append_nil, List.nil_append]; omega)⟩
      ·
        simp at q6
        refine call_q (szAsk_ct _ (x.ask) _ ?_ ?_) (Rp.mono _ (mem_at 0 rfl) h7) ?_
        · trivial
        · omega
        rintro _ ⟨r7, rfl, hr7⟩
        refine VCsplit.intro (fun q8 => ?_) (fun q8 => ?_)
        ·
          simp at q8
          exact ⟨[], ⟨⟨-1, rfl, .inl ⟨rfl, by (try simp (disch := omega) only [wrap_of] at *); omega⟩⟩, rfl⟩, (.le fun a => by (try simp only [setR, List.cons_append, List.nil_append]); simp only [List.flatten_append, List.flatten_cons, List.flatten_nil, List.count_append, List.count_nil, List.append_nil, List.nil_append]; omega)⟩
        ·
          simp at q8
          exact ⟨[], ⟨⟨_, rfl, .inr ⟨by (try simp (disch := omega) only [wrap_of] at *); omega, by omega⟩⟩, rfl⟩, (.le fun a => by (try simp only [setR, List.cons_append, List.nil_append]); simp only [List.flatten_append, List.flatten_cons, List.flatten_nil, List.count_append, List.count_nil, List.append_nil, List.nil_append]; omega)⟩
--@ct laws.toNode new toNode_ct _ $1 ?_ | %1 | obtain ⟨l#, rfl, o#⟩ := o# ;; have r# := Gt.owrd _ o# ;; obtain ⟨l2x#, b5x#, c5x#, l6x#, l7x#, rfl, w0x#, h2x#, w3x#, h5x#, h6x#, h7x#⟩ := gNode_rd.1 r# ;; obtain ⟨b0_2x#, c0_2x#, rfl, h0_2x#⟩ := gDisk_rd.1 h2x# ;; obtain ⟨l1_6x#, b2_6x#, c2_6x#, b4_6x#, c4_6x#, l11_6x#, b13_6x#, c13_6x#, rfl, h1_6x#, h2_6x#, w3_6x#, h4_6x#, w5_6x#, w8_6x#, h11_6x#, h13_6x#⟩ := gWork_rd.1 h6x# ;; obtain ⟨b1_1_6x#, c1_1_6x#, b2_1_6x#, c2_1_6x#, b3_1_6x#, c3_1_6x#, rfl, h1_1_6x#, h2_1_6x#, h3_1_6x#⟩ := gQuery_rd.1 h1_6x# ;; obtain ⟨l0_11_6x#, b1_11_6x#, c1_11_6x#, b4_11_6x#, c4_11_6x#, rfl, h0_11_6x#, h1_11_6x#, w2_11_6x#, w3_11_6x#, h4_11_6x#⟩ := gCell_rd.1 h11_6x# ;; obtain ⟨b1_0_11_6x#, c1_0_11_6x#, b2_0_11_6x#, c2_0_11_6x#, b3_0_11_6x#, c3_0_11_6x#, rfl, h1_0_11_6x#, h2_0_11_6x#, h3_0_11_6x#⟩ := gQuery_rd.1 h0_11_6x# ;; obtain ⟨l1_7x#, b2_7x#, c2_7x#, b4_7x#, c4_7x#, l6_7x#, rfl, h1_7x#, h2_7x#, w3_7x#, h4_7x#, h6_7x#⟩ := gAsk_rd.1 h7x# ;; obtain ⟨b1_1_7x#, c1_1_7x#, b2_1_7x#, c2_1_7x#, b3_1_7x#, c3_1_7x#, rfl, h1_1_7x#, h2_1_7x#, h3_1_7x#⟩ := gQuery_rd.1 h1_7x# ;; obtain ⟨b0_6_7x#, c0_6_7x#, rfl, h0_6_7x#⟩ := gBag_rd.1 h6_7x#
theorem toNode_ct (l : List Value) (x : Node) (hx : gNode.sz x ≤ 1048576) :
    Ct Tryz.prog 81 [.agg ⟨l⟩] [] (fun H => gNode.rd H l x) (fun v A => ∃ l, v = .agg ⟨l⟩ ∧ gNode.ow l x A) := by
  refine Ct.intro0 G_ok Tryz.func81 rfl rfl rfl fun E H hp => ?_
  obtain ⟨l2, b5, c5, l6, l7, rfl, w0, h2, w3, h5, h6, h7⟩ := gNode_rd.1 hp
  obtain ⟨b0_2, c0_2, rfl, h0_2⟩ := gDisk_rd.1 h2
  obtain ⟨l1_6, b2_6, c2_6, b4_6, c4_6, l11_6, b13_6, c13_6, rfl, h1_6, h2_6, w3_6, h4_6, w5_6, w8_6, h11_6, h13_6⟩ := gWork_rd.1 h6
  obtain ⟨b1_1_6, c1_1_6, b2_1_6, c2_1_6, b3_1_6, c3_1_6, rfl, h1_1_6, h2_1_6, h3_1_6⟩ := gQuery_rd.1 h1_6
  obtain ⟨l0_11_6, b1_11_6, c1_11_6, b4_11_6, c4_11_6, rfl, h0_11_6, h1_11_6, w2_11_6, w3_11_6, h4_11_6⟩ := gCell_rd.1 h11_6
  obtain ⟨b1_0_11_6, c1_0_11_6, b2_0_11_6, c2_0_11_6, b3_0_11_6, c3_0_11_6, rfl, h1_0_11_6, h2_0_11_6, h3_0_11_6⟩ := gQuery_rd.1 h0_11_6
  obtain ⟨l1_7, b2_7, c2_7, b4_7, c4_7, l6_7, rfl, h1_7, h2_7, w3_7, h4_7, h6_7⟩ := gAsk_rd.1 h7
  obtain ⟨b1_1_7, c1_1_7, b2_1_7, c2_1_7, b3_1_7, c3_1_7, rfl, h1_1_7, h2_1_7, h3_1_7⟩ := gQuery_rd.1 h1_7
  obtain ⟨b0_6_7, c0_6_7, rfl, h0_6_7⟩ := gBag_rd.1 h6_7
  have hz := gNode_sz x
  refine VCnew.intro fun x0 => ?_
  refine VCnew.intro fun x1 => ?_
  refine VCnew.intro fun x2 => ?_
  refine call_new (toDisk_ct _ (x.disk) ?_) (Rp.mono _ (mem_at 0 rfl) h2) ?_
  · omega
  rintro v3 A3 o3
  obtain ⟨l3, rfl, o3⟩ := o3
  have r3 := Gt.owrd _ o3
  obtain ⟨b0x3, c0x3, rfl, h0x3⟩ := gDisk_rd.1 r3
  refine call_new (toLinkS_ct _ _ _ (x.links) ?_) (Rp.mono _ (mem_at 1 rfl) h5) ?_
  · omega
  rintro v4 A4 o4
  obtain ⟨b4, c4, rfl, o4⟩ := o4
  refine call_new (toWork_ct _ (x.work) ?_) (Rp.mono _ (mem_at 2 rfl) h6) ?_
  · omega
  rintro v5 A5 o5
  obtain ⟨l5, rfl, o5⟩ := o5
  have r5 := Gt.owrd _ o5
  obtain ⟨l1x5, b2x5, c2x5, b4x5, c4x5, l11x5, b13x5, c13x5, rfl, h1x5, h2x5, w3x5, h4x5, w5x5, w8x5, h11x5, h13x5⟩ := gWork_rd.1 r5
  obtain ⟨b1_1x5, c1_1x5, b2_1x5, c2_1x5, b3_1x5, c3_1x5, rfl, h1_1x5, h2_1x5, h3_1x5⟩ := gQuery_rd.1 h1x5
  obtain ⟨l0_11x5, b1_11x5, c1_11x5, b4_11x5, c4_11x5, rfl, h0_11x5, h1_11x5, w2_11x5, w3_11x5, h4_11x5⟩ := gCell_rd.1 h11x5
  obtain ⟨b1_0_11x5, c1_0_11x5, b2_0_11x5, c2_0_11x5, b3_0_11x5, c3_0_11x5, rfl, h1_0_11x5, h2_0_11x5, h3_0_11x5⟩ := gQuery_rd.1 h0_11x5
  refine call_new (toAsk_ct _ (x.ask) ?_) (Rp.mono _ (mem_at 3 rfl) h7) ?_
  · omega
  rintro v6 A6 o6
  obtain ⟨l6, rfl, o6⟩ := o6
  have r6 := Gt.owrd _ o6
  obtain ⟨l1x6, b2x6, c2x6, b4x6, c4x6, l6x6, rfl, h1x6, h2x6, w3x6, h4x6, h6x6⟩ := gAsk_rd.1 r6
  obtain ⟨b1_1x6, c1_1x6, b2_1x6, c2_1x6, b3_1x6, c3_1x6, rfl, h1_1x6, h2_1x6, h3_1x6⟩ := gQuery_rd.1 h1x6
  obtain ⟨b0_6x6, c0_6x6, rfl, h0_6x6⟩ := gBag_rd.1 h6x6
  exact ⟨_, ⟨_, rfl, gNode_ow.2 ⟨_, _, _, _, _, _, _, _, _, rfl, .refl _, by assumption, by assumption, by assumption, by assumption, by assumption, by assumption⟩⟩, (.le fun a => by (try simp only [setR, List.cons_append, List.nil_append]); simp only [List.flatten_append, List.flatten_cons, List.flatten_nil, List.count_append, List.count_nil, List.append_nil, List.nil_append]; omega)⟩
--@ct laws.eqNode val eqNode_ct _ _ $1 $2 | ⟨%1, %2⟩
theorem eqNode_ct (l1 l2 : List Value) (x y : Node) :
    Ct Tryz.prog 85 [.agg ⟨l1⟩, .agg ⟨l2⟩] [] (fun H => gNode.rd H l1 x ∧ gNode.rd H l2 y) (fun v A => v = .bool (decide (x = y)) ∧ A = []) := by
  refine Ct.intro0 G_ok Tryz.func85 rfl rfl rfl fun E H hp => ?_
  obtain ⟨hp1, hp2⟩ := hp
  obtain ⟨l2p, b5p, c5p, l6p, l7p, rfl, w0p, h2p, w3p, h5p, h6p, h7p⟩ := gNode_rd.1 hp1
  obtain ⟨b0_2p, c0_2p, rfl, h0_2p⟩ := gDisk_rd.1 h2p
  obtain ⟨l1_6p, b2_6p, c2_6p, b4_6p, c4_6p, l11_6p, b13_6p, c13_6p, rfl, h1_6p, h2_6p, w3_6p, h4_6p, w5_6p, w8_6p, h11_6p, h13_6p⟩ := gWork_rd.1 h6p
  obtain ⟨b1_1_6p, c1_1_6p, b2_1_6p, c2_1_6p, b3_1_6p, c3_1_6p, rfl, h1_1_6p, h2_1_6p, h3_1_6p⟩ := gQuery_rd.1 h1_6p
  obtain ⟨l0_11_6p, b1_11_6p, c1_11_6p, b4_11_6p, c4_11_6p, rfl, h0_11_6p, h1_11_6p, w2_11_6p, w3_11_6p, h4_11_6p⟩ := gCell_rd.1 h11_6p
  obtain ⟨b1_0_11_6p, c1_0_11_6p, b2_0_11_6p, c2_0_11_6p, b3_0_11_6p, c3_0_11_6p, rfl, h1_0_11_6p, h2_0_11_6p, h3_0_11_6p⟩ := gQuery_rd.1 h0_11_6p
  obtain ⟨l1_7p, b2_7p, c2_7p, b4_7p, c4_7p, l6_7p, rfl, h1_7p, h2_7p, w3_7p, h4_7p, h6_7p⟩ := gAsk_rd.1 h7p
  obtain ⟨b1_1_7p, c1_1_7p, b2_1_7p, c2_1_7p, b3_1_7p, c3_1_7p, rfl, h1_1_7p, h2_1_7p, h3_1_7p⟩ := gQuery_rd.1 h1_7p
  obtain ⟨b0_6_7p, c0_6_7p, rfl, h0_6_7p⟩ := gBag_rd.1 h6_7p
  obtain ⟨l2q, b5q, c5q, l6q, l7q, rfl, w0q, h2q, w3q, h5q, h6q, h7q⟩ := gNode_rd.1 hp2
  obtain ⟨b0_2q, c0_2q, rfl, h0_2q⟩ := gDisk_rd.1 h2q
  obtain ⟨l1_6q, b2_6q, c2_6q, b4_6q, c4_6q, l11_6q, b13_6q, c13_6q, rfl, h1_6q, h2_6q, w3_6q, h4_6q, w5_6q, w8_6q, h11_6q, h13_6q⟩ := gWork_rd.1 h6q
  obtain ⟨b1_1_6q, c1_1_6q, b2_1_6q, c2_1_6q, b3_1_6q, c3_1_6q, rfl, h1_1_6q, h2_1_6q, h3_1_6q⟩ := gQuery_rd.1 h1_6q
  obtain ⟨l0_11_6q, b1_11_6q, c1_11_6q, b4_11_6q, c4_11_6q, rfl, h0_11_6q, h1_11_6q, w2_11_6q, w3_11_6q, h4_11_6q⟩ := gCell_rd.1 h11_6q
  obtain ⟨b1_0_11_6q, c1_0_11_6q, b2_0_11_6q, c2_0_11_6q, b3_0_11_6q, c3_0_11_6q, rfl, h1_0_11_6q, h2_0_11_6q, h3_0_11_6q⟩ := gQuery_rd.1 h0_11_6q
  obtain ⟨l1_7q, b2_7q, c2_7q, b4_7q, c4_7q, l6_7q, rfl, h1_7q, h2_7q, w3_7q, h4_7q, h6_7q⟩ := gAsk_rd.1 h7q
  obtain ⟨b1_1_7q, c1_1_7q, b2_1_7q, c2_1_7q, b3_1_7q, c3_1_7q, rfl, h1_1_7q, h2_1_7q, h3_1_7q⟩ := gQuery_rd.1 h1_7q
  obtain ⟨b0_6_7q, c0_6_7q, rfl, h0_6_7q⟩ := gBag_rd.1 h6_7q
  refine VCnew.intro fun x0 => ?_
  refine VCnew.intro fun x1 => ?_
  refine VCsplit.intro (fun q2 => ?_) (fun q2 => ?_)
  ·
    simp at q2
    exact ⟨[], ⟨by rw [decide_eq_false (fun e => by subst e; simp at *)], rfl⟩, (.le fun a => by (try simp only [setR, List.cons_append, List.nil_append]); simp only [List.flatten_append, List.flatten_cons, List.flatten_nil, List.count_append, List.count_nil, List.append_nil, List.nil_append]; omega)⟩
  ·
    simp at q2
    refine VCsplit.intro (fun q3 => ?_) (fun q3 => ?_)
    ·
      simp at q3
      exact ⟨[], ⟨by rw [decide_eq_false (fun e => by subst e; simp at *)], rfl⟩, (.le fun a => by (try simp only [setR, List.cons_append, List.nil_append]); simp only [List.flatten_append, List.flatten_cons, List.flatten_nil, List.count_append, List.count_nil, List.append_nil, List.nil_append]; omega)⟩
    ·
      simp at q3
      refine call_val (eqDisk_ct _ _ (x.disk) (y.disk)) ⟨(Rp.mono _ (mem_at 0 rfl) h2p), (Rp.mono _ (mem_at 0 rfl) h2q)⟩ ?_
      rintro _ rfl
      refine VCsplit.intro (fun q5 => ?_) (fun q5 => ?_)
      ·
        simp at q5
        exact ⟨[], ⟨by rw [decide_eq_false (fun e => by subst e; simp at *)], rfl⟩, (.le fun a => by (try simp only [setR, List.cons_append, List.nil_append]); simp only [List.flatten_append, List.flatten_cons, List.flatten_nil, List.count_append, List.count_nil, List.append_nil, List.nil_append]; omega)⟩
      ·
        simp at q5
        refine VCsplit.intro (fun q6 => ?_) (fun q6 => ?_)
        ·
          simp at q6
          exact ⟨[], ⟨by rw [decide_eq_false (fun e => by subst e; simp at *)], rfl⟩, (.le fun a => by (try simp only [setR, List.cons_append, List.nil_append]); simp only [List.flatten_append, List.flatten_cons, List.flatten_nil, List.count_append, List.count_nil, List.append_nil, List.nil_append]; omega)⟩
        ·
          simp at q6
          refine VCsplit.intro (fun q7 => ?_) (fun q7 => ?_)
          ·
            simp at q7
            exact ⟨[], ⟨by rw [decide_eq_false (fun e => by subst e; simp at *)], rfl⟩, (.le fun a => by (try simp only [setR, List.cons_append, List.nil_append]); simp only [List.flatten_append, List.flatten_cons, List.flatten_nil, List.count_append, List.count_nil, List.append_nil, List.nil_append]; omega)⟩
          ·
            simp at q7
            refine call_val (eqLinkS_ct _ _ _ _ _ _ (x.links) (y.links)) ⟨(Rp.mono _ (mem_at 0 rfl) h5p), (Rp.mono _ (mem_at 0 rfl) h5q)⟩ ?_
            rintro _ rfl
            refine VCsplit.intro (fun q9 => ?_) (fun q9 => ?_)
            ·
              simp at q9
              exact ⟨[], ⟨by rw [decide_eq_false (fun e => by subst e; simp at *)], rfl⟩, (.le fun a => by (try simp only [setR, List.cons_append, List.nil_append]); simp only [List.flatten_append, List.flatten_cons, List.flatten_nil, List.count_append, List.count_nil, List.append_nil, List.nil_append]; omega)⟩
            ·
              simp at q9
              refine call_val (eqWork_ct _ _ (x.work) (y.work)) ⟨(Rp.mono _ (mem_at 0 rfl) h6p), (Rp.mono _ (mem_at 0 rfl) h6q)⟩ ?_
              rintro _ rfl
              refine VCsplit.intro (fun q11 => ?_) (fun q11 => ?_)
              ·
                simp at q11
                exact ⟨[], ⟨by rw [decide_eq_false (fun e => by subst e; simp at *)], rfl⟩, (.le fun a => by (try simp only [setR, List.cons_append, List.nil_append]); simp only [List.flatten_append, List.flatten_cons, List.flatten_nil, List.count_append, List.count_nil, List.append_nil, List.nil_append]; omega)⟩
              ·
                simp at q11
                refine call_val (eqAsk_ct _ _ (x.ask) (y.ask)) ⟨(Rp.mono _ (mem_at 0 rfl) h7p), (Rp.mono _ (mem_at 0 rfl) h7q)⟩ ?_
                rintro _ rfl
                refine VCsplit.intro (fun q13 => ?_) (fun q13 => ?_)
                ·
                  simp at q13
                  exact ⟨[], ⟨by rw [decide_eq_false (fun e => by subst e; simp at *)], rfl⟩, (.le fun a => by (try simp only [setR, List.cons_append, List.nil_append]); simp only [List.flatten_append, List.flatten_cons, List.flatten_nil, List.count_append, List.count_nil, List.append_nil, List.nil_append]; omega)⟩
                ·
                  simp at q13
                  exact ⟨[], ⟨by rw [decide_eq_true (Node.eq_iff.2 (by simp_all))], rfl⟩, (.le fun a => by (try simp only [setR, List.cons_append, List.nil_append]); simp only [List.flatten_append, List.flatten_cons, List.flatten_nil, List.count_append, List.count_nil, List.append_nil, List.nil_append]; omega)⟩
--@ct laws.szNodeS raw refine call_q (szNodeS_ct _ _ _ $1 _ ?_ ?_) %1 ?_ | | rintro _ ⟨r#, rfl, hr#⟩
theorem szNodeS_ct (b : Option Addr) (m c : Nat) (xs : List Node) (left : Int) (h0 : 0 ≤ left) (h1 : left ≤ 1048576) :
    Ct Tryz.prog 27 [.slice b m c, .int .i64 left] [] (fun H => (gSl 144 gNode).rd H [.slice b m c] xs) (fun v A => (∃ r : Int, v = .int .i64 r ∧ ((r = -1 ∧ left < (szL gNode xs : Int)) ∨ (r = left - (szL gNode xs : Int) ∧ (szL gNode xs : Int) ≤ left))) ∧ A = []) := by
  refine Ct.intro0 G_ok Tryz.func27 rfl rfl rfl fun E H hp => ?_
  obtain ⟨rfl, hcl, hl⟩ := sl_len hp
  have hq := szL_eq gNode xs
  have ht := List.take_length (l := xs)
  refine VCsplit.intro (fun q0 => ?_) (fun q0 => ?_)
  ·
    simp at q0
    simp (disch := omega) only [wrap_of] at q0
    exact ⟨[], ⟨⟨-1, rfl, .inl ⟨rfl, by (try simp (disch := omega) only [wrap_of] at *); omega⟩⟩, rfl⟩, (.le fun a => by (try simp only [setR, List.cons_append, List.nil_append]); simp only [List.flatten_append, List.flatten_cons, List.flatten_nil, List.count_append, List.count_nil, List.append_nil, List.nil_append]; omega)⟩
  ·
    simp at q0
    simp (disch := omega) only [wrap_of] at q0
    apply loop_mod (α := (Nat) × (Int)) G_ok [12, 13, 14, 15, 18, 19, 20, 21, 22, 23, 1, 24, 25, 4, 16, 17, 5] (fun z => [(5, .v (.int .i64 z.1)), (1, .v (.int .i64 z.2))]) (fun z => []) (fun z => [H]) (fun z => xs.length - z.1) (fun z => z.1 ≤ xs.length ∧ z.2 = left - xs.length - szE gNode (xs.take z.1) ∧ 0 ≤ z.2) ((0, left - xs.length))
    · repeat' (first | exact trivial | refine ⟨⟨_, rfl, by first | rfl | exact inc_eq _ (by omega) | (refine sl_eq ?_; simp; done) | (simp (disch := omega) only [wrap_of]), by first | exact trivial | simp [SV.ok]⟩, ?_⟩)
    · exact trivial
    · try dsimp only
      exact ⟨by omega, by simp [szE], by omega⟩
    · exact .refl _
    rintro ⟨k, lf⟩ hI
    obtain ⟨hk, hlf, hnn⟩ : k ≤ xs.length ∧ lf = left - xs.length - szE gNode (xs.take k) ∧ 0 ≤ lf := hI
    try dsimp only
    refine VCsplit.intro (fun q1 => ?_) (fun q1 => ?_)
    ·
      simp at q1
      have hs := szE_step gNode xs k default (by omega)
      have hs2 := szE_le gNode xs (k + 1)
      refine idx_rd hp ?_ ?_ fun b2 o2 hb2 => ?_
      · omega
      · omega
      refine load_allN default (k) rfl hp ?_ ?_ hb2 rfl (mem_at 0 rfl) fun l3 hl3 => ?_
      · omega
      · omega
      obtain ⟨l2x3, b5x3, c5x3, l6x3, l7x3, rfl, w0x3, h2x3, w3x3, h5x3, h6x3, h7x3⟩ := gNode_rd.1 hl3 ; obtain ⟨b0_2x3, c0_2x3, rfl, h0_2x3⟩ := gDisk_rd.1 h2x3 ; obtain ⟨l1_6x3, b2_6x3, c2_6x3, b4_6x3, c4_6x3, l11_6x3, b13_6x3, c13_6x3, rfl, h1_6x3, h2_6x3, w3_6x3, h4_6x3, w5_6x3, w8_6x3, h11_6x3, h13_6x3⟩ := gWork_rd.1 h6x3 ; obtain ⟨b1_1_6x3, c1_1_6x3, b2_1_6x3, c2_1_6x3, b3_1_6x3, c3_1_6x3, rfl, h1_1_6x3, h2_1_6x3, h3_1_6x3⟩ := gQuery_rd.1 h1_6x3 ; obtain ⟨l0_11_6x3, b1_11_6x3, c1_11_6x3, b4_11_6x3, c4_11_6x3, rfl, h0_11_6x3, h1_11_6x3, w2_11_6x3, w3_11_6x3, h4_11_6x3⟩ := gCell_rd.1 h11_6x3 ; obtain ⟨b1_0_11_6x3, c1_0_11_6x3, b2_0_11_6x3, c2_0_11_6x3, b3_0_11_6x3, c3_0_11_6x3, rfl, h1_0_11_6x3, h2_0_11_6x3, h3_0_11_6x3⟩ := gQuery_rd.1 h0_11_6x3 ; obtain ⟨l1_7x3, b2_7x3, c2_7x3, b4_7x3, c4_7x3, l6_7x3, rfl, h1_7x3, h2_7x3, w3_7x3, h4_7x3, h6_7x3⟩ := gAsk_rd.1 h7x3 ; obtain ⟨b1_1_7x3, c1_1_7x3, b2_1_7x3, c2_1_7x3, b3_1_7x3, c3_1_7x3, rfl, h1_1_7x3, h2_1_7x3, h3_1_7x3⟩ := gQuery_rd.1 h1_7x3 ; obtain ⟨b0_6_7x3, c0_6_7x3, rfl, h0_6_7x3⟩ := gBag_rd.1 h6_7x3
      refine call_q (szNode_ct _ (xs[k]?.getD default) _ ?_ ?_) (Rp.mono _ (mem_at 0 rfl) hl3) ?_
      · trivial
      · omega
      rintro _ ⟨r4, rfl, hr4⟩
      refine VCsplit.intro (fun q5 => ?_) (fun q5 => ?_)
      ·
        simp at q5
        exact ⟨[], ⟨⟨-1, rfl, .inl ⟨rfl, by (try simp (disch := omega) only [wrap_of] at *); omega⟩⟩, rfl⟩, (.le fun a => by (try simp only [setR, List.cons_append, List.nil_append]); simp only [List.flatten_append, List.flatten_cons, List.flatten_nil, List.count_append, List.count_nil, List.append_nil, List.nil_append]; omega)⟩
      ·
        simp at q5
        apply loop_stepA (k + 1, _)
        · exact .refl _
        · repeat' (first | exact trivial | refine ⟨⟨_, rfl, by first | rfl | exact inc_eq _ (by omega) | (refine sl_eq ?_; simp; done) | (simp (disch := omega) only [wrap_of]), by first | exact trivial | simp [SV.ok]⟩, ?_⟩)
        · exact trivial
        · try dsimp only
          ((try simp (disch := omega) only [wrap_of] at *); refine ⟨by omega, by omega, by omega⟩)
        try dsimp only
        omega
    ·
      simp at q1
      obtain rfl : k = xs.length := by omega
      rw [List.take_length] at hlf
      exact ⟨[], ⟨⟨_, rfl, .inr ⟨by (try simp (disch := omega) only [wrap_of] at *); omega, by omega⟩⟩, rfl⟩, (.le fun a => by (try simp only [setR, List.cons_append, List.nil_append]); simp only [List.flatten_append, List.flatten_cons, List.flatten_nil, List.count_append, List.count_nil, List.append_nil, List.nil_append]; omega)⟩
--@ct laws.toNodeS new toNodeS_ct _ _ _ $1 ?_ | %1 | obtain ⟨b#, c#, rfl, o#⟩ := o#
theorem toNodeS_ct (b : Option Addr) (m c : Nat) (xs : List Node) (hx : szL gNode xs ≤ 1048576) :
    Ct Tryz.prog 34 [.slice b m c] [] (fun H => (gSl 144 gNode).rd H [.slice b m c] xs) (fun v A => ∃ b c, v = .slice b xs.length c ∧ (gSl 144 gNode).ow [.slice b xs.length c] xs A) := by
  refine Ct.intro0 G_ok Tryz.func34 rfl rfl rfl fun E H hp => ?_
  obtain ⟨rfl, hcl, hl⟩ := sl_len hp
  have hls := len_szL gNode xs
  have hq := szL_eq gNode xs
  refine VCmake.intro ?_ ?_ ?_ ?_ fun x0 => ?_
  · omega
  · omega
  · omega
  · omega
  apply loop_mod (α := (Nat) × (Hp)) G_ok [8, 9, 10, 11, 14, 15, 16, 17, 18, 19, 20, 21, 12, 13, 4] (fun z => [(4, .v (.int .i64 z.1))]) (fun z => []) (fun z => [z.2, H]) (fun z => xs.length - z.1) (fun z => z.1 ≤ xs.length ∧ (gSl 144 gNode).ow [.slice (some ⟨x0, 0, none⟩) xs.length xs.length] (xs.take z.1 ++ List.replicate (xs.length - z.1) zNode) z.2) ((0, _))
  · repeat' (first | exact trivial | refine ⟨⟨_, rfl, by first | rfl | exact inc_eq _ (by omega) | (refine sl_eq ?_; simp; done), by first | exact trivial | simp [SV.ok]⟩, ?_⟩)
  · exact trivial
  · try dsimp only
    exact ⟨by omega, by simpa using gmake (g := gNode) (T := 144) (b := x0) (zNode_ow) (Nat.le_refl xs.length) (by omega)⟩
  · exact .refl _
  rintro ⟨k, A⟩ hI
  obtain ⟨hk, oA⟩ : k ≤ xs.length ∧ (gSl 144 gNode).ow [.slice (some ⟨x0, 0, none⟩) xs.length xs.length] (xs.take k ++ List.replicate (xs.length - k) zNode) A := hI
  try dsimp only
  refine VCsplit.intro (fun q1 => ?_) (fun q1 => ?_)
  ·
    simp at q1
    have hs := szE_step gNode xs k default (by omega)
    have hs2 := szE_le gNode xs (k + 1)
    refine idx_rd hp ?_ ?_ fun b2 o2 hb2 => ?_
    · omega
    · omega
    refine load_allN default (k) rfl hp ?_ ?_ hb2 rfl (mem_at 1 rfl) fun l3 hl3 => ?_
    · omega
    · omega
    obtain ⟨l2x3, b5x3, c5x3, l6x3, l7x3, rfl, w0x3, h2x3, w3x3, h5x3, h6x3, h7x3⟩ := gNode_rd.1 hl3 ; obtain ⟨b0_2x3, c0_2x3, rfl, h0_2x3⟩ := gDisk_rd.1 h2x3 ; obtain ⟨l1_6x3, b2_6x3, c2_6x3, b4_6x3, c4_6x3, l11_6x3, b13_6x3, c13_6x3, rfl, h1_6x3, h2_6x3, w3_6x3, h4_6x3, w5_6x3, w8_6x3, h11_6x3, h13_6x3⟩ := gWork_rd.1 h6x3 ; obtain ⟨b1_1_6x3, c1_1_6x3, b2_1_6x3, c2_1_6x3, b3_1_6x3, c3_1_6x3, rfl, h1_1_6x3, h2_1_6x3, h3_1_6x3⟩ := gQuery_rd.1 h1_6x3 ; obtain ⟨l0_11_6x3, b1_11_6x3, c1_11_6x3, b4_11_6x3, c4_11_6x3, rfl, h0_11_6x3, h1_11_6x3, w2_11_6x3, w3_11_6x3, h4_11_6x3⟩ := gCell_rd.1 h11_6x3 ; obtain ⟨b1_0_11_6x3, c1_0_11_6x3, b2_0_11_6x3, c2_0_11_6x3, b3_0_11_6x3, c3_0_11_6x3, rfl, h1_0_11_6x3, h2_0_11_6x3, h3_0_11_6x3⟩ := gQuery_rd.1 h0_11_6x3 ; obtain ⟨l1_7x3, b2_7x3, c2_7x3, b4_7x3, c4_7x3, l6_7x3, rfl, h1_7x3, h2_7x3, w3_7x3, h4_7x3, h6_7x3⟩ := gAsk_rd.1 h7x3 ; obtain ⟨b1_1_7x3, c1_1_7x3, b2_1_7x3, c2_1_7x3, b3_1_7x3, c3_1_7x3, rfl, h1_1_7x3, h2_1_7x3, h3_1_7x3⟩ := gQuery_rd.1 h1_7x3 ; obtain ⟨b0_6_7x3, c0_6_7x3, rfl, h0_6_7x3⟩ := gBag_rd.1 h6_7x3
    refine call_new (toNode_ct _ (xs[k]?.getD default) ?_) (Rp.mono _ (mem_at 1 rfl) hl3) ?_
    · omega
    rintro v4 A4 o4
    obtain ⟨l4, rfl, o4⟩ := o4
    have r4 := Gt.owrd _ o4
    obtain ⟨l2x4, b5x4, c5x4, l6x4, l7x4, rfl, w0x4, h2x4, w3x4, h5x4, h6x4, h7x4⟩ := gNode_rd.1 r4
    obtain ⟨b0_2x4, c0_2x4, rfl, h0_2x4⟩ := gDisk_rd.1 h2x4
    obtain ⟨l1_6x4, b2_6x4, c2_6x4, b4_6x4, c4_6x4, l11_6x4, b13_6x4, c13_6x4, rfl, h1_6x4, h2_6x4, w3_6x4, h4_6x4, w5_6x4, w8_6x4, h11_6x4, h13_6x4⟩ := gWork_rd.1 h6x4
    obtain ⟨b1_1_6x4, c1_1_6x4, b2_1_6x4, c2_1_6x4, b3_1_6x4, c3_1_6x4, rfl, h1_1_6x4, h2_1_6x4, h3_1_6x4⟩ := gQuery_rd.1 h1_6x4
    obtain ⟨l0_11_6x4, b1_11_6x4, c1_11_6x4, b4_11_6x4, c4_11_6x4, rfl, h0_11_6x4, h1_11_6x4, w2_11_6x4, w3_11_6x4, h4_11_6x4⟩ := gCell_rd.1 h11_6x4
    obtain ⟨b1_0_11_6x4, c1_0_11_6x4, b2_0_11_6x4, c2_0_11_6x4, b3_0_11_6x4, c3_0_11_6x4, rfl, h1_0_11_6x4, h2_0_11_6x4, h3_0_11_6x4⟩ := gQuery_rd.1 h0_11_6x4
    obtain ⟨l1_7x4, b2_7x4, c2_7x4, b4_7x4, c4_7x4, l6_7x4, rfl, h1_7x4, h2_7x4, w3_7x4, h4_7x4, h6_7x4⟩ := gAsk_rd.1 h7x4
    obtain ⟨b1_1_7x4, c1_1_7x4, b2_1_7x4, c2_1_7x4, b3_1_7x4, c3_1_7x4, rfl, h1_1_7x4, h2_1_7x4, h3_1_7x4⟩ := gQuery_rd.1 h1_7x4
    obtain ⟨b0_6_7x4, c0_6_7x4, rfl, h0_6_7x4⟩ := gBag_rd.1 h6_7x4
    refine idx_rd (Gt.owrd _ oA) ?_ ?_ fun b5 o5 hb5 => ?_
    · omega
    · simp; omega
    refine gstore1N (k) (A) (A4) [H] (.le fun a => by (try simp only [setR, List.cons_append, List.nil_append]); simp only [List.flatten_append, List.flatten_cons, List.flatten_nil, List.count_append, List.count_nil, List.append_nil, List.nil_append]; omega) rfl oA ?_ ?_ hb5 rfl _ o4 fun A6 o6 => ?_
    · omega
    · simp; omega
    apply loop_stepA (k + 1, _)
    · exact .refl _
    · repeat' (first | exact trivial | refine ⟨⟨_, rfl, by first | rfl | exact inc_eq _ (by omega) | (refine sl_eq ?_; simp; done), by first | exact trivial | simp [SV.ok]⟩, ?_⟩)
    · exact trivial
    · try dsimp only
      exact ⟨by omega, by rw [← take_stepz xs k default zNode (by omega)] ; assumption⟩
    try dsimp only
    omega
  ·
    simp at q1
    obtain rfl : k = xs.length := by omega
    rw [List.take_length, Nat.sub_self, List.replicate_zero, List.append_nil] at oA
    exact ⟨_, ⟨_, _, rfl, oA⟩, (.le fun a => by (try simp only [setR, List.cons_append, List.nil_append]); simp only [List.flatten_append, List.flatten_cons, List.flatten_nil, List.count_append, List.count_nil, List.append_nil, List.nil_append]; omega)⟩
--@ct laws.eqNodeS val eqNodeS_ct _ _ _ _ _ _ $1 $2 | ⟨%1, %2⟩
theorem eqNodeS_ct (b1 : Option Addr) (m1 c1 : Nat) (b2 : Option Addr) (m2 c2 : Nat) (xs ys : List Node) :
    Ct Tryz.prog 39 [.slice b1 m1 c1, .slice b2 m2 c2] [] (fun H => (gSl 144 gNode).rd H [.slice b1 m1 c1] xs ∧ (gSl 144 gNode).rd H [.slice b2 m2 c2] ys) (fun v A => v = .bool (decide (xs = ys)) ∧ A = []) := by
  refine Ct.intro0 G_ok Tryz.func39 rfl rfl rfl fun E H hp => ?_
  obtain ⟨hp1, hp2⟩ := hp
  obtain ⟨rfl, hc1, hl1⟩ := sl_len hp1
  obtain ⟨rfl, hc2, hl2⟩ := sl_len hp2
  refine VCsplit.intro (fun q0 => ?_) (fun q0 => ?_)
  ·
    simp at q0
    exact ⟨[], ⟨by rw [decide_eq_false (fun e => by subst e; omega)], rfl⟩, (.le fun a => by (try simp only [setR, List.cons_append, List.nil_append]); simp only [List.flatten_append, List.flatten_cons, List.flatten_nil, List.count_append, List.count_nil, List.append_nil, List.nil_append]; omega)⟩
  ·
    simp at q0
    apply loop_mod (α := (Nat)) G_ok [11, 12, 13, 14, 17, 18, 19, 20, 21, 22, 23, 24, 25, 26, 4, 15, 16, 5] (fun z => [(5, .v (.int .i64 z))]) (fun z => []) (fun z => [H]) (fun z => xs.length - z) (fun z => z ≤ xs.length ∧ xs.take z = ys.take z) (0)
    · repeat' (first | exact trivial | refine ⟨⟨_, rfl, by first | rfl | exact inc_eq _ (by omega) | (refine sl_eq ?_; simp; done), by first | exact trivial | simp [SV.ok]⟩, ?_⟩)
    · exact trivial
    · exact ⟨by omega, by simp⟩
    · exact .refl _
    rintro k hI
    obtain ⟨hk, he⟩ : k ≤ xs.length ∧ xs.take k = ys.take k := hI
    try dsimp only
    refine VCsplit.intro (fun q1 => ?_) (fun q1 => ?_)
    ·
      simp at q1
      refine draw G_ok mixed none (.q 0 (.q 1 (.q 2 (.q 3 (.q 4 (.q 5 (.q 6 (.q 7 (.f 8 (.q 9 (.nil))))))))))) (by decide +kernel) ?_
      refine idx_rd hp1 ?_ ?_ fun b2 o2 hb2 => ?_
      · omega
      · omega
      refine load_allN default (k) rfl hp1 ?_ ?_ hb2 rfl (mem_at 0 rfl) fun l3 hl3 => ?_
      · omega
      · omega
      obtain ⟨l2x3, b5x3, c5x3, l6x3, l7x3, rfl, w0x3, h2x3, w3x3, h5x3, h6x3, h7x3⟩ := gNode_rd.1 hl3 ; obtain ⟨b0_2x3, c0_2x3, rfl, h0_2x3⟩ := gDisk_rd.1 h2x3 ; obtain ⟨l1_6x3, b2_6x3, c2_6x3, b4_6x3, c4_6x3, l11_6x3, b13_6x3, c13_6x3, rfl, h1_6x3, h2_6x3, w3_6x3, h4_6x3, w5_6x3, w8_6x3, h11_6x3, h13_6x3⟩ := gWork_rd.1 h6x3 ; obtain ⟨b1_1_6x3, c1_1_6x3, b2_1_6x3, c2_1_6x3, b3_1_6x3, c3_1_6x3, rfl, h1_1_6x3, h2_1_6x3, h3_1_6x3⟩ := gQuery_rd.1 h1_6x3 ; obtain ⟨l0_11_6x3, b1_11_6x3, c1_11_6x3, b4_11_6x3, c4_11_6x3, rfl, h0_11_6x3, h1_11_6x3, w2_11_6x3, w3_11_6x3, h4_11_6x3⟩ := gCell_rd.1 h11_6x3 ; obtain ⟨b1_0_11_6x3, c1_0_11_6x3, b2_0_11_6x3, c2_0_11_6x3, b3_0_11_6x3, c3_0_11_6x3, rfl, h1_0_11_6x3, h2_0_11_6x3, h3_0_11_6x3⟩ := gQuery_rd.1 h0_11_6x3 ; obtain ⟨l1_7x3, b2_7x3, c2_7x3, b4_7x3, c4_7x3, l6_7x3, rfl, h1_7x3, h2_7x3, w3_7x3, h4_7x3, h6_7x3⟩ := gAsk_rd.1 h7x3 ; obtain ⟨b1_1_7x3, c1_1_7x3, b2_1_7x3, c2_1_7x3, b3_1_7x3, c3_1_7x3, rfl, h1_1_7x3, h2_1_7x3, h3_1_7x3⟩ := gQuery_rd.1 h1_7x3 ; obtain ⟨b0_6_7x3, c0_6_7x3, rfl, h0_6_7x3⟩ := gBag_rd.1 h6_7x3
      refine idx_rd hp2 ?_ ?_ fun b4 o4 hb4 => ?_
      · omega
      · omega
      refine load_allN default (k) rfl hp2 ?_ ?_ hb4 rfl (mem_at 0 rfl) fun l5 hl5 => ?_
      · omega
      · omega
      obtain ⟨l2x5, b5x5, c5x5, l6x5, l7x5, rfl, w0x5, h2x5, w3x5, h5x5, h6x5, h7x5⟩ := gNode_rd.1 hl5 ; obtain ⟨b0_2x5, c0_2x5, rfl, h0_2x5⟩ := gDisk_rd.1 h2x5 ; obtain ⟨l1_6x5, b2_6x5, c2_6x5, b4_6x5, c4_6x5, l11_6x5, b13_6x5, c13_6x5, rfl, h1_6x5, h2_6x5, w3_6x5, h4_6x5, w5_6x5, w8_6x5, h11_6x5, h13_6x5⟩ := gWork_rd.1 h6x5 ; obtain ⟨b1_1_6x5, c1_1_6x5, b2_1_6x5, c2_1_6x5, b3_1_6x5, c3_1_6x5, rfl, h1_1_6x5, h2_1_6x5, h3_1_6x5⟩ := gQuery_rd.1 h1_6x5 ; obtain ⟨l0_11_6x5, b1_11_6x5, c1_11_6x5, b4_11_6x5, c4_11_6x5, rfl, h0_11_6x5, h1_11_6x5, w2_11_6x5, w3_11_6x5, h4_11_6x5⟩ := gCell_rd.1 h11_6x5 ; obtain ⟨b1_0_11_6x5, c1_0_11_6x5, b2_0_11_6x5, c2_0_11_6x5, b3_0_11_6x5, c3_0_11_6x5, rfl, h1_0_11_6x5, h2_0_11_6x5, h3_0_11_6x5⟩ := gQuery_rd.1 h0_11_6x5 ; obtain ⟨l1_7x5, b2_7x5, c2_7x5, b4_7x5, c4_7x5, l6_7x5, rfl, h1_7x5, h2_7x5, w3_7x5, h4_7x5, h6_7x5⟩ := gAsk_rd.1 h7x5 ; obtain ⟨b1_1_7x5, c1_1_7x5, b2_1_7x5, c2_1_7x5, b3_1_7x5, c3_1_7x5, rfl, h1_1_7x5, h2_1_7x5, h3_1_7x5⟩ := gQuery_rd.1 h1_7x5 ; obtain ⟨b0_6_7x5, c0_6_7x5, rfl, h0_6_7x5⟩ := gBag_rd.1 h6_7x5
      refine call_val (eqNode_ct _ _ (xs[k]?.getD default) (ys[k]?.getD default)) ⟨(Rp.mono _ (mem_at 0 rfl) hl3), (Rp.mono _ (mem_at 0 rfl) hl5)⟩ ?_
      rintro _ rfl
      refine VC.intro ?_ ?_
      · exact fun _ h => h
      refine VCsplit.intro (fun q7 => ?_) (fun q7 => ?_)
      ·
        simp at q7
        exact ⟨[], ⟨by rw [decide_eq_false (fun e => by subst e; simp at *)], rfl⟩, (.le fun a => by (try simp only [setR, List.cons_append, List.nil_append]); simp only [List.flatten_append, List.flatten_cons, List.flatten_nil, List.count_append, List.count_nil, List.append_nil, List.nil_append]; omega)⟩
      ·
        simp at q7
        apply loop_stepA (k + 1)
        · exact .refl _
        · repeat' (first | exact trivial | refine ⟨⟨_, rfl, by first | rfl | exact inc_eq _ (by omega) | (refine sl_eq ?_; simp; done), by first | exact trivial | simp [SV.ok]⟩, ?_⟩)
        · exact trivial
        · exact ⟨by omega, eq_step default (by omega) he (by omega) (by simpa using ‹_›)⟩
        omega
    ·
      simp at q1
      exact ⟨[], ⟨by rw [decide_eq_true]; rw [← List.take_length (l := xs), ← List.take_length (l := ys), ← (by omega : xs.length = ys.length), show xs.length = k by omega]; exact he, rfl⟩, (.le fun a => by (try simp only [setR, List.cons_append, List.nil_append]); simp only [List.flatten_append, List.flatten_cons, List.flatten_nil, List.count_append, List.count_nil, List.append_nil, List.nil_append]; omega)⟩
--@ct laws.szBagS raw refine call_q (szBagS_ct _ _ _ $1 _ ?_ ?_) %1 ?_ | | rintro _ ⟨r#, rfl, hr#⟩
theorem szBagS_ct (b : Option Addr) (m c : Nat) (xs : List Bag) (left : Int) (h0 : 0 ≤ left) (h1 : left ≤ 1048576) :
    Ct Tryz.prog 30 [.slice b m c, .int .i64 left] [] (fun H => (gSl 49 gBag).rd H [.slice b m c] xs) (fun v A => (∃ r : Int, v = .int .i64 r ∧ ((r = -1 ∧ left < (szL gBag xs : Int)) ∨ (r = left - (szL gBag xs : Int) ∧ (szL gBag xs : Int) ≤ left))) ∧ A = []) := by
  refine Ct.intro0 G_ok Tryz.func30 rfl rfl rfl fun E H hp => ?_
  obtain ⟨rfl, hcl, hl⟩ := sl_len hp
  have hq := szL_eq gBag xs
  have ht := List.take_length (l := xs)
  refine VCsplit.intro (fun q0 => ?_) (fun q0 => ?_)
  ·
    simp at q0
    simp (disch := omega) only [wrap_of] at q0
    exact ⟨[], ⟨⟨-1, rfl, .inl ⟨rfl, by (try simp (disch := omega) only [wrap_of] at *); omega⟩⟩, rfl⟩, (.le fun a => by (try simp only [setR, List.cons_append, List.nil_append]); simp only [List.flatten_append, List.flatten_cons, List.flatten_nil, List.count_append, List.count_nil, List.append_nil, List.nil_append]; omega)⟩
  ·
    simp at q0
    simp (disch := omega) only [wrap_of] at q0
    apply loop_mod (α := (Nat) × (Int)) G_ok [12, 13, 14, 15, 18, 19, 20, 21, 22, 23, 1, 24, 25, 4, 16, 17, 5] (fun z => [(5, .v (.int .i64 z.1)), (1, .v (.int .i64 z.2))]) (fun z => []) (fun z => [H]) (fun z => xs.length - z.1) (fun z => z.1 ≤ xs.length ∧ z.2 = left - xs.length - szE gBag (xs.take z.1) ∧ 0 ≤ z.2) ((0, left - xs.length))
    · repeat' (first | exact trivial | refine ⟨⟨_, rfl, by first | rfl | exact inc_eq _ (by omega) | (refine sl_eq ?_; simp; done) | (simp (disch := omega) only [wrap_of]), by first | exact trivial | simp [SV.ok]⟩, ?_⟩)
    · exact trivial
    · try dsimp only
      exact ⟨by omega, by simp [szE], by omega⟩
    · exact .refl _
    rintro ⟨k, lf⟩ hI
    obtain ⟨hk, hlf, hnn⟩ : k ≤ xs.length ∧ lf = left - xs.length - szE gBag (xs.take k) ∧ 0 ≤ lf := hI
    try dsimp only
    refine VCsplit.intro (fun q1 => ?_) (fun q1 => ?_)
    ·
      simp at q1
      have hs := szE_step gBag xs k default (by omega)
      have hs2 := szE_le gBag xs (k + 1)
      refine idx_rd hp ?_ ?_ fun b2 o2 hb2 => ?_
      · omega
      · omega
      refine load_allN default (k) rfl hp ?_ ?_ hb2 rfl (mem_at 0 rfl) fun l3 hl3 => ?_
      · omega
      · omega
      obtain ⟨b0x3, c0x3, rfl, h0x3⟩ := gBag_rd.1 hl3
      refine call_q (szBag_ct _ (xs[k]?.getD default) _ ?_ ?_) (Rp.mono _ (mem_at 0 rfl) hl3) ?_
      · trivial
      · omega
      rintro _ ⟨r4, rfl, hr4⟩
      refine VCsplit.intro (fun q5 => ?_) (fun q5 => ?_)
      ·
        simp at q5
        exact ⟨[], ⟨⟨-1, rfl, .inl ⟨rfl, by (try simp (disch := omega) only [wrap_of] at *); omega⟩⟩, rfl⟩, (.le fun a => by (try simp only [setR, List.cons_append, List.nil_append]); simp only [List.flatten_append, List.flatten_cons, List.flatten_nil, List.count_append, List.count_nil, List.append_nil, List.nil_append]; omega)⟩
      ·
        simp at q5
        apply loop_stepA (k + 1, _)
        · exact .refl _
        · repeat' (first | exact trivial | refine ⟨⟨_, rfl, by first | rfl | exact inc_eq _ (by omega) | (refine sl_eq ?_; simp; done) | (simp (disch := omega) only [wrap_of]), by first | exact trivial | simp [SV.ok]⟩, ?_⟩)
        · exact trivial
        · try dsimp only
          ((try simp (disch := omega) only [wrap_of] at *); refine ⟨by omega, by omega, by omega⟩)
        try dsimp only
        omega
    ·
      simp at q1
      obtain rfl : k = xs.length := by omega
      rw [List.take_length] at hlf
      exact ⟨[], ⟨⟨_, rfl, .inr ⟨by (try simp (disch := omega) only [wrap_of] at *); omega, by omega⟩⟩, rfl⟩, (.le fun a => by (try simp only [setR, List.cons_append, List.nil_append]); simp only [List.flatten_append, List.flatten_cons, List.flatten_nil, List.count_append, List.count_nil, List.append_nil, List.nil_append]; omega)⟩
--@ct laws.toBagS new toBagS_ct _ _ _ $1 ?_ | %1 | obtain ⟨b#, c#, rfl, o#⟩ := o#
theorem toBagS_ct (b : Option Addr) (m c : Nat) (xs : List Bag) (hx : szL gBag xs ≤ 1048576) :
    Ct Tryz.prog 37 [.slice b m c] [] (fun H => (gSl 49 gBag).rd H [.slice b m c] xs) (fun v A => ∃ b c, v = .slice b xs.length c ∧ (gSl 49 gBag).ow [.slice b xs.length c] xs A) := by
  refine Ct.intro0 G_ok Tryz.func37 rfl rfl rfl fun E H hp => ?_
  obtain ⟨rfl, hcl, hl⟩ := sl_len hp
  have hls := len_szL gBag xs
  have hq := szL_eq gBag xs
  refine VCmake.intro ?_ ?_ ?_ ?_ fun x0 => ?_
  · omega
  · omega
  · omega
  · omega
  apply loop_mod (α := (Nat) × (Hp)) G_ok [8, 9, 10, 11, 14, 15, 16, 17, 18, 19, 20, 21, 12, 13, 4] (fun z => [(4, .v (.int .i64 z.1))]) (fun z => []) (fun z => [z.2, H]) (fun z => xs.length - z.1) (fun z => z.1 ≤ xs.length ∧ (gSl 49 gBag).ow [.slice (some ⟨x0, 0, none⟩) xs.length xs.length] (xs.take z.1 ++ List.replicate (xs.length - z.1) zBag) z.2) ((0, _))
  · repeat' (first | exact trivial | refine ⟨⟨_, rfl, by first | rfl | exact inc_eq _ (by omega) | (refine sl_eq ?_; simp; done), by first | exact trivial | simp [SV.ok]⟩, ?_⟩)
  · exact trivial
  · try dsimp only
    exact ⟨by omega, by simpa using gmake (g := gBag) (T := 49) (b := x0) (zBag_ow) (Nat.le_refl xs.length) (by omega)⟩
  · exact .refl _
  rintro ⟨k, A⟩ hI
  obtain ⟨hk, oA⟩ : k ≤ xs.length ∧ (gSl 49 gBag).ow [.slice (some ⟨x0, 0, none⟩) xs.length xs.length] (xs.take k ++ List.replicate (xs.length - k) zBag) A := hI
  try dsimp only
  refine VCsplit.intro (fun q1 => ?_) (fun q1 => ?_)
  ·
    simp at q1
    have hs := szE_step gBag xs k default (by omega)
    have hs2 := szE_le gBag xs (k + 1)
    refine idx_rd hp ?_ ?_ fun b2 o2 hb2 => ?_
    · omega
    · omega
    refine load_allN default (k) rfl hp ?_ ?_ hb2 rfl (mem_at 1 rfl) fun l3 hl3 => ?_
    · omega
    · omega
    obtain ⟨b0x3, c0x3, rfl, h0x3⟩ := gBag_rd.1 hl3
    refine call_new (toBag_ct _ (xs[k]?.getD default) ?_) (Rp.mono _ (mem_at 1 rfl) hl3) ?_
    · omega
    rintro v4 A4 o4
    obtain ⟨l4, rfl, o4⟩ := o4
    have r4 := Gt.owrd _ o4
    obtain ⟨b0x4, c0x4, rfl, h0x4⟩ := gBag_rd.1 r4
    refine idx_rd (Gt.owrd _ oA) ?_ ?_ fun b5 o5 hb5 => ?_
    · omega
    · simp; omega
    refine gstore1N (k) (A) (A4) [H] (.le fun a => by (try simp only [setR, List.cons_append, List.nil_append]); simp only [List.flatten_append, List.flatten_cons, List.flatten_nil, List.count_append, List.count_nil, List.append_nil, List.nil_append]; omega) rfl oA ?_ ?_ hb5 rfl _ o4 fun A6 o6 => ?_
    · omega
    · simp; omega
    apply loop_stepA (k + 1, _)
    · exact .refl _
    · repeat' (first | exact trivial | refine ⟨⟨_, rfl, by first | rfl | exact inc_eq _ (by omega) | (refine sl_eq ?_; simp; done), by first | exact trivial | simp [SV.ok]⟩, ?_⟩)
    · exact trivial
    · try dsimp only
      exact ⟨by omega, by rw [← take_stepz xs k default zBag (by omega)] ; assumption⟩
    try dsimp only
    omega
  ·
    simp at q1
    obtain rfl : k = xs.length := by omega
    rw [List.take_length, Nat.sub_self, List.replicate_zero, List.append_nil] at oA
    exact ⟨_, ⟨_, _, rfl, oA⟩, (.le fun a => by (try simp only [setR, List.cons_append, List.nil_append]); simp only [List.flatten_append, List.flatten_cons, List.flatten_nil, List.count_append, List.count_nil, List.append_nil, List.nil_append]; omega)⟩
--@ct laws.eqBagS val eqBagS_ct _ _ _ _ _ _ $1 $2 | ⟨%1, %2⟩
theorem eqBagS_ct (b1 : Option Addr) (m1 c1 : Nat) (b2 : Option Addr) (m2 c2 : Nat) (xs ys : List Bag) :
    Ct Tryz.prog 42 [.slice b1 m1 c1, .slice b2 m2 c2] [] (fun H => (gSl 49 gBag).rd H [.slice b1 m1 c1] xs ∧ (gSl 49 gBag).rd H [.slice b2 m2 c2] ys) (fun v A => v = .bool (decide (xs = ys)) ∧ A = []) := by
  refine Ct.intro0 G_ok Tryz.func42 rfl rfl rfl fun E H hp => ?_
  obtain ⟨hp1, hp2⟩ := hp
  obtain ⟨rfl, hc1, hl1⟩ := sl_len hp1
  obtain ⟨rfl, hc2, hl2⟩ := sl_len hp2
  refine VCsplit.intro (fun q0 => ?_) (fun q0 => ?_)
  ·
    simp at q0
    exact ⟨[], ⟨by rw [decide_eq_false (fun e => by subst e; omega)], rfl⟩, (.le fun a => by (try simp only [setR, List.cons_append, List.nil_append]); simp only [List.flatten_append, List.flatten_cons, List.flatten_nil, List.count_append, List.count_nil, List.append_nil, List.nil_append]; omega)⟩
  ·
    simp at q0
    apply loop_mod (α := (Nat)) G_ok [11, 12, 13, 14, 17, 18, 19, 20, 21, 22, 23, 24, 25, 26, 4, 15, 16, 5] (fun z => [(5, .v (.int .i64 z))]) (fun z => []) (fun z => [H]) (fun z => xs.length - z) (fun z => z ≤ xs.length ∧ xs.take z = ys.take z) (0)
    · repeat' (first | exact trivial | refine ⟨⟨_, rfl, by first | rfl | exact inc_eq _ (by omega) | (refine sl_eq ?_; simp; done), by first | exact trivial | simp [SV.ok]⟩, ?_⟩)
    · exact trivial
    · exact ⟨by omega, by simp⟩
    · exact .refl _
    rintro k hI
    obtain ⟨hk, he⟩ : k ≤ xs.length ∧ xs.take k = ys.take k := hI
    try dsimp only
    refine VCsplit.intro (fun q1 => ?_) (fun q1 => ?_)
    ·
      simp at q1
      refine draw G_ok mixed none (.q 0 (.q 1 (.q 2 (.q 3 (.q 4 (.q 5 (.q 6 (.q 7 (.f 8 (.q 9 (.nil))))))))))) (by decide +kernel) ?_
      refine idx_rd hp1 ?_ ?_ fun b2 o2 hb2 => ?_
      · omega
      · omega
      refine load_allN default (k) rfl hp1 ?_ ?_ hb2 rfl (mem_at 0 rfl) fun l3 hl3 => ?_
      · omega
      · omega
      obtain ⟨b0x3, c0x3, rfl, h0x3⟩ := gBag_rd.1 hl3
      refine idx_rd hp2 ?_ ?_ fun b4 o4 hb4 => ?_
      · omega
      · omega
      refine load_allN default (k) rfl hp2 ?_ ?_ hb4 rfl (mem_at 0 rfl) fun l5 hl5 => ?_
      · omega
      · omega
      obtain ⟨b0x5, c0x5, rfl, h0x5⟩ := gBag_rd.1 hl5
      refine call_val (eqBag_ct _ _ (xs[k]?.getD default) (ys[k]?.getD default)) ⟨(Rp.mono _ (mem_at 0 rfl) hl3), (Rp.mono _ (mem_at 0 rfl) hl5)⟩ ?_
      rintro _ rfl
      refine VC.intro ?_ ?_
      · exact fun _ h => h
      refine VCsplit.intro (fun q7 => ?_) (fun q7 => ?_)
      ·
        simp at q7
        exact ⟨[], ⟨by rw [decide_eq_false (fun e => by subst e; simp at *)], rfl⟩, (.le fun a => by (try simp only [setR, List.cons_append, List.nil_append]); simp only [List.flatten_append, List.flatten_cons, List.flatten_nil, List.count_append, List.count_nil, List.append_nil, List.nil_append]; omega)⟩
      ·
        simp at q7
        apply loop_stepA (k + 1)
        · exact .refl _
        · repeat' (first | exact trivial | refine ⟨⟨_, rfl, by first | rfl | exact inc_eq _ (by omega) | (refine sl_eq ?_; simp; done), by first | exact trivial | simp [SV.ok]⟩, ?_⟩)
        · exact trivial
        · exact ⟨by omega, eq_step default (by omega) he (by omega) (by simpa using ‹_›)⟩
        omega
    ·
      simp at q1
      exact ⟨[], ⟨by rw [decide_eq_true]; rw [← List.take_length (l := xs), ← List.take_length (l := ys), ← (by omega : xs.length = ys.length), show xs.length = k by omega]; exact he, rfl⟩, (.le fun a => by (try simp only [setR, List.cons_append, List.nil_append]); simp only [List.flatten_append, List.flatten_cons, List.flatten_nil, List.count_append, List.count_nil, List.append_nil, List.nil_append]; omega)⟩
--@ct laws.szCluster raw refine call_q (szCluster_ct _ $1 _ ?_ ?_) %1 ?_ | | rintro _ ⟨r#, rfl, hr#⟩
theorem szCluster_ct (l : List Value) (x : Cluster) (left : Int) (h0 : 0 ≤ left) (h1 : left ≤ 1048576) :
    Ct Tryz.prog 6 [.agg ⟨l⟩, .int .i64 left] [] (fun H => gCluster.rd H l x) (fun v A => (∃ r : Int, v = .int .i64 r ∧ ((r = -1 ∧ left < (gCluster.sz x : Int)) ∨ (r = left - (gCluster.sz x : Int) ∧ (gCluster.sz x : Int) ≤ left))) ∧ A = []) := by
  refine Ct.intro0 G_ok Tryz.func6 rfl rfl rfl fun E H hp => ?_
  obtain ⟨l0, b1, c1, b2, c2, b3, c3, b4, c4, rfl, h0, h1, h2, h3, h4⟩ := gCluster_rd.1 hp
  obtain ⟨b1_0, c1_0, b2_0, c2_0, b3_0, c3_0, rfl, h1_0, h2_0, h3_0⟩ := gQuery_rd.1 h0
  have hz := gCluster_sz x
  refine VCnew.intro fun x0 => ?_
  refine call_q (szQuery_ct _ (x.query) _ ?_ ?_) (Rp.mono _ (mem_at 0 rfl) h0) ?_
  · trivial
  · trivial
  rintro _ ⟨r1, rfl, hr1⟩
  refine VCsplit.intro (fun q2 => ?_) (fun q2 => ?_)
  ·
    simp at q2
    exact ⟨[], ⟨⟨-1, rfl, .inl ⟨rfl, by (try simp (disch := omega) only [wrap_of] at *); omega⟩⟩, rfl⟩, (.le fun a => by (try simp only [setR, List.cons_append, List.nil_append]); simp only [List.flatten_append, List.flatten_cons, List.flatten_nil, List.count_append, List.count_nil, List.append_nil, List.nil_append]; omega)⟩
  ·
    simp at q2
    refine call_q (szNodeS_ct _ _ _ (x.nodes) _ ?_ ?_) (Rp.mono _ (mem_at 0 rfl) h1) ?_
    · trivial
    · omega
    rintro _ ⟨r3, rfl, hr3⟩
    refine VCsplit.intro (fun q4 => ?_) (fun q4 => ?_)
    ·
      simp at q4
      exact ⟨[], ⟨⟨-1, rfl, .inl ⟨rfl, by (try simp (disch := omega) only [wrap_of] at *); omega⟩⟩, rfl⟩, (.le fun a => by (try simp only [setR, List.cons_append, List.nil_append]); simp only [List.flatten_append, List.flatten_cons, List.flatten_nil, List.count_append, List.count_nil, List.append_nil, List.nil_append]; omega)⟩
    ·
      simp at q4
      refine call_q (szStringS_ct _ _ _ (x.net) _ ?_ ?_) (Rp.mono _ (mem_at 0 rfl) h2) ?_
      · trivial
      · omega
      rintro _ ⟨r5, rfl, hr5⟩
      refine VCsplit.intro (fun q6 => ?_) (fun q6 => ?_)
      ·
        simp at q6
        exact ⟨[], ⟨⟨-1, rfl, .inl ⟨rfl, by (try simp (disch := omega) only [wrap_of] at *); omega⟩⟩, rfl⟩, (.le fun a => by (try simp only [setR, List.cons_append, List.nil_append]); simp only [List.flatten_append, List.flatten_cons, List.flatten_nil, List.count_append, List.count_nil, List.append_nil, List.nil_append]; omega)⟩
      ·
        simp at q6
        refine call_q (szIntS_ct _ _ _ (x.codes) _ ?_ ?_) (Rp.mono _ (mem_at 0 rfl) h3) ?_
        · trivial
        · omega
        rintro _ ⟨r7, rfl, hr7⟩
        refine VCsplit.intro (fun q8 => ?_) (fun q8 => ?_)
        ·
          simp at q8
          exact ⟨[], ⟨⟨-1, rfl, .inl ⟨rfl, by (try simp (disch := omega) only [wrap_of] at *); omega⟩⟩, rfl⟩, (.le fun a => by (try simp only [setR, List.cons_append, List.nil_append]); simp only [List.flatten_append, List.flatten_cons, List.flatten_nil, List.count_append, List.count_nil, List.append_nil, List.nil_append]; omega)⟩
        ·
          simp at q8
          refine call_q (szBagS_ct _ _ _ (x.replies) _ ?_ ?_) (Rp.mono _ (mem_at 0 rfl) h4) ?_
          · trivial
          · omega
          rintro _ ⟨r9, rfl, hr9⟩
          refine VCsplit.intro (fun q10 => ?_) (fun q10 => ?_)
          ·
            simp at q10
            exact ⟨[], ⟨⟨-1, rfl, .inl ⟨rfl, by (try simp (disch := omega) only [wrap_of] at *); omega⟩⟩, rfl⟩, (.le fun a => by (try simp only [setR, List.cons_append, List.nil_append]); simp only [List.flatten_append, List.flatten_cons, List.flatten_nil, List.count_append, List.count_nil, List.append_nil, List.nil_append]; omega)⟩
          ·
            simp at q10
            exact ⟨[], ⟨⟨_, rfl, .inr ⟨by (try simp (disch := omega) only [wrap_of] at *); omega, by omega⟩⟩, rfl⟩, (.le fun a => by (try simp only [setR, List.cons_append, List.nil_append]); simp only [List.flatten_append, List.flatten_cons, List.flatten_nil, List.count_append, List.count_nil, List.append_nil, List.nil_append]; omega)⟩
--@ct laws.toCluster new toCluster_ct _ $1 ?_ | %1 | obtain ⟨l#, rfl, o#⟩ := o# ;; have r# := Gt.owrd _ o# ;; obtain ⟨l0x#, b1x#, c1x#, b2x#, c2x#, b3x#, c3x#, b4x#, c4x#, rfl, h0x#, h1x#, h2x#, h3x#, h4x#⟩ := gCluster_rd.1 r# ;; obtain ⟨b1_0x#, c1_0x#, b2_0x#, c2_0x#, b3_0x#, c3_0x#, rfl, h1_0x#, h2_0x#, h3_0x#⟩ := gQuery_rd.1 h0x#
theorem toCluster_ct (l : List Value) (x : Cluster) (hx : gCluster.sz x ≤ 1048576) :
    Ct Tryz.prog 8 [.agg ⟨l⟩] [] (fun H => gCluster.rd H l x) (fun v A => ∃ l, v = .agg ⟨l⟩ ∧ gCluster.ow l x A) := by
  refine Ct.intro0 G_ok Tryz.func8 rfl rfl rfl fun E H hp => ?_
  obtain ⟨l0, b1, c1, b2, c2, b3, c3, b4, c4, rfl, h0, h1, h2, h3, h4⟩ := gCluster_rd.1 hp
  obtain ⟨b1_0, c1_0, b2_0, c2_0, b3_0, c3_0, rfl, h1_0, h2_0, h3_0⟩ := gQuery_rd.1 h0
  have hz := gCluster_sz x
  refine VCnew.intro fun x0 => ?_
  refine VCnew.intro fun x1 => ?_
  refine VCnew.intro fun x2 => ?_
  refine call_new (toQuery_ct _ (x.query) ?_) (Rp.mono _ (mem_at 0 rfl) h0) ?_
  · omega
  rintro v3 A3 o3
  obtain ⟨l3, rfl, o3⟩ := o3
  have r3 := Gt.owrd _ o3
  obtain ⟨b1x3, c1x3, b2x3, c2x3, b3x3, c3x3, rfl, h1x3, h2x3, h3x3⟩ := gQuery_rd.1 r3
  refine call_new (toNodeS_ct _ _ _ (x.nodes) ?_) (Rp.mono _ (mem_at 1 rfl) h1) ?_
  · omega
  rintro v4 A4 o4
  obtain ⟨b4, c4, rfl, o4⟩ := o4
  refine call_new (toStringS_ct _ _ _ (x.net) ?_) (Rp.mono _ (mem_at 2 rfl) h2) ?_
  · omega
  rintro v5 A5 o5
  obtain ⟨b5, c5, rfl, o5⟩ := o5
  refine call_new (toIntS_ct _ _ _ (x.codes) ?_) (Rp.mono _ (mem_at 3 rfl) h3) ?_
  · omega
  rintro v6 A6 o6
  obtain ⟨b6, c6, rfl, o6⟩ := o6
  refine call_new (toBagS_ct _ _ _ (x.replies) ?_) (Rp.mono _ (mem_at 4 rfl) h4) ?_
  · omega
  rintro v7 A7 o7
  obtain ⟨b7, c7, rfl, o7⟩ := o7
  exact ⟨_, ⟨_, rfl, gCluster_ow.2 ⟨_, _, _, _, _, _, _, _, _, _, _, _, _, _, rfl, .refl _, by assumption, by assumption, by assumption, by assumption, by assumption⟩⟩, (.le fun a => by (try simp only [setR, List.cons_append, List.nil_append]); simp only [List.flatten_append, List.flatten_cons, List.flatten_nil, List.count_append, List.count_nil, List.append_nil, List.nil_append]; omega)⟩
--@ct laws.eqCluster val eqCluster_ct _ _ $1 $2 | ⟨%1, %2⟩
theorem eqCluster_ct (l1 l2 : List Value) (x y : Cluster) :
    Ct Tryz.prog 10 [.agg ⟨l1⟩, .agg ⟨l2⟩] [] (fun H => gCluster.rd H l1 x ∧ gCluster.rd H l2 y) (fun v A => v = .bool (decide (x = y)) ∧ A = []) := by
  refine Ct.intro0 G_ok Tryz.func10 rfl rfl rfl fun E H hp => ?_
  obtain ⟨hp1, hp2⟩ := hp
  obtain ⟨l0p, b1p, c1p, b2p, c2p, b3p, c3p, b4p, c4p, rfl, h0p, h1p, h2p, h3p, h4p⟩ := gCluster_rd.1 hp1
  obtain ⟨b1_0p, c1_0p, b2_0p, c2_0p, b3_0p, c3_0p, rfl, h1_0p, h2_0p, h3_0p⟩ := gQuery_rd.1 h0p
  obtain ⟨l0q, b1q, c1q, b2q, c2q, b3q, c3q, b4q, c4q, rfl, h0q, h1q, h2q, h3q, h4q⟩ := gCluster_rd.1 hp2
  obtain ⟨b1_0q, c1_0q, b2_0q, c2_0q, b3_0q, c3_0q, rfl, h1_0q, h2_0q, h3_0q⟩ := gQuery_rd.1 h0q
  refine VCnew.intro fun x0 => ?_
  refine VCnew.intro fun x1 => ?_
  refine call_val (eqQuery_ct _ _ (x.query) (y.query)) ⟨(Rp.mono _ (mem_at 0 rfl) h0p), (Rp.mono _ (mem_at 0 rfl) h0q)⟩ ?_
  rintro _ rfl
  refine VCsplit.intro (fun q3 => ?_) (fun q3 => ?_)
  ·
    simp at q3
    exact ⟨[], ⟨by rw [decide_eq_false (fun e => by subst e; simp at *)], rfl⟩, (.le fun a => by (try simp only [setR, List.cons_append, List.nil_append]); simp only [List.flatten_append, List.flatten_cons, List.flatten_nil, List.count_append, List.count_nil, List.append_nil, List.nil_append]; omega)⟩
  ·
    simp at q3
    refine call_val (eqNodeS_ct _ _ _ _ _ _ (x.nodes) (y.nodes)) ⟨(Rp.mono _ (mem_at 0 rfl) h1p), (Rp.mono _ (mem_at 0 rfl) h1q)⟩ ?_
    rintro _ rfl
    refine VCsplit.intro (fun q5 => ?_) (fun q5 => ?_)
    ·
      simp at q5
      exact ⟨[], ⟨by rw [decide_eq_false (fun e => by subst e; simp at *)], rfl⟩, (.le fun a => by (try simp only [setR, List.cons_append, List.nil_append]); simp only [List.flatten_append, List.flatten_cons, List.flatten_nil, List.count_append, List.count_nil, List.append_nil, List.nil_append]; omega)⟩
    ·
      simp at q5
      refine call_val (eqStringS_ct _ _ _ _ _ _ (x.net) (y.net)) ⟨(Rp.mono _ (mem_at 0 rfl) h2p), (Rp.mono _ (mem_at 0 rfl) h2q)⟩ ?_
      rintro _ rfl
      refine VCsplit.intro (fun q7 => ?_) (fun q7 => ?_)
      ·
        simp at q7
        exact ⟨[], ⟨by rw [decide_eq_false (fun e => by subst e; simp at *)], rfl⟩, (.le fun a => by (try simp only [setR, List.cons_append, List.nil_append]); simp only [List.flatten_append, List.flatten_cons, List.flatten_nil, List.count_append, List.count_nil, List.append_nil, List.nil_append]; omega)⟩
      ·
        simp at q7
        refine call_val (eqIntS_ct _ _ _ _ _ _ (x.codes) (y.codes)) ⟨(Rp.mono _ (mem_at 0 rfl) h3p), (Rp.mono _ (mem_at 0 rfl) h3q)⟩ ?_
        rintro _ rfl
        refine VCsplit.intro (fun q9 => ?_) (fun q9 => ?_)
        ·
          simp at q9
          exact ⟨[], ⟨by rw [decide_eq_false (fun e => by subst e; simp at *)], rfl⟩, (.le fun a => by (try simp only [setR, List.cons_append, List.nil_append]); simp only [List.flatten_append, List.flatten_cons, List.flatten_nil, List.count_append, List.count_nil, List.append_nil, List.nil_append]; omega)⟩
        ·
          simp at q9
          refine call_val (eqBagS_ct _ _ _ _ _ _ (x.replies) (y.replies)) ⟨(Rp.mono _ (mem_at 0 rfl) h4p), (Rp.mono _ (mem_at 0 rfl) h4q)⟩ ?_
          rintro _ rfl
          refine VCsplit.intro (fun q11 => ?_) (fun q11 => ?_)
          ·
            simp at q11
            exact ⟨[], ⟨by rw [decide_eq_false (fun e => by subst e; simp at *)], rfl⟩, (.le fun a => by (try simp only [setR, List.cons_append, List.nil_append]); simp only [List.flatten_append, List.flatten_cons, List.flatten_nil, List.count_append, List.count_nil, List.append_nil, List.nil_append]; omega)⟩
          ·
            simp at q11
            exact ⟨[], ⟨by rw [decide_eq_true (Cluster.eq_iff.2 (by simp_all))], rfl⟩, (.le fun a => by (try simp only [setR, List.cons_append, List.nil_append]); simp only [List.flatten_append, List.flatten_cons, List.flatten_nil, List.count_append, List.count_nil, List.append_nil, List.nil_append]; omega)⟩
end Go.Proofs.YtcnclhjhnjpeiaaGreatDoor

namespace Go.Proofs.YtcnclhjhnjpeiaaGreatDoor
open Go.SX Go.Proofs
set_option linter.unusedSimpArgs false
set_option linter.unusedVariables false
set_option maxHeartbeats 4000000
def inR (a b n : Int) : Bool := decide (a ≤ n) && decide (n ≤ b)
theorem inR_iff {a b n : Int} : inR a b n = true ↔ a ≤ n ∧ n ≤ b := by unfold inR; simp
--@ct spec.l01In val l01In_ct _ _ _
theorem l01In_ct (n a b : Int) : Ct Tryz.prog 46 [.int .i64 n, .int .i64 a, .int .i64 b] [] (fun _ => True) (fun v A => v = .bool (inR a b n) ∧ A = []) := by
  refine Ct.intro0 G_ok Tryz.func46 rfl rfl rfl fun E H hp => ?_
  refine VCsplit.intro (fun q0 => ?_) (fun q0 => ?_)
  ·
    simp at q0
    exact ⟨[], ⟨by unfold inR; first | rw [decide_eq_true (by omega : a ≤ n), Bool.true_and] | rw [decide_eq_false (by omega : ¬ a ≤ n), Bool.false_and], rfl⟩, (.le fun a => by (try simp only [setR, List.cons_append, List.nil_append]); simp only [List.flatten_append, List.flatten_cons, List.flatten_nil, List.count_append, List.count_nil, List.append_nil, List.nil_append]; omega)⟩
  ·
    simp at q0
    exact ⟨[], ⟨by unfold inR; first | rw [decide_eq_true (by omega : a ≤ n), Bool.true_and] | rw [decide_eq_false (by omega : ¬ a ≤ n), Bool.false_and], rfl⟩, (.le fun a => by (try simp only [setR, List.cons_append, List.nil_append]); simp only [List.flatten_append, List.flatten_cons, List.flatten_nil, List.count_append, List.count_nil, List.append_nil, List.nil_append]; omega)⟩
end Go.Proofs.YtcnclhjhnjpeiaaGreatDoor

namespace Go.Proofs.YtcnclhjhnjpeiaaGreatDoor
open Go.SX Go.Proofs
set_option maxHeartbeats 1000000
/-- digits s have been told of n0, m is what is left -/
def decI (n0 m : Nat) (s : List UInt8) : Prop := if m = 0 then s = Lib.decDigits n0 else Lib.decDigits n0 = Lib.decDigits m ++ s
theorem decI_init {n : Nat} (h : ¬ n = 0) : decI n n [] := by unfold decI; rw [if_neg h, List.append_nil]
theorem decI_step {n m : Nat} {s : List UInt8} (h : decI n m s) (hm : ¬ m = 0) : decI n (m / 10) (UInt8.ofNat (48 + m % 10) :: s) := by
  unfold decI at h ⊢
  rw [if_neg hm] at h
  by_cases h1 : m < 10
  · rw [if_pos (by omega), h, Lib.decDigits, dif_pos h1, Nat.mod_eq_of_lt h1]; rfl
  rw [if_neg (by omega), h]
  conv => lhs; rw [Lib.decDigits, dif_neg h1]
  rw [List.append_assoc]; rfl
theorem decI_end {n : Nat} {s : List UInt8} (h : decI n 0 s) : s = Lib.decDigits n := by unfold decI at h; rwa [if_pos rfl] at h
theorem decI_le {n m : Nat} {s : List UInt8} (h : decI n m s) : s.length ≤ (Lib.decDigits n).length := by
  unfold decI at h
  split at h
  · rw [h]; exact Nat.le_refl _
  rw [h, List.length_append]; omega
theorem dec_len : ∀ (k n : Nat), n < 10 ^ (k + 1) → (Lib.decDigits n).length ≤ k + 1
  | 0, n, h => by rw [Lib.decDigits, dif_pos (by omega)]; exact Nat.le_refl _
  | k + 1, n, h => by
    rw [Lib.decDigits]
    split
    · simp
    rw [List.length_append, List.length_singleton]
    have := dec_len k (n / 10) (by rw [Nat.div_lt_iff_lt_mul (by omega), ← Nat.pow_succ]; exact h)
    omega
theorem dec_zero : Lib.decDigits 0 = [48] := by rw [Lib.decDigits, dif_pos (by omega)]; rfl
theorem dec_i64 {n : Int} (h : 0 ≤ n ∧ n ≤ 9223372036854775807) : (Lib.decDigits n.toNat).length ≤ 19 := dec_len 18 n.toNat (by omega)
end Go.Proofs.YtcnclhjhnjpeiaaGreatDoor

namespace Go.Proofs.YtcnclhjhnjpeiaaGreatDoor
open Go.SX Go.Proofs
set_option linter.unusedSimpArgs false
set_option linter.unusedVariables false
set_option maxHeartbeats 4000000
/-- the bytes of a text -/
def by' (s : ByteArray) : List UInt8 := s.data.toList
def tx (l : List UInt8) : ByteArray := ⟨l.toArray⟩
theorem tx_by (s : ByteArray) : tx (by' s) = s := by unfold tx by'; rfl
theorem by_tx (l : List UInt8) : by' (tx l) = l := by unfold tx by'; simp
theorem by_inj {a b : ByteArray} : by' a = by' b ↔ a = b := ⟨fun h => by rw [← tx_by a, h, tx_by], fun h => by rw [h]⟩
theorem by_size (s : ByteArray) : (by' s).length = s.size := by unfold by'; simp
theorem by_app (a b : ByteArray) : by' (a ++ b) = by' a ++ by' b := by unfold by'; simp
theorem tx_app (a b : List UInt8) : tx (a ++ b) = tx a ++ tx b := by rw [← by_inj, by_app, by_tx, by_tx, by_tx]
def xu (x y : Int) : Int := IntKind.u32.wrap (BitVec.ofInt IntKind.u32.bits x ^^^ BitVec.ofInt IntKind.u32.bits y).toNat
def bitStep (s : Int) : Int := if s % 2 = 1 then xu (s / 2) 3558460437 else s / 2
def bits : Nat → Int → Int
  | 0, s => s
  | n + 1, s => bitStep (bits n s)
attribute [irreducible] xu bits
attribute [local irreducible] IntKind.wrap
end Go.Proofs.YtcnclhjhnjpeiaaGreatDoor

namespace Go.Proofs.YtcnclhjhnjpeiaaGreatDoor
open Go.SX Go.Proofs
set_option linter.unusedSimpArgs false
set_option linter.unusedVariables false
set_option maxHeartbeats 4000000
set_option maxRecDepth 100000
attribute [local irreducible] IntKind.wrap
def dcT (n : Int) : List UInt8 := Lib.decDigits n.toNat
--@ct internal/strconv.small val small_ct _ ?_ | trivial
--@ct internal/strconv.FormatInt val formatInt_ct _ ?_ | trivial
--@ct internal/strconv.Itoa val itoaI_ct _ ?_ | trivial
--@ct strconv.Itoa val itoa_ct _ ?_ | trivial
--@ct impl.Decimal val decimal12_ct _ ?_ | trivial
--@ct spec.l01Figure val l01Figure_ct _ ?_ | trivial
theorem l01Figure_ct (d : Int) (h : 0 ≤ d ∧ d < 10) : Ct Tryz.prog 78 [.int .i64 d] [] (fun _ => True) (fun v A => v = .int .u8 (48 + d) ∧ A = []) := by
  refine Ct.intro0 G_ok Tryz.func78 rfl rfl rfl fun E H hp => ?_
  refine VCsplit.intro (fun q0 => ?_) (fun q0 => ?_)
  ·
    simp at q0
    exact ⟨[], ⟨by rw [wrap_of (x := 48 + d) (by omega) (by omega), u8_wrap, Int.emod_eq_of_lt (by omega) (by omega)], rfl⟩, (.le fun a => by (try simp only [setR, List.cons_append, List.nil_append]); simp only [List.flatten_append, List.flatten_cons, List.flatten_nil, List.count_append, List.count_nil, List.append_nil, List.nil_append]; omega)⟩
  ·
    simp at q0
    exfalso; omega
theorem dec_mod (m : Nat) : Int.tmod (m : Int) 10 = ((m % 10 : Nat) : Int) := by rw [Int.tmod_eq_emod_of_nonneg (by omega)]; rfl
theorem dec_div (m : Nat) : Int.tdiv (m : Int) 10 = ((m / 10 : Nat) : Int) := by rw [Int.tdiv_eq_ediv_of_nonneg (by omega)]; rfl
theorem dec_cons (m : Nat) (s : List UInt8) : (⟨(([48 + Int.tmod (m : Int) 10] : List Int).map fun v => UInt8.ofNat v.toNat).toArray⟩ : ByteArray) ++ tx s = tx (UInt8.ofNat (48 + m % 10) :: s) := by
  rw [dec_mod]
  have e : (48 + ((m % 10 : Nat) : Int)).toNat = 48 + m % 10 := by omega
  have e2 : (⟨(([48 + ((m % 10 : Nat) : Int)] : List Int).map fun v => UInt8.ofNat v.toNat).toArray⟩ : ByteArray) = tx [UInt8.ofNat (48 + m % 10)] := by
    unfold tx
    rw [List.map_cons, e]; rfl
  rw [e2, ← tx_app]; rfl
--@ct spec.Decimal val specDecimal_ct _ ?_ | trivial
theorem specDecimal_ct (n : Int) (h : 0 ≤ n ∧ n ≤ 9223372036854775807) : Ct Tryz.prog 31 [.int .i64 n] [] (fun _ => True) (fun v A => v = .string (tx (dcT n)) ∧ A = []) := by
  refine Ct.intro0 G_ok Tryz.func31 rfl rfl rfl fun E H hp => ?_
  have h19 := dec_i64 h
  refine VCsplit.intro (fun q0 => ?_) (fun q0 => ?_)
  ·
    simp at q0
    (rw [‹n = 0›]; exact ⟨[], ⟨by unfold dcT; rw [show Int.toNat 0 = 0 from rfl, dec_zero]; rfl, rfl⟩, (.le fun a => by (try simp only [setR, List.cons_append, List.nil_append]); simp only [List.flatten_append, List.flatten_cons, List.flatten_nil, List.count_append, List.count_nil, List.append_nil, List.nil_append]; omega)⟩)
  ·
    simp at q0
    apply loop_mod (α := (Nat) × (List UInt8)) G_ok [10, 11, 12, 13, 5, 14, 15, 16, 17, 18, 19, 20, 21, 22, 23, 4, 24, 25, 0] (fun z => [(4, .v (.string (tx z.2))), (0, .v (.int .i64 z.1))]) (fun z => []) (fun z => [H]) (fun z => z.1) (fun z => decI n.toNat z.1 z.2 ∧ (z.1 : Int) ≤ n) ((n.toNat, []))
    · repeat' (first | exact trivial | refine ⟨⟨_, rfl, by first | rfl | exact inc_eq _ (by omega) | (refine sl_eq ?_; simp; done) | exact congrArg (fun v => SV.v (Value.int .i64 v)) (Int.toNat_of_nonneg h.1).symm | exact congrArg (fun v => Value.int .i64 v) (Int.toNat_of_nonneg h.1).symm | exact congrArg (fun v => SV.v (Value.int .i64 v)) hwd | exact congrArg (fun v => SV.v (Value.string v)) (dec_cons m s) | exact congrArg (fun v => Value.int .i64 v) hwd | exact congrArg (fun v => Value.string v) (dec_cons m s), by first | exact trivial | simp [SV.ok]⟩, ?_⟩)
    · exact trivial
    · try dsimp only
      exact ⟨decI_init (by omega), by omega⟩
    · exact .refl _
    rintro ⟨m, s⟩ hI
    obtain ⟨hI, hm⟩ : decI n.toNat m s ∧ (m : Int) ≤ n := hI
    try dsimp only
    refine VCsplit.intro (fun q1 => ?_) (fun q1 => ?_)
    ·
      simp at q1
      have htm := dec_mod m
      have htd := dec_div m
      have hwd : IntKind.i64.wrap (Int.tdiv (m : Int) 10) = ((m / 10 : Nat) : Int) := (by rw [htd, wrap_of (by omega) (by omega)])
      have hsl := decI_le hI
      have h7 : IntKind.i64.max = 9223372036854775807 := rfl
      refine VC.intro ?_ ?_
      · trivial
      refine VCsplit.intro (fun q2 => ?_) (fun q2 => ?_)
      ·
        simp at q2
        exact absurd (htm ▸ q2 : ((m % 10 : Nat) : Int) < 0) (by omega)
      ·
        simp at q2
        refine call_val (l01Figure_ct _ ?_) trivial ?_
        · omega
        rintro _ rfl
        refine VCnew.intro fun x4 => ?_
        refine conv_bs G_ok (([(48 : Int) + (↑m : Int).tmod (10 : Int)] : List Int).map fun v => UInt8.ofNat v.toNat) rfl (lit_bs [(48 : Int) + (↑m : Int).tmod (10 : Int)] (mem_at 0 rfl _ (List.mem_singleton.2 rfl)) rfl ?_ (by simp)) rfl rfl rfl ?_
        · (simp only [inU8, u8_wrap, and_true]; omega)
        refine VC.intro ?_ ?_
        · (simp only [ByteArray.size_append, tx, bsz, List.length_map, List.length_cons, List.length_nil]; omega)
        refine VC.intro ?_ ?_
        · trivial
        apply loop_stepA (m / 10, UInt8.ofNat (48 + m % 10) :: s)
        · exact .sub (by repeat (first | exact .slnil | apply List.Sublist.cons_cons | apply List.Sublist.cons))
        · repeat' (first | exact trivial | refine ⟨⟨_, rfl, by first | rfl | exact inc_eq _ (by omega) | (refine sl_eq ?_; simp; done) | exact congrArg (fun v => SV.v (Value.int .i64 v)) (Int.toNat_of_nonneg h.1).symm | exact congrArg (fun v => Value.int .i64 v) (Int.toNat_of_nonneg h.1).symm | exact congrArg (fun v => SV.v (Value.int .i64 v)) hwd | exact congrArg (fun v => SV.v (Value.string v)) (dec_cons m s) | exact congrArg (fun v => Value.int .i64 v) hwd | exact congrArg (fun v => Value.string v) (dec_cons m s), by first | exact trivial | simp [SV.ok]⟩, ?_⟩)
        · exact trivial
        · try dsimp only
          exact ⟨decI_step hI (by omega), by omega⟩
        try dsimp only
        omega
    ·
      simp at q1
      refine VCsplit.intro (fun q5 => ?_) (fun q5 => ?_)
      ·
        simp at q5
        exfalso; omega
      ·
        simp at q5
        (have hm0 : m = 0 := (by omega); subst hm0; rw [decI_end hI]; exact ⟨[], ⟨rfl, rfl⟩, (.le fun a => by (try simp only [setR, List.cons_append, List.nil_append]); simp only [List.flatten_append, List.flatten_cons, List.flatten_nil, List.count_append, List.count_nil, List.append_nil, List.nil_append]; omega)⟩)
end Go.Proofs.YtcnclhjhnjpeiaaGreatDoor

namespace Go.Proofs.YtcnclhjhnjpeiaaGreatDoor
open Go.Proofs Go.Shelf
def laysItoa_ren : Go.Shelf.Ren := ⟨fun | 171 => 133 | 243 => 165 | 246 => 189 | 283 => 202 | 284 => 203 | 285 => 204 | 286 => 205 | 129 => 218 | 317 => 217 | 318 => 219 | 319 => 220 | 320 => 221 | 337 => 230 | 338 => 231 | n => n, fun | 3 => 3 | 9 => 9 | 2 => 2 | 4 => 4 | 171 => 286 | 0 => 0 | 53 => 287 | 37 => 131 | 5 => 5 | 173 => 290 | 212 => 313 | 51 => 301 | 20 => 20 | 213 => 314 | 46 => 307 | 232 => 332 | 233 => 333 | n => n, fun | 17 => 0 | 18 => 2 | 19 => 3 | n => n⟩
theorem laysItoa : Go.Proofs.LaysM.n171 Tryz.prog laysItoa_ren where
  mixed := by kernel_rfl
  f129 := Tryz.func218.trans (congrArg some (by kernel_rfl))
  f171 := Tryz.func133.trans (congrArg some (by kernel_rfl))
  f243 := Tryz.func165.trans (congrArg some (by kernel_rfl))
  f246 := Tryz.func189.trans (congrArg some (by kernel_rfl))
  f283 := Tryz.func202.trans (congrArg some (by kernel_rfl))
  f284 := Tryz.func203.trans (congrArg some (by kernel_rfl))
  f285 := Tryz.func204.trans (congrArg some (by kernel_rfl))
  f286 := Tryz.func205.trans (congrArg some (by kernel_rfl))
  f317 := Tryz.func217.trans (congrArg some (by kernel_rfl))
  f318 := Tryz.func219.trans (congrArg some (by kernel_rfl))
  f319 := Tryz.func220.trans (congrArg some (by kernel_rfl))
  f320 := Tryz.func221.trans (congrArg some (by kernel_rfl))
  f337 := Tryz.func230.trans (congrArg some (by kernel_rfl))
  f338 := Tryz.func231.trans (congrArg some (by kernel_rfl))
  t0 := Tryz.underlying0
  a0 := Tryz.isAgg0
  z0 := Tryz.sizeOf0
  v0 := Tryz.zeroValue0
  t2 := Tryz.underlying2
  a2 := Tryz.isAgg2
  z2 := Tryz.sizeOf2
  v2 := Tryz.zeroValue2
  t3 := Tryz.underlying3
  a3 := Tryz.isAgg3
  z3 := Tryz.sizeOf3
  v3 := Tryz.zeroValue3
  t4 := Tryz.underlying4
  a4 := Tryz.isAgg4
  z4 := Tryz.sizeOf4
  v4 := Tryz.zeroValue4
  t5 := Tryz.underlying5
  a5 := Tryz.isAgg5
  z5 := Tryz.sizeOf5
  v5 := Tryz.zeroValue5
  t9 := Tryz.underlying9
  a9 := Tryz.isAgg9
  z9 := Tryz.sizeOf9
  v9 := Tryz.zeroValue9
  t20 := Tryz.underlying20
  a20 := Tryz.isAgg20
  z20 := Tryz.sizeOf20
  v20 := Tryz.zeroValue20
  t37 := Tryz.underlying131
  a37 := Tryz.isAgg131
  z37 := Tryz.sizeOf131
  v37 := Tryz.zeroValue131
  t46 := Tryz.underlying307
  a46 := Tryz.isAgg307
  z46 := Tryz.sizeOf307
  v46 := Tryz.zeroValue307
  t51 := Tryz.underlying301
  a51 := Tryz.isAgg301
  z51 := Tryz.sizeOf301
  v51 := Tryz.zeroValue301
  t53 := Tryz.underlying287
  a53 := Tryz.isAgg287
  z53 := Tryz.sizeOf287
  v53 := Tryz.zeroValue287
  t171 := Tryz.underlying286
  a171 := Tryz.isAgg286
  z171 := Tryz.sizeOf286
  v171 := Tryz.zeroValue286
  t173 := Tryz.underlying290
  a173 := Tryz.isAgg290
  z173 := Tryz.sizeOf290
  v173 := Tryz.zeroValue290
  t212 := Tryz.underlying313
  a212 := Tryz.isAgg313
  z212 := Tryz.sizeOf313
  v212 := Tryz.zeroValue313
  t213 := Tryz.underlying314
  a213 := Tryz.isAgg314
  z213 := Tryz.sizeOf314
  t232 := Tryz.underlying332
  a232 := Tryz.isAgg332
  z232 := Tryz.sizeOf332
  v232 := Tryz.zeroValue332
  t233 := Tryz.underlying333
  a233 := Tryz.isAgg333
  z233 := Tryz.sizeOf333
  v233 := Tryz.zeroValue333
  g17 := by kernel_rfl
  g18 := by kernel_rfl
  g19 := by kernel_rfl
  i0 := by kernel_rfl
  i2 := by kernel_rfl
  i3 := by kernel_rfl
  i4 := by kernel_rfl
  i5 := by kernel_rfl
  i9 := by kernel_rfl
  i20 := by kernel_rfl
  i37 := by kernel_rfl
  i46 := by kernel_rfl
  i51 := by kernel_rfl
  i53 := by kernel_rfl
  i171 := by kernel_rfl
  i173 := by kernel_rfl
  i212 := by kernel_rfl
  i232 := by kernel_rfl
  i233 := by kernel_rfl
  m17 := by kernel_rfl
  m18 := by kernel_rfl
  m19 := by kernel_rfl
end Go.Proofs.YtcnclhjhnjpeiaaGreatDoor

namespace Go.Proofs.YtcnclhjhnjpeiaaGreatDoor
open Go.SX Go.Proofs
set_option linter.unusedSimpArgs false
set_option linter.unusedVariables false
set_option maxHeartbeats 4000000
attribute [local irreducible] IntKind.wrap
/-- the library's table of the powers of ten lies in the memory -/
def tabA : Array Value := (Lib.pow10Tab.map fun z => Value.int .u64 z).toArray
def TabIn (H : Hp) : Prop := ∃ g t fz, Tryz.prog.globalNamed "internal/strconv.uint64pow10" = some g ∧ (g, Obj.cells tabA t fz) ∈ H
theorem TabIn.mono {H H' : Hp} (h : TabIn H) (hs : ∀ p ∈ H, p ∈ H') : TabIn H' := by
  obtain ⟨g, t, fz, h1, h2⟩ := h
  exact ⟨g, t, fz, h1, hs _ h2⟩
theorem tab_is {E : World} {H : Hp} {w : World} (hs : Sat E H w) (h : TabIn H) : Lib.TabIs Tryz.prog w "internal/strconv.uint64pow10" .u64 Lib.pow10Tab := by
  obtain ⟨g, t, fz, h1, h2⟩ := h
  unfold Lib.TabIs World.var?
  rw [h1, Option.bind_some, hs.mem _ _ h2]
  rfl
theorem sat_grow9 {E : World} {H : Hp} {w : World} (h : Sat E H w) (k : Nat) (os : Array Obj) : Sat E H (Sort.grow (w.drewN k) os) :=
  ⟨h.os, h.out, h.tape, fun b o hm => by
    have h1 := h.mem b o hm
    have h2 : b < w.heap.size := by
      by_cases h3 : b < w.heap.size
      · exact h3
      rw [Array.getElem?_eq_none (by omega)] at h1; cases h1
    show (w.heap ++ os)[b]? = some o
    rw [Array.getElem?_append_left h2]; exact h1, h.nodup, Nat.le_trans h.dr (Nat.le_add_right _ _)⟩
theorem itoaAll_ct (n : Int) (h : 0 ≤ n ∧ n ≤ 9223372036854775807) : Ct Tryz.prog 133 [.int .i64 n] [] TabIn (fun v A => v = .string (tx (dcT n)) ∧ A = []) := by
  refine ⟨⟨_, Tryz.func133, of_decide_eq_false (by kernel_rfl), rfl⟩, fun E H w hs hp => ?_⟩
  have hc := Any.strconv_Itoa laysItoa n (by omega) h.2 w (tab_is hs hp)
  refine hc.mono ?_
  rintro e w' ⟨rfl, k, os, rfl⟩
  refine ⟨_, [], rfl, ⟨?_, rfl⟩, sat_grow9 hs k os⟩
  unfold Lib.itoa
  rw [if_neg (by omega)]; rfl
theorem decimalAll_ct (n : Int) (h : 0 ≤ n ∧ n ≤ 9223372036854775807) : Ct Tryz.prog 82 [.int .i64 n] [] TabIn (fun v A => v = .string (tx (dcT n)) ∧ A = []) := by
  refine Ct.intro0 G_ok Tryz.func82 rfl rfl rfl fun E H hp => ?_
  refine call_val (itoaAll_ct _ h) (TabIn.mono hp (mem_at 0 rfl)) ?_
  rintro _ rfl
  exact ⟨[], ⟨rfl, rfl⟩, (.le fun a => by (try simp only [setR, List.cons_append, List.nil_append]); simp only [List.flatten_append, List.flatten_cons, List.flatten_nil, List.count_append, List.count_nil, List.append_nil, List.nil_append]; omega)⟩
end Go.Proofs.YtcnclhjhnjpeiaaGreatDoor
