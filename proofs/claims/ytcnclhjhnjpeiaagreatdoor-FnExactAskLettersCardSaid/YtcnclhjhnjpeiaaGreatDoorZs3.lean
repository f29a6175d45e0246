/-
  The laws' helpers over their types: sizes, copies, likeness (printed by gent.py). Ranges. Checksums and numbers as bytes, on both sides. A row of bytes of the library's own making (internal/bytealg.MakeNoZero), generic. Texts joined: strings.Join at the separator of questions, and the reference's. Decimal numerals (plain). Decimal numerals: both sides (the program's for numbers of two digits). The library's numerals laid at this program. Decimal numerals of all numbers: the program's side. Checksums and numbers as bytes, records in frames, on both sides. The order of rows, labels. Rows compared, valid bags, on both sides. Names, lists of names, on both sides. Numbers of variable length read, frames written and read, on both sides. Path expressions read: what both sides compute. Plain. Valid paths, on both sides. Conditions: none.
-/
import Derived.Test.YtcnclhjhnjpeiaaGreatDoorZs2

namespace Go.Proofs.YtcnclhjhnjpeiaaGreatDoor
open Go.SX Go.Proofs
set_option maxHeartbeats 4000000
set_option linter.unusedSimpArgs false
set_option linter.unusedVariables false
--@ct laws.szIntS raw refine call_q (szIntS_ct _ _ _ $1 _ ?_ ?_) %1 ?_ | | rintro _ ⟨r#, rfl, hr#⟩
theorem szIntS_ct (b : Option Addr) (m c : Nat) (xs : List Int) (left : Int) (h0 : 0 ≤ left) (h1 : left ≤ 1048576) :
    Ct Tryz.prog 29 [.slice b m c, .int .i64 left] [] (fun H => (gSl 3 gI).rd H [.slice b m c] xs) (fun v A => (∃ r : Int, v = .int .i64 r ∧ ((r = -1 ∧ left < (szL gI xs : Int)) ∨ (r = left - (szL gI xs : Int) ∧ (szL gI xs : Int) ≤ left))) ∧ A = []) := by
  refine Ct.intro0 G_ok Tryz.func29 rfl rfl rfl fun E H hp => ?_
  obtain ⟨rfl, hcl, hl⟩ := sl_len hp
  have hq := szL_eq gI xs
  have hz := szE_zero gI (fun _ => rfl) xs
  refine VCsplit.intro (fun q0 => ?_) (fun q0 => ?_)
  ·
    simp at q0
    simp (disch := omega) only [wrap_of] at q0
    exact ⟨[], ⟨⟨-1, rfl, .inl ⟨rfl, by (try simp (disch := omega) only [wrap_of] at *); omega⟩⟩, rfl⟩, (.le fun a => by (try simp only [setR, List.cons_append, List.nil_append]); simp only [List.flatten_append, List.flatten_cons, List.flatten_nil, List.count_append, List.count_nil, List.append_nil, List.nil_append]; omega)⟩
  ·
    simp at q0
    simp (disch := omega) only [wrap_of] at q0
    exact ⟨[], ⟨⟨_, rfl, .inr ⟨by (try simp (disch := omega) only [wrap_of] at *); omega, by omega⟩⟩, rfl⟩, (.le fun a => by (try simp only [setR, List.cons_append, List.nil_append]); simp only [List.flatten_append, List.flatten_cons, List.flatten_nil, List.count_append, List.count_nil, List.append_nil, List.nil_append]; omega)⟩
--@ct laws.toIntS new toIntS_ct _ _ _ $1 ?_ | %1 | obtain ⟨b#, c#, rfl, o#⟩ := o#
theorem toIntS_ct (b : Option Addr) (m c : Nat) (xs : List Int) (hx : szL gI xs ≤ 1048576) :
    Ct Tryz.prog 36 [.slice b m c] [] (fun H => (gSl 3 gI).rd H [.slice b m c] xs) (fun v A => ∃ b c, v = .slice b xs.length c ∧ (gSl 3 gI).ow [.slice b xs.length c] xs A) := by
  refine Ct.intro0 G_ok Tryz.func36 rfl rfl rfl fun E H hp => ?_
  obtain ⟨rfl, hcl, hl⟩ := sl_len hp
  have hls := len_szL gI xs
  refine VCmake.intro ?_ ?_ ?_ ?_ fun x0 => ?_
  · omega
  · omega
  · omega
  · omega
  apply loop_mod (α := (Nat) × (Hp)) G_ok [8, 9, 10, 11, 14, 15, 16, 17, 18, 19, 20, 12, 13, 4] (fun z => [(4, .v (.int .i64 z.1))]) (fun z => []) (fun z => [z.2, H]) (fun z => xs.length - z.1) (fun z => z.1 ≤ xs.length ∧ (gSl 3 gI).ow [.slice (some ⟨x0, 0, none⟩) xs.length xs.length] (xs.take z.1 ++ List.replicate (xs.length - z.1) 0) z.2) ((0, _))
  · repeat' (first | exact trivial | refine ⟨⟨_, rfl, by first | rfl | exact inc_eq _ (by omega) | (refine sl_eq ?_; simp; done), by first | exact trivial | simp [SV.ok]⟩, ?_⟩)
  · exact trivial
  · try dsimp only
    exact ⟨by omega, by simpa using gmake (g := gI) (T := 3) (b := x0) (gI_ow (by unfold okI; decide)) (Nat.le_refl xs.length) (by omega)⟩
  · exact .refl _
  rintro ⟨k, A⟩ hI
  obtain ⟨hk, oA⟩ : k ≤ xs.length ∧ (gSl 3 gI).ow [.slice (some ⟨x0, 0, none⟩) xs.length xs.length] (xs.take k ++ List.replicate (xs.length - k) 0) A := hI
  try dsimp only
  refine VCsplit.intro (fun q1 => ?_) (fun q1 => ?_)
  ·
    simp at q1
    refine idx_rd hp ?_ ?_ fun b2 o2 hb2 => ?_
    · omega
    · omega
    refine load_allN 0 (k) rfl hp ?_ ?_ hb2 rfl (mem_at 1 rfl) fun l3 hl3 => ?_
    · omega
    · omega
    obtain ⟨rfl, hw3⟩ := hl3; simp only [flStr, flInt, okI] at hw3
    refine idx_rd (Gt.owrd _ oA) ?_ ?_ fun b4 o4 hb4 => ?_
    · omega
    · simp; omega
    refine gstoreN (Fld.id _) 0 (k) 0 rfl rfl oA ?_ ?_ hb4 rfl gI_pl _ (gI_ow ?_) fun A5 o5 => ?_
    · omega
    · simp; omega
    · trivial
    apply loop_stepA (k + 1, _)
    · exact .refl _
    · repeat' (first | exact trivial | refine ⟨⟨_, rfl, by first | rfl | exact inc_eq _ (by omega) | (refine sl_eq ?_; simp; done), by first | exact trivial | simp [SV.ok]⟩, ?_⟩)
    · exact trivial
    · try dsimp only
      exact ⟨by omega, by rw [← take_step xs k 0 (by omega)] ; assumption⟩
    try dsimp only
    omega
  ·
    simp at q1
    obtain rfl : k = xs.length := by omega
    rw [List.take_length, Nat.sub_self, List.replicate_zero, List.append_nil] at oA
    exact ⟨_, ⟨_, _, rfl, oA⟩, (.le fun a => by (try simp only [setR, List.cons_append, List.nil_append]); simp only [List.flatten_append, List.flatten_cons, List.flatten_nil, List.count_append, List.count_nil, List.append_nil, List.nil_append]; omega)⟩
--@ct laws.eqIntS val eqIntS_ct _ _ _ _ _ _ $1 $2 | ⟨%1, %2⟩
theorem eqIntS_ct (b1 : Option Addr) (m1 c1 : Nat) (b2 : Option Addr) (m2 c2 : Nat) (xs ys : List Int) :
    Ct Tryz.prog 41 [.slice b1 m1 c1, .slice b2 m2 c2] [] (fun H => (gSl 3 gI).rd H [.slice b1 m1 c1] xs ∧ (gSl 3 gI).rd H [.slice b2 m2 c2] ys) (fun v A => v = .bool (decide (xs = ys)) ∧ A = []) := by
  refine Ct.intro0 G_ok Tryz.func41 rfl rfl rfl fun E H hp => ?_
  obtain ⟨hp1, hp2⟩ := hp
  obtain ⟨rfl, hc1, hl1⟩ := sl_len hp1
  obtain ⟨rfl, hc2, hl2⟩ := sl_len hp2
  refine VCsplit.intro (fun q0 => ?_) (fun q0 => ?_)
  ·
    simp at q0
    exact ⟨[], ⟨by rw [decide_eq_false (fun e => by subst e; omega)], rfl⟩, (.le fun a => by (try simp only [setR, List.cons_append, List.nil_append]); simp only [List.flatten_append, List.flatten_cons, List.flatten_nil, List.count_append, List.count_nil, List.append_nil, List.nil_append]; omega)⟩
  ·
    simp at q0
    apply loop_mod (α := (Nat)) G_ok [11, 12, 13, 14, 17, 18, 19, 20, 21, 22, 23, 24, 25, 4, 15, 16, 5] (fun z => [(5, .v (.int .i64 z))]) (fun z => []) (fun z => [H]) (fun z => xs.length - z) (fun z => z ≤ xs.length ∧ xs.take z = ys.take z) (0)
    · repeat' (first | exact trivial | refine ⟨⟨_, rfl, by first | rfl | exact inc_eq _ (by omega) | (refine sl_eq ?_; simp; done), by first | exact trivial | simp [SV.ok]⟩, ?_⟩)
    · exact trivial
    · exact ⟨by omega, by simp⟩
    · exact .refl _
    rintro k hI
    obtain ⟨hk, he⟩ : k ≤ xs.length ∧ xs.take k = ys.take k := hI
    try dsimp only
    refine VCsplit.intro (fun q1 => ?_) (fun q1 => ?_)
    ·
      simp at q1
      refine draw G_ok mixed none (.q 0 (.q 1 (.q 2 (.q 3 (.q 4 (.q 5 (.q 6 (.q 7 (.q 8 (.nil)))))))))) (by decide +kernel) ?_
      refine idx_rd hp1 ?_ ?_ fun b2 o2 hb2 => ?_
      · omega
      · omega
      refine load_allN 0 (k) rfl hp1 ?_ ?_ hb2 rfl (mem_at 0 rfl) fun l3 hl3 => ?_
      · omega
      · omega
      obtain ⟨rfl, hw3⟩ := hl3; simp only [flStr, flInt, okI] at hw3
      refine idx_rd hp2 ?_ ?_ fun b4 o4 hb4 => ?_
      · omega
      · omega
      refine load_allN 0 (k) rfl hp2 ?_ ?_ hb4 rfl (mem_at 0 rfl) fun l5 hl5 => ?_
      · omega
      · omega
      obtain ⟨rfl, hw5⟩ := hl5; simp only [flStr, flInt, okI] at hw5
      refine VCsplit.intro (fun q6 => ?_) (fun q6 => ?_)
      ·
        simp at q6
        exact ⟨[], ⟨by rw [decide_eq_false (fun e => by subst e; omega)], rfl⟩, (.le fun a => by (try simp only [setR, List.cons_append, List.nil_append]); simp only [List.flatten_append, List.flatten_cons, List.flatten_nil, List.count_append, List.count_nil, List.append_nil, List.nil_append]; omega)⟩
      ·
        simp at q6
        apply loop_stepA (k + 1)
        · exact .refl _
        · repeat' (first | exact trivial | refine ⟨⟨_, rfl, by first | rfl | exact inc_eq _ (by omega) | (refine sl_eq ?_; simp; done), by first | exact trivial | simp [SV.ok]⟩, ?_⟩)
        · exact trivial
        · exact ⟨by omega, eq_step 0 (by omega) he (by omega) (by simpa using ‹_›)⟩
        omega
    ·
      simp at q1
      exact ⟨[], ⟨by rw [decide_eq_true]; rw [← List.take_length (l := xs), ← List.take_length (l := ys), ← (by omega : xs.length = ys.length), show xs.length = k by omega]; exact he, rfl⟩, (.le fun a => by (try simp only [setR, List.cons_append, List.nil_append]); simp only [List.flatten_append, List.flatten_cons, List.flatten_nil, List.count_append, List.count_nil, List.append_nil, List.nil_append]; omega)⟩
--@ct laws.szStringS raw refine call_q (szStringS_ct _ _ _ $1 _ ?_ ?_) %1 ?_ | | rintro _ ⟨r#, rfl, hr#⟩
theorem szStringS_ct (b : Option Addr) (m c : Nat) (xs : List ByteArray) (left : Int) (h0 : 0 ≤ left) (h1 : left ≤ 1048576) :
    Ct Tryz.prog 28 [.slice b m c, .int .i64 left] [] (fun H => (gSl 9 gS).rd H [.slice b m c] xs) (fun v A => (∃ r : Int, v = .int .i64 r ∧ ((r = -1 ∧ left < (szL gS xs : Int)) ∨ (r = left - (szL gS xs : Int) ∧ (szL gS xs : Int) ≤ left))) ∧ A = []) := by
  refine Ct.intro0 G_ok Tryz.func28 rfl rfl rfl fun E H hp => ?_
  obtain ⟨rfl, hcl, hl⟩ := sl_len hp
  have hq := szL_eq gS xs
  have ht := List.take_length (l := xs)
  refine VCsplit.intro (fun q0 => ?_) (fun q0 => ?_)
  ·
    simp at q0
    simp (disch := omega) only [wrap_of] at q0
    exact ⟨[], ⟨⟨-1, rfl, .inl ⟨rfl, by (try simp (disch := omega) only [wrap_of] at *); omega⟩⟩, rfl⟩, (.le fun a => by (try simp only [setR, List.cons_append, List.nil_append]); simp only [List.flatten_append, List.flatten_cons, List.flatten_nil, List.count_append, List.count_nil, List.append_nil, List.nil_append]; omega)⟩
  ·
    simp at q0
    simp (disch := omega) only [wrap_of] at q0
    apply loop_mod (α := (Nat) × (Int)) G_ok [12, 13, 14, 15, 18, 19, 20, 21, 22, 23, 24, 1, 25, 26, 4, 16, 17, 5] (fun z => [(5, .v (.int .i64 z.1)), (1, .v (.int .i64 z.2))]) (fun z => []) (fun z => [H]) (fun z => xs.length - z.1) (fun z => z.1 ≤ xs.length ∧ z.2 = left - xs.length - szE gS (xs.take z.1) ∧ 0 ≤ z.2) ((0, left - xs.length))
    · repeat' (first | exact trivial | refine ⟨⟨_, rfl, by first | rfl | exact inc_eq _ (by omega) | (refine sl_eq ?_; simp; done) | (simp (disch := omega) only [wrap_of]), by first | exact trivial | simp [SV.ok]⟩, ?_⟩)
    · exact trivial
    · try dsimp only
      exact ⟨by omega, by simp [szE], by omega⟩
    · exact .refl _
    rintro ⟨k, lf⟩ hI
    obtain ⟨hk, hlf, hnn⟩ : k ≤ xs.length ∧ lf = left - xs.length - szE gS (xs.take k) ∧ 0 ≤ lf := hI
    try dsimp only
    refine VCsplit.intro (fun q1 => ?_) (fun q1 => ?_)
    ·
      simp at q1
      have hs := szE_step gS xs k ByteArray.empty (by omega)
      have hs2 := szE_le gS xs (k + 1)
      refine idx_rd hp ?_ ?_ fun b2 o2 hb2 => ?_
      · omega
      · omega
      refine load_allN ByteArray.empty (k) rfl hp ?_ ?_ hb2 rfl (mem_at 0 rfl) fun l3 hl3 => ?_
      · omega
      · omega
      have hss : gS.sz (xs[k]?.getD ByteArray.empty) = (xs[k]?.getD ByteArray.empty).size := rfl
      obtain ⟨rfl, hw3⟩ := hl3; simp only [flStr, flInt, okI] at hw3
      refine VCsplit.intro (fun q4 => ?_) (fun q4 => ?_)
      ·
        simp at q4
        simp (disch := omega) only [wrap_of] at q4
        exact ⟨[], ⟨⟨-1, rfl, .inl ⟨rfl, by (try simp (disch := omega) only [wrap_of] at *); omega⟩⟩, rfl⟩, (.le fun a => by (try simp only [setR, List.cons_append, List.nil_append]); simp only [List.flatten_append, List.flatten_cons, List.flatten_nil, List.count_append, List.count_nil, List.append_nil, List.nil_append]; omega)⟩
      ·
        simp at q4
        simp (disch := omega) only [wrap_of] at q4
        apply loop_stepA (k + 1, lf - ((xs[k]?.getD ByteArray.empty).size : Int))
        · exact .refl _
        · repeat' (first | exact trivial | refine ⟨⟨_, rfl, by first | rfl | exact inc_eq _ (by omega) | (refine sl_eq ?_; simp; done) | (simp (disch := omega) only [wrap_of]), by first | exact trivial | simp [SV.ok]⟩, ?_⟩)
        · exact trivial
        · try dsimp only
          ((try simp (disch := omega) only [wrap_of] at *); refine ⟨by omega, by omega, by omega⟩)
        try dsimp only
        omega
    ·
      simp at q1
      obtain rfl : k = xs.length := by omega
      rw [List.take_length] at hlf
      exact ⟨[], ⟨⟨_, rfl, .inr ⟨by (try simp (disch := omega) only [wrap_of] at *); omega, by omega⟩⟩, rfl⟩, (.le fun a => by (try simp only [setR, List.cons_append, List.nil_append]); simp only [List.flatten_append, List.flatten_cons, List.flatten_nil, List.count_append, List.count_nil, List.append_nil, List.nil_append]; omega)⟩
--@ct laws.toStringS new toStringS_ct _ _ _ $1 ?_ | %1 | obtain ⟨b#, c#, rfl, o#⟩ := o#
theorem toStringS_ct (b : Option Addr) (m c : Nat) (xs : List ByteArray) (hx : szL gS xs ≤ 1048576) :
    Ct Tryz.prog 35 [.slice b m c] [] (fun H => (gSl 9 gS).rd H [.slice b m c] xs) (fun v A => ∃ b c, v = .slice b xs.length c ∧ (gSl 9 gS).ow [.slice b xs.length c] xs A) := by
  refine Ct.intro0 G_ok Tryz.func35 rfl rfl rfl fun E H hp => ?_
  obtain ⟨rfl, hcl, hl⟩ := sl_len hp
  have hls := len_szL gS xs
  refine VCmake.intro ?_ ?_ ?_ ?_ fun x0 => ?_
  · omega
  · omega
  · omega
  · omega
  apply loop_mod (α := (Nat) × (Hp)) G_ok [8, 9, 10, 11, 14, 15, 16, 17, 18, 19, 20, 12, 13, 4] (fun z => [(4, .v (.int .i64 z.1))]) (fun z => []) (fun z => [z.2, H]) (fun z => xs.length - z.1) (fun z => z.1 ≤ xs.length ∧ (gSl 9 gS).ow [.slice (some ⟨x0, 0, none⟩) xs.length xs.length] (xs.take z.1 ++ List.replicate (xs.length - z.1) ByteArray.empty) z.2) ((0, _))
  · repeat' (first | exact trivial | refine ⟨⟨_, rfl, by first | rfl | exact inc_eq _ (by omega) | (refine sl_eq ?_; simp; done), by first | exact trivial | simp [SV.ok]⟩, ?_⟩)
  · exact trivial
  · try dsimp only
    exact ⟨by omega, by simpa using gmake (g := gS) (T := 9) (b := x0) (gS_ow (by decide)) (Nat.le_refl xs.length) (by omega)⟩
  · exact .refl _
  rintro ⟨k, A⟩ hI
  obtain ⟨hk, oA⟩ : k ≤ xs.length ∧ (gSl 9 gS).ow [.slice (some ⟨x0, 0, none⟩) xs.length xs.length] (xs.take k ++ List.replicate (xs.length - k) ByteArray.empty) A := hI
  try dsimp only
  refine VCsplit.intro (fun q1 => ?_) (fun q1 => ?_)
  ·
    simp at q1
    refine idx_rd hp ?_ ?_ fun b2 o2 hb2 => ?_
    · omega
    · omega
    refine load_allN ByteArray.empty (k) rfl hp ?_ ?_ hb2 rfl (mem_at 1 rfl) fun l3 hl3 => ?_
    · omega
    · omega
    obtain ⟨rfl, hw3⟩ := hl3; simp only [flStr, flInt, okI] at hw3
    refine idx_rd (Gt.owrd _ oA) ?_ ?_ fun b4 o4 hb4 => ?_
    · omega
    · simp; omega
    refine gstoreN (Fld.id _) ByteArray.empty (k) 0 rfl rfl oA ?_ ?_ hb4 rfl fl_pl _ (gS_ow ?_) fun A5 o5 => ?_
    · omega
    · simp; omega
    · trivial
    apply loop_stepA (k + 1, _)
    · exact .refl _
    · repeat' (first | exact trivial | refine ⟨⟨_, rfl, by first | rfl | exact inc_eq _ (by omega) | (refine sl_eq ?_; simp; done), by first | exact trivial | simp [SV.ok]⟩, ?_⟩)
    · exact trivial
    · try dsimp only
      exact ⟨by omega, by rw [← take_step xs k ByteArray.empty (by omega)] ; assumption⟩
    try dsimp only
    omega
  ·
    simp at q1
    obtain rfl : k = xs.length := by omega
    rw [List.take_length, Nat.sub_self, List.replicate_zero, List.append_nil] at oA
    exact ⟨_, ⟨_, _, rfl, oA⟩, (.le fun a => by (try simp only [setR, List.cons_append, List.nil_append]); simp only [List.flatten_append, List.flatten_cons, List.flatten_nil, List.count_append, List.count_nil, List.append_nil, List.nil_append]; omega)⟩
--@ct laws.eqStringS val eqStringS_ct _ _ _ _ _ _ $1 $2 | ⟨%1, %2⟩
theorem eqStringS_ct (b1 : Option Addr) (m1 c1 : Nat) (b2 : Option Addr) (m2 c2 : Nat) (xs ys : List ByteArray) :
    Ct Tryz.prog 40 [.slice b1 m1 c1, .slice b2 m2 c2] [] (fun H => (gSl 9 gS).rd H [.slice b1 m1 c1] xs ∧ (gSl 9 gS).rd H [.slice b2 m2 c2] ys) (fun v A => v = .bool (decide (xs = ys)) ∧ A = []) := by
  refine Ct.intro0 G_ok Tryz.func40 rfl rfl rfl fun E H hp => ?_
  obtain ⟨hp1, hp2⟩ := hp
  obtain ⟨rfl, hc1, hl1⟩ := sl_len hp1
  obtain ⟨rfl, hc2, hl2⟩ := sl_len hp2
  refine VCsplit.intro (fun q0 => ?_) (fun q0 => ?_)
  ·
    simp at q0
    exact ⟨[], ⟨by rw [decide_eq_false (fun e => by subst e; omega)], rfl⟩, (.le fun a => by (try simp only [setR, List.cons_append, List.nil_append]); simp only [List.flatten_append, List.flatten_cons, List.flatten_nil, List.count_append, List.count_nil, List.append_nil, List.nil_append]; omega)⟩
  ·
    simp at q0
    apply loop_mod (α := (Nat)) G_ok [11, 12, 13, 14, 17, 18, 19, 20, 21, 22, 23, 24, 25, 4, 15, 16, 5] (fun z => [(5, .v (.int .i64 z))]) (fun z => []) (fun z => [H]) (fun z => xs.length - z) (fun z => z ≤ xs.length ∧ xs.take z = ys.take z) (0)
    · repeat' (first | exact trivial | refine ⟨⟨_, rfl, by first | rfl | exact inc_eq _ (by omega) | (refine sl_eq ?_; simp; done), by first | exact trivial | simp [SV.ok]⟩, ?_⟩)
    · exact trivial
    · exact ⟨by omega, by simp⟩
    · exact .refl _
    rintro k hI
    obtain ⟨hk, he⟩ : k ≤ xs.length ∧ xs.take k = ys.take k := hI
    try dsimp only
    refine VCsplit.intro (fun q1 => ?_) (fun q1 => ?_)
    ·
      simp at q1
      refine draw G_ok mixed none (.q 0 (.q 1 (.q 2 (.q 3 (.q 4 (.q 5 (.q 6 (.q 7 (.q 8 (.nil)))))))))) (by decide +kernel) ?_
      refine idx_rd hp1 ?_ ?_ fun b2 o2 hb2 => ?_
      · omega
      · omega
      refine load_allN ByteArray.empty (k) rfl hp1 ?_ ?_ hb2 rfl (mem_at 0 rfl) fun l3 hl3 => ?_
      · omega
      · omega
      obtain ⟨rfl, hw3⟩ := hl3; simp only [flStr, flInt, okI] at hw3
      refine idx_rd hp2 ?_ ?_ fun b4 o4 hb4 => ?_
      · omega
      · omega
      refine load_allN ByteArray.empty (k) rfl hp2 ?_ ?_ hb4 rfl (mem_at 0 rfl) fun l5 hl5 => ?_
      · omega
      · omega
      obtain ⟨rfl, hw5⟩ := hl5; simp only [flStr, flInt, okI] at hw5
      refine VCsplit.intro (fun q6 => ?_) (fun q6 => ?_)
      ·
        simp at q6
        simp only [str_inj, u8_inj, u8_wrap] at q6
        exact ⟨[], ⟨by rw [decide_eq_false (fun e => by subst e; simp at *)], rfl⟩, (.le fun a => by (try simp only [setR, List.cons_append, List.nil_append]); simp only [List.flatten_append, List.flatten_cons, List.flatten_nil, List.count_append, List.count_nil, List.append_nil, List.nil_append]; omega)⟩
      ·
        simp at q6
        simp only [str_inj, u8_inj, u8_wrap] at q6
        apply loop_stepA (k + 1)
        · exact .refl _
        · repeat' (first | exact trivial | refine ⟨⟨_, rfl, by first | rfl | exact inc_eq _ (by omega) | (refine sl_eq ?_; simp; done), by first | exact trivial | simp [SV.ok]⟩, ?_⟩)
        · exact trivial
        · exact ⟨by omega, eq_step ByteArray.empty (by omega) he (by omega) (by simpa using ‹_›)⟩
        omega
    ·
      simp at q1
      exact ⟨[], ⟨by rw [decide_eq_true]; rw [← List.take_length (l := xs), ← List.take_length (l := ys), ← (by omega : xs.length = ys.length), show xs.length = k by omega]; exact he, rfl⟩, (.le fun a => by (try simp only [setR, List.cons_append, List.nil_append]); simp only [List.flatten_append, List.flatten_cons, List.flatten_nil, List.count_append, List.count_nil, List.append_nil, List.nil_append]; omega)⟩
--@ct laws.szItem raw refine call_q (szItem_ct _ $1 _ ?_ ?_) %1 ?_ | | rintro _ ⟨r#, rfl, hr#⟩
theorem szItem_ct (l : List Value) (x : Item) (left : Int) (h0 : 0 ≤ left) (h1 : left ≤ 1048576) :
    Ct Tryz.prog 152 [.agg ⟨l⟩, .int .i64 left] [] (fun H => gItem.rd H l x) (fun v A => (∃ r : Int, v = .int .i64 r ∧ ((r = -1 ∧ left < (gItem.sz x : Int)) ∨ (r = left - (gItem.sz x : Int) ∧ (gItem.sz x : Int) ≤ left))) ∧ A = []) := by
  refine Ct.intro0 G_ok Tryz.func152 rfl rfl rfl fun E H hp => ?_
  obtain ⟨b0, c0, rfl, h0, w1⟩ := gItem_rd.1 hp
  have hz := gItem_sz x
  refine VCnew.intro fun x0 => ?_
  refine call_q (szIntS_ct _ _ _ (x.row) _ ?_ ?_) (Rp.mono _ (mem_at 0 rfl) h0) ?_
  · trivial
  · trivial
  rintro _ ⟨r1, rfl, hr1⟩
  refine VCsplit.intro (fun q2 => ?_) (fun q2 => ?_)
  ·
    simp at q2
    exact ⟨[], ⟨⟨-1, rfl, .inl ⟨rfl, by (try simp (disch := omega) only [wrap_of] at *); omega⟩⟩, rfl⟩, (.le fun a => by (try simp only [setR, List.cons_append, List.nil_append]); simp only [List.flatten_append, List.flatten_cons, List.flatten_nil, List.count_append, List.count_nil, List.append_nil, List.nil_append]; omega)⟩
  ·
    simp at q2
    exact ⟨[], ⟨⟨_, rfl, .inr ⟨by (try simp (disch := omega) only [wrap_of] at *); omega, by omega⟩⟩, rfl⟩, (.le fun a => by (try simp only [setR, List.cons_append, List.nil_append]); simp only [List.flatten_append, List.flatten_cons, List.flatten_nil, List.count_append, List.count_nil, List.append_nil, List.nil_append]; omega)⟩
--@ct laws.toItem new toItem_ct _ $1 ?_ | %1 | obtain ⟨l#, rfl, o#⟩ := o# ;; have r# := Gt.owrd _ o# ;; obtain ⟨b0x#, c0x#, rfl, h0x#, w1x#⟩ := gItem_rd.1 r#
theorem toItem_ct (l : List Value) (x : Item) (hx : gItem.sz x ≤ 1048576) :
    Ct Tryz.prog 153 [.agg ⟨l⟩] [] (fun H => gItem.rd H l x) (fun v A => ∃ l, v = .agg ⟨l⟩ ∧ gItem.ow l x A) := by
  refine Ct.intro0 G_ok Tryz.func153 rfl rfl rfl fun E H hp => ?_
  obtain ⟨b0, c0, rfl, h0, w1⟩ := gItem_rd.1 hp
  have hz := gItem_sz x
  refine VCnew.intro fun x0 => ?_
  refine VCnew.intro fun x1 => ?_
  refine VCnew.intro fun x2 => ?_
  refine call_new (toIntS_ct _ _ _ (x.row) ?_) (Rp.mono _ (mem_at 0 rfl) h0) ?_
  · trivial
  rintro v3 A3 o3
  obtain ⟨b3, c3, rfl, o3⟩ := o3
  exact ⟨_, ⟨_, rfl, gItem_ow.2 ⟨_, _, _, rfl, .refl _, by assumption, by assumption⟩⟩, (.le fun a => by (try simp only [setR, List.cons_append, List.nil_append]); simp only [List.flatten_append, List.flatten_cons, List.flatten_nil, List.count_append, List.count_nil, List.append_nil, List.nil_append]; omega)⟩
--@ct laws.eqItem val eqItem_ct _ _ $1 $2 | ⟨%1, %2⟩
theorem eqItem_ct (l1 l2 : List Value) (x y : Item) :
    Ct Tryz.prog 151 [.agg ⟨l1⟩, .agg ⟨l2⟩] [] (fun H => gItem.rd H l1 x ∧ gItem.rd H l2 y) (fun v A => v = .bool (decide (x = y)) ∧ A = []) := by
  refine Ct.intro0 G_ok Tryz.func151 rfl rfl rfl fun E H hp => ?_
  obtain ⟨hp1, hp2⟩ := hp
  obtain ⟨b0p, c0p, rfl, h0p, w1p⟩ := gItem_rd.1 hp1
  obtain ⟨b0q, c0q, rfl, h0q, w1q⟩ := gItem_rd.1 hp2
  refine VCnew.intro fun x0 => ?_
  refine VCnew.intro fun x1 => ?_
  refine call_val (eqIntS_ct _ _ _ _ _ _ (x.row) (y.row)) ⟨(Rp.mono _ (mem_at 0 rfl) h0p), (Rp.mono _ (mem_at 0 rfl) h0q)⟩ ?_
  rintro _ rfl
  refine VCsplit.intro (fun q3 => ?_) (fun q3 => ?_)
  ·
    simp at q3
    exact ⟨[], ⟨by rw [decide_eq_false (fun e => by subst e; simp at *)], rfl⟩, (.le fun a => by (try simp only [setR, List.cons_append, List.nil_append]); simp only [List.flatten_append, List.flatten_cons, List.flatten_nil, List.count_append, List.count_nil, List.append_nil, List.nil_append]; omega)⟩
  ·
    simp at q3
    refine VCsplit.intro (fun q4 => ?_) (fun q4 => ?_)
    ·
      simp at q4
      exact ⟨[], ⟨by rw [decide_eq_false (fun e => by subst e; simp at *)], rfl⟩, (.le fun a => by (try simp only [setR, List.cons_append, List.nil_append]); simp only [List.flatten_append, List.flatten_cons, List.flatten_nil, List.count_append, List.count_nil, List.append_nil, List.nil_append]; omega)⟩
    ·
      simp at q4
      exact ⟨[], ⟨by rw [decide_eq_true (Item.eq_iff.2 (by simp_all))], rfl⟩, (.le fun a => by (try simp only [setR, List.cons_append, List.nil_append]); simp only [List.flatten_append, List.flatten_cons, List.flatten_nil, List.count_append, List.count_nil, List.append_nil, List.nil_append]; omega)⟩
--@ct laws.szItemS raw refine call_q (szItemS_ct _ _ _ $1 _ ?_ ?_) %1 ?_ | | rintro _ ⟨r#, rfl, hr#⟩
theorem szItemS_ct (b : Option Addr) (m c : Nat) (xs : List Item) (left : Int) (h0 : 0 ≤ left) (h1 : left ≤ 1048576) :
    Ct Tryz.prog 122 [.slice b m c, .int .i64 left] [] (fun H => (gSl 134 gItem).rd H [.slice b m c] xs) (fun v A => (∃ r : Int, v = .int .i64 r ∧ ((r = -1 ∧ left < (szL gItem xs : Int)) ∨ (r = left - (szL gItem xs : Int) ∧ (szL gItem xs : Int) ≤ left))) ∧ A = []) := by
  refine Ct.intro0 G_ok Tryz.func122 rfl rfl rfl fun E H hp => ?_
  obtain ⟨rfl, hcl, hl⟩ := sl_len hp
  have hq := szL_eq gItem xs
  have ht := List.take_length (l := xs)
  refine VCsplit.intro (fun q0 => ?_) (fun q0 => ?_)
  ·
    simp at q0
    simp (disch := omega) only [wrap_of] at q0
    exact ⟨[], ⟨⟨-1, rfl, .inl ⟨rfl, by (try simp (disch := omega) only [wrap_of] at *); omega⟩⟩, rfl⟩, (.le fun a => by (try simp only [setR, List.cons_append, List.nil_append]); simp only [List.flatten_append, List.flatten_cons, List.flatten_nil, List.count_append, List.count_nil, List.append_nil, List.nil_append]; omega)⟩
  ·
    simp at q0
    simp (disch := omega) only [wrap_of] at q0
    apply loop_mod (α := (Nat) × (Int)) G_ok [12, 13, 14, 15, 18, 19, 20, 21, 22, 23, 1, 24, 25, 4, 16, 17, 5] (fun z => [(5, .v (.int .i64 z.1)), (1, .v (.int .i64 z.2))]) (fun z => []) (fun z => [H]) (fun z => xs.length - z.1) (fun z => z.1 ≤ xs.length ∧ z.2 = left - xs.length - szE gItem (xs.take z.1) ∧ 0 ≤ z.2) ((0, left - xs.length))
    · repeat' (first | exact trivial | refine ⟨⟨_, rfl, by first | rfl | exact inc_eq _ (by omega) | (refine sl_eq ?_; simp; done) | (simp (disch := omega) only [wrap_of]), by first | exact trivial | simp [SV.ok]⟩, ?_⟩)
    · exact trivial
    · try dsimp only
      exact ⟨by omega, by simp [szE], by omega⟩
    · exact .refl _
    rintro ⟨k, lf⟩ hI
    obtain ⟨hk, hlf, hnn⟩ : k ≤ xs.length ∧ lf = left - xs.length - szE gItem (xs.take k) ∧ 0 ≤ lf := hI
    try dsimp only
    refine VCsplit.intro (fun q1 => ?_) (fun q1 => ?_)
    ·
      simp at q1
      have hs := szE_step gItem xs k default (by omega)
      have hs2 := szE_le gItem xs (k + 1)
      refine idx_rd hp ?_ ?_ fun b2 o2 hb2 => ?_
      · omega
      · omega
      refine load_allN default (k) rfl hp ?_ ?_ hb2 rfl (mem_at 0 rfl) fun l3 hl3 => ?_
      · omega
      · omega
      obtain ⟨b0x3, c0x3, rfl, h0x3, w1x3⟩ := gItem_rd.1 hl3
      refine call_q (szItem_ct _ (xs[k]?.getD default) _ ?_ ?_) (Rp.mono _ (mem_at 0 rfl) hl3) ?_
      · trivial
      · omega
      rintro _ ⟨r4, rfl, hr4⟩
      refine VCsplit.intro (fun q5 => ?_) (fun q5 => ?_)
      ·
        simp at q5
        exact ⟨[], ⟨⟨-1, rfl, .inl ⟨rfl, by (try simp (disch := omega) only [wrap_of] at *); omega⟩⟩, rfl⟩, (.le fun a => by (try simp only [setR, List.cons_append, List.nil_append]); simp only [List.flatten_append, List.flatten_cons, List.flatten_nil, List.count_append, List.count_nil, List.append_nil, List.nil_append]; omega)⟩
      ·
        simp at q5
        apply loop_stepA (k + 1, _)
        · exact .refl _
        · repeat' (first | exact trivial | refine ⟨⟨_, rfl, by first | rfl | exact inc_eq _ (by omega) | (refine sl_eq ?_; simp; done) | (simp (disch := omega) only [wrap_of]), by first | exact trivial | simp [SV.ok]⟩, ?_⟩)
        · exact trivial
        · try dsimp only
          ((try simp (disch := omega) only [wrap_of] at *); refine ⟨by omega, by omega, by omega⟩)
        try dsimp only
        omega
    ·
      simp at q1
      obtain rfl : k = xs.length := by omega
      rw [List.take_length] at hlf
      exact ⟨[], ⟨⟨_, rfl, .inr ⟨by (try simp (disch := omega) only [wrap_of] at *); omega, by omega⟩⟩, rfl⟩, (.le fun a => by (try simp only [setR, List.cons_append, List.nil_append]); simp only [List.flatten_append, List.flatten_cons, List.flatten_nil, List.count_append, List.count_nil, List.append_nil, List.nil_append]; omega)⟩
--@ct laws.toItemS new toItemS_ct _ _ _ $1 ?_ | %1 | obtain ⟨b#, c#, rfl, o#⟩ := o#
theorem toItemS_ct (b : Option Addr) (m c : Nat) (xs : List Item) (hx : szL gItem xs ≤ 1048576) :
    Ct Tryz.prog 124 [.slice b m c] [] (fun H => (gSl 134 gItem).rd H [.slice b m c] xs) (fun v A => ∃ b c, v = .slice b xs.length c ∧ (gSl 134 gItem).ow [.slice b xs.length c] xs A) := by
  refine Ct.intro0 G_ok Tryz.func124 rfl rfl rfl fun E H hp => ?_
  obtain ⟨rfl, hcl, hl⟩ := sl_len hp
  have hls := len_szL gItem xs
  have hq := szL_eq gItem xs
  refine VCmake.intro ?_ ?_ ?_ ?_ fun x0 => ?_
  · omega
  · omega
  · omega
  · omega
  apply loop_mod (α := (Nat) × (Hp)) G_ok [8, 9, 10, 11, 14, 15, 16, 17, 18, 19, 20, 21, 12, 13, 4] (fun z => [(4, .v (.int .i64 z.1))]) (fun z => []) (fun z => [z.2, H]) (fun z => xs.length - z.1) (fun z => z.1 ≤ xs.length ∧ (gSl 134 gItem).ow [.slice (some ⟨x0, 0, none⟩) xs.length xs.length] (xs.take z.1 ++ List.replicate (xs.length - z.1) zItem) z.2) ((0, _))
  · repeat' (first | exact trivial | refine ⟨⟨_, rfl, by first | rfl | exact inc_eq _ (by omega) | (refine sl_eq ?_; simp; done), by first | exact trivial | simp [SV.ok]⟩, ?_⟩)
  · exact trivial
  · try dsimp only
    exact ⟨by omega, by simpa using gmake (g := gItem) (T := 134) (b := x0) (zItem_ow) (Nat.le_refl xs.length) (by omega)⟩
  · exact .refl _
  rintro ⟨k, A⟩ hI
  obtain ⟨hk, oA⟩ : k ≤ xs.length ∧ (gSl 134 gItem).ow [.slice (some ⟨x0, 0, none⟩) xs.length xs.length] (xs.take k ++ List.replicate (xs.length - k) zItem) A := hI
  try dsimp only
  refine VCsplit.intro (fun q1 => ?_) (fun q1 => ?_)
  ·
    simp at q1
    have hs := szE_step gItem xs k default (by omega)
    have hs2 := szE_le gItem xs (k + 1)
    refine idx_rd hp ?_ ?_ fun b2 o2 hb2 => ?_
    · omega
    · omega
    refine load_allN default (k) rfl hp ?_ ?_ hb2 rfl (mem_at 1 rfl) fun l3 hl3 => ?_
    · omega
    · omega
    obtain ⟨b0x3, c0x3, rfl, h0x3, w1x3⟩ := gItem_rd.1 hl3
    refine call_new (toItem_ct _ (xs[k]?.getD default) ?_) (Rp.mono _ (mem_at 1 rfl) hl3) ?_
    · omega
    rintro v4 A4 o4
    obtain ⟨l4, rfl, o4⟩ := o4
    have r4 := Gt.owrd _ o4
    obtain ⟨b0x4, c0x4, rfl, h0x4, w1x4⟩ := gItem_rd.1 r4
    refine idx_rd (Gt.owrd _ oA) ?_ ?_ fun b5 o5 hb5 => ?_
    · omega
    · simp; omega
    refine gstore1N (k) (A) (A4) [H] (.le fun a => by (try simp only [setR, List.cons_append, List.nil_append]); simp only [List.flatten_append, List.flatten_cons, List.flatten_nil, List.count_append, List.count_nil, List.append_nil, List.nil_append]; omega) rfl oA ?_ ?_ hb5 rfl _ o4 fun A6 o6 => ?_
    · omega
    · simp; omega
    apply loop_stepA (k + 1, _)
    · exact .refl _
    · repeat' (first | exact trivial | refine ⟨⟨_, rfl, by first | rfl | exact inc_eq _ (by omega) | (refine sl_eq ?_; simp; done), by first | exact trivial | simp [SV.ok]⟩, ?_⟩)
    · exact trivial
    · try dsimp only
      exact ⟨by omega, by rw [← take_stepz xs k default zItem (by omega)] ; assumption⟩
    try dsimp only
    omega
  ·
    simp at q1
    obtain rfl : k = xs.length := by omega
    rw [List.take_length, Nat.sub_self, List.replicate_zero, List.append_nil] at oA
    exact ⟨_, ⟨_, _, rfl, oA⟩, (.le fun a => by (try simp only [setR, List.cons_append, List.nil_append]); simp only [List.flatten_append, List.flatten_cons, List.flatten_nil, List.count_append, List.count_nil, List.append_nil, List.nil_append]; omega)⟩
--@ct laws.eqItemS val eqItemS_ct _ _ _ _ _ _ $1 $2 | ⟨%1, %2⟩
theorem eqItemS_ct (b1 : Option Addr) (m1 c1 : Nat) (b2 : Option Addr) (m2 c2 : Nat) (xs ys : List Item) :
    Ct Tryz.prog 113 [.slice b1 m1 c1, .slice b2 m2 c2] [] (fun H => (gSl 134 gItem).rd H [.slice b1 m1 c1] xs ∧ (gSl 134 gItem).rd H [.slice b2 m2 c2] ys) (fun v A => v = .bool (decide (xs = ys)) ∧ A = []) := by
  refine Ct.intro0 G_ok Tryz.func113 rfl rfl rfl fun E H hp => ?_
  obtain ⟨hp1, hp2⟩ := hp
  obtain ⟨rfl, hc1, hl1⟩ := sl_len hp1
  obtain ⟨rfl, hc2, hl2⟩ := sl_len hp2
  refine VCsplit.intro (fun q0 => ?_) (fun q0 => ?_)
  ·
    simp at q0
    exact ⟨[], ⟨by rw [decide_eq_false (fun e => by subst e; omega)], rfl⟩, (.le fun a => by (try simp only [setR, List.cons_append, List.nil_append]); simp only [List.flatten_append, List.flatten_cons, List.flatten_nil, List.count_append, List.count_nil, List.append_nil, List.nil_append]; omega)⟩
  ·
    simp at q0
    apply loop_mod (α := (Nat)) G_ok [11, 12, 13, 14, 17, 18, 19, 20, 21, 22, 23, 24, 25, 26, 4, 15, 16, 5] (fun z => [(5, .v (.int .i64 z))]) (fun z => []) (fun z => [H]) (fun z => xs.length - z) (fun z => z ≤ xs.length ∧ xs.take z = ys.take z) (0)
    · repeat' (first | exact trivial | refine ⟨⟨_, rfl, by first | rfl | exact inc_eq _ (by omega) | (refine sl_eq ?_; simp; done), by first | exact trivial | simp [SV.ok]⟩, ?_⟩)
    · exact trivial
    · exact ⟨by omega, by simp⟩
    · exact .refl _
    rintro k hI
    obtain ⟨hk, he⟩ : k ≤ xs.length ∧ xs.take k = ys.take k := hI
    try dsimp only
    refine VCsplit.intro (fun q1 => ?_) (fun q1 => ?_)
    ·
      simp at q1
      refine draw G_ok mixed none (.q 0 (.q 1 (.q 2 (.q 3 (.q 4 (.q 5 (.q 6 (.q 7 (.f 8 (.q 9 (.nil))))))))))) (by decide +kernel) ?_
      refine idx_rd hp1 ?_ ?_ fun b2 o2 hb2 => ?_
      · omega
      · omega
      refine load_allN default (k) rfl hp1 ?_ ?_ hb2 rfl (mem_at 0 rfl) fun l3 hl3 => ?_
      · omega
      · omega
      obtain ⟨b0x3, c0x3, rfl, h0x3, w1x3⟩ := gItem_rd.1 hl3
      refine idx_rd hp2 ?_ ?_ fun b4 o4 hb4 => ?_
      · omega
      · omega
      refine load_allN default (k) rfl hp2 ?_ ?_ hb4 rfl (mem_at 0 rfl) fun l5 hl5 => ?_
      · omega
      · omega
      obtain ⟨b0x5, c0x5, rfl, h0x5, w1x5⟩ := gItem_rd.1 hl5
      refine call_val (eqItem_ct _ _ (xs[k]?.getD default) (ys[k]?.getD default)) ⟨(Rp.mono _ (mem_at 0 rfl) hl3), (Rp.mono _ (mem_at 0 rfl) hl5)⟩ ?_
      rintro _ rfl
      refine VC.intro ?_ ?_
      · exact fun _ h => h
      refine VCsplit.intro (fun q7 => ?_) (fun q7 => ?_)
      ·
        simp at q7
        exact ⟨[], ⟨by rw [decide_eq_false (fun e => by subst e; simp at *)], rfl⟩, (.le fun a => by (try simp only [setR, List.cons_append, List.nil_append]); simp only [List.flatten_append, List.flatten_cons, List.flatten_nil, List.count_append, List.count_nil, List.append_nil, List.nil_append]; omega)⟩
      ·
        simp at q7
        apply loop_stepA (k + 1)
        · exact .refl _
        · repeat' (first | exact trivial | refine ⟨⟨_, rfl, by first | rfl | exact inc_eq _ (by omega) | (refine sl_eq ?_; simp; done), by first | exact trivial | simp [SV.ok]⟩, ?_⟩)
        · exact trivial
        · exact ⟨by omega, eq_step default (by omega) he (by omega) (by simpa using ‹_›)⟩
        omega
    ·
      simp at q1
      exact ⟨[], ⟨by rw [decide_eq_true]; rw [← List.take_length (l := xs), ← List.take_length (l := ys), ← (by omega : xs.length = ys.length), show xs.length = k by omega]; exact he, rfl⟩, (.le fun a => by (try simp only [setR, List.cons_append, List.nil_append]); simp only [List.flatten_append, List.flatten_cons, List.flatten_nil, List.count_append, List.count_nil, List.append_nil, List.nil_append]; omega)⟩
--@ct laws.szBag raw refine call_q (szBag_ct _ $1 _ ?_ ?_) %1 ?_ | | rintro _ ⟨r#, rfl, hr#⟩
theorem szBag_ct (l : List Value) (x : Bag) (left : Int) (h0 : 0 ≤ left) (h1 : left ≤ 1048576) :
    Ct Tryz.prog 70 [.agg ⟨l⟩, .int .i64 left] [] (fun H => gBag.rd H l x) (fun v A => (∃ r : Int, v = .int .i64 r ∧ ((r = -1 ∧ left < (gBag.sz x : Int)) ∨ (r = left - (gBag.sz x : Int) ∧ (gBag.sz x : Int) ≤ left))) ∧ A = []) := by
  refine Ct.intro0 G_ok Tryz.func70 rfl rfl rfl fun E H hp => ?_
  obtain ⟨b0, c0, rfl, h0⟩ := gBag_rd.1 hp
  have hz := gBag_sz x
  refine VCnew.intro fun x0 => ?_
  refine call_q (szItemS_ct _ _ _ (x.items) _ ?_ ?_) (Rp.mono _ (mem_at 0 rfl) h0) ?_
  · trivial
  · trivial
  rintro _ ⟨r1, rfl, hr1⟩
  refine VCsplit.intro (fun q2 => ?_) (fun q2 => ?_)
  ·
    simp at q2
    exact ⟨[], ⟨⟨-1, rfl, .inl ⟨rfl, by (try simp (disch := omega) only [wrap_of] at *); omega⟩⟩, rfl⟩, (.le fun a => by (try simp only [setR, List.cons_append, List.nil_append]); simp only [List.flatten_append, List.flatten_cons, List.flatten_nil, List.count_append, List.count_nil, List.append_nil, List.nil_append]; omega)⟩
  ·
    simp at q2
    exact ⟨[], ⟨⟨_, rfl, .inr ⟨by (try simp (disch := omega) only [wrap_of] at *); omega, by omega⟩⟩, rfl⟩, (.le fun a => by (try simp only [setR, List.cons_append, List.nil_append]); simp only [List.flatten_append, List.flatten_cons, List.flatten_nil, List.count_append, List.count_nil, List.append_nil, List.nil_append]; omega)⟩
--@ct laws.toBag new toBag_ct _ $1 ?_ | %1 | obtain ⟨l#, rfl, o#⟩ := o# ;; have r# := Gt.owrd _ o# ;; obtain ⟨b0x#, c0x#, rfl, h0x#⟩ := gBag_rd.1 r#
theorem toBag_ct (l : List Value) (x : Bag) (hx : gBag.sz x ≤ 1048576) :
    Ct Tryz.prog 72 [.agg ⟨l⟩] [] (fun H => gBag.rd H l x) (fun v A => ∃ l, v = .agg ⟨l⟩ ∧ gBag.ow l x A) := by
  refine Ct.intro0 G_ok Tryz.func72 rfl rfl rfl fun E H hp => ?_
  obtain ⟨b0, c0, rfl, h0⟩ := gBag_rd.1 hp
  have hz := gBag_sz x
  refine VCnew.intro fun x0 => ?_
  refine VCnew.intro fun x1 => ?_
  refine VCnew.intro fun x2 => ?_
  refine call_new (toItemS_ct _ _ _ (x.items) ?_) (Rp.mono _ (mem_at 0 rfl) h0) ?_
  · trivial
  rintro v3 A3 o3
  obtain ⟨b3, c3, rfl, o3⟩ := o3
  exact ⟨_, ⟨_, rfl, gBag_ow.2 ⟨_, _, _, rfl, .refl _, by assumption⟩⟩, (.le fun a => by (try simp only [setR, List.cons_append, List.nil_append]); simp only [List.flatten_append, List.flatten_cons, List.flatten_nil, List.count_append, List.count_nil, List.append_nil, List.nil_append]; omega)⟩
--@ct laws.eqBag val eqBag_ct _ _ $1 $2 | ⟨%1, %2⟩
theorem eqBag_ct (l1 l2 : List Value) (x y : Bag) :
    Ct Tryz.prog 56 [.agg ⟨l1⟩, .agg ⟨l2⟩] [] (fun H => gBag.rd H l1 x ∧ gBag.rd H l2 y) (fun v A => v = .bool (decide (x = y)) ∧ A = []) := by
  refine Ct.intro0 G_ok Tryz.func56 rfl rfl rfl fun E H hp => ?_
  obtain ⟨hp1, hp2⟩ := hp
  obtain ⟨b0p, c0p, rfl, h0p⟩ := gBag_rd.1 hp1
  obtain ⟨b0q, c0q, rfl, h0q⟩ := gBag_rd.1 hp2
  refine VCnew.intro fun x0 => ?_
  refine VCnew.intro fun x1 => ?_
  refine call_val (eqItemS_ct _ _ _ _ _ _ (x.items) (y.items)) ⟨(Rp.mono _ (mem_at 0 rfl) h0p), (Rp.mono _ (mem_at 0 rfl) h0q)⟩ ?_
  rintro _ rfl
  refine VCsplit.intro (fun q3 => ?_) (fun q3 => ?_)
  ·
    simp at q3
    exact ⟨[], ⟨by rw [decide_eq_false (fun e => by subst e; simp at *)], rfl⟩, (.le fun a => by (try simp only [setR, List.cons_append, List.nil_append]); simp only [List.flatten_append, List.flatten_cons, List.flatten_nil, List.count_append, List.count_nil, List.append_nil, List.nil_append]; omega)⟩
  ·
    simp at q3
    exact ⟨[], ⟨by rw [decide_eq_true (Bag.eq_iff.2 (by simp_all))], rfl⟩, (.le fun a => by (try simp only [setR, List.cons_append, List.nil_append]); simp only [List.flatten_append, List.flatten_cons, List.flatten_nil, List.count_append, List.count_nil, List.append_nil, List.nil_append]; omega)⟩
--@ct laws.szAtom raw refine call_q (szAtom_ct _ $1 _ ?_ ?_) %1 ?_ | | rintro _ ⟨r#, rfl, hr#⟩
theorem szAtom_ct (l : List Value) (x : Atom) (left : Int) (h0 : 0 ≤ left) (h1 : left ≤ 1048576) :
    Ct Tryz.prog 86 [.agg ⟨l⟩, .int .i64 left] [] (fun H => gAtom.rd H l x) (fun v A => (∃ r : Int, v = .int .i64 r ∧ ((r = -1 ∧ left < (gAtom.sz x : Int)) ∨ (r = left - (gAtom.sz x : Int) ∧ (gAtom.sz x : Int) ≤ left))) ∧ A = []) := by
  refine Ct.intro0 G_ok Tryz.func86 rfl rfl rfl fun E H hp => ?_
  obtain ⟨rfl, w0, w1, w2⟩ := gAtom_rd.1 hp
  have hz := gAtom_sz x
  refine VCnew.intro fun x0 => ?_
  refine VCsplit.intro (fun q1 => ?_) (fun q1 => ?_)
  ·
    simp at q1
    simp (disch := omega) only [wrap_of] at q1
    exact ⟨[], ⟨⟨-1, rfl, .inl ⟨rfl, by (try simp (disch := omega) only [wrap_of] at *); omega⟩⟩, rfl⟩, (.le fun a => by (try simp only [setR, List.cons_append, List.nil_append]); simp only [List.flatten_append, List.flatten_cons, List.flatten_nil, List.count_append, List.count_nil, List.append_nil, List.nil_append]; omega)⟩
  ·
    simp at q1
    simp (disch := omega) only [wrap_of] at q1
    refine VCsplit.intro (fun q2 => ?_) (fun q2 => ?_)
    ·
      simp at q2
      simp (disch := omega) only [wrap_of] at q2
      exact ⟨[], ⟨⟨-1, rfl, .inl ⟨rfl, by (try simp (disch := omega) only [wrap_of] at *); omega⟩⟩, rfl⟩, (.le fun a => by (try simp only [setR, List.cons_append, List.nil_append]); simp only [List.flatten_append, List.flatten_cons, List.flatten_nil, List.count_append, List.count_nil, List.append_nil, List.nil_append]; omega)⟩
    ·
      simp at q2
      simp (disch := omega) only [wrap_of] at q2
      refine VCsplit.intro (fun q3 => ?_) (fun q3 => ?_)
      ·
        simp at q3
        simp (disch := omega) only [wrap_of] at q3
        exact ⟨[], ⟨⟨-1, rfl, .inl ⟨rfl, by (try simp (disch := omega) only [wrap_of] at *); omega⟩⟩, rfl⟩, (.le fun a => by (try simp only [setR, List.cons_append, List.nil_append]); simp only [List.flatten_append, List.flatten_cons, List.flatten_nil, List.count_append, List.count_nil, List.append_nil, List.nil_append]; omega)⟩
      ·
        simp at q3
        simp (disch := omega) only [wrap_of] at q3
        exact ⟨[], ⟨⟨_, rfl, .inr ⟨by (try simp (disch := omega) only [wrap_of] at *); omega, by omega⟩⟩, rfl⟩, (.le fun a => by (try simp only [setR, List.cons_append, List.nil_append]); simp only [List.flatten_append, List.flatten_cons, List.flatten_nil, List.count_append, List.count_nil, List.append_nil, List.nil_append]; omega)⟩
--@ct laws.toAtom new toAtom_ct _ $1 ?_ | %1 | obtain ⟨l#, rfl, o#⟩ := o# ;; have r# := Gt.owrd _ o# ;; obtain ⟨rfl, w0x#, w1x#, w2x#⟩ := gAtom_rd.1 r#
theorem toAtom_ct (l : List Value) (x : Atom) (hx : gAtom.sz x ≤ 1048576) :
    Ct Tryz.prog 97 [.agg ⟨l⟩] [] (fun H => gAtom.rd H l x) (fun v A => ∃ l, v = .agg ⟨l⟩ ∧ gAtom.ow l x A) := by
  refine Ct.intro0 G_ok Tryz.func97 rfl rfl rfl fun E H hp => ?_
  obtain ⟨rfl, w0, w1, w2⟩ := gAtom_rd.1 hp
  have hz := gAtom_sz x
  refine VCnew.intro fun x0 => ?_
  refine VCnew.intro fun x1 => ?_
  refine VCnew.intro fun x2 => ?_
  exact ⟨_, ⟨_, rfl, gAtom_ow.2 ⟨rfl, .refl _, by assumption, by assumption, by assumption⟩⟩, (.le fun a => by (try simp only [setR, List.cons_append, List.nil_append]); simp only [List.flatten_append, List.flatten_cons, List.flatten_nil, List.count_append, List.count_nil, List.append_nil, List.nil_append]; omega)⟩
--@ct laws.eqAtom val eqAtom_ct _ _ $1 $2 | ⟨%1, %2⟩
theorem eqAtom_ct (l1 l2 : List Value) (x y : Atom) :
    Ct Tryz.prog 114 [.agg ⟨l1⟩, .agg ⟨l2⟩] [] (fun H => gAtom.rd H l1 x ∧ gAtom.rd H l2 y) (fun v A => v = .bool (decide (x = y)) ∧ A = []) := by
  refine Ct.intro0 G_ok Tryz.func114 rfl rfl rfl fun E H hp => ?_
  obtain ⟨hp1, hp2⟩ := hp
  obtain ⟨rfl, w0p, w1p, w2p⟩ := gAtom_rd.1 hp1
  obtain ⟨rfl, w0q, w1q, w2q⟩ := gAtom_rd.1 hp2
  refine VCnew.intro fun x0 => ?_
  refine VCnew.intro fun x1 => ?_
  refine VCsplit.intro (fun q2 => ?_) (fun q2 => ?_)
  ·
    simp at q2
    simp only [str_inj, u8_inj, u8_wrap] at q2
    exact ⟨[], ⟨by rw [decide_eq_false (fun e => by subst e; simp at *)], rfl⟩, (.le fun a => by (try simp only [setR, List.cons_append, List.nil_append]); simp only [List.flatten_append, List.flatten_cons, List.flatten_nil, List.count_append, List.count_nil, List.append_nil, List.nil_append]; omega)⟩
  ·
    simp at q2
    simp only [str_inj, u8_inj, u8_wrap] at q2
    refine VCsplit.intro (fun q3 => ?_) (fun q3 => ?_)
    ·
      simp at q3
      simp only [str_inj, u8_inj, u8_wrap] at q3
      exact ⟨[], ⟨by rw [decide_eq_false (fun e => by subst e; simp at *)], rfl⟩, (.le fun a => by (try simp only [setR, List.cons_append, List.nil_append]); simp only [List.flatten_append, List.flatten_cons, List.flatten_nil, List.count_append, List.count_nil, List.append_nil, List.nil_append]; omega)⟩
    ·
      simp at q3
      simp only [str_inj, u8_inj, u8_wrap] at q3
      refine VCsplit.intro (fun q4 => ?_) (fun q4 => ?_)
      ·
        simp at q4
        simp only [str_inj, u8_inj, u8_wrap] at q4
        exact ⟨[], ⟨by rw [decide_eq_false (fun e => by subst e; simp at *)], rfl⟩, (.le fun a => by (try simp only [setR, List.cons_append, List.nil_append]); simp only [List.flatten_append, List.flatten_cons, List.flatten_nil, List.count_append, List.count_nil, List.append_nil, List.nil_append]; omega)⟩
      ·
        simp at q4
        simp only [str_inj, u8_inj, u8_wrap] at q4
        exact ⟨[], ⟨by rw [decide_eq_true (Atom.eq_iff.2 (by simp_all))], rfl⟩, (.le fun a => by (try simp only [setR, List.cons_append, List.nil_append]); simp only [List.flatten_append, List.flatten_cons, List.flatten_nil, List.count_append, List.count_nil, List.append_nil, List.nil_append]; omega)⟩
--@ct laws.szFilter raw refine call_q (szFilter_ct _ $1 _ ?_ ?_) %1 ?_ | | rintro _ ⟨r#, rfl, hr#⟩
theorem szFilter_ct (l : List Value) (x : Filter) (left : Int) (h0 : 0 ≤ left) (h1 : left ≤ 1048576) :
    Ct Tryz.prog 87 [.agg ⟨l⟩, .int .i64 left] [] (fun H => gFilter.rd H l x) (fun v A => (∃ r : Int, v = .int .i64 r ∧ ((r = -1 ∧ left < (gFilter.sz x : Int)) ∨ (r = left - (gFilter.sz x : Int) ∧ (gFilter.sz x : Int) ≤ left))) ∧ A = []) := by
  refine Ct.intro0 G_ok Tryz.func87 rfl rfl rfl fun E H hp => ?_
  obtain ⟨rfl, w0, w1, w2, w3⟩ := gFilter_rd.1 hp
  have hz := gFilter_sz x
  refine VCnew.intro fun x0 => ?_
  refine VCsplit.intro (fun q1 => ?_) (fun q1 => ?_)
  ·
    simp at q1
    simp (disch := omega) only [wrap_of] at q1
    exact ⟨[], ⟨⟨-1, rfl, .inl ⟨rfl, by (try simp (disch := omega) only [wrap_of] at *); omega⟩⟩, rfl⟩, (.le fun a => by (try simp only [setR, List.cons_append, List.nil_append]); simp only [List.flatten_append, List.flatten_cons, List.flatten_nil, List.count_append, List.count_nil, List.append_nil, List.nil_append]; omega)⟩
  ·
    simp at q1
    simp (disch := omega) only [wrap_of] at q1
    refine VCsplit.intro (fun q2 => ?_) (fun q2 => ?_)
    ·
      simp at q2
      simp (disch := omega) only [wrap_of] at q2
      exact ⟨[], ⟨⟨-1, rfl, .inl ⟨rfl, by (try simp (disch := omega) only [wrap_of] at *); omega⟩⟩, rfl⟩, (.le fun a => by (try simp only [setR, List.cons_append, List.nil_append]); simp only [List.flatten_append, List.flatten_cons, List.flatten_nil, List.count_append, List.count_nil, List.append_nil, List.nil_append]; omega)⟩
    ·
      simp at q2
      simp (disch := omega) only [wrap_of] at q2
      exact ⟨[], ⟨⟨_, rfl, .inr ⟨by (try simp (disch := omega) only [wrap_of] at *); omega, by omega⟩⟩, rfl⟩, (.le fun a => by (try simp only [setR, List.cons_append, List.nil_append]); simp only [List.flatten_append, List.flatten_cons, List.flatten_nil, List.count_append, List.count_nil, List.append_nil, List.nil_append]; omega)⟩
--@ct laws.toFilter new toFilter_ct _ $1 ?_ | %1 | obtain ⟨l#, rfl, o#⟩ := o# ;; have r# := Gt.owrd _ o# ;; obtain ⟨rfl, w0x#, w1x#, w2x#, w3x#⟩ := gFilter_rd.1 r#
theorem toFilter_ct (l : List Value) (x : Filter) (hx : gFilter.sz x ≤ 1048576) :
    Ct Tryz.prog 98 [.agg ⟨l⟩] [] (fun H => gFilter.rd H l x) (fun v A => ∃ l, v = .agg ⟨l⟩ ∧ gFilter.ow l x A) := by
  refine Ct.intro0 G_ok Tryz.func98 rfl rfl rfl fun E H hp => ?_
  obtain ⟨rfl, w0, w1, w2, w3⟩ := gFilter_rd.1 hp
  have hz := gFilter_sz x
  refine VCnew.intro fun x0 => ?_
  refine VCnew.intro fun x1 => ?_
  refine VCnew.intro fun x2 => ?_
  exact ⟨_, ⟨_, rfl, gFilter_ow.2 ⟨rfl, .refl _, by assumption, by assumption, by assumption, by assumption⟩⟩, (.le fun a => by (try simp only [setR, List.cons_append, List.nil_append]); simp only [List.flatten_append, List.flatten_cons, List.flatten_nil, List.count_append, List.count_nil, List.append_nil, List.nil_append]; omega)⟩
--@ct laws.eqFilter val eqFilter_ct _ _ $1 $2 | ⟨%1, %2⟩
theorem eqFilter_ct (l1 l2 : List Value) (x y : Filter) :
    Ct Tryz.prog 115 [.agg ⟨l1⟩, .agg ⟨l2⟩] [] (fun H => gFilter.rd H l1 x ∧ gFilter.rd H l2 y) (fun v A => v = .bool (decide (x = y)) ∧ A = []) := by
  refine Ct.intro0 G_ok Tryz.func115 rfl rfl rfl fun E H hp => ?_
  obtain ⟨hp1, hp2⟩ := hp
  obtain ⟨rfl, w0p, w1p, w2p, w3p⟩ := gFilter_rd.1 hp1
  obtain ⟨rfl, w0q, w1q, w2q, w3q⟩ := gFilter_rd.1 hp2
  refine VCnew.intro fun x0 => ?_
  refine VCnew.intro fun x1 => ?_
  refine VCsplit.intro (fun q2 => ?_) (fun q2 => ?_)
  ·
    simp at q2
    simp only [str_inj, u8_inj, u8_wrap] at q2
    exact ⟨[], ⟨by rw [decide_eq_false (fun e => by subst e; simp at *)], rfl⟩, (.le fun a => by (try simp only [setR, List.cons_append, List.nil_append]); simp only [List.flatten_append, List.flatten_cons, List.flatten_nil, List.count_append, List.count_nil, List.append_nil, List.nil_append]; omega)⟩
  ·
    simp at q2
    simp only [str_inj, u8_inj, u8_wrap] at q2
    refine VCsplit.intro (fun q3 => ?_) (fun q3 => ?_)
    ·
      simp at q3
      exact ⟨[], ⟨by rw [decide_eq_false (fun e => by subst e; simp at *)], rfl⟩, (.le fun a => by (try simp only [setR, List.cons_append, List.nil_append]); simp only [List.flatten_append, List.flatten_cons, List.flatten_nil, List.count_append, List.count_nil, List.append_nil, List.nil_append]; omega)⟩
    ·
      simp at q3
      refine VCsplit.intro (fun q4 => ?_) (fun q4 => ?_)
      ·
        simp at q4
        simp only [str_inj, u8_inj, u8_wrap] at q4
        exact ⟨[], ⟨by rw [decide_eq_false (fun e => by subst e; simp at *)], rfl⟩, (.le fun a => by (try simp only [setR, List.cons_append, List.nil_append]); simp only [List.flatten_append, List.flatten_cons, List.flatten_nil, List.count_append, List.count_nil, List.append_nil, List.nil_append]; omega)⟩
      ·
        simp at q4
        simp only [str_inj, u8_inj, u8_wrap] at q4
        refine VCsplit.intro (fun q5 => ?_) (fun q5 => ?_)
        ·
          simp at q5
          exact ⟨[], ⟨by rw [decide_eq_false (fun e => by subst e; simp at *)], rfl⟩, (.le fun a => by (try simp only [setR, List.cons_append, List.nil_append]); simp only [List.flatten_append, List.flatten_cons, List.flatten_nil, List.count_append, List.count_nil, List.append_nil, List.nil_append]; omega)⟩
        ·
          simp at q5
          exact ⟨[], ⟨by rw [decide_eq_true (Filter.eq_iff.2 (by simp_all))], rfl⟩, (.le fun a => by (try simp only [setR, List.cons_append, List.nil_append]); simp only [List.flatten_append, List.flatten_cons, List.flatten_nil, List.count_append, List.count_nil, List.append_nil, List.nil_append]; omega)⟩
--@ct laws.szAtomS raw refine call_q (szAtomS_ct _ _ _ $1 _ ?_ ?_) %1 ?_ | | rintro _ ⟨r#, rfl, hr#⟩
theorem szAtomS_ct (b : Option Addr) (m c : Nat) (xs : List Atom) (left : Int) (h0 : 0 ≤ left) (h1 : left ≤ 1048576) :
    Ct Tryz.prog 43 [.slice b m c, .int .i64 left] [] (fun H => (gSl 154 gAtom).rd H [.slice b m c] xs) (fun v A => (∃ r : Int, v = .int .i64 r ∧ ((r = -1 ∧ left < (szL gAtom xs : Int)) ∨ (r = left - (szL gAtom xs : Int) ∧ (szL gAtom xs : Int) ≤ left))) ∧ A = []) := by
  refine Ct.intro0 G_ok Tryz.func43 rfl rfl rfl fun E H hp => ?_
  obtain ⟨rfl, hcl, hl⟩ := sl_len hp
  have hq := szL_eq gAtom xs
  have ht := List.take_length (l := xs)
  refine VCsplit.intro (fun q0 => ?_) (fun q0 => ?_)
  ·
    simp at q0
    simp (disch := omega) only [wrap_of] at q0
    exact ⟨[], ⟨⟨-1, rfl, .inl ⟨rfl, by (try simp (disch := omega) only [wrap_of] at *); omega⟩⟩, rfl⟩, (.le fun a => by (try simp only [setR, List.cons_append, List.nil_append]); simp only [List.flatten_append, List.flatten_cons, List.flatten_nil, List.count_append, List.count_nil, List.append_nil, List.nil_append]; omega)⟩
  ·
    simp at q0
    simp (disch := omega) only [wrap_of] at q0
    apply loop_mod (α := (Nat) × (Int)) G_ok [12, 13, 14, 15, 18, 19, 20, 21, 22, 23, 1, 24, 25, 4, 16, 17, 5] (fun z => [(5, .v (.int .i64 z.1)), (1, .v (.int .i64 z.2))]) (fun z => []) (fun z => [H]) (fun z => xs.length - z.1) (fun z => z.1 ≤ xs.length ∧ z.2 = left - xs.length - szE gAtom (xs.take z.1) ∧ 0 ≤ z.2) ((0, left - xs.length))
    · repeat' (first | exact trivial | refine ⟨⟨_, rfl, by first | rfl | exact inc_eq _ (by omega) | (refine sl_eq ?_; simp; done) | (simp (disch := omega) only [wrap_of]), by first | exact trivial | simp [SV.ok]⟩, ?_⟩)
    · exact trivial
    · try dsimp only
      exact ⟨by omega, by simp [szE], by omega⟩
    · exact .refl _
    rintro ⟨k, lf⟩ hI
    obtain ⟨hk, hlf, hnn⟩ : k ≤ xs.length ∧ lf = left - xs.length - szE gAtom (xs.take k) ∧ 0 ≤ lf := hI
    try dsimp only
    refine VCsplit.intro (fun q1 => ?_) (fun q1 => ?_)
    ·
      simp at q1
      have hs := szE_step gAtom xs k default (by omega)
      have hs2 := szE_le gAtom xs (k + 1)
      refine idx_rd hp ?_ ?_ fun b2 o2 hb2 => ?_
      · omega
      · omega
      refine load_allN default (k) rfl hp ?_ ?_ hb2 rfl (mem_at 0 rfl) fun l3 hl3 => ?_
      · omega
      · omega
      obtain ⟨rfl, w0x3, w1x3, w2x3⟩ := gAtom_rd.1 hl3
      refine call_q (szAtom_ct _ (xs[k]?.getD default) _ ?_ ?_) (Rp.mono _ (mem_at 0 rfl) hl3) ?_
      · trivial
      · omega
      rintro _ ⟨r4, rfl, hr4⟩
      refine VCsplit.intro (fun q5 => ?_) (fun q5 => ?_)
      ·
        simp at q5
        exact ⟨[], ⟨⟨-1, rfl, .inl ⟨rfl, by (try simp (disch := omega) only [wrap_of] at *); omega⟩⟩, rfl⟩, (.le fun a => by (try simp only [setR, List.cons_append, List.nil_append]); simp only [List.flatten_append, List.flatten_cons, List.flatten_nil, List.count_append, List.count_nil, List.append_nil, List.nil_append]; omega)⟩
      ·
        simp at q5
        apply loop_stepA (k + 1, _)
        · exact .refl _
        · repeat' (first | exact trivial | refine ⟨⟨_, rfl, by first | rfl | exact inc_eq _ (by omega) | (refine sl_eq ?_; simp; done) | (simp (disch := omega) only [wrap_of]), by first | exact trivial | simp [SV.ok]⟩, ?_⟩)
        · exact trivial
        · try dsimp only
          ((try simp (disch := omega) only [wrap_of] at *); refine ⟨by omega, by omega, by omega⟩)
        try dsimp only
        omega
    ·
      simp at q1
      obtain rfl : k = xs.length := by omega
      rw [List.take_length] at hlf
      exact ⟨[], ⟨⟨_, rfl, .inr ⟨by (try simp (disch := omega) only [wrap_of] at *); omega, by omega⟩⟩, rfl⟩, (.le fun a => by (try simp only [setR, List.cons_append, List.nil_append]); simp only [List.flatten_append, List.flatten_cons, List.flatten_nil, List.count_append, List.count_nil, List.append_nil, List.nil_append]; omega)⟩
--@ct laws.toAtomS new toAtomS_ct _ _ _ $1 ?_ | %1 | obtain ⟨b#, c#, rfl, o#⟩ := o#
theorem toAtomS_ct (b : Option Addr) (m c : Nat) (xs : List Atom) (hx : szL gAtom xs ≤ 1048576) :
    Ct Tryz.prog 50 [.slice b m c] [] (fun H => (gSl 154 gAtom).rd H [.slice b m c] xs) (fun v A => ∃ b c, v = .slice b xs.length c ∧ (gSl 154 gAtom).ow [.slice b xs.length c] xs A) := by
  refine Ct.intro0 G_ok Tryz.func50 rfl rfl rfl fun E H hp => ?_
  obtain ⟨rfl, hcl, hl⟩ := sl_len hp
  have hls := len_szL gAtom xs
  have hq := szL_eq gAtom xs
  refine VCmake.intro ?_ ?_ ?_ ?_ fun x0 => ?_
  · omega
  · omega
  · omega
  · omega
  apply loop_mod (α := (Nat) × (Hp)) G_ok [8, 9, 10, 11, 14, 15, 16, 17, 18, 19, 20, 21, 12, 13, 4] (fun z => [(4, .v (.int .i64 z.1))]) (fun z => []) (fun z => [z.2, H]) (fun z => xs.length - z.1) (fun z => z.1 ≤ xs.length ∧ (gSl 154 gAtom).ow [.slice (some ⟨x0, 0, none⟩) xs.length xs.length] (xs.take z.1 ++ List.replicate (xs.length - z.1) zAtom) z.2) ((0, _))
  · repeat' (first | exact trivial | refine ⟨⟨_, rfl, by first | rfl | exact inc_eq _ (by omega) | (refine sl_eq ?_; simp; done), by first | exact trivial | simp [SV.ok]⟩, ?_⟩)
  · exact trivial
  · try dsimp only
    exact ⟨by omega, by simpa using gmake (g := gAtom) (T := 154) (b := x0) (zAtom_ow) (Nat.le_refl xs.length) (by omega)⟩
  · exact .refl _
  rintro ⟨k, A⟩ hI
  obtain ⟨hk, oA⟩ : k ≤ xs.length ∧ (gSl 154 gAtom).ow [.slice (some ⟨x0, 0, none⟩) xs.length xs.length] (xs.take k ++ List.replicate (xs.length - k) zAtom) A := hI
  try dsimp only
  refine VCsplit.intro (fun q1 => ?_) (fun q1 => ?_)
  ·
    simp at q1
    have hs := szE_step gAtom xs k default (by omega)
    have hs2 := szE_le gAtom xs (k + 1)
    refine idx_rd hp ?_ ?_ fun b2 o2 hb2 => ?_
    · omega
    · omega
    refine load_allN default (k) rfl hp ?_ ?_ hb2 rfl (mem_at 1 rfl) fun l3 hl3 => ?_
    · omega
    · omega
    obtain ⟨rfl, w0x3, w1x3, w2x3⟩ := gAtom_rd.1 hl3
    refine call_new (toAtom_ct _ (xs[k]?.getD default) ?_) (Rp.mono _ (mem_at 1 rfl) hl3) ?_
    · omega
    rintro v4 A4 o4
    obtain ⟨l4, rfl, o4⟩ := o4
    have r4 := Gt.owrd _ o4
    obtain ⟨rfl, w0x4, w1x4, w2x4⟩ := gAtom_rd.1 r4
    refine idx_rd (Gt.owrd _ oA) ?_ ?_ fun b5 o5 hb5 => ?_
    · omega
    · simp; omega
    refine gstore1N (k) (A) (A4) [H] (.le fun a => by (try simp only [setR, List.cons_append, List.nil_append]); simp only [List.flatten_append, List.flatten_cons, List.flatten_nil, List.count_append, List.count_nil, List.append_nil, List.nil_append]; omega) rfl oA ?_ ?_ hb5 rfl _ o4 fun A6 o6 => ?_
    · omega
    · simp; omega
    apply loop_stepA (k + 1, _)
    · exact .refl _
    · repeat' (first | exact trivial | refine ⟨⟨_, rfl, by first | rfl | exact inc_eq _ (by omega) | (refine sl_eq ?_; simp; done), by first | exact trivial | simp [SV.ok]⟩, ?_⟩)
    · exact trivial
    · try dsimp only
      exact ⟨by omega, by rw [← take_stepz xs k default zAtom (by omega)] ; assumption⟩
    try dsimp only
    omega
  ·
    simp at q1
    obtain rfl : k = xs.length := by omega
    rw [List.take_length, Nat.sub_self, List.replicate_zero, List.append_nil] at oA
    exact ⟨_, ⟨_, _, rfl, oA⟩, (.le fun a => by (try simp only [setR, List.cons_append, List.nil_append]); simp only [List.flatten_append, List.flatten_cons, List.flatten_nil, List.count_append, List.count_nil, List.append_nil, List.nil_append]; omega)⟩
--@ct laws.eqAtomS val eqAtomS_ct _ _ _ _ _ _ $1 $2 | ⟨%1, %2⟩
theorem eqAtomS_ct (b1 : Option Addr) (m1 c1 : Nat) (b2 : Option Addr) (m2 c2 : Nat) (xs ys : List Atom) :
    Ct Tryz.prog 57 [.slice b1 m1 c1, .slice b2 m2 c2] [] (fun H => (gSl 154 gAtom).rd H [.slice b1 m1 c1] xs ∧ (gSl 154 gAtom).rd H [.slice b2 m2 c2] ys) (fun v A => v = .bool (decide (xs = ys)) ∧ A = []) := by
  refine Ct.intro0 G_ok Tryz.func57 rfl rfl rfl fun E H hp => ?_
  obtain ⟨hp1, hp2⟩ := hp
  obtain ⟨rfl, hc1, hl1⟩ := sl_len hp1
  obtain ⟨rfl, hc2, hl2⟩ := sl_len hp2
  refine VCsplit.intro (fun q0 => ?_) (fun q0 => ?_)
  ·
    simp at q0
    exact ⟨[], ⟨by rw [decide_eq_false (fun e => by subst e; omega)], rfl⟩, (.le fun a => by (try simp only [setR, List.cons_append, List.nil_append]); simp only [List.flatten_append, List.flatten_cons, List.flatten_nil, List.count_append, List.count_nil, List.append_nil, List.nil_append]; omega)⟩
  ·
    simp at q0
    apply loop_mod (α := (Nat)) G_ok [11, 12, 13, 14, 17, 18, 19, 20, 21, 22, 23, 24, 25, 26, 4, 15, 16, 5] (fun z => [(5, .v (.int .i64 z))]) (fun z => []) (fun z => [H]) (fun z => xs.length - z) (fun z => z ≤ xs.length ∧ xs.take z = ys.take z) (0)
    · repeat' (first | exact trivial | refine ⟨⟨_, rfl, by first | rfl | exact inc_eq _ (by omega) | (refine sl_eq ?_; simp; done), by first | exact trivial | simp [SV.ok]⟩, ?_⟩)
    · exact trivial
    · exact ⟨by omega, by simp⟩
    · exact .refl _
    rintro k hI
    obtain ⟨hk, he⟩ : k ≤ xs.length ∧ xs.take k = ys.take k := hI
    try dsimp only
    refine VCsplit.intro (fun q1 => ?_) (fun q1 => ?_)
    ·
      simp at q1
      refine draw G_ok mixed none (.q 0 (.q 1 (.q 2 (.q 3 (.q 4 (.q 5 (.q 6 (.q 7 (.f 8 (.q 9 (.nil))))))))))) (by decide +kernel) ?_
      refine idx_rd hp1 ?_ ?_ fun b2 o2 hb2 => ?_
      · omega
      · omega
      refine load_allN default (k) rfl hp1 ?_ ?_ hb2 rfl (mem_at 0 rfl) fun l3 hl3 => ?_
      · omega
      · omega
      obtain ⟨rfl, w0x3, w1x3, w2x3⟩ := gAtom_rd.1 hl3
      refine idx_rd hp2 ?_ ?_ fun b4 o4 hb4 => ?_
      · omega
      · omega
      refine load_allN default (k) rfl hp2 ?_ ?_ hb4 rfl (mem_at 0 rfl) fun l5 hl5 => ?_
      · omega
      · omega
      obtain ⟨rfl, w0x5, w1x5, w2x5⟩ := gAtom_rd.1 hl5
      refine call_val (eqAtom_ct _ _ (xs[k]?.getD default) (ys[k]?.getD default)) ⟨(Rp.mono _ (mem_at 0 rfl) hl3), (Rp.mono _ (mem_at 0 rfl) hl5)⟩ ?_
      rintro _ rfl
      refine VC.intro ?_ ?_
      · exact fun _ h => h
      refine VCsplit.intro (fun q7 => ?_) (fun q7 => ?_)
      ·
        simp at q7
        exact ⟨[], ⟨by rw [decide_eq_false (fun e => by subst e; simp at *)], rfl⟩, (.le fun a => by (try simp only [setR, List.cons_append, List.nil_append]); simp only [List.flatten_append, List.flatten_cons, List.flatten_nil, List.count_append, List.count_nil, List.append_nil, List.nil_append]; omega)⟩
      ·
        simp at q7
        apply loop_stepA (k + 1)
        · exact .refl _
        · repeat' (first | exact trivial | refine ⟨⟨_, rfl, by first | rfl | exact inc_eq _ (by omega) | (refine sl_eq ?_; simp; done), by first | exact trivial | simp [SV.ok]⟩, ?_⟩)
        · exact trivial
        · exact ⟨by omega, eq_step default (by omega) he (by omega) (by simpa using ‹_›)⟩
        omega
    ·
      simp at q1
      exact ⟨[], ⟨by rw [decide_eq_true]; rw [← List.take_length (l := xs), ← List.take_length (l := ys), ← (by omega : xs.length = ys.length), show xs.length = k by omega]; exact he, rfl⟩, (.le fun a => by (try simp only [setR, List.cons_append, List.nil_append]); simp only [List.flatten_append, List.flatten_cons, List.flatten_nil, List.count_append, List.count_nil, List.append_nil, List.nil_append]; omega)⟩
--@ct laws.szFilterS raw refine call_q (szFilterS_ct _ _ _ $1 _ ?_ ?_) %1 ?_ | | rintro _ ⟨r#, rfl, hr#⟩
theorem szFilterS_ct (b : Option Addr) (m c : Nat) (xs : List Filter) (left : Int) (h0 : 0 ≤ left) (h1 : left ≤ 1048576) :
    Ct Tryz.prog 44 [.slice b m c, .int .i64 left] [] (fun H => (gSl 157 gFilter).rd H [.slice b m c] xs) (fun v A => (∃ r : Int, v = .int .i64 r ∧ ((r = -1 ∧ left < (szL gFilter xs : Int)) ∨ (r = left - (szL gFilter xs : Int) ∧ (szL gFilter xs : Int) ≤ left))) ∧ A = []) := by
  refine Ct.intro0 G_ok Tryz.func44 rfl rfl rfl fun E H hp => ?_
  obtain ⟨rfl, hcl, hl⟩ := sl_len hp
  have hq := szL_eq gFilter xs
  have ht := List.take_length (l := xs)
  refine VCsplit.intro (fun q0 => ?_) (fun q0 => ?_)
  ·
    simp at q0
    simp (disch := omega) only [wrap_of] at q0
    exact ⟨[], ⟨⟨-1, rfl, .inl ⟨rfl, by (try simp (disch := omega) only [wrap_of] at *); omega⟩⟩, rfl⟩, (.le fun a => by (try simp only [setR, List.cons_append, List.nil_append]); simp only [List.flatten_append, List.flatten_cons, List.flatten_nil, List.count_append, List.count_nil, List.append_nil, List.nil_append]; omega)⟩
  ·
    simp at q0
    simp (disch := omega) only [wrap_of] at q0
    apply loop_mod (α := (Nat) × (Int)) G_ok [12, 13, 14, 15, 18, 19, 20, 21, 22, 23, 1, 24, 25, 4, 16, 17, 5] (fun z => [(5, .v (.int .i64 z.1)), (1, .v (.int .i64 z.2))]) (fun z => []) (fun z => [H]) (fun z => xs.length - z.1) (fun z => z.1 ≤ xs.length ∧ z.2 = left - xs.length - szE gFilter (xs.take z.1) ∧ 0 ≤ z.2) ((0, left - xs.length))
    · repeat' (first | exact trivial | refine ⟨⟨_, rfl, by first | rfl | exact inc_eq _ (by omega) | (refine sl_eq ?_; simp; done) | (simp (disch := omega) only [wrap_of]), by first | exact trivial | simp [SV.ok]⟩, ?_⟩)
    · exact trivial
    · try dsimp only
      exact ⟨by omega, by simp [szE], by omega⟩
    · exact .refl _
    rintro ⟨k, lf⟩ hI
    obtain ⟨hk, hlf, hnn⟩ : k ≤ xs.length ∧ lf = left - xs.length - szE gFilter (xs.take k) ∧ 0 ≤ lf := hI
    try dsimp only
    refine VCsplit.intro (fun q1 => ?_) (fun q1 => ?_)
    ·
      simp at q1
      have hs := szE_step gFilter xs k default (by omega)
      have hs2 := szE_le gFilter xs (k + 1)
      refine idx_rd hp ?_ ?_ fun b2 o2 hb2 => ?_
      · omega
      · omega
      refine load_allN default (k) rfl hp ?_ ?_ hb2 rfl (mem_at 0 rfl) fun l3 hl3 => ?_
      · omega
      · omega
      obtain ⟨rfl, w0x3, w1x3, w2x3, w3x3⟩ := gFilter_rd.1 hl3
      refine call_q (szFilter_ct _ (xs[k]?.getD default) _ ?_ ?_) (Rp.mono _ (mem_at 0 rfl) hl3) ?_
      · trivial
      · omega
      rintro _ ⟨r4, rfl, hr4⟩
      refine VCsplit.intro (fun q5 => ?_) (fun q5 => ?_)
      ·
        simp at q5
        exact ⟨[], ⟨⟨-1, rfl, .inl ⟨rfl, by (try simp (disch := omega) only [wrap_of] at *); omega⟩⟩, rfl⟩, (.le fun a => by (try simp only [setR, List.cons_append, List.nil_append]); simp only [List.flatten_append, List.flatten_cons, List.flatten_nil, List.count_append, List.count_nil, List.append_nil, List.nil_append]; omega)⟩
      ·
        simp at q5
        apply loop_stepA (k + 1, _)
        · exact .refl _
        · repeat' (first | exact trivial | refine ⟨⟨_, rfl, by first | rfl | exact inc_eq _ (by omega) | (refine sl_eq ?_; simp; done) | (simp (disch := omega) only [wrap_of]), by first | exact trivial | simp [SV.ok]⟩, ?_⟩)
        · exact trivial
        · try dsimp only
          ((try simp (disch := omega) only [wrap_of] at *); refine ⟨by omega, by omega, by omega⟩)
        try dsimp only
        omega
    ·
      simp at q1
      obtain rfl : k = xs.length := by omega
      rw [List.take_length] at hlf
      exact ⟨[], ⟨⟨_, rfl, .inr ⟨by (try simp (disch := omega) only [wrap_of] at *); omega, by omega⟩⟩, rfl⟩, (.le fun a => by (try simp only [setR, List.cons_append, List.nil_append]); simp only [List.flatten_append, List.flatten_cons, List.flatten_nil, List.count_append, List.count_nil, List.append_nil, List.nil_append]; omega)⟩
--@ct laws.toFilterS new toFilterS_ct _ _ _ $1 ?_ | %1 | obtain ⟨b#, c#, rfl, o#⟩ := o#
theorem toFilterS_ct (b : Option Addr) (m c : Nat) (xs : List Filter) (hx : szL gFilter xs ≤ 1048576) :
    Ct Tryz.prog 51 [.slice b m c] [] (fun H => (gSl 157 gFilter).rd H [.slice b m c] xs) (fun v A => ∃ b c, v = .slice b xs.length c ∧ (gSl 157 gFilter).ow [.slice b xs.length c] xs A) := by
  refine Ct.intro0 G_ok Tryz.func51 rfl rfl rfl fun E H hp => ?_
  obtain ⟨rfl, hcl, hl⟩ := sl_len hp
  have hls := len_szL gFilter xs
  have hq := szL_eq gFilter xs
  refine VCmake.intro ?_ ?_ ?_ ?_ fun x0 => ?_
  · omega
  · omega
  · omega
  · omega
  apply loop_mod (α := (Nat) × (Hp)) G_ok [8, 9, 10, 11, 14, 15, 16, 17, 18, 19, 20, 21, 12, 13, 4] (fun z => [(4, .v (.int .i64 z.1))]) (fun z => []) (fun z => [z.2, H]) (fun z => xs.length - z.1) (fun z => z.1 ≤ xs.length ∧ (gSl 157 gFilter).ow [.slice (some ⟨x0, 0, none⟩) xs.length xs.length] (xs.take z.1 ++ List.replicate (xs.length - z.1) zFilter) z.2) ((0, _))
  · repeat' (first | exact trivial | refine ⟨⟨_, rfl, by first | rfl | exact inc_eq _ (by omega) | (refine sl_eq ?_; simp; done), by first | exact trivial | simp [SV.ok]⟩, ?_⟩)
  · exact trivial
  · try dsimp only
    exact ⟨by omega, by simpa using gmake (g := gFilter) (T := 157) (b := x0) (zFilter_ow) (Nat.le_refl xs.length) (by omega)⟩
  · exact .refl _
  rintro ⟨k, A⟩ hI
  obtain ⟨hk, oA⟩ : k ≤ xs.length ∧ (gSl 157 gFilter).ow [.slice (some ⟨x0, 0, none⟩) xs.length xs.length] (xs.take k ++ List.replicate (xs.length - k) zFilter) A := hI
  try dsimp only
  refine VCsplit.intro (fun q1 => ?_) (fun q1 => ?_)
  ·
    simp at q1
    have hs := szE_step gFilter xs k default (by omega)
    have hs2 := szE_le gFilter xs (k + 1)
    refine idx_rd hp ?_ ?_ fun b2 o2 hb2 => ?_
    · omega
    · omega
    refine load_allN default (k) rfl hp ?_ ?_ hb2 rfl (mem_at 1 rfl) fun l3 hl3 => ?_
    · omega
    · omega
    obtain ⟨rfl, w0x3, w1x3, w2x3, w3x3⟩ := gFilter_rd.1 hl3
    refine call_new (toFilter_ct _ (xs[k]?.getD default) ?_) (Rp.mono _ (mem_at 1 rfl) hl3) ?_
    · omega
    rintro v4 A4 o4
    obtain ⟨l4, rfl, o4⟩ := o4
    have r4 := Gt.owrd _ o4
    obtain ⟨rfl, w0x4, w1x4, w2x4, w3x4⟩ := gFilter_rd.1 r4
    refine idx_rd (Gt.owrd _ oA) ?_ ?_ fun b5 o5 hb5 => ?_
    · omega
    · simp; omega
    refine gstore1N (k) (A) (A4) [H] (.le fun a => by (try simp only [setR, List.cons_append, List.nil_append]); simp only [List.flatten_append, List.flatten_cons, List.flatten_nil, List.count_append, List.count_nil, List.append_nil, List.nil_append]; omega) rfl oA ?_ ?_ hb5 rfl _ o4 fun A6 o6 => ?_
    · omega
    · simp; omega
    apply loop_stepA (k + 1, _)
    · exact .refl _
    · repeat' (first | exact trivial | refine ⟨⟨_, rfl, by first | rfl | exact inc_eq _ (by omega) | (refine sl_eq ?_; simp; done), by first | exact trivial | simp [SV.ok]⟩, ?_⟩)
    · exact trivial
    · try dsimp only
      exact ⟨by omega, by rw [← take_stepz xs k default zFilter (by omega)] ; assumption⟩
    try dsimp only
    omega
  ·
    simp at q1
    obtain rfl : k = xs.length := by omega
    rw [List.take_length, Nat.sub_self, List.replicate_zero, List.append_nil] at oA
    exact ⟨_, ⟨_, _, rfl, oA⟩, (.le fun a => by (try simp only [setR, List.cons_append, List.nil_append]); simp only [List.flatten_append, List.flatten_cons, List.flatten_nil, List.count_append, List.count_nil, List.append_nil, List.nil_append]; omega)⟩
--@ct laws.eqFilterS val eqFilterS_ct _ _ _ _ _ _ $1 $2 | ⟨%1, %2⟩
theorem eqFilterS_ct (b1 : Option Addr) (m1 c1 : Nat) (b2 : Option Addr) (m2 c2 : Nat) (xs ys : List Filter) :
    Ct Tryz.prog 58 [.slice b1 m1 c1, .slice b2 m2 c2] [] (fun H => (gSl 157 gFilter).rd H [.slice b1 m1 c1] xs ∧ (gSl 157 gFilter).rd H [.slice b2 m2 c2] ys) (fun v A => v = .bool (decide (xs = ys)) ∧ A = []) := by
  refine Ct.intro0 G_ok Tryz.func58 rfl rfl rfl fun E H hp => ?_
  obtain ⟨hp1, hp2⟩ := hp
  obtain ⟨rfl, hc1, hl1⟩ := sl_len hp1
  obtain ⟨rfl, hc2, hl2⟩ := sl_len hp2
  refine VCsplit.intro (fun q0 => ?_) (fun q0 => ?_)
  ·
    simp at q0
    exact ⟨[], ⟨by rw [decide_eq_false (fun e => by subst e; omega)], rfl⟩, (.le fun a => by (try simp only [setR, List.cons_append, List.nil_append]); simp only [List.flatten_append, List.flatten_cons, List.flatten_nil, List.count_append, List.count_nil, List.append_nil, List.nil_append]; omega)⟩
  ·
    simp at q0
    apply loop_mod (α := (Nat)) G_ok [11, 12, 13, 14, 17, 18, 19, 20, 21, 22, 23, 24, 25, 26, 4, 15, 16, 5] (fun z => [(5, .v (.int .i64 z))]) (fun z => []) (fun z => [H]) (fun z => xs.length - z) (fun z => z ≤ xs.length ∧ xs.take z = ys.take z) (0)
    · repeat' (first | exact trivial | refine ⟨⟨_, rfl, by first | rfl | exact inc_eq _ (by omega) | (refine sl_eq ?_; simp; done), by first | exact trivial | simp [SV.ok]⟩, ?_⟩)
    · exact trivial
    · exact ⟨by omega, by simp⟩
    · exact .refl _
    rintro k hI
    obtain ⟨hk, he⟩ : k ≤ xs.length ∧ xs.take k = ys.take k := hI
    try dsimp only
    refine VCsplit.intro (fun q1 => ?_) (fun q1 => ?_)
    ·
      simp at q1
      refine draw G_ok mixed none (.q 0 (.q 1 (.q 2 (.q 3 (.q 4 (.q 5 (.q 6 (.q 7 (.f 8 (.q 9 (.nil))))))))))) (by decide +kernel) ?_
      refine idx_rd hp1 ?_ ?_ fun b2 o2 hb2 => ?_
      · omega
      · omega
      refine load_allN default (k) rfl hp1 ?_ ?_ hb2 rfl (mem_at 0 rfl) fun l3 hl3 => ?_
      · omega
      · omega
      obtain ⟨rfl, w0x3, w1x3, w2x3, w3x3⟩ := gFilter_rd.1 hl3
      refine idx_rd hp2 ?_ ?_ fun b4 o4 hb4 => ?_
      · omega
      · omega
      refine load_allN default (k) rfl hp2 ?_ ?_ hb4 rfl (mem_at 0 rfl) fun l5 hl5 => ?_
      · omega
      · omega
      obtain ⟨rfl, w0x5, w1x5, w2x5, w3x5⟩ := gFilter_rd.1 hl5
      refine call_val (eqFilter_ct _ _ (xs[k]?.getD default) (ys[k]?.getD default)) ⟨(Rp.mono _ (mem_at 0 rfl) hl3), (Rp.mono _ (mem_at 0 rfl) hl5)⟩ ?_
      rintro _ rfl
      refine VC.intro ?_ ?_
      · exact fun _ h => h
      refine VCsplit.intro (fun q7 => ?_) (fun q7 => ?_)
      ·
        simp at q7
        exact ⟨[], ⟨by rw [decide_eq_false (fun e => by subst e; simp at *)], rfl⟩, (.le fun a => by (try simp only [setR, List.cons_append, List.nil_append]); simp only [List.flatten_append, List.flatten_cons, List.flatten_nil, List.count_append, List.count_nil, List.append_nil, List.nil_append]; omega)⟩
      ·
        simp at q7
        apply loop_stepA (k + 1)
        · exact .refl _
        · repeat' (first | exact trivial | refine ⟨⟨_, rfl, by first | rfl | exact inc_eq _ (by omega) | (refine sl_eq ?_; simp; done), by first | exact trivial | simp [SV.ok]⟩, ?_⟩)
        · exact trivial
        · exact ⟨by omega, eq_step default (by omega) he (by omega) (by simpa using ‹_›)⟩
        omega
    ·
      simp at q1
      exact ⟨[], ⟨by rw [decide_eq_true]; rw [← List.take_length (l := xs), ← List.take_length (l := ys), ← (by omega : xs.length = ys.length), show xs.length = k by omega]; exact he, rfl⟩, (.le fun a => by (try simp only [setR, List.cons_append, List.nil_append]); simp only [List.flatten_append, List.flatten_cons, List.flatten_nil, List.count_append, List.count_nil, List.append_nil, List.nil_append]; omega)⟩
--@ct laws.szQuery raw refine call_q (szQuery_ct _ $1 _ ?_ ?_) %1 ?_ | | rintro _ ⟨r#, rfl, hr#⟩
theorem szQuery_ct (l : List Value) (x : Query) (left : Int) (h0 : 0 ≤ left) (h1 : left ≤ 1048576) :
    Ct Tryz.prog 11 [.agg ⟨l⟩, .int .i64 left] [] (fun H => gQuery.rd H l x) (fun v A => (∃ r : Int, v = .int .i64 r ∧ ((r = -1 ∧ left < (gQuery.sz x : Int)) ∨ (r = left - (gQuery.sz x : Int) ∧ (gQuery.sz x : Int) ≤ left))) ∧ A = []) := by
  refine Ct.intro0 G_ok Tryz.func11 rfl rfl rfl fun E H hp => ?_
  obtain ⟨b1, c1, b2, c2, b3, c3, rfl, h1, h2, h3⟩ := gQuery_rd.1 hp
  have hz := gQuery_sz x
  refine VCnew.intro fun x0 => ?_
  refine call_q (szStringS_ct _ _ _ (x.out) _ ?_ ?_) (Rp.mono _ (mem_at 0 rfl) h1) ?_
  · trivial
  · trivial
  rintro _ ⟨r1, rfl, hr1⟩
  refine VCsplit.intro (fun q2 => ?_) (fun q2 => ?_)
  ·
    simp at q2
    exact ⟨[], ⟨⟨-1, rfl, .inl ⟨rfl, by (try simp (disch := omega) only [wrap_of] at *); omega⟩⟩, rfl⟩, (.le fun a => by (try simp only [setR, List.cons_append, List.nil_append]); simp only [List.flatten_append, List.flatten_cons, List.flatten_nil, List.count_append, List.count_nil, List.append_nil, List.nil_append]; omega)⟩
  ·
    simp at q2
    refine call_q (szAtomS_ct _ _ _ (x.atoms) _ ?_ ?_) (Rp.mono _ (mem_at 0 rfl) h2) ?_
    · trivial
    · omega
    rintro _ ⟨r3, rfl, hr3⟩
    refine VCsplit.intro (fun q4 => ?_) (fun q4 => ?_)
    ·
      simp at q4
      exact ⟨[], ⟨⟨-1, rfl, .inl ⟨rfl, by (try simp (disch := omega) only [wrap_of] at *); omega⟩⟩, rfl⟩, (.le fun a => by (try simp only [setR, List.cons_append, List.nil_append]); simp only [List.flatten_append, List.flatten_cons, List.flatten_nil, List.count_append, List.count_nil, List.append_nil, List.nil_append]; omega)⟩
    ·
      simp at q4
      refine call_q (szFilterS_ct _ _ _ (x.filters) _ ?_ ?_) (Rp.mono _ (mem_at 0 rfl) h3) ?_
      · trivial
      · omega
      rintro _ ⟨r5, rfl, hr5⟩
      refine VCsplit.intro (fun q6 => ?_) (fun q6 => ?_)
      ·
        simp at q6
        exact ⟨[], ⟨⟨-1, rfl, .inl ⟨rfl, by (try simp (disch := omega) only [wrap_of] at *); omega⟩⟩, rfl⟩, (.le fun a => by (try simp only [setR, List.cons_append, List.nil_append]); simp only [List.flatten_append, List.flatten_cons, List.flatten_nil, List.count_append, List.count_nil, List.append_nil, List.nil_append]; omega)⟩
      ·
        simp at q6
        exact ⟨[], ⟨⟨_, rfl, .inr ⟨by (try simp (disch := omega) only [wrap_of] at *); omega, by omega⟩⟩, rfl⟩, (.le fun a => by (try simp only [setR, List.cons_append, List.nil_append]); simp only [List.flatten_append, List.flatten_cons, List.flatten_nil, List.count_append, List.count_nil, List.append_nil, List.nil_append]; omega)⟩
--@ct laws.toQuery new toQuery_ct _ $1 ?_ | %1 | obtain ⟨l#, rfl, o#⟩ := o# ;; have r# := Gt.owrd _ o# ;; obtain ⟨b1x#, c1x#, b2x#, c2x#, b3x#, c3x#, rfl, h1x#, h2x#, h3x#⟩ := gQuery_rd.1 r#
theorem toQuery_ct (l : List Value) (x : Query) (hx : gQuery.sz x ≤ 1048576) :
    Ct Tryz.prog 13 [.agg ⟨l⟩] [] (fun H => gQuery.rd H l x) (fun v A => ∃ l, v = .agg ⟨l⟩ ∧ gQuery.ow l x A) := by
  refine Ct.intro0 G_ok Tryz.func13 rfl rfl rfl fun E H hp => ?_
  obtain ⟨b1, c1, b2, c2, b3, c3, rfl, h1, h2, h3⟩ := gQuery_rd.1 hp
  have hz := gQuery_sz x
  refine VCnew.intro fun x0 => ?_
  refine VCnew.intro fun x1 => ?_
  refine VCnew.intro fun x2 => ?_
  refine call_new (toStringS_ct _ _ _ (x.out) ?_) (Rp.mono _ (mem_at 0 rfl) h1) ?_
  · omega
  rintro v3 A3 o3
  obtain ⟨b3, c3, rfl, o3⟩ := o3
  refine call_new (toAtomS_ct _ _ _ (x.atoms) ?_) (Rp.mono _ (mem_at 1 rfl) h2) ?_
  · omega
  rintro v4 A4 o4
  obtain ⟨b4, c4, rfl, o4⟩ := o4
  refine call_new (toFilterS_ct _ _ _ (x.filters) ?_) (Rp.mono _ (mem_at 2 rfl) h3) ?_
  · omega
  rintro v5 A5 o5
  obtain ⟨b5, c5, rfl, o5⟩ := o5
  exact ⟨_, ⟨_, rfl, gQuery_ow.2 ⟨_, _, _, _, _, _, _, _, _, rfl, .refl _, by assumption, by assumption, by assumption⟩⟩, (.le fun a => by (try simp only [setR, List.cons_append, List.nil_append]); simp only [List.flatten_append, List.flatten_cons, List.flatten_nil, List.count_append, List.count_nil, List.append_nil, List.nil_append]; omega)⟩
--@ct laws.eqQuery val eqQuery_ct _ _ $1 $2 | ⟨%1, %2⟩
theorem eqQuery_ct (l1 l2 : List Value) (x y : Query) :
    Ct Tryz.prog 16 [.agg ⟨l1⟩, .agg ⟨l2⟩] [] (fun H => gQuery.rd H l1 x ∧ gQuery.rd H l2 y) (fun v A => v = .bool (decide (x = y)) ∧ A = []) := by
  refine Ct.intro0 G_ok Tryz.func16 rfl rfl rfl fun E H hp => ?_
  obtain ⟨hp1, hp2⟩ := hp
  obtain ⟨b1p, c1p, b2p, c2p, b3p, c3p, rfl, h1p, h2p, h3p⟩ := gQuery_rd.1 hp1
  obtain ⟨b1q, c1q, b2q, c2q, b3q, c3q, rfl, h1q, h2q, h3q⟩ := gQuery_rd.1 hp2
  refine VCnew.intro fun x0 => ?_
  refine VCnew.intro fun x1 => ?_
  refine VCsplit.intro (fun q2 => ?_) (fun q2 => ?_)
  ·
    simp at q2
    exact ⟨[], ⟨by rw [decide_eq_false (fun e => by subst e; simp at *)], rfl⟩, (.le fun a => by (try simp only [setR, List.cons_append, List.nil_append]); simp only [List.flatten_append, List.flatten_cons, List.flatten_nil, List.count_append, List.count_nil, List.append_nil, List.nil_append]; omega)⟩
  ·
    simp at q2
    refine call_val (eqStringS_ct _ _ _ _ _ _ (x.out) (y.out)) ⟨(Rp.mono _ (mem_at 0 rfl) h1p), (Rp.mono _ (mem_at 0 rfl) h1q)⟩ ?_
    rintro _ rfl
    refine VCsplit.intro (fun q4 => ?_) (fun q4 => ?_)
    ·
      simp at q4
      exact ⟨[], ⟨by rw [decide_eq_false (fun e => by subst e; simp at *)], rfl⟩, (.le fun a => by (try simp only [setR, List.cons_append, List.nil_append]); simp only [List.flatten_append, List.flatten_cons, List.flatten_nil, List.count_append, List.count_nil, List.append_nil, List.nil_append]; omega)⟩
    ·
      simp at q4
      refine call_val (eqAtomS_ct _ _ _ _ _ _ (x.atoms) (y.atoms)) ⟨(Rp.mono _ (mem_at 0 rfl) h2p), (Rp.mono _ (mem_at 0 rfl) h2q)⟩ ?_
      rintro _ rfl
      refine VCsplit.intro (fun q6 => ?_) (fun q6 => ?_)
      ·
        simp at q6
        exact ⟨[], ⟨by rw [decide_eq_false (fun e => by subst e; simp at *)], rfl⟩, (.le fun a => by (try simp only [setR, List.cons_append, List.nil_append]); simp only [List.flatten_append, List.flatten_cons, List.flatten_nil, List.count_append, List.count_nil, List.append_nil, List.nil_append]; omega)⟩
      ·
        simp at q6
        refine call_val (eqFilterS_ct _ _ _ _ _ _ (x.filters) (y.filters)) ⟨(Rp.mono _ (mem_at 0 rfl) h3p), (Rp.mono _ (mem_at 0 rfl) h3q)⟩ ?_
        rintro _ rfl
        refine VCsplit.intro (fun q8 => ?_) (fun q8 => ?_)
        ·
          simp at q8
          exact ⟨[], ⟨by rw [decide_eq_false (fun e => by subst e; simp at *)], rfl⟩, (.le fun a => by (try simp only [setR, List.cons_append, List.nil_append]); simp only [List.flatten_append, List.flatten_cons, List.flatten_nil, List.count_append, List.count_nil, List.append_nil, List.nil_append]; omega)⟩
        ·
          simp at q8
          exact ⟨[], ⟨by rw [decide_eq_true (Query.eq_iff.2 (by simp_all))], rfl⟩, (.le fun a => by (try simp only [setR, List.cons_append, List.nil_append]); simp only [List.flatten_append, List.flatten_cons, List.flatten_nil, List.count_append, List.count_nil, List.append_nil, List.nil_append]; omega)⟩
--@ct laws.szFile raw refine call_q (szFile_ct _ $1 _ ?_ ?_) %1 ?_ | | rintro _ ⟨r#, rfl, hr#⟩
--@ct laws.toFile new toFile_ct _ $1 ?_ | %1 | obtain ⟨l#, rfl, o#⟩ := o# ;; have r# := Gt.owrd _ o# ;; obtain ⟨rfl, w0x#, w1x#, w2x#⟩ := gFile_rd.1 r#
--@ct laws.eqFile val eqFile_ct _ _ $1 $2 | ⟨%1, %2⟩
--@ct laws.szFileS raw refine call_q (szFileS_ct _ _ _ $1 _ ?_ ?_) %1 ?_ | | rintro _ ⟨r#, rfl, hr#⟩
--@ct laws.toFileS new toFileS_ct _ _ _ $1 ?_ | %1 | obtain ⟨b#, c#, rfl, o#⟩ := o#
--@ct laws.eqFileS val eqFileS_ct _ _ _ _ _ _ $1 $2 | ⟨%1, %2⟩
--@ct laws.szDisk raw refine call_q (szDisk_ct _ $1 _ ?_ ?_) %1 ?_ | | rintro _ ⟨r#, rfl, hr#⟩
--@ct laws.toDisk new toDisk_ct _ $1 ?_ | %1 | obtain ⟨l#, rfl, o#⟩ := o# ;; have r# := Gt.owrd _ o# ;; obtain ⟨b0x#, c0x#, rfl, h0x#⟩ := gDisk_rd.1 r#
--@ct laws.eqDisk val eqDisk_ct _ _ $1 $2 | ⟨%1, %2⟩
--@ct laws.toWalk new toWalk_ct _ $1 ?_ | %1 | obtain ⟨l#, rfl, o#⟩ := o# ;; have r# := Gt.owrd _ o# ;; obtain ⟨rfl, w0x#, w1x#, w2x#, w3x#⟩ := gWalk_rd.1 r#
--@ct laws.eqWalk val eqWalk_ct _ _ $1 $2 | ⟨%1, %2⟩
theorem eqWalk_ct (l1 l2 : List Value) (x y : Walk) :
    Ct Tryz.prog 183 [.agg ⟨l1⟩, .agg ⟨l2⟩] [] (fun H => gWalk.rd H l1 x ∧ gWalk.rd H l2 y) (fun v A => v = .bool (decide (x = y)) ∧ A = []) := by
  refine Ct.intro0 G_ok Tryz.func183 rfl rfl rfl fun E H hp => ?_
  obtain ⟨hp1, hp2⟩ := hp
  obtain ⟨rfl, w0p, w1p, w2p, w3p⟩ := gWalk_rd.1 hp1
  obtain ⟨rfl, w0q, w1q, w2q, w3q⟩ := gWalk_rd.1 hp2
  refine VCnew.intro fun x0 => ?_
  refine VCnew.intro fun x1 => ?_
  refine VCsplit.intro (fun q2 => ?_) (fun q2 => ?_)
  ·
    simp at q2
    exact ⟨[], ⟨by rw [decide_eq_false (fun e => by subst e; simp at *)], rfl⟩, (.le fun a => by (try simp only [setR, List.cons_append, List.nil_append]); simp only [List.flatten_append, List.flatten_cons, List.flatten_nil, List.count_append, List.count_nil, List.append_nil, List.nil_append]; omega)⟩
  ·
    simp at q2
    refine VCsplit.intro (fun q3 => ?_) (fun q3 => ?_)
    ·
      simp at q3
      exact ⟨[], ⟨by rw [decide_eq_false (fun e => by subst e; simp at *)], rfl⟩, (.le fun a => by (try simp only [setR, List.cons_append, List.nil_append]); simp only [List.flatten_append, List.flatten_cons, List.flatten_nil, List.count_append, List.count_nil, List.append_nil, List.nil_append]; omega)⟩
    ·
      simp at q3
      refine VCsplit.intro (fun q4 => ?_) (fun q4 => ?_)
      ·
        simp at q4
        exact ⟨[], ⟨by rw [decide_eq_false (fun e => by subst e; simp at *)], rfl⟩, (.le fun a => by (try simp only [setR, List.cons_append, List.nil_append]); simp only [List.flatten_append, List.flatten_cons, List.flatten_nil, List.count_append, List.count_nil, List.append_nil, List.nil_append]; omega)⟩
      ·
        simp at q4
        refine VCsplit.intro (fun q5 => ?_) (fun q5 => ?_)
        ·
          simp at q5
          exact ⟨[], ⟨by rw [decide_eq_false (fun e => by subst e; simp at *)], rfl⟩, (.le fun a => by (try simp only [setR, List.cons_append, List.nil_append]); simp only [List.flatten_append, List.flatten_cons, List.flatten_nil, List.count_append, List.count_nil, List.append_nil, List.nil_append]; omega)⟩
        ·
          simp at q5
          exact ⟨[], ⟨by rw [decide_eq_true (Walk.eq_iff.2 (by simp_all))], rfl⟩, (.le fun a => by (try simp only [setR, List.cons_append, List.nil_append]); simp only [List.flatten_append, List.flatten_cons, List.flatten_nil, List.count_append, List.count_nil, List.append_nil, List.nil_append]; omega)⟩
--@ct laws.szWalkS raw refine call_q (szWalkS_ct _ _ _ $1 _ ?_ ?_) %1 ?_ | | rintro _ ⟨r#, rfl, hr#⟩
--@ct laws.toWalkS new toWalkS_ct _ _ _ $1 ?_ | %1 | obtain ⟨b#, c#, rfl, o#⟩ := o#
--@ct laws.eqWalkS val eqWalkS_ct _ _ _ _ _ _ $1 $2 | ⟨%1, %2⟩
theorem eqWalkS_ct (b1 : Option Addr) (m1 c1 : Nat) (b2 : Option Addr) (m2 c2 : Nat) (xs ys : List Walk) :
    Ct Tryz.prog 154 [.slice b1 m1 c1, .slice b2 m2 c2] [] (fun H => (gSl 184 gWalk).rd H [.slice b1 m1 c1] xs ∧ (gSl 184 gWalk).rd H [.slice b2 m2 c2] ys) (fun v A => v = .bool (decide (xs = ys)) ∧ A = []) := by
  refine Ct.intro0 G_ok Tryz.func154 rfl rfl rfl fun E H hp => ?_
  obtain ⟨hp1, hp2⟩ := hp
  obtain ⟨rfl, hc1, hl1⟩ := sl_len hp1
  obtain ⟨rfl, hc2, hl2⟩ := sl_len hp2
  refine VCsplit.intro (fun q0 => ?_) (fun q0 => ?_)
  ·
    simp at q0
    exact ⟨[], ⟨by rw [decide_eq_false (fun e => by subst e; omega)], rfl⟩, (.le fun a => by (try simp only [setR, List.cons_append, List.nil_append]); simp only [List.flatten_append, List.flatten_cons, List.flatten_nil, List.count_append, List.count_nil, List.append_nil, List.nil_append]; omega)⟩
  ·
    simp at q0
    apply loop_mod (α := (Nat)) G_ok [11, 12, 13, 14, 17, 18, 19, 20, 21, 22, 23, 24, 25, 26, 4, 15, 16, 5] (fun z => [(5, .v (.int .i64 z))]) (fun z => []) (fun z => [H]) (fun z => xs.length - z) (fun z => z ≤ xs.length ∧ xs.take z = ys.take z) (0)
    · repeat' (first | exact trivial | refine ⟨⟨_, rfl, by first | rfl | exact inc_eq _ (by omega) | (refine sl_eq ?_; simp; done), by first | exact trivial | simp [SV.ok]⟩, ?_⟩)
    · exact trivial
    · exact ⟨by omega, by simp⟩
    · exact .refl _
    rintro k hI
    obtain ⟨hk, he⟩ : k ≤ xs.length ∧ xs.take k = ys.take k := hI
    try dsimp only
    refine VCsplit.intro (fun q1 => ?_) (fun q1 => ?_)
    ·
      simp at q1
      refine draw G_ok mixed none (.q 0 (.q 1 (.q 2 (.q 3 (.q 4 (.q 5 (.q 6 (.q 7 (.f 8 (.q 9 (.nil))))))))))) (by decide +kernel) ?_
      refine idx_rd hp1 ?_ ?_ fun b2 o2 hb2 => ?_
      · omega
      · omega
      refine load_allN default (k) rfl hp1 ?_ ?_ hb2 rfl (mem_at 0 rfl) fun l3 hl3 => ?_
      · omega
      · omega
      obtain ⟨rfl, w0x3, w1x3, w2x3, w3x3⟩ := gWalk_rd.1 hl3
      refine idx_rd hp2 ?_ ?_ fun b4 o4 hb4 => ?_
      · omega
      · omega
      refine load_allN default (k) rfl hp2 ?_ ?_ hb4 rfl (mem_at 0 rfl) fun l5 hl5 => ?_
      · omega
      · omega
      obtain ⟨rfl, w0x5, w1x5, w2x5, w3x5⟩ := gWalk_rd.1 hl5
      refine call_val (eqWalk_ct _ _ (xs[k]?.getD default) (ys[k]?.getD default)) ⟨(Rp.mono _ (mem_at 0 rfl) hl3), (Rp.mono _ (mem_at 0 rfl) hl5)⟩ ?_
      rintro _ rfl
      refine VC.intro ?_ ?_
      · exact fun _ h => h
      refine VCsplit.intro (fun q7 => ?_) (fun q7 => ?_)
      ·
        simp at q7
        exact ⟨[], ⟨by rw [decide_eq_false (fun e => by subst e; simp at *)], rfl⟩, (.le fun a => by (try simp only [setR, List.cons_append, List.nil_append]); simp only [List.flatten_append, List.flatten_cons, List.flatten_nil, List.count_append, List.count_nil, List.append_nil, List.nil_append]; omega)⟩
      ·
        simp at q7
        apply loop_stepA (k + 1)
        · exact .refl _
        · repeat' (first | exact trivial | refine ⟨⟨_, rfl, by first | rfl | exact inc_eq _ (by omega) | (refine sl_eq ?_; simp; done), by first | exact trivial | simp [SV.ok]⟩, ?_⟩)
        · exact trivial
        · exact ⟨by omega, eq_step default (by omega) he (by omega) (by simpa using ‹_›)⟩
        omega
    ·
      simp at q1
      exact ⟨[], ⟨by rw [decide_eq_true]; rw [← List.take_length (l := xs), ← List.take_length (l := ys), ← (by omega : xs.length = ys.length), show xs.length = k by omega]; exact he, rfl⟩, (.le fun a => by (try simp only [setR, List.cons_append, List.nil_append]); simp only [List.flatten_append, List.flatten_cons, List.flatten_nil, List.count_append, List.count_nil, List.append_nil, List.nil_append]; omega)⟩
--@ct laws.szLetter raw refine call_q (szLetter_ct _ $1 _ ?_ ?_) %1 ?_ | | rintro _ ⟨r#, rfl, hr#⟩
--@ct laws.toLetter new toLetter_ct _ $1 ?_ | %1 | obtain ⟨l#, rfl, o#⟩ := o# ;; have r# := Gt.owrd _ o# ;; obtain ⟨b4x#, c4x#, rfl, w0x#, w1x#, w2x#, h4x#, w5x#⟩ := gLetter_rd.1 r#
--@ct laws.eqLetter val eqLetter_ct _ _ $1 $2 | ⟨%1, %2⟩
theorem eqLetter_ct (l1 l2 : List Value) (x y : Letter) :
    Ct Tryz.prog 125 [.agg ⟨l1⟩, .agg ⟨l2⟩] [] (fun H => gLetter.rd H l1 x ∧ gLetter.rd H l2 y) (fun v A => v = .bool (decide (x = y)) ∧ A = []) := by
  refine Ct.intro0 G_ok Tryz.func125 rfl rfl rfl fun E H hp => ?_
  obtain ⟨hp1, hp2⟩ := hp
  obtain ⟨b4p, c4p, rfl, w0p, w1p, w2p, h4p, w5p⟩ := gLetter_rd.1 hp1
  obtain ⟨b4q, c4q, rfl, w0q, w1q, w2q, h4q, w5q⟩ := gLetter_rd.1 hp2
  refine VCnew.intro fun x0 => ?_
  refine VCnew.intro fun x1 => ?_
  refine VCsplit.intro (fun q2 => ?_) (fun q2 => ?_)
  ·
    simp at q2
    exact ⟨[], ⟨by rw [decide_eq_false (fun e => by subst e; simp at *)], rfl⟩, (.le fun a => by (try simp only [setR, List.cons_append, List.nil_append]); simp only [List.flatten_append, List.flatten_cons, List.flatten_nil, List.count_append, List.count_nil, List.append_nil, List.nil_append]; omega)⟩
  ·
    simp at q2
    refine VCsplit.intro (fun q3 => ?_) (fun q3 => ?_)
    ·
      simp at q3
      exact ⟨[], ⟨by rw [decide_eq_false (fun e => by subst e; simp at *)], rfl⟩, (.le fun a => by (try simp only [setR, List.cons_append, List.nil_append]); simp only [List.flatten_append, List.flatten_cons, List.flatten_nil, List.count_append, List.count_nil, List.append_nil, List.nil_append]; omega)⟩
    ·
      simp at q3
      refine VCsplit.intro (fun q4 => ?_) (fun q4 => ?_)
      ·
        simp at q4
        exact ⟨[], ⟨by rw [decide_eq_false (fun e => by subst e; simp at *)], rfl⟩, (.le fun a => by (try simp only [setR, List.cons_append, List.nil_append]); simp only [List.flatten_append, List.flatten_cons, List.flatten_nil, List.count_append, List.count_nil, List.append_nil, List.nil_append]; omega)⟩
      ·
        simp at q4
        refine VCsplit.intro (fun q5 => ?_) (fun q5 => ?_)
        ·
          simp at q5
          exact ⟨[], ⟨by rw [decide_eq_false (fun e => by subst e; simp at *)], rfl⟩, (.le fun a => by (try simp only [setR, List.cons_append, List.nil_append]); simp only [List.flatten_append, List.flatten_cons, List.flatten_nil, List.count_append, List.count_nil, List.append_nil, List.nil_append]; omega)⟩
        ·
          simp at q5
          refine call_val (eqWalkS_ct _ _ _ _ _ _ (x.walks) (y.walks)) ⟨(Rp.mono _ (mem_at 0 rfl) h4p), (Rp.mono _ (mem_at 0 rfl) h4q)⟩ ?_
          rintro _ rfl
          refine VCsplit.intro (fun q7 => ?_) (fun q7 => ?_)
          ·
            simp at q7
            exact ⟨[], ⟨by rw [decide_eq_false (fun e => by subst e; simp at *)], rfl⟩, (.le fun a => by (try simp only [setR, List.cons_append, List.nil_append]); simp only [List.flatten_append, List.flatten_cons, List.flatten_nil, List.count_append, List.count_nil, List.append_nil, List.nil_append]; omega)⟩
          ·
            simp at q7
            refine VCsplit.intro (fun q8 => ?_) (fun q8 => ?_)
            ·
              simp at q8
              simp only [str_inj, u8_inj, u8_wrap] at q8
              exact ⟨[], ⟨by rw [decide_eq_false (fun e => by subst e; simp at *)], rfl⟩, (.le fun a => by (try simp only [setR, List.cons_append, List.nil_append]); simp only [List.flatten_append, List.flatten_cons, List.flatten_nil, List.count_append, List.count_nil, List.append_nil, List.nil_append]; omega)⟩
            ·
              simp at q8
              simp only [str_inj, u8_inj, u8_wrap] at q8
              exact ⟨[], ⟨by rw [decide_eq_true (Letter.eq_iff.2 (by simp_all))], rfl⟩, (.le fun a => by (try simp only [setR, List.cons_append, List.nil_append]); simp only [List.flatten_append, List.flatten_cons, List.flatten_nil, List.count_append, List.count_nil, List.append_nil, List.nil_append]; omega)⟩
--@ct laws.szLink raw refine call_q (szLink_ct _ $1 _ ?_ ?_) %1 ?_ | | rintro _ ⟨r#, rfl, hr#⟩
--@ct laws.toLink new toLink_ct _ $1 ?_ | %1 | obtain ⟨l#, rfl, o#⟩ := o# ;; have r# := Gt.owrd _ o# ;; obtain ⟨b0x#, c0x#, rfl, h0x#, w1x#, w2x#⟩ := gLink_rd.1 r#
--@ct laws.eqLink val eqLink_ct _ _ $1 $2 | ⟨%1, %2⟩
--@ct laws.szGot raw refine call_q (szGot_ct _ $1 _ ?_ ?_) %1 ?_ | | rintro _ ⟨r#, rfl, hr#⟩
theorem szGot_ct (l : List Value) (x : Got) (left : Int) (h0 : 0 ≤ left) (h1 : left ≤ 1048576) :
    Ct Tryz.prog 121 [.agg ⟨l⟩, .int .i64 left] [] (fun H => gGot.rd H l x) (fun v A => (∃ r : Int, v = .int .i64 r ∧ ((r = -1 ∧ left < (gGot.sz x : Int)) ∨ (r = left - (gGot.sz x : Int) ∧ (gGot.sz x : Int) ≤ left))) ∧ A = []) := by
  refine Ct.intro0 G_ok Tryz.func121 rfl rfl rfl fun E H hp => ?_
  obtain ⟨l2, rfl, w0, w1, h2⟩ := gGot_rd.1 hp
  obtain ⟨b0_2, c0_2, rfl, h0_2⟩ := gBag_rd.1 h2
  have hz := gGot_sz x
  refine VCnew.intro fun x0 => ?_
  refine call_q (szBag_ct _ (x.bag) _ ?_ ?_) (Rp.mono _ (mem_at 0 rfl) h2) ?_
  · trivial
  · trivial
  rintro _ ⟨r1, rfl, hr1⟩
  refine VCsplit.intro (fun q2 => ?_) (fun q2 => ?_)
  ·
    simp at q2
    exact ⟨[], ⟨⟨-1, rfl, .inl ⟨rfl, by (try simp (disch := omega) only [wrap_of] at *); omega⟩⟩, rfl⟩, (.le fun a => by (try simp only [setR, List.cons_append, List.nil_append]); simp only [List.flatten_append, List.flatten_cons, List.flatten_nil, List.count_append, List.count_nil, List.append_nil, List.nil_append]; omega)⟩
  ·
    simp at q2
    exact ⟨[], ⟨⟨_, rfl, .inr ⟨by (try simp (disch := omega) only [wrap_of] at *); omega, by omega⟩⟩, rfl⟩, (.le fun a => by (try simp only [setR, List.cons_append, List.nil_append]); simp only [List.flatten_append, List.flatten_cons, List.flatten_nil, List.count_append, List.count_nil, List.append_nil, List.nil_append]; omega)⟩
--@ct laws.toGot new toGot_ct _ $1 ?_ | %1 | obtain ⟨l#, rfl, o#⟩ := o# ;; have r# := Gt.owrd _ o# ;; obtain ⟨l2x#, rfl, w0x#, w1x#, h2x#⟩ := gGot_rd.1 r# ;; obtain ⟨b0_2x#, c0_2x#, rfl, h0_2x#⟩ := gBag_rd.1 h2x#
theorem toGot_ct (l : List Value) (x : Got) (hx : gGot.sz x ≤ 1048576) :
    Ct Tryz.prog 123 [.agg ⟨l⟩] [] (fun H => gGot.rd H l x) (fun v A => ∃ l, v = .agg ⟨l⟩ ∧ gGot.ow l x A) := by
  refine Ct.intro0 G_ok Tryz.func123 rfl rfl rfl fun E H hp => ?_
  obtain ⟨l2, rfl, w0, w1, h2⟩ := gGot_rd.1 hp
  obtain ⟨b0_2, c0_2, rfl, h0_2⟩ := gBag_rd.1 h2
  have hz := gGot_sz x
  refine VCnew.intro fun x0 => ?_
  refine VCnew.intro fun x1 => ?_
  refine VCnew.intro fun x2 => ?_
  refine call_new (toBag_ct _ (x.bag) ?_) (Rp.mono _ (mem_at 0 rfl) h2) ?_
  · omega
  rintro v3 A3 o3
  obtain ⟨l3, rfl, o3⟩ := o3
  have r3 := Gt.owrd _ o3
  obtain ⟨b0x3, c0x3, rfl, h0x3⟩ := gBag_rd.1 r3
  exact ⟨_, ⟨_, rfl, gGot_ow.2 ⟨_, _, rfl, .refl _, by assumption, by assumption, by assumption⟩⟩, (.le fun a => by (try simp only [setR, List.cons_append, List.nil_append]); simp only [List.flatten_append, List.flatten_cons, List.flatten_nil, List.count_append, List.count_nil, List.append_nil, List.nil_append]; omega)⟩
--@ct laws.eqGot val eqGot_ct _ _ $1 $2 | ⟨%1, %2⟩
theorem eqGot_ct (l1 l2 : List Value) (x y : Got) :
    Ct Tryz.prog 112 [.agg ⟨l1⟩, .agg ⟨l2⟩] [] (fun H => gGot.rd H l1 x ∧ gGot.rd H l2 y) (fun v A => v = .bool (decide (x = y)) ∧ A = []) := by
  refine Ct.intro0 G_ok Tryz.func112 rfl rfl rfl fun E H hp => ?_
  obtain ⟨hp1, hp2⟩ := hp
  obtain ⟨l2p, rfl, w0p, w1p, h2p⟩ := gGot_rd.1 hp1
  obtain ⟨b0_2p, c0_2p, rfl, h0_2p⟩ := gBag_rd.1 h2p
  obtain ⟨l2q, rfl, w0q, w1q, h2q⟩ := gGot_rd.1 hp2
  obtain ⟨b0_2q, c0_2q, rfl, h0_2q⟩ := gBag_rd.1 h2q
  refine VCnew.intro fun x0 => ?_
  refine VCnew.intro fun x1 => ?_
  refine VCsplit.intro (fun q2 => ?_) (fun q2 => ?_)
  ·
    simp at q2
    exact ⟨[], ⟨by rw [decide_eq_false (fun e => by subst e; simp at *)], rfl⟩, (.le fun a => by (try simp only [setR, List.cons_append, List.nil_append]); simp only [List.flatten_append, List.flatten_cons, List.flatten_nil, List.count_append, List.count_nil, List.append_nil, List.nil_append]; omega)⟩
  ·
    simp at q2
    refine VCsplit.intro (fun q3 => ?_) (fun q3 => ?_)
    ·
      simp at q3
      exact ⟨[], ⟨by rw [decide_eq_false (fun e => by subst e; simp at *)], rfl⟩, (.le fun a => by (try simp only [setR, List.cons_append, List.nil_append]); simp only [List.flatten_append, List.flatten_cons, List.flatten_nil, List.count_append, List.count_nil, List.append_nil, List.nil_append]; omega)⟩
    ·
      simp at q3
      refine call_val (eqBag_ct _ _ (x.bag) (y.bag)) ⟨(Rp.mono _ (mem_at 0 rfl) h2p), (Rp.mono _ (mem_at 0 rfl) h2q)⟩ ?_
      rintro _ rfl
      refine VCsplit.intro (fun q5 => ?_) (fun q5 => ?_)
      ·
        simp at q5
        exact ⟨[], ⟨by rw [decide_eq_false (fun e => by subst e; simp at *)], rfl⟩, (.le fun a => by (try simp only [setR, List.cons_append, List.nil_append]); simp only [List.flatten_append, List.flatten_cons, List.flatten_nil, List.count_append, List.count_nil, List.append_nil, List.nil_append]; omega)⟩
      ·
        simp at q5
        exact ⟨[], ⟨by rw [decide_eq_true (Got.eq_iff.2 (by simp_all))], rfl⟩, (.le fun a => by (try simp only [setR, List.cons_append, List.nil_append]); simp only [List.flatten_append, List.flatten_cons, List.flatten_nil, List.count_append, List.count_nil, List.append_nil, List.nil_append]; omega)⟩
--@ct laws.szGotS raw refine call_q (szGotS_ct _ _ _ $1 _ ?_ ?_) %1 ?_ | | rintro _ ⟨r#, rfl, hr#⟩
theorem szGotS_ct (b : Option Addr) (m c : Nat) (xs : List Got) (left : Int) (h0 : 0 ≤ left) (h1 : left ≤ 1048576) :
    Ct Tryz.prog 69 [.slice b m c, .int .i64 left] [] (fun H => (gSl 171 gGot).rd H [.slice b m c] xs) (fun v A => (∃ r : Int, v = .int .i64 r ∧ ((r = -1 ∧ left < (szL gGot xs : Int)) ∨ (r = left - (szL gGot xs : Int) ∧ (szL gGot xs : Int) ≤ left))) ∧ A = []) := by
  refine Ct.intro0 G_ok Tryz.func69 rfl rfl rfl fun E H hp => ?_
  obtain ⟨rfl, hcl, hl⟩ := sl_len hp
  have hq := szL_eq gGot xs
  have ht := List.take_length (l := xs)
  refine VCsplit.intro (fun q0 => ?_) (fun q0 => ?_)
  ·
    simp at q0
    simp (disch := omega) only [wrap_of] at q0
    exact ⟨[], ⟨⟨-1, rfl, .inl ⟨rfl, by (try simp (disch := omega) only [wrap_of] at *); omega⟩⟩, rfl⟩, (.le fun a => by (try simp only [setR, List.cons_append, List.nil_append]); simp only [List.flatten_append, List.flatten_cons, List.flatten_nil, List.count_append, List.count_nil, List.append_nil, List.nil_append]; omega)⟩
  ·
    simp at q0
    simp (disch := omega) only [wrap_of] at q0
    apply loop_mod (α := (Nat) × (Int)) G_ok [12, 13, 14, 15, 18, 19, 20, 21, 22, 23, 1, 24, 25, 4, 16, 17, 5] (fun z => [(5, .v (.int .i64 z.1)), (1, .v (.int .i64 z.2))]) (fun z => []) (fun z => [H]) (fun z => xs.length - z.1) (fun z => z.1 ≤ xs.length ∧ z.2 = left - xs.length - szE gGot (xs.take z.1) ∧ 0 ≤ z.2) ((0, left - xs.length))
    · repeat' (first | exact trivial | refine ⟨⟨_, rfl, by first | rfl | exact inc_eq _ (by omega) | (refine sl_eq ?_; simp; done) | (simp (disch := omega) only [wrap_of]), by first | exact trivial | simp [SV.ok]⟩, ?_⟩)
    · exact trivial
    · try dsimp only
      exact ⟨by omega, by simp [szE], by omega⟩
    · exact .refl _
    rintro ⟨k, lf⟩ hI
    obtain ⟨hk, hlf, hnn⟩ : k ≤ xs.length ∧ lf = left - xs.length - szE gGot (xs.take k) ∧ 0 ≤ lf := hI
    try dsimp only
    refine VCsplit.intro (fun q1 => ?_) (fun q1 => ?_)
    ·
      simp at q1
      have hs := szE_step gGot xs k default (by omega)
      have hs2 := szE_le gGot xs (k + 1)
      refine idx_rd hp ?_ ?_ fun b2 o2 hb2 => ?_
      · omega
      · omega
      refine load_allN default (k) rfl hp ?_ ?_ hb2 rfl (mem_at 0 rfl) fun l3 hl3 => ?_
      · omega
      · omega
      obtain ⟨l2x3, rfl, w0x3, w1x3, h2x3⟩ := gGot_rd.1 hl3 ; obtain ⟨b0_2x3, c0_2x3, rfl, h0_2x3⟩ := gBag_rd.1 h2x3
      refine call_q (szGot_ct _ (xs[k]?.getD default) _ ?_ ?_) (Rp.mono _ (mem_at 0 rfl) hl3) ?_
      · trivial
      · omega
      rintro _ ⟨r4, rfl, hr4⟩
      refine VCsplit.intro (fun q5 => ?_) (fun q5 => ?_)
      ·
        simp at q5
        exact ⟨[], ⟨⟨-1, rfl, .inl ⟨rfl, by (try simp (disch := omega) only [wrap_of] at *); omega⟩⟩, rfl⟩, (.le fun a => by (try simp only [setR, List.cons_append, List.nil_append]); simp only [List.flatten_append, List.flatten_cons, List.flatten_nil, List.count_append, List.count_nil, List.append_nil, List.nil_append]; omega)⟩
      ·
        simp at q5
        apply loop_stepA (k + 1, _)
        · exact .refl _
        · repeat' (first | exact trivial | refine ⟨⟨_, rfl, by first | rfl | exact inc_eq _ (by omega) | (refine sl_eq ?_; simp; done) | (simp (disch := omega) only [wrap_of]), by first | exact trivial | simp [SV.ok]⟩, ?_⟩)
        · exact trivial
        · try dsimp only
          ((try simp (disch := omega) only [wrap_of] at *); refine ⟨by omega, by omega, by omega⟩)
        try dsimp only
        omega
    ·
      simp at q1
      obtain rfl : k = xs.length := by omega
      rw [List.take_length] at hlf
      exact ⟨[], ⟨⟨_, rfl, .inr ⟨by (try simp (disch := omega) only [wrap_of] at *); omega, by omega⟩⟩, rfl⟩, (.le fun a => by (try simp only [setR, List.cons_append, List.nil_append]); simp only [List.flatten_append, List.flatten_cons, List.flatten_nil, List.count_append, List.count_nil, List.append_nil, List.nil_append]; omega)⟩
--@ct laws.toGotS new toGotS_ct _ _ _ $1 ?_ | %1 | obtain ⟨b#, c#, rfl, o#⟩ := o#
theorem toGotS_ct (b : Option Addr) (m c : Nat) (xs : List Got) (hx : szL gGot xs ≤ 1048576) :
    Ct Tryz.prog 71 [.slice b m c] [] (fun H => (gSl 171 gGot).rd H [.slice b m c] xs) (fun v A => ∃ b c, v = .slice b xs.length c ∧ (gSl 171 gGot).ow [.slice b xs.length c] xs A) := by
  refine Ct.intro0 G_ok Tryz.func71 rfl rfl rfl fun E H hp => ?_
  obtain ⟨rfl, hcl, hl⟩ := sl_len hp
  have hls := len_szL gGot xs
  have hq := szL_eq gGot xs
  refine VCmake.intro ?_ ?_ ?_ ?_ fun x0 => ?_
  · omega
  · omega
  · omega
  · omega
  apply loop_mod (α := (Nat) × (Hp)) G_ok [8, 9, 10, 11, 14, 15, 16, 17, 18, 19, 20, 21, 12, 13, 4] (fun z => [(4, .v (.int .i64 z.1))]) (fun z => []) (fun z => [z.2, H]) (fun z => xs.length - z.1) (fun z => z.1 ≤ xs.length ∧ (gSl 171 gGot).ow [.slice (some ⟨x0, 0, none⟩) xs.length xs.length] (xs.take z.1 ++ List.replicate (xs.length - z.1) zGot) z.2) ((0, _))
  · repeat' (first | exact trivial | refine ⟨⟨_, rfl, by first | rfl | exact inc_eq _ (by omega) | (refine sl_eq ?_; simp; done), by first | exact trivial | simp [SV.ok]⟩, ?_⟩)
  · exact trivial
  · try dsimp only
    exact ⟨by omega, by simpa using gmake (g := gGot) (T := 171) (b := x0) (zGot_ow) (Nat.le_refl xs.length) (by omega)⟩
  · exact .refl _
  rintro ⟨k, A⟩ hI
  obtain ⟨hk, oA⟩ : k ≤ xs.length ∧ (gSl 171 gGot).ow [.slice (some ⟨x0, 0, none⟩) xs.length xs.length] (xs.take k ++ List.replicate (xs.length - k) zGot) A := hI
  try dsimp only
  refine VCsplit.intro (fun q1 => ?_) (fun q1 => ?_)
  ·
    simp at q1
    have hs := szE_step gGot xs k default (by omega)
    have hs2 := szE_le gGot xs (k + 1)
    refine idx_rd hp ?_ ?_ fun b2 o2 hb2 => ?_
    · omega
    · omega
    refine load_allN default (k) rfl hp ?_ ?_ hb2 rfl (mem_at 1 rfl) fun l3 hl3 => ?_
    · omega
    · omega
    obtain ⟨l2x3, rfl, w0x3, w1x3, h2x3⟩ := gGot_rd.1 hl3 ; obtain ⟨b0_2x3, c0_2x3, rfl, h0_2x3⟩ := gBag_rd.1 h2x3
    refine call_new (toGot_ct _ (xs[k]?.getD default) ?_) (Rp.mono _ (mem_at 1 rfl) hl3) ?_
    · omega
    rintro v4 A4 o4
    obtain ⟨l4, rfl, o4⟩ := o4
    have r4 := Gt.owrd _ o4
    obtain ⟨l2x4, rfl, w0x4, w1x4, h2x4⟩ := gGot_rd.1 r4
    obtain ⟨b0_2x4, c0_2x4, rfl, h0_2x4⟩ := gBag_rd.1 h2x4
    refine idx_rd (Gt.owrd _ oA) ?_ ?_ fun b5 o5 hb5 => ?_
    · omega
    · simp; omega
    refine gstore1N (k) (A) (A4) [H] (.le fun a => by (try simp only [setR, List.cons_append, List.nil_append]); simp only [List.flatten_append, List.flatten_cons, List.flatten_nil, List.count_append, List.count_nil, List.append_nil, List.nil_append]; omega) rfl oA ?_ ?_ hb5 rfl _ o4 fun A6 o6 => ?_
    · omega
    · simp; omega
    apply loop_stepA (k + 1, _)
    · exact .refl _
    · repeat' (first | exact trivial | refine ⟨⟨_, rfl, by first | rfl | exact inc_eq _ (by omega) | (refine sl_eq ?_; simp; done), by first | exact trivial | simp [SV.ok]⟩, ?_⟩)
    · exact trivial
    · try dsimp only
      exact ⟨by omega, by rw [← take_stepz xs k default zGot (by omega)] ; assumption⟩
    try dsimp only
    omega
  ·
    simp at q1
    obtain rfl : k = xs.length := by omega
    rw [List.take_length, Nat.sub_self, List.replicate_zero, List.append_nil] at oA
    exact ⟨_, ⟨_, _, rfl, oA⟩, (.le fun a => by (try simp only [setR, List.cons_append, List.nil_append]); simp only [List.flatten_append, List.flatten_cons, List.flatten_nil, List.count_append, List.count_nil, List.append_nil, List.nil_append]; omega)⟩
--@ct laws.eqGotS val eqGotS_ct _ _ _ _ _ _ $1 $2 | ⟨%1, %2⟩
theorem eqGotS_ct (b1 : Option Addr) (m1 c1 : Nat) (b2 : Option Addr) (m2 c2 : Nat) (xs ys : List Got) :
    Ct Tryz.prog 55 [.slice b1 m1 c1, .slice b2 m2 c2] [] (fun H => (gSl 171 gGot).rd H [.slice b1 m1 c1] xs ∧ (gSl 171 gGot).rd H [.slice b2 m2 c2] ys) (fun v A => v = .bool (decide (xs = ys)) ∧ A = []) := by
  refine Ct.intro0 G_ok Tryz.func55 rfl rfl rfl fun E H hp => ?_
  obtain ⟨hp1, hp2⟩ := hp
  obtain ⟨rfl, hc1, hl1⟩ := sl_len hp1
  obtain ⟨rfl, hc2, hl2⟩ := sl_len hp2
  refine VCsplit.intro (fun q0 => ?_) (fun q0 => ?_)
  ·
    simp at q0
    exact ⟨[], ⟨by rw [decide_eq_false (fun e => by subst e; omega)], rfl⟩, (.le fun a => by (try simp only [setR, List.cons_append, List.nil_append]); simp only [List.flatten_append, List.flatten_cons, List.flatten_nil, List.count_append, List.count_nil, List.append_nil, List.nil_append]; omega)⟩
  ·
    simp at q0
    apply loop_mod (α := (Nat)) G_ok [11, 12, 13, 14, 17, 18, 19, 20, 21, 22, 23, 24, 25, 26, 4, 15, 16, 5] (fun z => [(5, .v (.int .i64 z))]) (fun z => []) (fun z => [H]) (fun z => xs.length - z) (fun z => z ≤ xs.length ∧ xs.take z = ys.take z) (0)
    · repeat' (first | exact trivial | refine ⟨⟨_, rfl, by first | rfl | exact inc_eq _ (by omega) | (refine sl_eq ?_; simp; done), by first | exact trivial | simp [SV.ok]⟩, ?_⟩)
    · exact trivial
    · exact ⟨by omega, by simp⟩
    · exact .refl _
    rintro k hI
    obtain ⟨hk, he⟩ : k ≤ xs.length ∧ xs.take k = ys.take k := hI
    try dsimp only
    refine VCsplit.intro (fun q1 => ?_) (fun q1 => ?_)
    ·
      simp at q1
      refine draw G_ok mixed none (.q 0 (.q 1 (.q 2 (.q 3 (.q 4 (.q 5 (.q 6 (.q 7 (.f 8 (.q 9 (.nil))))))))))) (by decide +kernel) ?_
      refine idx_rd hp1 ?_ ?_ fun b2 o2 hb2 => ?_
      · omega
      · omega
      refine load_allN default (k) rfl hp1 ?_ ?_ hb2 rfl (mem_at 0 rfl) fun l3 hl3 => ?_
      · omega
      · omega
      obtain ⟨l2x3, rfl, w0x3, w1x3, h2x3⟩ := gGot_rd.1 hl3 ; obtain ⟨b0_2x3, c0_2x3, rfl, h0_2x3⟩ := gBag_rd.1 h2x3
      refine idx_rd hp2 ?_ ?_ fun b4 o4 hb4 => ?_
      · omega
      · omega
      refine load_allN default (k) rfl hp2 ?_ ?_ hb4 rfl (mem_at 0 rfl) fun l5 hl5 => ?_
      · omega
      · omega
      obtain ⟨l2x5, rfl, w0x5, w1x5, h2x5⟩ := gGot_rd.1 hl5 ; obtain ⟨b0_2x5, c0_2x5, rfl, h0_2x5⟩ := gBag_rd.1 h2x5
      refine call_val (eqGot_ct _ _ (xs[k]?.getD default) (ys[k]?.getD default)) ⟨(Rp.mono _ (mem_at 0 rfl) hl3), (Rp.mono _ (mem_at 0 rfl) hl5)⟩ ?_
      rintro _ rfl
      refine VC.intro ?_ ?_
      · exact fun _ h => h
      refine VCsplit.intro (fun q7 => ?_) (fun q7 => ?_)
      ·
        simp at q7
        exact ⟨[], ⟨by rw [decide_eq_false (fun e => by subst e; simp at *)], rfl⟩, (.le fun a => by (try simp only [setR, List.cons_append, List.nil_append]); simp only [List.flatten_append, List.flatten_cons, List.flatten_nil, List.count_append, List.count_nil, List.append_nil, List.nil_append]; omega)⟩
      ·
        simp at q7
        apply loop_stepA (k + 1)
        · exact .refl _
        · repeat' (first | exact trivial | refine ⟨⟨_, rfl, by first | rfl | exact inc_eq _ (by omega) | (refine sl_eq ?_; simp; done), by first | exact trivial | simp [SV.ok]⟩, ?_⟩)
        · exact trivial
        · exact ⟨by omega, eq_step default (by omega) he (by omega) (by simpa using ‹_›)⟩
        omega
    ·
      simp at q1
      exact ⟨[], ⟨by rw [decide_eq_true]; rw [← List.take_length (l := xs), ← List.take_length (l := ys), ← (by omega : xs.length = ys.length), show xs.length = k by omega]; exact he, rfl⟩, (.le fun a => by (try simp only [setR, List.cons_append, List.nil_append]); simp only [List.flatten_append, List.flatten_cons, List.flatten_nil, List.count_append, List.count_nil, List.append_nil, List.nil_append]; omega)⟩
--@ct laws.szCell raw refine call_q (szCell_ct _ $1 _ ?_ ?_) %1 ?_ | | rintro _ ⟨r#, rfl, hr#⟩
--@ct laws.toCell new toCell_ct _ $1 ?_ | %1 | obtain ⟨l#, rfl, o#⟩ := o# ;; have r# := Gt.owrd _ o# ;; obtain ⟨l0x#, b1x#, c1x#, b4x#, c4x#, rfl, h0x#, h1x#, w2x#, w3x#, h4x#⟩ := gCell_rd.1 r# ;; obtain ⟨b1_0x#, c1_0x#, b2_0x#, c2_0x#, b3_0x#, c3_0x#, rfl, h1_0x#, h2_0x#, h3_0x#⟩ := gQuery_rd.1 h0x#
--@ct laws.eqCell val eqCell_ct _ _ $1 $2 | ⟨%1, %2⟩
--@ct laws.szMail raw refine call_q (szMail_ct _ $1 _ ?_ ?_) %1 ?_ | | rintro _ ⟨r#, rfl, hr#⟩
--@ct laws.toMail new toMail_ct _ $1 ?_ | %1 | obtain ⟨l#, rfl, o#⟩ := o# ;; have r# := Gt.owrd _ o# ;; obtain ⟨l1x#, rfl, w0x#, h1x#⟩ := gMail_rd.1 r# ;; obtain ⟨b4_1x#, c4_1x#, rfl, w0_1x#, w1_1x#, w2_1x#, h4_1x#, w5_1x#⟩ := gLetter_rd.1 h1x#
--@ct laws.eqMail val eqMail_ct _ _ $1 $2 | ⟨%1, %2⟩
theorem eqMail_ct (l1 l2 : List Value) (x y : Mail) :
    Ct Tryz.prog 73 [.agg ⟨l1⟩, .agg ⟨l2⟩] [] (fun H => gMail.rd H l1 x ∧ gMail.rd H l2 y) (fun v A => v = .bool (decide (x = y)) ∧ A = []) := by
  refine Ct.intro0 G_ok Tryz.func73 rfl rfl rfl fun E H hp => ?_
  obtain ⟨hp1, hp2⟩ := hp
  obtain ⟨l1p, rfl, w0p, h1p⟩ := gMail_rd.1 hp1
  obtain ⟨b4_1p, c4_1p, rfl, w0_1p, w1_1p, w2_1p, h4_1p, w5_1p⟩ := gLetter_rd.1 h1p
  obtain ⟨l1q, rfl, w0q, h1q⟩ := gMail_rd.1 hp2
  obtain ⟨b4_1q, c4_1q, rfl, w0_1q, w1_1q, w2_1q, h4_1q, w5_1q⟩ := gLetter_rd.1 h1q
  refine VCnew.intro fun x0 => ?_
  refine VCnew.intro fun x1 => ?_
  refine VCsplit.intro (fun q2 => ?_) (fun q2 => ?_)
  ·
    simp at q2
    exact ⟨[], ⟨by rw [decide_eq_false (fun e => by subst e; simp at *)], rfl⟩, (.le fun a => by (try simp only [setR, List.cons_append, List.nil_append]); simp only [List.flatten_append, List.flatten_cons, List.flatten_nil, List.count_append, List.count_nil, List.append_nil, List.nil_append]; omega)⟩
  ·
    simp at q2
    refine call_val (eqLetter_ct _ _ (x.letter) (y.letter)) ⟨(Rp.mono _ (mem_at 0 rfl) h1p), (Rp.mono _ (mem_at 0 rfl) h1q)⟩ ?_
    rintro _ rfl
    refine VCsplit.intro (fun q4 => ?_) (fun q4 => ?_)
    ·
      simp at q4
      exact ⟨[], ⟨by rw [decide_eq_false (fun e => by subst e; simp at *)], rfl⟩, (.le fun a => by (try simp only [setR, List.cons_append, List.nil_append]); simp only [List.flatten_append, List.flatten_cons, List.flatten_nil, List.count_append, List.count_nil, List.append_nil, List.nil_append]; omega)⟩
    ·
      simp at q4
      exact ⟨[], ⟨by rw [decide_eq_true (Mail.eq_iff.2 (by simp_all))], rfl⟩, (.le fun a => by (try simp only [setR, List.cons_append, List.nil_append]); simp only [List.flatten_append, List.flatten_cons, List.flatten_nil, List.count_append, List.count_nil, List.append_nil, List.nil_append]; omega)⟩
--@ct laws.szMailS raw refine call_q (szMailS_ct _ _ _ $1 _ ?_ ?_) %1 ?_ | | rintro _ ⟨r#, rfl, hr#⟩
--@ct laws.toMailS new toMailS_ct _ _ _ $1 ?_ | %1 | obtain ⟨b#, c#, rfl, o#⟩ := o#
--@ct laws.eqMailS val eqMailS_ct _ _ _ _ _ _ $1 $2 | ⟨%1, %2⟩
theorem eqMailS_ct (b1 : Option Addr) (m1 c1 : Nat) (b2 : Option Addr) (m2 c2 : Nat) (xs ys : List Mail) :
    Ct Tryz.prog 24 [.slice b1 m1 c1, .slice b2 m2 c2] [] (fun H => (gSl 112 gMail).rd H [.slice b1 m1 c1] xs ∧ (gSl 112 gMail).rd H [.slice b2 m2 c2] ys) (fun v A => v = .bool (decide (xs = ys)) ∧ A = []) := by
  refine Ct.intro0 G_ok Tryz.func24 rfl rfl rfl fun E H hp => ?_
  obtain ⟨hp1, hp2⟩ := hp
  obtain ⟨rfl, hc1, hl1⟩ := sl_len hp1
  obtain ⟨rfl, hc2, hl2⟩ := sl_len hp2
  refine VCsplit.intro (fun q0 => ?_) (fun q0 => ?_)
  ·
    simp at q0
    exact ⟨[], ⟨by rw [decide_eq_false (fun e => by subst e; omega)], rfl⟩, (.le fun a => by (try simp only [setR, List.cons_append, List.nil_append]); simp only [List.flatten_append, List.flatten_cons, List.flatten_nil, List.count_append, List.count_nil, List.append_nil, List.nil_append]; omega)⟩
  ·
    simp at q0
    apply loop_mod (α := (Nat)) G_ok [11, 12, 13, 14, 17, 18, 19, 20, 21, 22, 23, 24, 25, 26, 4, 15, 16, 5] (fun z => [(5, .v (.int .i64 z))]) (fun z => []) (fun z => [H]) (fun z => xs.length - z) (fun z => z ≤ xs.length ∧ xs.take z = ys.take z) (0)
    · repeat' (first | exact trivial | refine ⟨⟨_, rfl, by first | rfl | exact inc_eq _ (by omega) | (refine sl_eq ?_; simp; done), by first | exact trivial | simp [SV.ok]⟩, ?_⟩)
    · exact trivial
    · exact ⟨by omega, by simp⟩
    · exact .refl _
    rintro k hI
    obtain ⟨hk, he⟩ : k ≤ xs.length ∧ xs.take k = ys.take k := hI
    try dsimp only
    refine VCsplit.intro (fun q1 => ?_) (fun q1 => ?_)
    ·
      simp at q1
      refine draw G_ok mixed none (.q 0 (.q 1 (.q 2 (.q 3 (.q 4 (.q 5 (.q 6 (.q 7 (.f 8 (.q 9 (.nil))))))))))) (by decide +kernel) ?_
      refine idx_rd hp1 ?_ ?_ fun b2 o2 hb2 => ?_
      · omega
      · omega
      refine load_allN default (k) rfl hp1 ?_ ?_ hb2 rfl (mem_at 0 rfl) fun l3 hl3 => ?_
      · omega
      · omega
      obtain ⟨l1x3, rfl, w0x3, h1x3⟩ := gMail_rd.1 hl3 ; obtain ⟨b4_1x3, c4_1x3, rfl, w0_1x3, w1_1x3, w2_1x3, h4_1x3, w5_1x3⟩ := gLetter_rd.1 h1x3
      refine idx_rd hp2 ?_ ?_ fun b4 o4 hb4 => ?_
      · omega
      · omega
      refine load_allN default (k) rfl hp2 ?_ ?_ hb4 rfl (mem_at 0 rfl) fun l5 hl5 => ?_
      · omega
      · omega
      obtain ⟨l1x5, rfl, w0x5, h1x5⟩ := gMail_rd.1 hl5 ; obtain ⟨b4_1x5, c4_1x5, rfl, w0_1x5, w1_1x5, w2_1x5, h4_1x5, w5_1x5⟩ := gLetter_rd.1 h1x5
      refine call_val (eqMail_ct _ _ (xs[k]?.getD default) (ys[k]?.getD default)) ⟨(Rp.mono _ (mem_at 0 rfl) hl3), (Rp.mono _ (mem_at 0 rfl) hl5)⟩ ?_
      rintro _ rfl
      refine VC.intro ?_ ?_
      · exact fun _ h => h
      refine VCsplit.intro (fun q7 => ?_) (fun q7 => ?_)
      ·
        simp at q7
        exact ⟨[], ⟨by rw [decide_eq_false (fun e => by subst e; simp at *)], rfl⟩, (.le fun a => by (try simp only [setR, List.cons_append, List.nil_append]); simp only [List.flatten_append, List.flatten_cons, List.flatten_nil, List.count_append, List.count_nil, List.append_nil, List.nil_append]; omega)⟩
      ·
        simp at q7
        apply loop_stepA (k + 1)
        · exact .refl _
        · repeat' (first | exact trivial | refine ⟨⟨_, rfl, by first | rfl | exact inc_eq _ (by omega) | (refine sl_eq ?_; simp; done), by first | exact trivial | simp [SV.ok]⟩, ?_⟩)
        · exact trivial
        · exact ⟨by omega, eq_step default (by omega) he (by omega) (by simpa using ‹_›)⟩
        omega
    ·
      simp at q1
      exact ⟨[], ⟨by rw [decide_eq_true]; rw [← List.take_length (l := xs), ← List.take_length (l := ys), ← (by omega : xs.length = ys.length), show xs.length = k by omega]; exact he, rfl⟩, (.le fun a => by (try simp only [setR, List.cons_append, List.nil_append]); simp only [List.flatten_append, List.flatten_cons, List.flatten_nil, List.count_append, List.count_nil, List.append_nil, List.nil_append]; omega)⟩
--@ct laws.szWork raw refine call_q (szWork_ct _ $1 _ ?_ ?_) %1 ?_ | | rintro _ ⟨r#, rfl, hr#⟩
--@ct laws.toWork new toWork_ct _ $1 ?_ | %1 | obtain ⟨l#, rfl, o#⟩ := o# ;; have r# := Gt.owrd _ o# ;; obtain ⟨l1x#, b2x#, c2x#, b4x#, c4x#, l11x#, b13x#, c13x#, rfl, h1x#, h2x#, w3x#, h4x#, w5x#, w8x#, h11x#, h13x#⟩ := gWork_rd.1 r# ;; obtain ⟨b1_1x#, c1_1x#, b2_1x#, c2_1x#, b3_1x#, c3_1x#, rfl, h1_1x#, h2_1x#, h3_1x#⟩ := gQuery_rd.1 h1x# ;; obtain ⟨l0_11x#, b1_11x#, c1_11x#, b4_11x#, c4_11x#, rfl, h0_11x#, h1_11x#, w2_11x#, w3_11x#, h4_11x#⟩ := gCell_rd.1 h11x# ;; obtain ⟨b1_0_11x#, c1_0_11x#, b2_0_11x#, c2_0_11x#, b3_0_11x#, c3_0_11x#, rfl, h1_0_11x#, h2_0_11x#, h3_0_11x#⟩ := gQuery_rd.1 h0_11x#
--@ct laws.eqWork val eqWork_ct _ _ $1 $2 | ⟨%1, %2⟩
--@ct laws.szAsk raw refine call_q (szAsk_ct _ $1 _ ?_ ?_) %1 ?_ | | rintro _ ⟨r#, rfl, hr#⟩
theorem szAsk_ct (l : List Value) (x : Ask) (left : Int) (h0 : 0 ≤ left) (h1 : left ≤ 1048576) :
    Ct Tryz.prog 20 [.agg ⟨l⟩, .int .i64 left] [] (fun H => gAsk.rd H l x) (fun v A => (∃ r : Int, v = .int .i64 r ∧ ((r = -1 ∧ left < (gAsk.sz x : Int)) ∨ (r = left - (gAsk.sz x : Int) ∧ (gAsk.sz x : Int) ≤ left))) ∧ A = []) := by
  refine Ct.intro0 G_ok Tryz.func20 rfl rfl rfl fun E H hp => ?_
  obtain ⟨l1, b2, c2, b4, c4, l6, rfl, h1, h2, w3, h4, h6⟩ := gAsk_rd.1 hp
  obtain ⟨b1_1, c1_1, b2_1, c2_1, b3_1, c3_1, rfl, h1_1, h2_1, h3_1⟩ := gQuery_rd.1 h1
  obtain ⟨b0_6, c0_6, rfl, h0_6⟩ := gBag_rd.1 h6
  have hz := gAsk_sz x
  refine VCnew.intro fun x0 => ?_
  refine call_q (szQuery_ct _ (x.query) _ ?_ ?_) (Rp.mono _ (mem_at 0 rfl) h1) ?_
  · trivial
  · trivial
  rintro _ ⟨r1, rfl, hr1⟩
  refine VCsplit.intro (fun q2 => ?_) (fun q2 => ?_)
  ·
    simp at q2
    exact ⟨[], ⟨⟨-1, rfl, .inl ⟨rfl, by (try simp (disch := omega) only [wrap_of] at *); omega⟩⟩, rfl⟩, (.le fun a => by (try simp only [setR, List.cons_append, List.nil_append]); simp only [List.flatten_append, List.flatten_cons, List.flatten_nil, List.count_append, List.count_nil, List.append_nil, List.nil_append]; omega)⟩
  ·
    simp at q2
    refine call_q (szIntS_ct _ _ _ (x.shares) _ ?_ ?_) (Rp.mono _ (mem_at 0 rfl) h2) ?_
    · trivial
    · omega
    rintro _ ⟨r3, rfl, hr3⟩
    refine VCsplit.intro (fun q4 => ?_) (fun q4 => ?_)
    ·
      simp at q4
      exact ⟨[], ⟨⟨-1, rfl, .inl ⟨rfl, by (try simp (disch := omega) only [wrap_of] at *); omega⟩⟩, rfl⟩, (.le fun a => by (try simp only [setR, List.cons_append, List.nil_append]); simp only [List.flatten_append, List.flatten_cons, List.flatten_nil, List.count_append, List.count_nil, List.append_nil, List.nil_append]; omega)⟩
    ·
      simp at q4
      refine call_q (szGotS_ct _ _ _ (x.results) _ ?_ ?_) (Rp.mono _ (mem_at 0 rfl) h4) ?_
      · trivial
      · omega
      rintro _ ⟨r5, rfl, hr5⟩
      refine VCsplit.intro (fun q6 => ?_) (fun q6 => ?_)
      ·
        simp at q6
        exact ⟨[], ⟨⟨-1, rfl, .inl ⟨rfl, by (try simp (disch := omega) only [wrap_of] at *); omega⟩⟩, rfl⟩, (.le fun a => by (try simp only [setR, List.cons_append, List.nil_append]); simp only [List.flatten_append, List.flatten_cons, List.flatten_nil, List.count_append, List.count_nil, List.append_nil, List.nil_append]; omega)⟩
      ·
        simp at q6
        refine call_q (szBag_ct _ (x.answer) _ ?_ ?_) (Rp.mono _ (mem_at 0 rfl) h6) ?_
        · trivial
        · omega
        rintro _ ⟨r7, rfl, hr7⟩
        refine VCsplit.intro (fun q8 => ?_) (fun q8 => ?_)
        ·
          simp at q8
          exact ⟨[], ⟨⟨-1, rfl, .inl ⟨rfl, by (try simp (disch := omega) only [wrap_of] at *); omega⟩⟩, rfl⟩, (.le fun a => by (try simp only [setR, List.cons_append, List.nil_append]); simp only [List.flatten_append, List.flatten_cons, List.flatten_nil, List.count_append, List.count_nil, List.append_nil, List.nil_append]; omega)⟩
        ·
          simp at q8
          exact ⟨[], ⟨⟨_, rfl, .inr ⟨by (try simp (disch := omega) only [wrap_of] at *); omega, by omega⟩⟩, rfl⟩, (.le fun a => by (try simp only [setR, List.cons_append, List.nil_append]); simp only [List.flatten_append, List.flatten_cons, List.flatten_nil, List.count_append, List.count_nil, List.append_nil, List.nil_append]; omega)⟩
--@ct laws.toAsk new toAsk_ct _ $1 ?_ | %1 | obtain ⟨l#, rfl, o#⟩ := o# ;; have r# := Gt.owrd _ o# ;; obtain ⟨l1x#, b2x#, c2x#, b4x#, c4x#, l6x#, rfl, h1x#, h2x#, w3x#, h4x#, h6x#⟩ := gAsk_rd.1 r# ;; obtain ⟨b1_1x#, c1_1x#, b2_1x#, c2_1x#, b3_1x#, c3_1x#, rfl, h1_1x#, h2_1x#, h3_1x#⟩ := gQuery_rd.1 h1x# ;; obtain ⟨b0_6x#, c0_6x#, rfl, h0_6x#⟩ := gBag_rd.1 h6x#
theorem toAsk_ct (l : List Value) (x : Ask) (hx : gAsk.sz x ≤ 1048576) :
    Ct Tryz.prog 22 [.agg ⟨l⟩] [] (fun H => gAsk.rd H l x) (fun v A => ∃ l, v = .agg ⟨l⟩ ∧ gAsk.ow l x A) := by
  refine Ct.intro0 G_ok Tryz.func22 rfl rfl rfl fun E H hp => ?_
  obtain ⟨l1, b2, c2, b4, c4, l6, rfl, h1, h2, w3, h4, h6⟩ := gAsk_rd.1 hp
  obtain ⟨b1_1, c1_1, b2_1, c2_1, b3_1, c3_1, rfl, h1_1, h2_1, h3_1⟩ := gQuery_rd.1 h1
  obtain ⟨b0_6, c0_6, rfl, h0_6⟩ := gBag_rd.1 h6
  have hz := gAsk_sz x
  refine VCnew.intro fun x0 => ?_
  refine VCnew.intro fun x1 => ?_
  refine VCnew.intro fun x2 => ?_
  refine call_new (toQuery_ct _ (x.query) ?_) (Rp.mono _ (mem_at 0 rfl) h1) ?_
  · omega
  rintro v3 A3 o3
  obtain ⟨l3, rfl, o3⟩ := o3
  have r3 := Gt.owrd _ o3
  obtain ⟨b1x3, c1x3, b2x3, c2x3, b3x3, c3x3, rfl, h1x3, h2x3, h3x3⟩ := gQuery_rd.1 r3
  refine call_new (toIntS_ct _ _ _ (x.shares) ?_) (Rp.mono _ (mem_at 1 rfl) h2) ?_
  · omega
  rintro v4 A4 o4
  obtain ⟨b4, c4, rfl, o4⟩ := o4
  refine call_new (toGotS_ct _ _ _ (x.results) ?_) (Rp.mono _ (mem_at 2 rfl) h4) ?_
  · omega
  rintro v5 A5 o5
  obtain ⟨b5, c5, rfl, o5⟩ := o5
  refine call_new (toBag_ct _ (x.answer) ?_) (Rp.mono _ (mem_at 3 rfl) h6) ?_
  · omega
  rintro v6 A6 o6
  obtain ⟨l6, rfl, o6⟩ := o6
  have r6 := Gt.owrd _ o6
  obtain ⟨b0x6, c0x6, rfl, h0x6⟩ := gBag_rd.1 r6
  exact ⟨_, ⟨_, rfl, gAsk_ow.2 ⟨_, _, _, _, _, _, _, _, _, _, rfl, .refl _, by assumption, by assumption, by assumption, by assumption, by assumption⟩⟩, (.le fun a => by (try simp only [setR, List.cons_append, List.nil_append]); simp only [List.flatten_append, List.flatten_cons, List.flatten_nil, List.count_append, List.count_nil, List.append_nil, List.nil_append]; omega)⟩
--@ct laws.eqAsk val eqAsk_ct _ _ $1 $2 | ⟨%1, %2⟩
theorem eqAsk_ct (l1 l2 : List Value) (x y : Ask) :
    Ct Tryz.prog 15 [.agg ⟨l1⟩, .agg ⟨l2⟩] [] (fun H => gAsk.rd H l1 x ∧ gAsk.rd H l2 y) (fun v A => v = .bool (decide (x = y)) ∧ A = []) := by
  refine Ct.intro0 G_ok Tryz.func15 rfl rfl rfl fun E H hp => ?_
  obtain ⟨hp1, hp2⟩ := hp
  obtain ⟨l1p, b2p, c2p, b4p, c4p, l6p, rfl, h1p, h2p, w3p, h4p, h6p⟩ := gAsk_rd.1 hp1
  obtain ⟨b1_1p, c1_1p, b2_1p, c2_1p, b3_1p, c3_1p, rfl, h1_1p, h2_1p, h3_1p⟩ := gQuery_rd.1 h1p
  obtain ⟨b0_6p, c0_6p, rfl, h0_6p⟩ := gBag_rd.1 h6p
  obtain ⟨l1q, b2q, c2q, b4q, c4q, l6q, rfl, h1q, h2q, w3q, h4q, h6q⟩ := gAsk_rd.1 hp2
  obtain ⟨b1_1q, c1_1q, b2_1q, c2_1q, b3_1q, c3_1q, rfl, h1_1q, h2_1q, h3_1q⟩ := gQuery_rd.1 h1q
  obtain ⟨b0_6q, c0_6q, rfl, h0_6q⟩ := gBag_rd.1 h6q
  refine VCnew.intro fun x0 => ?_
  refine VCnew.intro fun x1 => ?_
  refine VCsplit.intro (fun q2 => ?_) (fun q2 => ?_)
  ·
    simp at q2
    exact ⟨[], ⟨by rw [decide_eq_false (fun e => by subst e; simp at *)], rfl⟩, (.le fun a => by (try simp only [setR, List.cons_append, List.nil_append]); simp only [List.flatten_append, List.flatten_cons, List.flatten_nil, List.count_append, List.count_nil, List.append_nil, List.nil_append]; omega)⟩
  ·
    simp at q2
    refine call_val (eqQuery_ct _ _ (x.query) (y.query)) ⟨(Rp.mono _ (mem_at 0 rfl) h1p), (Rp.mono _ (mem_at 0 rfl) h1q)⟩ ?_
    rintro _ rfl
    refine VCsplit.intro (fun q4 => ?_) (fun q4 => ?_)
    ·
      simp at q4
      exact ⟨[], ⟨by rw [decide_eq_false (fun e => by subst e; simp at *)], rfl⟩, (.le fun a => by (try simp only [setR, List.cons_append, List.nil_append]); simp only [List.flatten_append, List.flatten_cons, List.flatten_nil, List.count_append, List.count_nil, List.append_nil, List.nil_append]; omega)⟩
    ·
      simp at q4
      refine call_val (eqIntS_ct _ _ _ _ _ _ (x.shares) (y.shares)) ⟨(Rp.mono _ (mem_at 0 rfl) h2p), (Rp.mono _ (mem_at 0 rfl) h2q)⟩ ?_
      rintro _ rfl
      refine VCsplit.intro (fun q6 => ?_) (fun q6 => ?_)
      ·
        simp at q6
        exact ⟨[], ⟨by rw [decide_eq_false (fun e => by subst e; simp at *)], rfl⟩, (.le fun a => by (try simp only [setR, List.cons_append, List.nil_append]); simp only [List.flatten_append, List.flatten_cons, List.flatten_nil, List.count_append, List.count_nil, List.append_nil, List.nil_append]; omega)⟩
      ·
        simp at q6
        refine VCsplit.intro (fun q7 => ?_) (fun q7 => ?_)
        ·
          simp at q7
          exact ⟨[], ⟨by rw [decide_eq_false (fun e => by subst e; simp at *)], rfl⟩, (.le fun a => by (try simp only [setR, List.cons_append, List.nil_append]); simp only [List.flatten_append, List.flatten_cons, List.flatten_nil, List.count_append, List.count_nil, List.append_nil, List.nil_append]; omega)⟩
        ·
          simp at q7
          refine call_val (eqGotS_ct _ _ _ _ _ _ (x.results) (y.results)) ⟨(Rp.mono _ (mem_at 0 rfl) h4p), (Rp.mono _ (mem_at 0 rfl) h4q)⟩ ?_
          rintro _ rfl
          refine VCsplit.intro (fun q9 => ?_) (fun q9 => ?_)
          ·
            simp at q9
            exact ⟨[], ⟨by rw [decide_eq_false (fun e => by subst e; simp at *)], rfl⟩, (.le fun a => by (try simp only [setR, List.cons_append, List.nil_append]); simp only [List.flatten_append, List.flatten_cons, List.flatten_nil, List.count_append, List.count_nil, List.append_nil, List.nil_append]; omega)⟩
          ·
            simp at q9
            refine VCsplit.intro (fun q10 => ?_) (fun q10 => ?_)
            ·
              simp at q10
              exact ⟨[], ⟨by rw [decide_eq_false (fun e => by subst e; simp at *)], rfl⟩, (.le fun a => by (try simp only [setR, List.cons_append, List.nil_append]); simp only [List.flatten_append, List.flatten_cons, List.flatten_nil, List.count_append, List.count_nil, List.append_nil, List.nil_append]; omega)⟩
            ·
              simp at q10
              refine call_val (eqBag_ct _ _ (x.answer) (y.answer)) ⟨(Rp.mono _ (mem_at 0 rfl) h6p), (Rp.mono _ (mem_at 0 rfl) h6q)⟩ ?_
              rintro _ rfl
              refine VCsplit.intro (fun q12 => ?_) (fun q12 => ?_)
              ·
                simp at q12
                exact ⟨[], ⟨by rw [decide_eq_false (fun e => by subst e; simp at *)], rfl⟩, (.le fun a => by (try simp only [setR, List.cons_append, List.nil_append]); simp only [List.flatten_append, List.flatten_cons, List.flatten_nil, List.count_append, List.count_nil, List.append_nil, List.nil_append]; omega)⟩
              ·
                simp at q12
                exact ⟨[], ⟨by rw [decide_eq_true (Ask.eq_iff.2 (by simp_all))], rfl⟩, (.le fun a => by (try simp only [setR, List.cons_append, List.nil_append]); simp only [List.flatten_append, List.flatten_cons, List.flatten_nil, List.count_append, List.count_nil, List.append_nil, List.nil_append]; omega)⟩
--@ct laws.szLinkS raw refine call_q (szLinkS_ct _ _ _ $1 _ ?_ ?_) %1 ?_ | | rintro _ ⟨r#, rfl, hr#⟩
--@ct laws.toLinkS new toLinkS_ct _ _ _ $1 ?_ | %1 | obtain ⟨b#, c#, rfl, o#⟩ := o#
--@ct laws.eqLinkS val eqLinkS_ct _ _ _ _ _ _ $1 $2 | ⟨%1, %2⟩
--@ct laws.szNode raw refine call_q (szNode_ct _ $1 _ ?_ ?_) %1 ?_ | | rintro _ ⟨r#, rfl, hr#⟩
--@ct laws.toNode new toNode_ct _ $1 ?_ | %1 | obtain ⟨l#, rfl, o#⟩ := o# ;; have r# := Gt.owrd _ o# ;; obtain ⟨l2x#, b5x#, c5x#, l6x#, l7x#, rfl, w0x#, h2x#, w3x#, h5x#, h6x#, h7x#⟩ := gNode_rd.1 r# ;; obtain ⟨b0_2x#, c0_2x#, rfl, h0_2x#⟩ := gDisk_rd.1 h2x# ;; obtain ⟨l1_6x#, b2_6x#, c2_6x#, b4_6x#, c4_6x#, l11_6x#, b13_6x#, c13_6x#, rfl, h1_6x#, h2_6x#, w3_6x#, h4_6x#, w5_6x#, w8_6x#, h11_6x#, h13_6x#⟩ := gWork_rd.1 h6x# ;; obtain ⟨b1_1_6x#, c1_1_6x#, b2_1_6x#, c2_1_6x#, b3_1_6x#, c3_1_6x#, rfl, h1_1_6x#, h2_1_6x#, h3_1_6x#⟩ := gQuery_rd.1 h1_6x# ;; obtain ⟨l0_11_6x#, b1_11_6x#, c1_11_6x#, b4_11_6x#, c4_11_6x#, rfl, h0_11_6x#, h1_11_6x#, w2_11_6x#, w3_11_6x#, h4_11_6x#⟩ := gCell_rd.1 h11_6x# ;; obtain ⟨b1_0_11_6x#, c1_0_11_6x#, b2_0_11_6x#, c2_0_11_6x#, b3_0_11_6x#, c3_0_11_6x#, rfl, h1_0_11_6x#, h2_0_11_6x#, h3_0_11_6x#⟩ := gQuery_rd.1 h0_11_6x# ;; obtain ⟨l1_7x#, b2_7x#, c2_7x#, b4_7x#, c4_7x#, l6_7x#, rfl, h1_7x#, h2_7x#, w3_7x#, h4_7x#, h6_7x#⟩ := gAsk_rd.1 h7x# ;; obtain ⟨b1_1_7x#, c1_1_7x#, b2_1_7x#, c2_1_7x#, b3_1_7x#, c3_1_7x#, rfl, h1_1_7x#, h2_1_7x#, h3_1_7x#⟩ := gQuery_rd.1 h1_7x# ;; obtain ⟨b0_6_7x#, c0_6_7x#, rfl, h0_6_7x#⟩ := gBag_rd.1 h6_7x#
--@ct laws.eqNode val eqNode_ct _ _ $1 $2 | ⟨%1, %2⟩
--@ct laws.szNodeS raw refine call_q (szNodeS_ct _ _ _ $1 _ ?_ ?_) %1 ?_ | | rintro _ ⟨r#, rfl, hr#⟩
--@ct laws.toNodeS new toNodeS_ct _ _ _ $1 ?_ | %1 | obtain ⟨b#, c#, rfl, o#⟩ := o#
--@ct laws.eqNodeS val eqNodeS_ct _ _ _ _ _ _ $1 $2 | ⟨%1, %2⟩
--@ct laws.szBagS raw refine call_q (szBagS_ct _ _ _ $1 _ ?_ ?_) %1 ?_ | | rintro _ ⟨r#, rfl, hr#⟩
--@ct laws.toBagS new toBagS_ct _ _ _ $1 ?_ | %1 | obtain ⟨b#, c#, rfl, o#⟩ := o#
--@ct laws.eqBagS val eqBagS_ct _ _ _ _ _ _ $1 $2 | ⟨%1, %2⟩
--@ct laws.szCluster raw refine call_q (szCluster_ct _ $1 _ ?_ ?_) %1 ?_ | | rintro _ ⟨r#, rfl, hr#⟩
--@ct laws.toCluster new toCluster_ct _ $1 ?_ | %1 | obtain ⟨l#, rfl, o#⟩ := o# ;; have r# := Gt.owrd _ o# ;; obtain ⟨l0x#, b1x#, c1x#, b2x#, c2x#, b3x#, c3x#, b4x#, c4x#, rfl, h0x#, h1x#, h2x#, h3x#, h4x#⟩ := gCluster_rd.1 r# ;; obtain ⟨b1_0x#, c1_0x#, b2_0x#, c2_0x#, b3_0x#, c3_0x#, rfl, h1_0x#, h2_0x#, h3_0x#⟩ := gQuery_rd.1 h0x#
--@ct laws.eqCluster val eqCluster_ct _ _ $1 $2 | ⟨%1, %2⟩
end Go.Proofs.YtcnclhjhnjpeiaaGreatDoor

namespace Go.Proofs.YtcnclhjhnjpeiaaGreatDoor
open Go.SX Go.Proofs
set_option linter.unusedSimpArgs false
set_option linter.unusedVariables false
set_option maxHeartbeats 4000000
def inR (a b n : Int) : Bool := decide (a ≤ n) && decide (n ≤ b)
theorem inR_iff {a b n : Int} : inR a b n = true ↔ a ≤ n ∧ n ≤ b := by unfold inR; simp
--@ct spec.l01In val l01In_ct _ _ _
theorem l01In_ct (n a b : Int) : Ct Tryz.prog 46 [.int .i64 n, .int .i64 a, .int .i64 b] [] (fun _ => True) (fun v A => v = .bool (inR a b n) ∧ A = []) := by
  refine Ct.intro0 G_ok Tryz.func46 rfl rfl rfl fun E H hp => ?_
  refine VCsplit.intro (fun q0 => ?_) (fun q0 => ?_)
  ·
    simp at q0
    exact ⟨[], ⟨by unfold inR; first | rw [decide_eq_true (by omega : a ≤ n), Bool.true_and] | rw [decide_eq_false (by omega : ¬ a ≤ n), Bool.false_and], rfl⟩, (.le fun a => by (try simp only [setR, List.cons_append, List.nil_append]); simp only [List.flatten_append, List.flatten_cons, List.flatten_nil, List.count_append, List.count_nil, List.append_nil, List.nil_append]; omega)⟩
  ·
    simp at q0
    exact ⟨[], ⟨by unfold inR; first | rw [decide_eq_true (by omega : a ≤ n), Bool.true_and] | rw [decide_eq_false (by omega : ¬ a ≤ n), Bool.false_and], rfl⟩, (.le fun a => by (try simp only [setR, List.cons_append, List.nil_append]); simp only [List.flatten_append, List.flatten_cons, List.flatten_nil, List.count_append, List.count_nil, List.append_nil, List.nil_append]; omega)⟩
end Go.Proofs.YtcnclhjhnjpeiaaGreatDoor

namespace Go.Proofs.YtcnclhjhnjpeiaaGreatDoor
open Go.SX Go.Proofs
set_option linter.unusedSimpArgs false
set_option linter.unusedVariables false
set_option maxHeartbeats 4000000
/-- the bytes of a text -/
def by' (s : ByteArray) : List UInt8 := s.data.toList
def tx (l : List UInt8) : ByteArray := ⟨l.toArray⟩
theorem tx_by (s : ByteArray) : tx (by' s) = s := by unfold tx by'; rfl
theorem by_tx (l : List UInt8) : by' (tx l) = l := by unfold tx by'; simp
theorem by_inj {a b : ByteArray} : by' a = by' b ↔ a = b := ⟨fun h => by rw [← tx_by a, h, tx_by], fun h => by rw [h]⟩
theorem by_size (s : ByteArray) : (by' s).length = s.size := by unfold by'; simp
theorem by_app (a b : ByteArray) : by' (a ++ b) = by' a ++ by' b := by unfold by'; simp
theorem tx_app (a b : List UInt8) : tx (a ++ b) = tx a ++ tx b := by rw [← by_inj, by_app, by_tx, by_tx, by_tx]
def xu (x y : Int) : Int := IntKind.u32.wrap (BitVec.ofInt IntKind.u32.bits x ^^^ BitVec.ofInt IntKind.u32.bits y).toNat
theorem u32_wrap (x : Int) : IntKind.u32.wrap x = x % 4294967296 := by
  unfold IntKind.wrap
  simp [IntKind.bits, IntKind.signed]
def bitStep (s : Int) : Int := if s % 2 = 1 then xu (s / 2) 3558460437 else s / 2
def bits : Nat → Int → Int
  | 0, s => s
  | n + 1, s => bitStep (bits n s)
attribute [irreducible] xu bits
attribute [local irreducible] IntKind.wrap
end Go.Proofs.YtcnclhjhnjpeiaaGreatDoor

namespace Go.SX
section
variable {P : Program} {E : World}
/-- the model's entry for bytealg.MakeNoZero -/
theorem call_noZero {fi : FuncId} {fn : Func} {tI tS e : TypeId} {bl : List Blk} {R : List Hp} {K : Value → List Blk → List Hp → Prop}
    (hf : P.funcs[fi]? = some fn) (hname : (fn.name == "runtime.NumGoroutine") = false) (hb : fn.body.isNone = true) (hn : Extern.findNext fn = none) (he : Extern.find fn = some (Extern.BytealgMakeNoZero.makeNoZero #[tI] #[tS]))
    (ht : P.underlying tS = some (.slice e)) {z : Int} (h0 : 0 ≤ z) (hN : z ≤ 1073741824)
    (hk : ∀ a cs, z.toNat ≤ cs.length → K (.slice (some ⟨a, 0, none⟩) z.toNat cs.length) bl ([(a, Obj.cells ⟨cs⟩ e)] :: R)) :
    VCcall P E fi [.int .i64 z] ⟨[], bl, R⟩ K := by
  refine .ext fun w hs => ?_
  have hdrew : ∀ {H : Hp} {w : World}, Sat E H w → Sat E H { w with drawn := w.drawn + 1 } := fun h => ⟨h.os, h.out, h.tape, h.mem, h.nodup, Nat.le_trans h.dr (Nat.le_succ _)⟩
  obtain ⟨cs, h1, h2, _⟩ := Lib.run_makeNoZero (P := P) w #[tI] tS e ht z.toNat (by omega)
  have hrun := run_callFunc_extern hf hname hb hn he #[.int .i64 (z.toNat : Int)] w
  rw [h1, Result.andThen_ok, Int.toNat_of_nonneg h0] at hrun
  obtain ⟨cs⟩ := cs
  refine ⟨_, _, bl, _, hrun, ?_, rfl, hk w.heap.size cs h2⟩
  have h3 := (hdrew (hdrew hs)).push (Obj.cells ⟨cs⟩ e)
  exact h3.perm (by simpa [St.hall] using List.perm_middle.symm)
variable {Γ : Ty} {n : Nat}
/-- nothing is copied -/
theorem copy_nil (hΓ : TyOk P Γ) {dst : Option Nat} {d s : Operand} {dT sT e ty : TypeId} {pos : String} {after : Array Edge} {guard : Option (Nat × Bool)} {fr : Fr} {bl : List Blk} {R : List Hp} {K : St → Prop} {ti : TI} {b1 : Option Addr} {dl dc : Nat}
    (hd1 : getK fr d fun sv => sv = .v (.slice b1 dl dc)) (hs1 : getK fr s fun sv => sv = .v (.slice none 0 0)) (hsT : undOf Γ dT = some (.slice e)) (ht : tyOf Γ e = some ti)
    (hk : putK n fr dst (.v (.int .i64 0)) fun fr => K ⟨fr, bl, R⟩) : VCraw P E n ⟨dst, .call ⟨.builtin .copy, #[d, s], #[dT, sT]⟩, ty, pos, after, guard⟩ ⟨fr, bl, R⟩ K := by
  refine ⟨fun a w hr Q => ?_⟩
  obtain ⟨sv, g1, _, rfl⟩ := getK_sound hr hd1
  obtain ⟨sv, g2, _, rfl⟩ := getK_sound hr hs1
  have h1 : (Builtin.copy_ #[dT, sT] ty #[.slice b1 dl dc, .slice none 0 0]).run P w = .ok (.int .i64 0) w := by
    have hu := undOf_ok hΓ hsT
    unfold Builtin.copy_
    simp only [List.getElem?_toArray, List.getElem?_cons_zero, List.getElem?_cons_succ, Sem.run_bind, run_underlying hu, Result.andThen_ok, ty_size hΓ ht, Sem.run_pure, Builtin.lenOf]
    rw [show Nat.min 0 dl = 0 from Nat.zero_min dl]
    cases b1 <;> rfl
  refine wp_value (s := .v _) (v := .int .i64 0) ?_ hr rfl trivial hk
  simp only [execOp, resolve, invoke, builtin, Sem.run_bind, Sem.run_pure, Result.andThen_ok]
  rw [show (#[d, s] : Array Operand).map a.eval = #[a.eval d, a.eval s] from by simp, g1, g2]
  simp only [SV.den]
  rw [h1]; rfl
end
end Go.SX

namespace Go.Proofs.YtcnclhjhnjpeiaaGreatDoor
open Go.SX Go.Proofs
set_option linter.unusedSimpArgs false
set_option linter.unusedVariables false
set_option maxHeartbeats 4000000
attribute [local irreducible] IntKind.wrap
def joinQ : List ByteArray → List UInt8
  | [] => []
  | x :: r => by' x ++ r.flatMap fun s => [44, 32] ++ by' s
theorem joinQ_one {xs : List ByteArray} (h : 0 < xs.length) : joinQ (xs.take 1) = by' (xs[0]?.getD ByteArray.empty) := by
  cases xs with
  | nil => cases h
  | cons x r => show by' x ++ [] = _; rw [List.append_nil]; rfl
theorem joinQ_step {xs : List ByteArray} {k : Nat} (h0 : 0 < k) (hk : k < xs.length) : joinQ (xs.take (k + 1)) = joinQ (xs.take k) ++ [44, 32] ++ by' (xs[k]?.getD ByteArray.empty) := by
  cases xs with
  | nil => cases hk
  | cons x r =>
    obtain ⟨j, rfl⟩ : ∃ j, k = j + 1 := ⟨k - 1, by omega⟩
    have hj : j < r.length := by simpa using hk
    show by' x ++ (r.take (j + 1)).flatMap _ = (by' x ++ (r.take j).flatMap _) ++ [44, 32] ++ by' (((x :: r)[j + 1]?).getD ByteArray.empty)
    rw [← List.take_append_getElem hj, List.flatMap_append, List.getElem?_cons_succ, List.getElem?_eq_getElem hj]
    simp
def lenK (xs : List ByteArray) : Nat → Nat
  | 0 => 0
  | k + 1 => lenK xs k + (xs[k]?.getD ByteArray.empty).size
theorem lenK_le {xs : List ByteArray} (hs : ∀ s ∈ xs, s.size ≤ 1000) : ∀ {k : Nat}, k ≤ xs.length → lenK xs k ≤ 1000 * k
  | 0, _ => Nat.le_refl _
  | k + 1, h => by
    have h1 := lenK_le hs (k := k) (by omega)
    have h2 := hs xs[k] (List.getElem_mem h)
    show lenK xs k + _ ≤ _
    rw [List.getElem?_eq_getElem h]
    have h3 : ((some xs[k]).getD ByteArray.empty) = xs[k] := rfl
    rw [h3]; omega
theorem sz_at {xs : List ByteArray} (hs : ∀ s ∈ xs, s.size ≤ 1000) (k : Nat) : (xs[k]?.getD ByteArray.empty).size ≤ 1000 := by
  by_cases h : k < xs.length
  · rw [List.getElem?_eq_getElem h]; exact hs _ (List.getElem_mem h)
  rw [List.getElem?_eq_none (by omega)]; exact Nat.zero_le _
theorem room_ow {a : Nat} {cs : List Value} {e : TypeId} : (gSl e gY).ow [.slice (some ⟨a, 0, none⟩) 0 cs.length] [] [(a, Obj.cells ⟨cs⟩ e)] :=
  ⟨_, [], [(a, Obj.cells ⟨cs⟩ e)], [], rfl, ⟨fun x hx => (by simp at hx), by simp, some ⟨a, 0, none⟩, cs.length, rfl, .inr ⟨a, cs, rfl, by simp, Nat.zero_le _, by show (cs.length - 0) * 1 ≤ cs.length; omega⟩⟩, by simp, .nil⟩
theorem join_first {xs : List ByteArray} {s : ByteArray} (h : 0 < xs.length) (hs : s = tx (joinQ (xs.take 0))) : s ++ xs[0]?.getD ByteArray.empty = tx (joinQ (xs.take (0 + 1))) := by
  rw [show xs.take (0 + 1) = xs.take 1 from rfl, joinQ_one h, tx_by, hs]
  apply by_inj.1
  rw [by_app, by_tx, List.take_zero]; rfl
theorem join_next {xs : List ByteArray} {s : ByteArray} {k : Nat} (h : k < xs.length) (h0 : 0 < k) (hs : s = tx (joinQ (xs.take k))) : s ++ (⟨#[44, 32]⟩ : ByteArray) ++ xs[k]?.getD ByteArray.empty = tx (joinQ (xs.take (k + 1))) := by
  rw [joinQ_step h0 h, tx_app, tx_app, tx_by, hs]; rfl
theorem join_single {xs : List ByteArray} (h : xs.length = 1) : xs[0]?.getD ByteArray.empty = tx (joinQ xs) := by
  have h1 := joinQ_one (xs := xs) (by omega)
  rw [List.take_of_length_le (by omega)] at h1
  rw [h1, tx_by]
theorem join_b {xs : List ByteArray} {j : Nat} (hj : j < xs.length - 1) : joinQ (xs.take (j + 1)) ++ [44, 32] ++ ((xs.drop 1)[j]?.getD ByteArray.empty).data.toList = joinQ (xs.take (j + 1 + 1)) := by
  rw [joinQ_step (k := j + 1) (by omega) (by omega), List.getElem?_drop, Nat.add_comm 1 j]; rfl
theorem join_bz {xs : List ByteArray} {o : List UInt8} {j : Nat} (hs : ∀ s ∈ xs, s.size ≤ 1000) (ho : o.length ≤ 1002 * (j + 1)) : (o ++ [44, 32] ++ ((xs.drop 1)[j]?.getD ByteArray.empty).data.toList).length ≤ 1002 * (j + 1 + 1) := by
  have h := sz_at hs (1 + j)
  rw [List.getElem?_drop, List.length_append, List.length_append, show (xs[1 + j]?.getD ByteArray.empty).data.toList.length = (xs[1 + j]?.getD ByteArray.empty).size from by_size _]
  simp only [List.length_cons, List.length_nil]; omega
theorem join_no {n : Nat} (h2 : 2 ≤ n) (hn : n ≤ 1000) : ¬ IntKind.i64.wrap (Int.tdiv 9223372036854775807 ((n : Int) - 1)) ≤ (((⟨#[44, 32]⟩ : ByteArray).size : Nat) : Int) := by
  have h0 : (0 : Int) < (n : Int) - 1 := by omega
  have h3 : (3 : Int) ≤ 9223372036854775807 / ((n : Int) - 1) := (Int.le_ediv_iff_mul_le h0).2 (by omega)
  have h4 : 9223372036854775807 / ((n : Int) - 1) ≤ 9223372036854775807 := Int.ediv_le_self _ (by decide)
  rw [Int.tdiv_eq_ediv_of_nonneg (by decide), wrap_of (by omega) h4, show (⟨#[44, 32]⟩ : ByteArray).size = 2 from rfl]
  omega
theorem join_n0 {n : Nat} (h : 1 ≤ n) (hn : n ≤ 1000) : IntKind.i64.wrap (0 + IntKind.i64.wrap ((((⟨#[44, 32]⟩ : ByteArray).size : Nat) : Int) * IntKind.i64.wrap ((n : Int) - 1))) = 2 * ((n : Int) - 1) + ((0 : Nat) : Int) := by
  rw [show (⟨#[44, 32]⟩ : ByteArray).size = 2 from rfl, wrap_of (x := (n : Int) - 1) (by omega) (by omega), wrap_of (x := ((2 : Nat) : Int) * ((n : Int) - 1)) (by omega) (by omega), wrap_of (by omega) (by omega)]
  omega
theorem join_n1 {n L z : Nat} (hn : n ≤ 1000) (hL : L ≤ 1000000) (hz : z ≤ 1000) : IntKind.i64.wrap (2 * ((n : Int) - 1) + (L : Nat) + (z : Nat)) = 2 * ((n : Int) - 1) + ((L + z : Nat) : Int) := by
  rw [wrap_of (by omega) (by omega)]; omega
theorem sb_zero (c a sz : Nat) : subBase c 0 (some ⟨a, 0, none⟩) sz = some ⟨a, 0, none⟩ := by
  rw [subBase_eq]
  split
  · rfl
  rw [Nat.zero_mul]; rfl
theorem noZero_ct {E : World} {bl : List Blk} {R : List Hp} {K : Value → List Blk → List Hp → Prop} {z : Int} (h0 : 0 ≤ z) (hN : z ≤ 1073741824)
    (hk : ∀ a cs, z.toNat ≤ cs.length → K (.slice (some ⟨a, 0, none⟩) z.toNat cs.length) bl ([(a, Obj.cells ⟨cs⟩ 5)] :: R)) : VCcall Tryz.prog E 216 [.int .i64 z] ⟨[], bl, R⟩ K :=
  call_noZero (tI := 3) (tS := 131) Tryz.func216 (by kernel_rfl) (by kernel_rfl) (by kernel_rfl) (by kernel_rfl) Tryz.underlying131 h0 hN hk
--@ct internal/bytealg.MakeNoZero raw refine noZero_ct ?_ ?_ fun a# cs# hc# => ?_
--@ct (*strings.Builder).grow blk0 grow_ct _ _ ?_ ?_ | | rintro _ A# ⟨rfl, bb#, bc#, B#, rfl, o#, z#⟩ ;; refine ⟨_, _, [B#], rfl, perm1, ?_⟩
theorem grow_ct (b : Nat) (n : Int) (h0 : 0 < n) (hn : n ≤ 1048576) :
    CtR Tryz.prog 199 [.pointer (some ⟨b, 0, none⟩), .int .i64 n] [(b, Obj.cells ⟨[.pointer (some ⟨b, 0, none⟩), .slice none 0 0]⟩ 194)] (fun _ => True) (fun r A' => r = .tuple #[] ∧
      ∃ base' cap' B, A' = (b, Obj.cells ⟨[.pointer (some ⟨b, 0, none⟩), .slice base' 0 cap']⟩ 194) :: B ∧ (gSl 5 gY).ow [.slice base' 0 cap'] [] B ∧ Bz base' cap') := by
  refine CtR.introB G_ok [.p 0 0, .v (.int .i64 n)] [⟨b, [.pointer (some ⟨b, 0, none⟩), .slice none 0 0], 194⟩] [] Tryz.func199 rfl rfl rfl rfl (by simp [SV.ok]) (by simp [Blk.ent]) fun E H hp => ?_
  refine draw G_ok mixed none (.q 0 (.q 1 (.q 2 (.q 3 (.q 6 (.q 9 (.q 10 (.q 11 (.q 12 (.q 13 (.f 4 (.q 5 (.q 7 (.f 8 (.q 14 (.q 15 (.nil))))))))))))))))) (by decide +kernel) ?_
  refine VC.intro ?_ ?_
  · exact fun _ h => h
  refine noZero_ct ?_ ?_ fun a0 cs0 hc0 => ?_
  · (simp (disch := omega) only [wrap_of]; omega)
  · (simp (disch := omega) only [wrap_of]; omega)
  refine VC.intro ?_ ?_
  · exact keep_new
  refine VC.intro ?_ ?_
  · omega
  refine copy_nil G_ok rfl rfl rfl rfl ?_
  (rw [sb_zero]; exact ⟨_, ⟨rfl, some ⟨a0, 0, none⟩, cs0.length, [(a0, Obj.cells ⟨cs0⟩ 5)], rfl, room_ow, .inr (by simp (disch := omega) only [wrap_of] at hc0; omega)⟩, .le fun a => by simp [List.count_cons, Blk.ent, setR, idOf]⟩)
--@ct (*strings.Builder).Grow blk0 Grow_ct _ _ _ !a ?_ ?_ | | rintro _ A# ⟨rfl, bb#, bc#, B#, rfl, o#, z#⟩ ;; refine ⟨_, _, [B#], rfl, perm1, ?_⟩
theorem Grow_ct (b : Nat) (ad : Value) (n : Int) (ha : ad = .pointer none ∨ ad = .pointer (some ⟨b, 0, none⟩)) (h0 : 0 ≤ n) (hn : n ≤ 1048576) :
    CtR Tryz.prog 182 [.pointer (some ⟨b, 0, none⟩), .int .i64 n] [(b, Obj.cells ⟨[ad, .slice none 0 0]⟩ 194)] (fun _ => True) (fun r A' => r = .tuple #[] ∧
      ∃ base' cap' B, A' = (b, Obj.cells ⟨[.pointer (some ⟨b, 0, none⟩), .slice base' 0 cap']⟩ 194) :: B ∧ (gSl 5 gY).ow [.slice base' 0 cap'] [] B ∧ Bz base' cap') := by
  refine CtR.introB G_ok [.p 0 0, .v (.int .i64 n)] [⟨b, [ad, .slice none 0 0], 194⟩] [] Tryz.func182 rfl rfl rfl rfl (by simp [SV.ok]) (by simp [Blk.ent]) fun E H hp => ?_
  have ha' := ha
  refine callR_blk 0 ([]) [H] rfl ?_ (copyCheck_ct _ _ _ (by first | exact .inl rfl | exact .inr rfl | assumption)) trivial ?_
  · exact .refl _
  rintro _ A0 ⟨rfl, rfl⟩
  refine ⟨_, _, [], rfl, perm0, ?_⟩
  refine VCsplit.intro (fun q1 => ?_) (fun q1 => ?_)
  ·
    simp at q1
    exfalso; omega
  ·
    simp at q1
    refine draw G_ok mixed none (.q 0 (.q 1 (.q 2 (.q 3 (.q 5 (.q 6 (.q 7 (.q 8 (.q 9 (.q 11 (.f 4 (.q 10 (.q 12 (.nil)))))))))))))) (by decide +kernel) ?_
    refine VC.intro ?_ ?_
    · exact fun _ h => h
    refine VCsplit.intro (fun q2 => ?_) (fun q2 => ?_)
    ·
      simp at q2
      simp (disch := omega) only [wrap_of] at q2
      refine callR_blk 0 ([]) [H] rfl ?_ (grow_ct _ _ ?_ ?_) trivial ?_
      · exact .refl _
      · trivial
      · trivial
      rintro _ A3 ⟨rfl, bb3, bc3, B3, rfl, o3, z3⟩
      refine ⟨_, _, [B3], rfl, perm1, ?_⟩
      exact ⟨_, ⟨rfl, _, _, _, rfl, ‹_›, ‹_›⟩, .le fun a => by simp [List.count_cons, Blk.ent, setR, idOf]⟩
    ·
      simp at q2
      simp (disch := omega) only [wrap_of] at q2
      exact ⟨_, ⟨rfl, _, _, [], rfl, sl_nil _ _ _, .inl ⟨rfl, rfl⟩⟩, .le fun a => by simp [List.count_cons, Blk.ent, setR, idOf]⟩
--@ct spec.l08Join val l08Join_ct _ _ _ $1 ?_ ?_ | %1
theorem l08Join_ct (b : Option Addr) (m c : Nat) (xs : List ByteArray) (hn : xs.length ≤ 1000) (hs : ∀ s ∈ xs, s.size ≤ 1000) : Ct Tryz.prog 144 [.slice b m c] [] (fun H => (gSl 9 gS).rd H [.slice b m c] xs) (fun v A => v = .string (tx (joinQ xs)) ∧ A = []) := by
  refine Ct.intro0 G_ok Tryz.func144 rfl rfl rfl fun E H hp => ?_
  obtain ⟨rfl, hcl, hl⟩ := sl_len hp
  have him : IntKind.i64.max = 9223372036854775807 := rfl
  have hl2 : (⟨#[44, 32]⟩ : ByteArray).size = 2 := rfl
  apply loop_mod (α := (Nat) × (ByteArray)) G_ok [5, 6, 7, 8, 11, 12, 13, 14, 3, 15, 16, 17, 18, 19, 20, 9, 10, 4] (fun z => [(4, .v (.int .i64 z.1)), (3, .v (.string z.2))]) (fun z => []) (fun z => [H]) (fun z => xs.length - z.1) (fun z => z.1 ≤ xs.length ∧ z.2 = tx (joinQ (xs.take z.1)) ∧ z.2.size ≤ 1002 * z.1) ((0, _))
  · repeat' (first | exact trivial | refine ⟨⟨_, rfl, by first | rfl | exact inc_eq _ (by omega) | (refine sl_eq ?_; simp; done), by first | exact trivial | simp [SV.ok]⟩, ?_⟩)
  · exact trivial
  · try dsimp only
    exact ⟨Nat.zero_le _, rfl, Nat.zero_le _⟩
  · exact .refl _
  rintro ⟨k, s⟩ hI
  obtain ⟨hk, ho, hol⟩ : k ≤ xs.length ∧ s = tx (joinQ (xs.take k)) ∧ s.size ≤ 1002 * k := hI
  try dsimp only
  refine VCsplit.intro (fun q0 => ?_) (fun q0 => ?_)
  ·
    simp at q0
    have hsz := sz_at hs k
    refine VCsplit.intro (fun q1 => ?_) (fun q1 => ?_)
    ·
      simp at q1
      refine VC.intro ?_ ?_
      · omega
      refine idx_rd hp ?_ ?_ fun b2 o2 hb2 => ?_
      · omega
      · omega
      refine load_allN ByteArray.empty (k) rfl hp ?_ ?_ hb2 rfl (mem_at 0 rfl) fun l3 hl3 => ?_
      · omega
      · omega
      obtain ⟨rfl, hw3⟩ := hl3; simp only [flStr, flInt, okI] at hw3
      refine VC.intro ?_ ?_
      · simp; omega
      apply loop_stepA (k + 1, _)
      · exact .refl _
      · repeat' (first | exact trivial | refine ⟨⟨_, rfl, by first | rfl | exact inc_eq _ (by omega) | (refine sl_eq ?_; simp; done), by first | exact trivial | simp [SV.ok]⟩, ?_⟩)
      · exact trivial
      · try dsimp only
        exact ⟨by omega, join_next (by assumption) (by assumption) ho, by simp only [ByteArray.size_append]; omega⟩
      try dsimp only
      omega
    ·
      simp at q1
      refine idx_rd hp ?_ ?_ fun b4 o4 hb4 => ?_
      · omega
      · omega
      refine load_allN ByteArray.empty (k) rfl hp ?_ ?_ hb4 rfl (mem_at 0 rfl) fun l5 hl5 => ?_
      · omega
      · omega
      obtain ⟨rfl, hw5⟩ := hl5; simp only [flStr, flInt, okI] at hw5
      refine VC.intro ?_ ?_
      · omega
      apply loop_stepA (k + 1, _)
      · exact .refl _
      · repeat' (first | exact trivial | refine ⟨⟨_, rfl, by first | rfl | exact inc_eq _ (by omega) | (refine sl_eq ?_; simp; done), by first | exact trivial | simp [SV.ok]⟩, ?_⟩)
      · exact trivial
      · try dsimp only
        (have hk0 : k = 0 := (by assumption); subst hk0; exact ⟨by omega, join_first (by omega) ho, by simp only [ByteArray.size_append]; omega⟩)
      try dsimp only
      omega
  ·
    simp at q0
    obtain rfl : k = xs.length := by omega
    rw [List.take_length] at ho
    exact ⟨[], ⟨by rw [ho], rfl⟩, (.le fun a => by (try simp only [setR, List.cons_append, List.nil_append]); simp only [List.flatten_append, List.flatten_cons, List.flatten_nil, List.count_append, List.count_nil, List.append_nil, List.nil_append]; omega)⟩
--@ct strings.Join val join_ct _ _ _ $1 ?_ ?_ | %1
theorem join_ct (b : Option Addr) (m c : Nat) (xs : List ByteArray) (hn : xs.length ≤ 1000) (hs : ∀ s ∈ xs, s.size ≤ 1000) : Ct Tryz.prog 150 [.slice b m c, .string ⟨#[44, 32]⟩] [] (fun H => (gSl 9 gS).rd H [.slice b m c] xs) (fun v A => v = .string (tx (joinQ xs)) ∧ A = []) := by
  refine Ct.intro0 G_ok Tryz.func150 rfl rfl rfl fun E H hp => ?_
  obtain ⟨rfl, hcl, hl⟩ := sl_len hp
  have him : IntKind.i64.max = 9223372036854775807 := rfl
  have hl2 : (⟨#[44, 32]⟩ : ByteArray).size = 2 := rfl
  refine VCsplit.intro (fun q0 => ?_) (fun q0 => ?_)
  ·
    simp at q0
    exact ⟨[], ⟨by rw [‹xs = []›]; rfl, rfl⟩, (.le fun a => by (try simp only [setR, List.cons_append, List.nil_append]); simp only [List.flatten_append, List.flatten_cons, List.flatten_nil, List.count_append, List.count_nil, List.append_nil, List.nil_append]; omega)⟩
  ·
    simp at q0
    have ln0 : 0 < xs.length := List.length_pos_iff.2 q0
    refine VCsplit.intro (fun q1 => ?_) (fun q1 => ?_)
    ·
      simp at q1
      refine idx_rd hp ?_ ?_ fun b2 o2 hb2 => ?_
      · trivial
      · omega
      refine load_allN ByteArray.empty (0) rfl hp ?_ ?_ hb2 rfl (mem_at 0 rfl) fun l3 hl3 => ?_
      · trivial
      · omega
      obtain ⟨rfl, hw3⟩ := hl3; simp only [flStr, flInt, okI] at hw3
      exact ⟨[], ⟨congrArg Value.string (join_single (by omega)), rfl⟩, (.le fun a => by (try simp only [setR, List.cons_append, List.nil_append]); simp only [List.flatten_append, List.flatten_cons, List.flatten_nil, List.count_append, List.count_nil, List.append_nil, List.nil_append]; omega)⟩
    ·
      simp at q1
      refine VCsplit.intro (fun q4 => ?_) (fun q4 => ?_)
      ·
        simp at q4
        refine VC.intro ?_ ?_
        · (simp (disch := omega) only [wrap_of]; omega)
        refine VCsplit.intro (fun q5 => ?_) (fun q5 => ?_)
        ·
          simp at q5
          simp (disch := omega) only [wrap_of] at q5
          exact (join_no (by omega) hn q5).elim
        ·
          simp at q5
          simp (disch := omega) only [wrap_of] at q5
          apply loop_mod (α := (Nat)) G_ok [42, 43, 44, 7, 45, 46, 47, 48, 49, 50, 51, 52, 53, 54, 5, 55, 41] (fun z => [(41, .v (.int .i64 z)), (5, .v (.int .i64 (2 * ((xs.length : Int) - 1) + (lenK xs z : Nat))))]) (fun z => []) (fun z => [H]) (fun z => xs.length - z) (fun z => z ≤ xs.length) ((0))
          · repeat' (first | exact trivial | refine ⟨⟨_, rfl, by first | rfl | exact inc_eq _ (by omega) | (refine sl_eq ?_; simp; done) | exact congrArg (fun v => SV.v (Value.int .i64 v)) (join_n0 (by omega) hn) | exact congrArg (fun v => Value.int .i64 v) (join_n0 (by omega) hn) | exact congrArg (fun v => SV.v (Value.int .i64 v)) (join_n1 hn (by omega) hsz) | exact congrArg (fun v => Value.int .i64 v) (join_n1 hn (by omega) hsz), by first | exact trivial | simp [SV.ok]⟩, ?_⟩)
          · exact trivial
          · exact Nat.zero_le _
          · exact .refl _
          rintro k hI
          obtain hk : k ≤ xs.length := hI
          try dsimp only
          refine VCsplit.intro (fun q6 => ?_) (fun q6 => ?_)
          ·
            simp at q6
            have hsz := sz_at hs k
            have hlk := lenK_le hs hI
            refine idx_rd hp ?_ ?_ fun b7 o7 hb7 => ?_
            · omega
            · omega
            refine load_allN ByteArray.empty (k) rfl hp ?_ ?_ hb7 rfl (mem_at 0 rfl) fun l8 hl8 => ?_
            · omega
            · omega
            obtain ⟨rfl, hw8⟩ := hl8; simp only [flStr, flInt, okI] at hw8
            refine VCsplit.intro (fun q9 => ?_) (fun q9 => ?_)
            ·
              simp at q9
              simp (disch := omega) only [wrap_of] at q9
              exfalso; omega
            ·
              simp at q9
              simp (disch := omega) only [wrap_of] at q9
              apply loop_stepA (k + 1)
              · exact .refl _
              · repeat' (first | exact trivial | refine ⟨⟨_, rfl, by first | rfl | exact inc_eq _ (by omega) | (refine sl_eq ?_; simp; done) | exact congrArg (fun v => SV.v (Value.int .i64 v)) (join_n0 (by omega) hn) | exact congrArg (fun v => Value.int .i64 v) (join_n0 (by omega) hn) | exact congrArg (fun v => SV.v (Value.int .i64 v)) (join_n1 hn (by omega) hsz) | exact congrArg (fun v => Value.int .i64 v) (join_n1 hn (by omega) hsz), by first | exact trivial | simp [SV.ok]⟩, ?_⟩)
              · exact trivial
              · trivial
              omega
          ·
            simp at q6
            have hlk := lenK_le hs hI
            have hs0 := sz_at hs 0
            have hpd : (gSl 9 gS).rd H [.slice (subBase c (Int.toNat 1) b ty9.size) (xs.length - Int.toNat 1) (c - Int.toNat 1)] (xs.drop 1) := (by have h9 := rd_sub (l := 1) (h := xs.length) hp (by omega) (Nat.le_refl _); rw [List.take_length] at h9; exact h9)
            refine VCnew.intro fun x10 => ?_
            refine callR_blk 0 ([]) [H] rfl ?_ (Grow_ct _ _ _ (by first | exact .inl rfl | exact .inr rfl | assumption) ?_ ?_) trivial ?_
            · exact .refl _
            · omega
            · omega
            rintro _ A11 ⟨rfl, bb11, bc11, B11, rfl, o11, z11⟩
            refine ⟨_, _, [B11], rfl, perm1, ?_⟩
            refine idx_rd hp ?_ ?_ fun b12 o12 hb12 => ?_
            · trivial
            · omega
            refine load_allN ByteArray.empty (0) rfl hp ?_ ?_ hb12 rfl (mem_at 1 rfl) fun l13 hl13 => ?_
            · trivial
            · omega
            obtain ⟨rfl, hw13⟩ := hl13; simp only [flStr, flInt, okI] at hw13
            refine callR_blk 0 (B11) [H] rfl ?_ (WriteString_ct _ _ _ _ _ _ _ _ (by first | exact .inl rfl | exact .inr rfl | assumption) o11 z11 ?_) trivial ?_
            · exact .refl _
            · simp; omega
            rintro _ A14 ⟨rfl, bb14, bc14, B14, rfl, o14, z14⟩
            refine ⟨_, _, [B14], rfl, perm1, ?_⟩
            refine VC.intro ?_ ?_
            · omega
            apply loop_mod (α := (Nat) × (List UInt8) × (Hp) × (Option Addr) × (Nat)) G_ok [66, 67, 68, 10, 69, 70, 71, 72, 73, 65] (fun z => [(65, .v (.int .i64 z.1))]) (fun z => [⟨x10, [Value.pointer (some { block := idOf [{ id := x10, cs := [Value.pointer (some { block := idOf [{ id := x10, cs := [Value.pointer none, Value.slice none (0 : Nat) (0 : Nat)], ty := (194 : Nat) }] (0 : Nat), off := (0 : Nat) }), Value.slice bb11 (0 : Nat) bc11], ty := (194 : Nat) }] (0 : Nat), off := (0 : Nat) }), .slice z.2.2.2.1 z.2.1.length z.2.2.2.2], (194 : Nat)⟩]) (fun z => [z.2.2.1, H]) (fun z => (xs.length - 1) - z.1) (fun z => z.1 ≤ xs.length - 1 ∧ z.2.1 = joinQ (xs.take (z.1 + 1)) ∧ z.2.1.length ≤ 1002 * (z.1 + 1) ∧ (gSl 5 gY).ow [.slice z.2.2.2.1 z.2.1.length z.2.2.2.2] z.2.1 z.2.2.1 ∧ Bz z.2.2.2.1 z.2.2.2.2) ((0, _, _, _, _))
            · repeat' (first | exact trivial | refine ⟨⟨_, rfl, by first | rfl | exact inc_eq _ (by omega) | (refine sl_eq ?_; simp; done) | exact congrArg (fun v => SV.v (Value.int .i64 v)) (join_n0 (by omega) hn) | exact congrArg (fun v => Value.int .i64 v) (join_n0 (by omega) hn) | exact congrArg (fun v => SV.v (Value.int .i64 v)) (join_n1 hn (by omega) hsz) | exact congrArg (fun v => Value.int .i64 v) (join_n1 hn (by omega) hsz), by first | exact trivial | simp [SV.ok]⟩, ?_⟩)
            · exact ⟨rfl, trivial⟩
            · try dsimp only
              exact ⟨Nat.zero_le _, by rw [List.nil_append]; exact (joinQ_one (by omega)).symm, by rw [List.nil_append, show (xs[0]?.getD ByteArray.empty).data.toList.length = (xs[0]?.getD ByteArray.empty).size from by_size _]; omega, ‹_›, ‹_›⟩
            · exact .refl _
            rintro ⟨j, o, A, b2, c2⟩ hI
            obtain ⟨hj, ho, hol, oA, zA⟩ : j ≤ xs.length - 1 ∧ o = joinQ (xs.take (j + 1)) ∧ o.length ≤ 1002 * (j + 1) ∧ (gSl 5 gY).ow [.slice b2 o.length c2] o A ∧ Bz b2 c2 := hI
            try dsimp only
            refine VCsplit.intro (fun q15 => ?_) (fun q15 => ?_)
            ·
              simp at q15
              refine idx_rd hpd ?_ ?_ fun b16 o16 hb16 => ?_
              · omega
              · simp; omega
              refine load_allN ByteArray.empty (j) rfl hpd ?_ ?_ hb16 rfl (mem_at 1 rfl) fun l17 hl17 => ?_
              · omega
              · simp; omega
              obtain ⟨rfl, hw17⟩ := hl17; simp only [flStr, flInt, okI] at hw17
              refine callR_blk 0 (A) [H] rfl ?_ (WriteString_ct _ _ _ _ _ _ _ _ (by first | exact .inl rfl | exact .inr rfl | assumption) oA zA ?_) trivial ?_
              · exact .refl _
              · omega
              rintro _ A18 ⟨rfl, bb18, bc18, B18, rfl, o18, z18⟩
              refine ⟨_, _, [B18], rfl, perm1, ?_⟩
              refine callR_blk 0 (B18) [H] rfl ?_ (WriteString_ct _ _ _ _ _ _ _ _ (by first | exact .inl rfl | exact .inr rfl | assumption) o18 z18 ?_) trivial ?_
              · exact .refl _
              · grind
              rintro _ A19 ⟨rfl, bb19, bc19, B19, rfl, o19, z19⟩
              refine ⟨_, _, [B19], rfl, perm1, ?_⟩
              apply loop_stepA (j + 1, _, _, _, _)
              · exact .refl _
              · repeat' (first | exact trivial | refine ⟨⟨_, rfl, by first | rfl | exact inc_eq _ (by omega) | (refine sl_eq ?_; simp; done) | exact congrArg (fun v => SV.v (Value.int .i64 v)) (join_n0 (by omega) hn) | exact congrArg (fun v => Value.int .i64 v) (join_n0 (by omega) hn) | exact congrArg (fun v => SV.v (Value.int .i64 v)) (join_n1 hn (by omega) hsz) | exact congrArg (fun v => Value.int .i64 v) (join_n1 hn (by omega) hsz), by first | exact trivial | simp [SV.ok]⟩, ?_⟩)
              · exact ⟨rfl, trivial⟩
              · try dsimp only
                exact ⟨by omega, by rw [ho]; exact join_b (by assumption), join_bz hs hol, ‹_›, ‹_›⟩
              try dsimp only
              omega
            ·
              simp at q15
              refine callR_blk 0 (A) [H] rfl ?_ (String_ct _ _ _ _ _ _ _ oA zA) trivial ?_
              · exact .refl _
              rintro _ A20 ⟨rfl, rfl⟩
              refine ⟨_, _, [], rfl, perm0, ?_⟩
              (have hje : j + 1 = xs.length := (by omega); rw [hje, List.take_length] at ho; exact ⟨[], ⟨by rw [ho]; rfl, rfl⟩, (.le fun a => by (try simp only [setR, List.cons_append, List.nil_append]); simp only [List.flatten_append, List.flatten_cons, List.flatten_nil, List.count_append, List.count_nil, List.append_nil, List.nil_append]; omega)⟩)
      ·
        simp at q4
        exact absurd q4 (by decide)
end Go.Proofs.YtcnclhjhnjpeiaaGreatDoor

namespace Go.Proofs.YtcnclhjhnjpeiaaGreatDoor
open Go.SX Go.Proofs
set_option maxHeartbeats 1000000
/-- digits s have been told of n0, m is what is left -/
def decI (n0 m : Nat) (s : List UInt8) : Prop := if m = 0 then s = Lib.decDigits n0 else Lib.decDigits n0 = Lib.decDigits m ++ s
theorem decI_init {n : Nat} (h : ¬ n = 0) : decI n n [] := by unfold decI; rw [if_neg h, List.append_nil]
theorem decI_step {n m : Nat} {s : List UInt8} (h : decI n m s) (hm : ¬ m = 0) : decI n (m / 10) (UInt8.ofNat (48 + m % 10) :: s) := by
  unfold decI at h ⊢
  rw [if_neg hm] at h
  by_cases h1 : m < 10
  · rw [if_pos (by omega), h, Lib.decDigits, dif_pos h1, Nat.mod_eq_of_lt h1]; rfl
  rw [if_neg (by omega), h]
  conv => lhs; rw [Lib.decDigits, dif_neg h1]
  rw [List.append_assoc]; rfl
theorem decI_end {n : Nat} {s : List UInt8} (h : decI n 0 s) : s = Lib.decDigits n := by unfold decI at h; rwa [if_pos rfl] at h
theorem decI_le {n m : Nat} {s : List UInt8} (h : decI n m s) : s.length ≤ (Lib.decDigits n).length := by
  unfold decI at h
  split at h
  · rw [h]; exact Nat.le_refl _
  rw [h, List.length_append]; omega
theorem dec_len : ∀ (k n : Nat), n < 10 ^ (k + 1) → (Lib.decDigits n).length ≤ k + 1
  | 0, n, h => by rw [Lib.decDigits, dif_pos (by omega)]; exact Nat.le_refl _
  | k + 1, n, h => by
    rw [Lib.decDigits]
    split
    · simp
    rw [List.length_append, List.length_singleton]
    have := dec_len k (n / 10) (by rw [Nat.div_lt_iff_lt_mul (by omega), ← Nat.pow_succ]; exact h)
    omega
theorem dec_zero : Lib.decDigits 0 = [48] := by rw [Lib.decDigits, dif_pos (by omega)]; rfl
theorem dec_i64 {n : Int} (h : 0 ≤ n ∧ n ≤ 9223372036854775807) : (Lib.decDigits n.toNat).length ≤ 19 := dec_len 18 n.toNat (by omega)
end Go.Proofs.YtcnclhjhnjpeiaaGreatDoor

namespace Go.Proofs.YtcnclhjhnjpeiaaGreatDoor
open Go.SX Go.Proofs
set_option linter.unusedSimpArgs false
set_option linter.unusedVariables false
set_option maxHeartbeats 4000000
set_option maxRecDepth 100000
attribute [local irreducible] IntKind.wrap
def dcT (n : Int) : List UInt8 := Lib.decDigits n.toNat
--@ct internal/strconv.small val small_ct _ ?_ | trivial
--@ct internal/strconv.FormatInt val formatInt_ct _ ?_ | trivial
--@ct internal/strconv.Itoa val itoaI_ct _ ?_ | trivial
--@ct strconv.Itoa val itoa_ct _ ?_ | trivial
--@ct impl.Decimal val decimal12_ct _ ?_ | trivial
--@ct spec.l01Figure val l01Figure_ct _ ?_ | trivial
theorem l01Figure_ct (d : Int) (h : 0 ≤ d ∧ d < 10) : Ct Tryz.prog 78 [.int .i64 d] [] (fun _ => True) (fun v A => v = .int .u8 (48 + d) ∧ A = []) := by
  refine Ct.intro0 G_ok Tryz.func78 rfl rfl rfl fun E H hp => ?_
  refine VCsplit.intro (fun q0 => ?_) (fun q0 => ?_)
  ·
    simp at q0
    exact ⟨[], ⟨by rw [wrap_of (x := 48 + d) (by omega) (by omega), u8_wrap, Int.emod_eq_of_lt (by omega) (by omega)], rfl⟩, (.le fun a => by (try simp only [setR, List.cons_append, List.nil_append]); simp only [List.flatten_append, List.flatten_cons, List.flatten_nil, List.count_append, List.count_nil, List.append_nil, List.nil_append]; omega)⟩
  ·
    simp at q0
    exfalso; omega
theorem dec_mod (m : Nat) : Int.tmod (m : Int) 10 = ((m % 10 : Nat) : Int) := by rw [Int.tmod_eq_emod_of_nonneg (by omega)]; rfl
theorem dec_div (m : Nat) : Int.tdiv (m : Int) 10 = ((m / 10 : Nat) : Int) := by rw [Int.tdiv_eq_ediv_of_nonneg (by omega)]; rfl
theorem dec_cons (m : Nat) (s : List UInt8) : (⟨(([48 + Int.tmod (m : Int) 10] : List Int).map fun v => UInt8.ofNat v.toNat).toArray⟩ : ByteArray) ++ tx s = tx (UInt8.ofNat (48 + m % 10) :: s) := by
  rw [dec_mod]
  have e : (48 + ((m % 10 : Nat) : Int)).toNat = 48 + m % 10 := by omega
  have e2 : (⟨(([48 + ((m % 10 : Nat) : Int)] : List Int).map fun v => UInt8.ofNat v.toNat).toArray⟩ : ByteArray) = tx [UInt8.ofNat (48 + m % 10)] := by
    unfold tx
    rw [List.map_cons, e]; rfl
  rw [e2, ← tx_app]; rfl
--@ct spec.Decimal val specDecimal_ct _ ?_ | trivial
theorem specDecimal_ct (n : Int) (h : 0 ≤ n ∧ n ≤ 9223372036854775807) : Ct Tryz.prog 31 [.int .i64 n] [] (fun _ => True) (fun v A => v = .string (tx (dcT n)) ∧ A = []) := by
  refine Ct.intro0 G_ok Tryz.func31 rfl rfl rfl fun E H hp => ?_
  have h19 := dec_i64 h
  refine VCsplit.intro (fun q0 => ?_) (fun q0 => ?_)
  ·
    simp at q0
    (rw [‹n = 0›]; exact ⟨[], ⟨by unfold dcT; rw [show Int.toNat 0 = 0 from rfl, dec_zero]; rfl, rfl⟩, (.le fun a => by (try simp only [setR, List.cons_append, List.nil_append]); simp only [List.flatten_append, List.flatten_cons, List.flatten_nil, List.count_append, List.count_nil, List.append_nil, List.nil_append]; omega)⟩)
  ·
    simp at q0
    apply loop_mod (α := (Nat) × (List UInt8)) G_ok [10, 11, 12, 13, 5, 14, 15, 16, 17, 18, 19, 20, 21, 22, 23, 4, 24, 25, 0] (fun z => [(4, .v (.string (tx z.2))), (0, .v (.int .i64 z.1))]) (fun z => []) (fun z => [H]) (fun z => z.1) (fun z => decI n.toNat z.1 z.2 ∧ (z.1 : Int) ≤ n) ((n.toNat, []))
    · repeat' (first | exact trivial | refine ⟨⟨_, rfl, by first | rfl | exact inc_eq _ (by omega) | (refine sl_eq ?_; simp; done) | exact congrArg (fun v => SV.v (Value.int .i64 v)) (Int.toNat_of_nonneg h.1).symm | exact congrArg (fun v => Value.int .i64 v) (Int.toNat_of_nonneg h.1).symm | exact congrArg (fun v => SV.v (Value.int .i64 v)) hwd | exact congrArg (fun v => SV.v (Value.string v)) (dec_cons m s) | exact congrArg (fun v => Value.int .i64 v) hwd | exact congrArg (fun v => Value.string v) (dec_cons m s), by first | exact trivial | simp [SV.ok]⟩, ?_⟩)
    · exact trivial
    · try dsimp only
      exact ⟨decI_init (by omega), by omega⟩
    · exact .refl _
    rintro ⟨m, s⟩ hI
    obtain ⟨hI, hm⟩ : decI n.toNat m s ∧ (m : Int) ≤ n := hI
    try dsimp only
    refine VCsplit.intro (fun q1 => ?_) (fun q1 => ?_)
    ·
      simp at q1
      have htm := dec_mod m
      have htd := dec_div m
      have hwd : IntKind.i64.wrap (Int.tdiv (m : Int) 10) = ((m / 10 : Nat) : Int) := (by rw [htd, wrap_of (by omega) (by omega)])
      have hsl := decI_le hI
      have h7 : IntKind.i64.max = 9223372036854775807 := rfl
      refine VC.intro ?_ ?_
      · trivial
      refine VCsplit.intro (fun q2 => ?_) (fun q2 => ?_)
      ·
        simp at q2
        exact absurd (htm ▸ q2 : ((m % 10 : Nat) : Int) < 0) (by omega)
      ·
        simp at q2
        refine call_val (l01Figure_ct _ ?_) trivial ?_
        · omega
        rintro _ rfl
        refine VCnew.intro fun x4 => ?_
        refine conv_bs G_ok (([(48 : Int) + (↑m : Int).tmod (10 : Int)] : List Int).map fun v => UInt8.ofNat v.toNat) rfl (lit_bs [(48 : Int) + (↑m : Int).tmod (10 : Int)] (mem_at 0 rfl _ (List.mem_singleton.2 rfl)) rfl ?_ (by simp)) rfl rfl rfl ?_
        · (simp only [inU8, u8_wrap, and_true]; omega)
        refine VC.intro ?_ ?_
        · (simp only [ByteArray.size_append, tx, bsz, List.length_map, List.length_cons, List.length_nil]; omega)
        refine VC.intro ?_ ?_
        · trivial
        apply loop_stepA (m / 10, UInt8.ofNat (48 + m % 10) :: s)
        · exact .sub (by repeat (first | exact .slnil | apply List.Sublist.cons_cons | apply List.Sublist.cons))
        · repeat' (first | exact trivial | refine ⟨⟨_, rfl, by first | rfl | exact inc_eq _ (by omega) | (refine sl_eq ?_; simp; done) | exact congrArg (fun v => SV.v (Value.int .i64 v)) (Int.toNat_of_nonneg h.1).symm | exact congrArg (fun v => Value.int .i64 v) (Int.toNat_of_nonneg h.1).symm | exact congrArg (fun v => SV.v (Value.int .i64 v)) hwd | exact congrArg (fun v => SV.v (Value.string v)) (dec_cons m s) | exact congrArg (fun v => Value.int .i64 v) hwd | exact congrArg (fun v => Value.string v) (dec_cons m s), by first | exact trivial | simp [SV.ok]⟩, ?_⟩)
        · exact trivial
        · try dsimp only
          exact ⟨decI_step hI (by omega), by omega⟩
        try dsimp only
        omega
    ·
      simp at q1
      refine VCsplit.intro (fun q5 => ?_) (fun q5 => ?_)
      ·
        simp at q5
        exfalso; omega
      ·
        simp at q5
        (have hm0 : m = 0 := (by omega); subst hm0; rw [decI_end hI]; exact ⟨[], ⟨rfl, rfl⟩, (.le fun a => by (try simp only [setR, List.cons_append, List.nil_append]); simp only [List.flatten_append, List.flatten_cons, List.flatten_nil, List.count_append, List.count_nil, List.append_nil, List.nil_append]; omega)⟩)
end Go.Proofs.YtcnclhjhnjpeiaaGreatDoor

namespace Go.Proofs.YtcnclhjhnjpeiaaGreatDoor
open Go.Proofs Go.Shelf
def laysItoa_ren : Go.Shelf.Ren := ⟨fun | 171 => 133 | 243 => 165 | 246 => 189 | 283 => 202 | 284 => 203 | 285 => 204 | 286 => 205 | 129 => 218 | 317 => 217 | 318 => 219 | 319 => 220 | 320 => 221 | 337 => 230 | 338 => 231 | n => n, fun | 3 => 3 | 9 => 9 | 2 => 2 | 4 => 4 | 171 => 286 | 0 => 0 | 53 => 287 | 37 => 131 | 5 => 5 | 173 => 290 | 212 => 313 | 51 => 301 | 20 => 20 | 213 => 314 | 46 => 307 | 232 => 332 | 233 => 333 | n => n, fun | 17 => 0 | 18 => 2 | 19 => 3 | n => n⟩
theorem laysItoa : Go.Proofs.LaysM.n171 Tryz.prog laysItoa_ren where
  mixed := by kernel_rfl
  f129 := Tryz.func218.trans (congrArg some (by kernel_rfl))
  f171 := Tryz.func133.trans (congrArg some (by kernel_rfl))
  f243 := Tryz.func165.trans (congrArg some (by kernel_rfl))
  f246 := Tryz.func189.trans (congrArg some (by kernel_rfl))
  f283 := Tryz.func202.trans (congrArg some (by kernel_rfl))
  f284 := Tryz.func203.trans (congrArg some (by kernel_rfl))
  f285 := Tryz.func204.trans (congrArg some (by kernel_rfl))
  f286 := Tryz.func205.trans (congrArg some (by kernel_rfl))
  f317 := Tryz.func217.trans (congrArg some (by kernel_rfl))
  f318 := Tryz.func219.trans (congrArg some (by kernel_rfl))
  f319 := Tryz.func220.trans (congrArg some (by kernel_rfl))
  f320 := Tryz.func221.trans (congrArg some (by kernel_rfl))
  f337 := Tryz.func230.trans (congrArg some (by kernel_rfl))
  f338 := Tryz.func231.trans (congrArg some (by kernel_rfl))
  t0 := Tryz.underlying0
  a0 := Tryz.isAgg0
  z0 := Tryz.sizeOf0
  v0 := Tryz.zeroValue0
  t2 := Tryz.underlying2
  a2 := Tryz.isAgg2
  z2 := Tryz.sizeOf2
  v2 := Tryz.zeroValue2
  t3 := Tryz.underlying3
  a3 := Tryz.isAgg3
  z3 := Tryz.sizeOf3
  v3 := Tryz.zeroValue3
  t4 := Tryz.underlying4
  a4 := Tryz.isAgg4
  z4 := Tryz.sizeOf4
  v4 := Tryz.zeroValue4
  t5 := Tryz.underlying5
  a5 := Tryz.isAgg5
  z5 := Tryz.sizeOf5
  v5 := Tryz.zeroValue5
  t9 := Tryz.underlying9
  a9 := Tryz.isAgg9
  z9 := Tryz.sizeOf9
  v9 := Tryz.zeroValue9
  t20 := Tryz.underlying20
  a20 := Tryz.isAgg20
  z20 := Tryz.sizeOf20
  v20 := Tryz.zeroValue20
  t37 := Tryz.underlying131
  a37 := Tryz.isAgg131
  z37 := Tryz.sizeOf131
  v37 := Tryz.zeroValue131
  t46 := Tryz.underlying307
  a46 := Tryz.isAgg307
  z46 := Tryz.sizeOf307
  v46 := Tryz.zeroValue307
  t51 := Tryz.underlying301
  a51 := Tryz.isAgg301
  z51 := Tryz.sizeOf301
  v51 := Tryz.zeroValue301
  t53 := Tryz.underlying287
  a53 := Tryz.isAgg287
  z53 := Tryz.sizeOf287
  v53 := Tryz.zeroValue287
  t171 := Tryz.underlying286
  a171 := Tryz.isAgg286
  z171 := Tryz.sizeOf286
  v171 := Tryz.zeroValue286
  t173 := Tryz.underlying290
  a173 := Tryz.isAgg290
  z173 := Tryz.sizeOf290
  v173 := Tryz.zeroValue290
  t212 := Tryz.underlying313
  a212 := Tryz.isAgg313
  z212 := Tryz.sizeOf313
  v212 := Tryz.zeroValue313
  t213 := Tryz.underlying314
  a213 := Tryz.isAgg314
  z213 := Tryz.sizeOf314
  t232 := Tryz.underlying332
  a232 := Tryz.isAgg332
  z232 := Tryz.sizeOf332
  v232 := Tryz.zeroValue332
  t233 := Tryz.underlying333
  a233 := Tryz.isAgg333
  z233 := Tryz.sizeOf333
  v233 := Tryz.zeroValue333
  g17 := by kernel_rfl
  g18 := by kernel_rfl
  g19 := by kernel_rfl
  i0 := by kernel_rfl
  i2 := by kernel_rfl
  i3 := by kernel_rfl
  i4 := by kernel_rfl
  i5 := by kernel_rfl
  i9 := by kernel_rfl
  i20 := by kernel_rfl
  i37 := by kernel_rfl
  i46 := by kernel_rfl
  i51 := by kernel_rfl
  i53 := by kernel_rfl
  i171 := by kernel_rfl
  i173 := by kernel_rfl
  i212 := by kernel_rfl
  i232 := by kernel_rfl
  i233 := by kernel_rfl
  m17 := by kernel_rfl
  m18 := by kernel_rfl
  m19 := by kernel_rfl
end Go.Proofs.YtcnclhjhnjpeiaaGreatDoor

namespace Go.Proofs.YtcnclhjhnjpeiaaGreatDoor
open Go.SX Go.Proofs
set_option linter.unusedSimpArgs false
set_option linter.unusedVariables false
set_option maxHeartbeats 4000000
attribute [local irreducible] IntKind.wrap
/-- the library's table of the powers of ten lies in the memory -/
def tabA : Array Value := (Lib.pow10Tab.map fun z => Value.int .u64 z).toArray
def TabIn (H : Hp) : Prop := ∃ g t fz, Tryz.prog.globalNamed "internal/strconv.uint64pow10" = some g ∧ (g, Obj.cells tabA t fz) ∈ H
theorem TabIn.mono {H H' : Hp} (h : TabIn H) (hs : ∀ p ∈ H, p ∈ H') : TabIn H' := by
  obtain ⟨g, t, fz, h1, h2⟩ := h
  exact ⟨g, t, fz, h1, hs _ h2⟩
theorem tab_is {E : World} {H : Hp} {w : World} (hs : Sat E H w) (h : TabIn H) : Lib.TabIs Tryz.prog w "internal/strconv.uint64pow10" .u64 Lib.pow10Tab := by
  obtain ⟨g, t, fz, h1, h2⟩ := h
  unfold Lib.TabIs World.var?
  rw [h1, Option.bind_some, hs.mem _ _ h2]
  rfl
theorem sat_grow9 {E : World} {H : Hp} {w : World} (h : Sat E H w) (k : Nat) (os : Array Obj) : Sat E H (Sort.grow (w.drewN k) os) :=
  ⟨h.os, h.out, h.tape, fun b o hm => by
    have h1 := h.mem b o hm
    have h2 : b < w.heap.size := by
      by_cases h3 : b < w.heap.size
      · exact h3
      rw [Array.getElem?_eq_none (by omega)] at h1; cases h1
    show (w.heap ++ os)[b]? = some o
    rw [Array.getElem?_append_left h2]; exact h1, h.nodup, Nat.le_trans h.dr (Nat.le_add_right _ _)⟩
theorem itoaAll_ct (n : Int) (h : 0 ≤ n ∧ n ≤ 9223372036854775807) : Ct Tryz.prog 133 [.int .i64 n] [] TabIn (fun v A => v = .string (tx (dcT n)) ∧ A = []) := by
  refine ⟨⟨_, Tryz.func133, of_decide_eq_false (by kernel_rfl), rfl⟩, fun E H w hs hp => ?_⟩
  have hc := Any.strconv_Itoa laysItoa n (by omega) h.2 w (tab_is hs hp)
  refine hc.mono ?_
  rintro e w' ⟨rfl, k, os, rfl⟩
  refine ⟨_, [], rfl, ⟨?_, rfl⟩, sat_grow9 hs k os⟩
  unfold Lib.itoa
  rw [if_neg (by omega)]; rfl
theorem decimalAll_ct (n : Int) (h : 0 ≤ n ∧ n ≤ 9223372036854775807) : Ct Tryz.prog 82 [.int .i64 n] [] TabIn (fun v A => v = .string (tx (dcT n)) ∧ A = []) := by
  refine Ct.intro0 G_ok Tryz.func82 rfl rfl rfl fun E H hp => ?_
  refine call_val (itoaAll_ct _ h) (TabIn.mono hp (mem_at 0 rfl)) ?_
  rintro _ rfl
  exact ⟨[], ⟨rfl, rfl⟩, (.le fun a => by (try simp only [setR, List.cons_append, List.nil_append]); simp only [List.flatten_append, List.flatten_cons, List.flatten_nil, List.count_append, List.count_nil, List.append_nil, List.nil_append]; omega)⟩
end Go.Proofs.YtcnclhjhnjpeiaaGreatDoor

namespace Go.Proofs.YtcnclhjhnjpeiaaGreatDoor
open Go.SX Go.Proofs
set_option linter.unusedSimpArgs false
set_option linter.unusedVariables false
set_option maxHeartbeats 4000000
attribute [local irreducible] IntKind.wrap
def varL : Nat → Nat → List UInt8
  | 0, n => [UInt8.ofNat n]
  | f + 1, n => if 127 < n then UInt8.ofNat (128 + n % 128) :: varL f (n / 128) else [UInt8.ofNat n]
def varT (n : Int) : List UInt8 := varL 9 n.toNat
def varText (n : Int) : ByteArray := tx (varT n)
theorem varL_len : ∀ f n, (varL f n).length ≤ f + 1
  | 0, n => by simp [varL]
  | f + 1, n => by
    unfold varL; split
    · have := varL_len f (n / 128); simp only [List.length_cons]; omega
    simp
theorem varL_low (f n : Nat) (h : n ≤ 127) : varL f n = [UInt8.ofNat n] := by
  cases f with
  | zero => rfl
  | succ f => unfold varL; rw [if_neg (by omega)]
theorem varText_size (n : Int) : (varText n).size ≤ 10 := by
  rw [← by_size]; unfold varText; rw [by_tx]; exact varL_len 9 _
theorem var_b1 (q : Nat) : UInt8.ofNat (IntKind.i64.wrap (128 + (q : Int).tmod 128) % 256).toNat = UInt8.ofNat (128 + q % 128) := by
  rw [Int.tmod_eq_emod_of_nonneg (by omega), wrap_of (by omega) (by omega)]; congr 1; omega
theorem var_b1' (q : Nat) : UInt8.ofNat (IntKind.i64.wrap ((q : Int).tmod 128 + 128) % 256).toNat = UInt8.ofNat (128 + q % 128) := by
  rw [Int.tmod_eq_emod_of_nonneg (by omega), wrap_of (by omega) (by omega)]; congr 1; omega
theorem var_b2 (q : Nat) (h : q ≤ 127) : UInt8.ofNat ((q : Int) % 256).toNat = UInt8.ofNat q := by congr 1; omega
theorem var_q (q : Nat) (h : q ≤ 4611686018427387904) : Value.int .i64 (IntKind.i64.wrap ((q : Int).tdiv 128)) = Value.int .i64 ((q / 128 : Nat) : Int) := by
  rw [Int.tdiv_eq_ediv_of_nonneg (by omega), wrap_of (by omega) (by omega)]; congr 1
theorem pow128 (f q : Nat) (h : q < 128 ^ (f + 1)) (h1 : 127 < q) : ∃ f', f = f' + 1 := by
  cases f with
  | zero => simp at h; omega
  | succ f' => exact ⟨f', rfl⟩
--@ct impl.varText val varText_ct _ ?_ ?_
theorem varText_ct (n : Int) (h0 : 0 ≤ n) (h1 : n ≤ 4611686018427387904) : Ct Tryz.prog 108 [.int .i64 n] [] (fun _ => True) (fun v A => v = .string (varText n) ∧ A = []) := by
  refine Ct.intro0 G_ok Tryz.func108 rfl rfl rfl fun E H hp => ?_
  apply loop_mod (α := (Nat) × (Nat) × (List UInt8) × (Hp) × (Option Addr) × (Nat)) G_ok [4, 5, 6, 7, 8, 9, 10, 11, 12, 3, 13, 14, 0] (fun z => [(3, .v (.slice z.2.2.2.2.1 z.2.2.1.length z.2.2.2.2.2)), (0, .v (.int .i64 z.2.1))]) (fun z => []) (fun z => [z.2.2.2.1, H]) (fun z => z.2.1) (fun z => (gSl 5 gY).ow [.slice z.2.2.2.2.1 z.2.2.1.length z.2.2.2.2.2] z.2.2.1 z.2.2.2.1 ∧ z.2.2.1 ++ varL z.1 z.2.1 = varT n ∧ z.2.1 < 128 ^ (z.1 + 1) ∧ z.2.2.1.length + z.1 ≤ 9 ∧ z.2.1 ≤ 4611686018427387904) ((9, n.toNat, [], [], none, 0))
  · repeat' (first | exact trivial | refine ⟨⟨_, rfl, by first | rfl | exact inc_eq _ (by omega) | (refine sl_eq ?_; simp; done) | (refine svi_eq ?_; (try dsimp only); omega) | exact var_q q (by omega), by first | exact trivial | simp [SV.ok]⟩, ?_⟩)
  · exact trivial
  · try dsimp only
    exact ⟨sl_nil _ _ _, rfl, by omega, by simp, by omega⟩
  · exact .refl _
  rintro ⟨f, q, o, A, b, c⟩ hI
  obtain ⟨oo, hv, hq, hl, hm⟩ : (gSl 5 gY).ow [.slice b o.length c] o A ∧ o ++ varL f q = varT n ∧ q < 128 ^ (f + 1) ∧ o.length + f ≤ 9 ∧ q ≤ 4611686018427387904 := hI
  try dsimp only
  refine VCsplit.intro (fun q0 => ?_) (fun q0 => ?_)
  ·
    simp at q0
    obtain ⟨f, rfl⟩ := pow128 f q hq (by omega)
    refine VC.intro ?_ ?_
    · trivial
    refine VCnew.intro fun x1 => ?_
    refine gappend1 (g := gY) (T := (5 : TypeId)) G_ok A [] [H] ?_ oo (gY_owM _) (List.mem_of_getElem? (i := 0) rfl) rfl rfl rfl rfl rfl rfl rfl rfl ?_ fun b2 c2 A2 o2 => ?_
    · exact .tl
    · omega
    refine VC.intro ?_ ?_
    · trivial
    apply loop_stepA (f, q / 128, _, _, _, _)
    · exact .refl _
    · repeat' (first | exact trivial | refine ⟨⟨_, rfl, by first | rfl | exact inc_eq _ (by omega) | (refine sl_eq ?_; simp; done) | (refine svi_eq ?_; (try dsimp only); omega) | exact var_q q (by omega), by first | exact trivial | simp [SV.ok]⟩, ?_⟩)
    · exact trivial
    · try dsimp only
      exact ⟨‹_›, by rw [var_b1, ← hv]; (conv => rhs; unfold varL; rw [if_pos (by omega)]); rw [List.append_assoc, List.singleton_append], by rw [Nat.pow_succ] at hq; omega, by simp; omega, by omega⟩
    try dsimp only
    omega
  ·
    simp at q0
    refine VCnew.intro fun x3 => ?_
    refine gappend1 (g := gY) (T := (5 : TypeId)) G_ok A [] [H] ?_ oo (gY_owM _) (List.mem_of_getElem? (i := 0) rfl) rfl rfl rfl rfl rfl rfl rfl rfl ?_ fun b4 c4 A4 o4 => ?_
    · exact .tl
    · omega
    refine conv_bs G_ok (o ++ [UInt8.ofNat ((↑q : Int) % (256 : Int)).toNat]) rfl (Rp.mono _ (mem_at 0 rfl) (Gt.owrd _ o4)) rfl rfl rfl ?_
    exact ⟨[], ⟨by rw [var_b2 q (by omega), ← varL_low f q (by omega), hv]; rfl, rfl⟩, (.le fun a => by (try simp only [setR, List.cons_append, List.nil_append]); simp only [List.flatten_append, List.flatten_cons, List.flatten_nil, List.count_append, List.count_nil, List.append_nil, List.nil_append]; omega)⟩
--@ct spec.l01Var val l01Var_ct _ ?_ ?_
theorem l01Var_ct (n : Int) (h0 : 0 ≤ n) (h1 : n ≤ 4611686018427387904) : Ct Tryz.prog 96 [.int .i64 n] [] (fun _ => True) (fun v A => v = .string (varText n) ∧ A = []) := by
  refine Ct.intro0 G_ok Tryz.func96 rfl rfl rfl fun E H hp => ?_
  refine VCnew.intro fun x0 => ?_
  apply loop_mod (α := (Nat) × (Nat) × (List UInt8) × (Hp) × (Option Addr) × (Nat)) G_ok [5, 6, 7, 8, 9, 10, 11, 12, 13, 3, 14, 15, 0] (fun z => [(3, .v (.slice z.2.2.2.2.1 z.2.2.1.length z.2.2.2.2.2)), (0, .v (.int .i64 z.2.1))]) (fun z => []) (fun z => [z.2.2.2.1, H]) (fun z => z.2.1) (fun z => (gSl 5 gY).ow [.slice z.2.2.2.2.1 z.2.2.1.length z.2.2.2.2.2] z.2.2.1 z.2.2.2.1 ∧ z.2.2.1 ++ varL z.1 z.2.1 = varT n ∧ z.2.1 < 128 ^ (z.1 + 1) ∧ z.2.2.1.length + z.1 ≤ 9 ∧ z.2.1 ≤ 4611686018427387904) ((9, n.toNat, [], [], some ⟨x0, 0, none⟩, 0))
  · repeat' (first | exact trivial | refine ⟨⟨_, rfl, by first | rfl | exact inc_eq _ (by omega) | (refine sl_eq ?_; simp; done) | (refine svi_eq ?_; (try dsimp only); omega) | exact var_q q (by omega), by first | exact trivial | simp [SV.ok]⟩, ?_⟩)
  · exact trivial
  · try dsimp only
    exact ⟨sl_nil _ _ _, rfl, by omega, by simp, by omega⟩
  · exact .tl
  rintro ⟨f, q, o, A, b, c⟩ hI
  obtain ⟨oo, hv, hq, hl, hm⟩ : (gSl 5 gY).ow [.slice b o.length c] o A ∧ o ++ varL f q = varT n ∧ q < 128 ^ (f + 1) ∧ o.length + f ≤ 9 ∧ q ≤ 4611686018427387904 := hI
  try dsimp only
  refine VCsplit.intro (fun q1 => ?_) (fun q1 => ?_)
  ·
    simp at q1
    obtain ⟨f, rfl⟩ := pow128 f q hq (by omega)
    refine VC.intro ?_ ?_
    · trivial
    refine VCnew.intro fun x2 => ?_
    refine gappend1 (g := gY) (T := (5 : TypeId)) G_ok A [] [H] ?_ oo (gY_owM _) (List.mem_of_getElem? (i := 0) rfl) rfl rfl rfl rfl rfl rfl rfl rfl ?_ fun b3 c3 A3 o3 => ?_
    · exact .tl
    · omega
    refine VC.intro ?_ ?_
    · trivial
    apply loop_stepA (f, q / 128, _, _, _, _)
    · exact .refl _
    · repeat' (first | exact trivial | refine ⟨⟨_, rfl, by first | rfl | exact inc_eq _ (by omega) | (refine sl_eq ?_; simp; done) | (refine svi_eq ?_; (try dsimp only); omega) | exact var_q q (by omega), by first | exact trivial | simp [SV.ok]⟩, ?_⟩)
    · exact trivial
    · try dsimp only
      exact ⟨‹_›, by rw [var_b1', ← hv]; (conv => rhs; unfold varL; rw [if_pos (by omega)]); rw [List.append_assoc, List.singleton_append], by rw [Nat.pow_succ] at hq; omega, by simp; omega, by omega⟩
    try dsimp only
    omega
  ·
    simp at q1
    refine VCnew.intro fun x4 => ?_
    refine gappend1 (g := gY) (T := (5 : TypeId)) G_ok A [] [H] ?_ oo (gY_owM _) (List.mem_of_getElem? (i := 0) rfl) rfl rfl rfl rfl rfl rfl rfl rfl ?_ fun b5 c5 A5 o5 => ?_
    · exact .tl
    · omega
    refine conv_bs G_ok (o ++ [UInt8.ofNat ((↑q : Int) % (256 : Int)).toNat]) rfl (Rp.mono _ (mem_at 0 rfl) (Gt.owrd _ o5)) rfl rfl rfl ?_
    exact ⟨[], ⟨by rw [var_b2 q (by omega), ← varL_low f q (by omega), hv]; rfl, rfl⟩, (.le fun a => by (try simp only [setR, List.cons_append, List.nil_append]); simp only [List.flatten_append, List.flatten_cons, List.flatten_nil, List.count_append, List.count_nil, List.append_nil, List.nil_append]; omega)⟩
end Go.Proofs.YtcnclhjhnjpeiaaGreatDoor

namespace Go.Proofs.YtcnclhjhnjpeiaaGreatDoor
open Go.SX Go.Proofs
set_option linter.unusedSimpArgs false
set_option linter.unusedVariables false
set_option maxHeartbeats 4000000
attribute [local irreducible] IntKind.wrap
def cmpI (a b : Int) : Int := if a < b then -1 else if b < a then 1 else 0
def cmpL : List Int → List Int → Int
  | [], [] => 0
  | [], _ :: _ => -1
  | _ :: _, [] => 1
  | a :: r, b :: s => if a < b then -1 else if b < a then 1 else cmpL r s
--@ct cmp.isNaN[int] val isNaN_ct _
theorem isNaN_ct (a : Int) : Ct Tryz.prog 222 [.int .i64 a] [] (fun _ => True) (fun v A => v = .bool false ∧ A = []) := by
  refine Ct.intro0 G_ok Tryz.func222 rfl rfl rfl fun E H hp => ?_
  exact ⟨[], ⟨by simp, rfl⟩, (.le fun a => by (try simp only [setR, List.cons_append, List.nil_append]); simp only [List.flatten_append, List.flatten_cons, List.flatten_nil, List.count_append, List.count_nil, List.append_nil, List.nil_append]; omega)⟩
--@ct cmp.Compare[int] val cmpCompare_ct _ _
theorem cmpCompare_ct (a b : Int) : Ct Tryz.prog 206 [.int .i64 a, .int .i64 b] [] (fun _ => True) (fun v A => v = .int .i64 (cmpI a b) ∧ A = []) := by
  refine Ct.intro0 G_ok Tryz.func206 rfl rfl rfl fun E H hp => ?_
  refine call_val (isNaN_ct _) trivial ?_
  rintro _ rfl
  refine call_val (isNaN_ct _) trivial ?_
  rintro _ rfl
  refine VCsplit.intro (fun q2 => ?_) (fun q2 => ?_)
  ·
    simp at q2
  ·
    simp at q2
    refine VCsplit.intro (fun q3 => ?_) (fun q3 => ?_)
    ·
      simp at q3
    ·
      simp at q3
      refine VCsplit.intro (fun q4 => ?_) (fun q4 => ?_)
      ·
        simp at q4
        exact ⟨[], ⟨by unfold cmpI; rw [if_pos (by omega)], rfl⟩, (.le fun a => by (try simp only [setR, List.cons_append, List.nil_append]); simp only [List.flatten_append, List.flatten_cons, List.flatten_nil, List.count_append, List.count_nil, List.append_nil, List.nil_append]; omega)⟩
      ·
        simp at q4
        refine VCsplit.intro (fun q5 => ?_) (fun q5 => ?_)
        ·
          simp at q5
          exact ⟨[], ⟨by unfold cmpI; rw [if_neg (by omega), if_pos (by omega)], rfl⟩, (.le fun a => by (try simp only [setR, List.cons_append, List.nil_append]); simp only [List.flatten_append, List.flatten_cons, List.flatten_nil, List.count_append, List.count_nil, List.append_nil, List.nil_append]; omega)⟩
        ·
          simp at q5
          exact ⟨[], ⟨by unfold cmpI; rw [if_neg (by omega), if_neg (by omega)], rfl⟩, (.le fun a => by (try simp only [setR, List.cons_append, List.nil_append]); simp only [List.flatten_append, List.flatten_cons, List.flatten_nil, List.count_append, List.count_nil, List.append_nil, List.nil_append]; omega)⟩
theorem cmpL_drop {xs ys : List Int} (k : Nat) (h1 : k < xs.length) (h2 : k < ys.length) :
    cmpL (xs.drop k) (ys.drop k) = if cmpI (xs[k]?.getD 0) (ys[k]?.getD 0) = 0 then cmpL (xs.drop (k + 1)) (ys.drop (k + 1)) else cmpI (xs[k]?.getD 0) (ys[k]?.getD 0) := by
  rw [List.drop_eq_getElem_cons h1, List.drop_eq_getElem_cons h2, List.getElem?_eq_getElem h1, List.getElem?_eq_getElem h2]
  simp only [Option.getD_some, cmpL, cmpI]
  split
  · simp
  split
  · simp
  simp
--@ct slices.Compare[[]int,int] val sCompare_ct _ _ _ _ _ _ $1 $2 | ⟨%1, %2⟩
theorem sCompare_ct (b1 : Option Addr) (m1 c1 : Nat) (b2 : Option Addr) (m2 c2 : Nat) (xs ys : List Int) :
    Ct Tryz.prog 190 [.slice b1 m1 c1, .slice b2 m2 c2] [] (fun H => (gSl 3 gI).rd H [.slice b1 m1 c1] xs ∧ (gSl 3 gI).rd H [.slice b2 m2 c2] ys) (fun v A => v = .int .i64 (cmpL xs ys) ∧ A = []) := by
  refine Ct.intro0 G_ok Tryz.func190 rfl rfl rfl fun E H hp => ?_
  obtain ⟨hp1, hp2⟩ := hp
  obtain ⟨rfl, hc1, hl1⟩ := sl_len hp1
  obtain ⟨rfl, hc2, hl2⟩ := sl_len hp2
  apply loop_mod (α := (Nat)) G_ok [12, 13, 14, 15, 5, 6, 16, 17, 18, 19, 4, 20, 21, 22, 23, 7, 24, 25, 26, 8, 27, 28, 29, 30, 11] (fun z => [(11, .v (.int .i64 z))]) (fun z => []) (fun z => [H]) (fun z => xs.length - z) (fun z => z ≤ xs.length ∧ z ≤ ys.length ∧ cmpL xs ys = cmpL (xs.drop z) (ys.drop z)) (0)
  · repeat' (first | exact trivial | refine ⟨⟨_, rfl, by first | rfl | exact inc_eq _ (by omega) | (refine sl_eq ?_; simp; done), by first | exact trivial | simp [SV.ok]⟩, ?_⟩)
  · exact trivial
  · exact ⟨by omega, by omega, by simp⟩
  · exact .refl _
  rintro k hI
  obtain ⟨hk, hk2, he⟩ : k ≤ xs.length ∧ k ≤ ys.length ∧ cmpL xs ys = cmpL (xs.drop k) (ys.drop k) := hI
  try dsimp only
  refine VCsplit.intro (fun q0 => ?_) (fun q0 => ?_)
  ·
    simp at q0
    refine idx_rd hp1 ?_ ?_ fun b1 o1 hb1 => ?_
    · omega
    · omega
    refine load_allN 0 (k) rfl hp1 ?_ ?_ hb1 rfl (mem_at 0 rfl) fun l2 hl2 => ?_
    · omega
    · omega
    obtain ⟨rfl, hw2⟩ := hl2; simp only [flStr, flInt, okI] at hw2
    refine VCsplit.intro (fun q3 => ?_) (fun q3 => ?_)
    ·
      simp at q3
      exact ⟨[], ⟨by rw [he, List.drop_eq_getElem_cons (by omega : k < xs.length), List.drop_eq_nil_of_le (by omega : ys.length ≤ k)]; rfl, rfl⟩, (.le fun a => by (try simp only [setR, List.cons_append, List.nil_append]); simp only [List.flatten_append, List.flatten_cons, List.flatten_nil, List.count_append, List.count_nil, List.append_nil, List.nil_append]; omega)⟩
    ·
      simp at q3
      refine idx_rd hp2 ?_ ?_ fun b4 o4 hb4 => ?_
      · omega
      · omega
      refine load_allN 0 (k) rfl hp2 ?_ ?_ hb4 rfl (mem_at 0 rfl) fun l5 hl5 => ?_
      · omega
      · omega
      obtain ⟨rfl, hw5⟩ := hl5; simp only [flStr, flInt, okI] at hw5
      refine call_val (cmpCompare_ct _ _) trivial ?_
      rintro _ rfl
      refine VCsplit.intro (fun q7 => ?_) (fun q7 => ?_)
      ·
        simp at q7
        exact ⟨[], ⟨by rw [he, cmpL_drop k (by omega) (by omega), if_neg (by assumption)], rfl⟩, (.le fun a => by (try simp only [setR, List.cons_append, List.nil_append]); simp only [List.flatten_append, List.flatten_cons, List.flatten_nil, List.count_append, List.count_nil, List.append_nil, List.nil_append]; omega)⟩
      ·
        simp at q7
        apply loop_stepA (k + 1)
        · exact .refl _
        · repeat' (first | exact trivial | refine ⟨⟨_, rfl, by first | rfl | exact inc_eq _ (by omega) | (refine sl_eq ?_; simp; done), by first | exact trivial | simp [SV.ok]⟩, ?_⟩)
        · exact trivial
        · exact ⟨by omega, by omega, by rw [he, cmpL_drop k (by omega) (by omega), if_pos (by assumption)]⟩
        omega
  ·
    simp at q0
    refine VCsplit.intro (fun q8 => ?_) (fun q8 => ?_)
    ·
      simp at q8
      exact ⟨[], ⟨by rw [he, List.drop_eq_getElem_cons (by omega : k < ys.length), List.drop_eq_nil_of_le (by omega : xs.length ≤ k)]; rfl, rfl⟩, (.le fun a => by (try simp only [setR, List.cons_append, List.nil_append]); simp only [List.flatten_append, List.flatten_cons, List.flatten_nil, List.count_append, List.count_nil, List.append_nil, List.nil_append]; omega)⟩
    ·
      simp at q8
      exact ⟨[], ⟨by rw [he, List.drop_eq_nil_of_le (by omega : ys.length ≤ k), List.drop_eq_nil_of_le (by omega : xs.length ≤ k)]; rfl, rfl⟩, (.le fun a => by (try simp only [setR, List.cons_append, List.nil_append]); simp only [List.flatten_append, List.flatten_cons, List.flatten_nil, List.count_append, List.count_nil, List.append_nil, List.nil_append]; omega)⟩
def labelOk (b : UInt8) : Bool := decide (97 ≤ (b.toNat : Int)) && decide ((b.toNat : Int) ≤ 100)
--@ct impl.isLabel val isLabel_ct _
theorem isLabel_ct (b : UInt8) : Ct Tryz.prog 232 [.int .u8 b.toNat] [] (fun _ => True) (fun v A => v = .bool (labelOk b) ∧ A = []) := by
  refine Ct.intro0 G_ok Tryz.func232 rfl rfl rfl fun E H hp => ?_
  refine VCsplit.intro (fun q0 => ?_) (fun q0 => ?_)
  ·
    simp at q0
    exact ⟨[], ⟨by unfold labelOk; first | rw [decide_eq_true (by omega : (97 : Int) ≤ b.toNat), Bool.true_and] | rw [decide_eq_false (by omega : ¬ (97 : Int) ≤ b.toNat), Bool.false_and], rfl⟩, (.le fun a => by (try simp only [setR, List.cons_append, List.nil_append]); simp only [List.flatten_append, List.flatten_cons, List.flatten_nil, List.count_append, List.count_nil, List.append_nil, List.nil_append]; omega)⟩
  ·
    simp at q0
    exact ⟨[], ⟨by unfold labelOk; first | rw [decide_eq_true (by omega : (97 : Int) ≤ b.toNat), Bool.true_and] | rw [decide_eq_false (by omega : ¬ (97 : Int) ≤ b.toNat), Bool.false_and], rfl⟩, (.le fun a => by (try simp only [setR, List.cons_append, List.nil_append]); simp only [List.flatten_append, List.flatten_cons, List.flatten_nil, List.count_append, List.count_nil, List.append_nil, List.nil_append]; omega)⟩
end Go.Proofs.YtcnclhjhnjpeiaaGreatDoor

namespace Go.Proofs.YtcnclhjhnjpeiaaGreatDoor
open Go.SX Go.Proofs
set_option linter.unusedSimpArgs false
set_option linter.unusedVariables false
set_option maxHeartbeats 4000000
attribute [local irreducible] IntKind.wrap
def allK (p : Nat → Bool) : Nat → Bool
  | 0 => true
  | k + 1 => allK p k && p k
theorem allK_no {p : Nat → Bool} {k : Nat} (h : p k = false) : ∀ n, k < n → allK p n = false
  | 0, h1 => by omega
  | n + 1, h1 => by
    unfold allK
    rcases Nat.lt_or_ge k n with h2 | h2
    · rw [allK_no h n h2]; rfl
    rw [show n = k by omega, h]; simp
theorem allK_step {p : Nat → Bool} {k : Nat} (h : allK p k = true) (h1 : p k = true) : allK p (k + 1) = true := by unfold allK; rw [h, h1]; rfl
theorem allK_at {p : Nat → Bool} : ∀ {n : Nat}, allK p n = true → ∀ k, k < n → p k = true
  | 0, _, k, hk => by omega
  | n + 1, h, k, hk => by
    unfold allK at h
    rw [Bool.and_eq_true] at h
    rcases Nat.lt_or_ge k n with h1 | h1
    · exact allK_at h.1 k h1
    rw [show k = n by omega]; exact h.2
--@ct impl.RowLess val implRowLess_ct _ _ _ _ _ _ $1 $2 | ⟨%1, %2⟩
--@ct spec.RowLess val specRowLess_ct _ _ _ _ _ _ $1 $2 | ⟨%1, %2⟩
--@ct impl.rowOk val implRowOk_ct _ _ _ $1 | %1
--@ct spec.l03Row val l03Row_ct _ _ _ $1 | %1
--@ct impl.timesOk val timesOk_ct _
--@ct impl.BagOk val implBagOk_ct _ $1 | %1
--@ct spec.BagOk val specBagOk_ct _ $1 | %1
end Go.Proofs.YtcnclhjhnjpeiaaGreatDoor

namespace Go.Proofs.YtcnclhjhnjpeiaaGreatDoor
open Go.SX Go.Proofs
set_option linter.unusedSimpArgs false
set_option linter.unusedVariables false
set_option maxHeartbeats 4000000
attribute [local irreducible] IntKind.wrap
/-! a text among texts -/
def hasS (l : List ByteArray) (s : ByteArray) : Bool := !allK (fun i => !decide ((l[i]?.getD ByteArray.empty).toList = s.toList)) l.length
theorem hasS_at {l : List ByteArray} {s : ByteArray} {k : Nat} (hk : k < l.length) (h : (l[k]?.getD ByteArray.empty).toList = s.toList) : hasS l s = true := by
  unfold hasS
  rw [allK_no (p := fun i => !decide ((l[i]?.getD ByteArray.empty).toList = s.toList)) (k := k) (by simp [h]) _ hk]; rfl
theorem hasS_none {l : List ByteArray} {s : ByteArray} (h : allK (fun i => !decide ((l[i]?.getD ByteArray.empty).toList = s.toList)) l.length = true) : hasS l s = false := by
  unfold hasS; rw [h]; rfl
theorem not_in {a b : ByteArray} (h : ¬ a = b) : (!decide (a.toList = b.toList)) = true := by
  rw [Bool.not_eq_true', decide_eq_false_iff_not, str_inj]; exact h
--@ct slices.Index[[]string,string] val sIndexS_ct _ _ _ $1 _ | %1
theorem sIndexS_ct (b : Option Addr) (m c : Nat) (xs : List ByteArray) (v : ByteArray) :
    Ct Tryz.prog 181 [.slice b m c, .string v] [] (fun H => (gSl 9 gS).rd H [.slice b m c] xs)
      (fun w A => (∃ k : Int, w = .int .i64 k ∧ (decide (k ≥ 0)) = hasS xs v) ∧ A = []) := by
  refine Ct.intro0 G_ok Tryz.func181 rfl rfl rfl fun E H hp => ?_
  obtain ⟨rfl, hcl, hl⟩ := sl_len hp
  apply loop_mod (α := (Nat) × (Int)) G_ok [9, 10, 5, 11, 12, 13, 14, 15, 16, 17, 4, 18, 8] (fun z => [(8, .v (.int .i64 z.1)), (4, .v (.int .i64 z.2))]) (fun z => []) (fun z => [H]) (fun z => xs.length - z.1) (fun z => z.1 ≤ xs.length ∧ allK (fun i => !decide ((xs[i]?.getD ByteArray.empty).toList = v.toList)) z.1 = true) ((0, 0))
  · repeat' (first | exact trivial | refine ⟨⟨_, rfl, by first | rfl | exact inc_eq _ (by omega) | (refine sl_eq ?_; simp; done), by first | exact trivial | simp [SV.ok]⟩, ?_⟩)
  · exact trivial
  · try dsimp only
    exact ⟨Nat.zero_le _, rfl⟩
  · exact .refl _
  rintro ⟨k, j⟩ hI
  obtain ⟨hk, ha⟩ : k ≤ xs.length ∧ allK (fun i => !decide ((xs[i]?.getD ByteArray.empty).toList = v.toList)) k = true := hI
  try dsimp only
  refine VCsplit.intro (fun q0 => ?_) (fun q0 => ?_)
  ·
    simp at q0
    refine idx_rd hp ?_ ?_ fun b1 o1 hb1 => ?_
    · omega
    · omega
    refine load_allN ByteArray.empty (k) rfl hp ?_ ?_ hb1 rfl (mem_at 0 rfl) fun l2 hl2 => ?_
    · omega
    · omega
    obtain ⟨rfl, hw2⟩ := hl2; simp only [flStr, flInt, okI] at hw2
    refine VCsplit.intro (fun q3 => ?_) (fun q3 => ?_)
    ·
      simp at q3
      simp only [str_inj, u8_inj, u8_wrap] at q3
      exact ⟨[], ⟨⟨_, rfl, by rw [hasS_at (k := k) (by omega) (congrArg ByteArray.toList (by first | assumption | exact Eq.symm (by assumption)))]; simp⟩, rfl⟩, .refl _⟩
    ·
      simp at q3
      simp only [str_inj, u8_inj, u8_wrap] at q3
      apply loop_stepA (k + 1, _)
      · exact .refl _
      · repeat' (first | exact trivial | refine ⟨⟨_, rfl, by first | rfl | exact inc_eq _ (by omega) | (refine sl_eq ?_; simp; done), by first | exact trivial | simp [SV.ok]⟩, ?_⟩)
      · exact trivial
      · try dsimp only
        exact ⟨by omega, allK_step ha (not_in (by first | assumption | exact fun e => absurd e.symm (by assumption)))⟩
      try dsimp only
      omega
  ·
    simp at q0
    (have hke : k = xs.length := (by omega); subst hke; exact ⟨[], ⟨⟨_, rfl, by rw [hasS_none ha]; decide⟩, rfl⟩, .refl _⟩)
--@ct slices.Contains[[]string,string] val sContainsS_ct _ _ _ $1 _ | %1
theorem sContainsS_ct (b : Option Addr) (m c : Nat) (xs : List ByteArray) (v : ByteArray) :
    Ct Tryz.prog 149 [.slice b m c, .string v] [] (fun H => (gSl 9 gS).rd H [.slice b m c] xs)
      (fun w A => w = .bool (hasS xs v) ∧ A = []) := by
  refine Ct.intro0 G_ok Tryz.func149 rfl rfl rfl fun E H hp => ?_
  refine call_val (sIndexS_ct _ _ _ (xs) _) (Rp.mono _ (mem_at 0 rfl) hp) ?_
  rintro _ ⟨k, rfl, hk⟩
  exact ⟨[], ⟨by rw [← hk], rfl⟩, .refl _⟩
--@ct spec.l08In val l08In_ct _ _ _ $1 _ | %1
theorem l08In_ct (b : Option Addr) (m c : Nat) (xs : List ByteArray) (v : ByteArray) :
    Ct Tryz.prog 90 [.slice b m c, .string v] [] (fun H => (gSl 9 gS).rd H [.slice b m c] xs)
      (fun w A => w = .bool (hasS xs v) ∧ A = []) := by
  refine Ct.intro0 G_ok Tryz.func90 rfl rfl rfl fun E H hp => ?_
  obtain ⟨rfl, hcl, hl⟩ := sl_len hp
  apply loop_mod (α := (Nat)) G_ok [6, 7, 8, 9, 12, 13, 14, 15, 16, 17, 4, 10, 11, 5] (fun z => [(5, .v (.int .i64 z))]) (fun z => []) (fun z => [H]) (fun z => xs.length - z) (fun z => z ≤ xs.length ∧ allK (fun i => !decide ((xs[i]?.getD ByteArray.empty).toList = v.toList)) z = true) ((0))
  · repeat' (first | exact trivial | refine ⟨⟨_, rfl, by first | rfl | exact inc_eq _ (by omega) | (refine sl_eq ?_; simp; done), by first | exact trivial | simp [SV.ok]⟩, ?_⟩)
  · exact trivial
  · exact ⟨Nat.zero_le _, rfl⟩
  · exact .refl _
  rintro k hI
  obtain ⟨hk, ha⟩ : k ≤ xs.length ∧ allK (fun i => !decide ((xs[i]?.getD ByteArray.empty).toList = v.toList)) k = true := hI
  try dsimp only
  refine VCsplit.intro (fun q0 => ?_) (fun q0 => ?_)
  ·
    simp at q0
    refine idx_rd hp ?_ ?_ fun b1 o1 hb1 => ?_
    · omega
    · omega
    refine load_allN ByteArray.empty (k) rfl hp ?_ ?_ hb1 rfl (mem_at 0 rfl) fun l2 hl2 => ?_
    · omega
    · omega
    obtain ⟨rfl, hw2⟩ := hl2; simp only [flStr, flInt, okI] at hw2
    refine VCsplit.intro (fun q3 => ?_) (fun q3 => ?_)
    ·
      simp at q3
      simp only [str_inj, u8_inj, u8_wrap] at q3
      exact ⟨[], ⟨by rw [hasS_at (k := k) (by omega) (congrArg ByteArray.toList (by first | assumption | exact Eq.symm (by assumption)))], rfl⟩, .refl _⟩
    ·
      simp at q3
      simp only [str_inj, u8_inj, u8_wrap] at q3
      apply loop_stepA (k + 1)
      · exact .refl _
      · repeat' (first | exact trivial | refine ⟨⟨_, rfl, by first | rfl | exact inc_eq _ (by omega) | (refine sl_eq ?_; simp; done), by first | exact trivial | simp [SV.ok]⟩, ?_⟩)
      · exact trivial
      · exact ⟨by omega, allK_step ha (not_in (by first | assumption | exact fun e => absurd e.symm (by assumption)))⟩
      omega
  ·
    simp at q0
    (have hke : k = xs.length := (by omega); subst hke; exact ⟨[], ⟨by rw [hasS_none ha], rfl⟩, .refl _⟩)
/-! names -/
def eachT : List UInt8 := [101, 97, 99, 104]
theorem each_beq (s : ByteArray) : (s.toList == (⟨#[101, 97, 99, 104]⟩ : ByteArray).toList) = decide (s.toList = eachT) := by
  rw [show (⟨#[101, 97, 99, 104]⟩ : ByteArray).toList = eachT by simp [eachT], Bool.eq_iff_iff, beq_iff_eq, decide_eq_true_iff]
def lowB (b : UInt8) : Bool := inR 97 122 (b.toNat : Int)
def lowK (s : ByteArray) (k : Nat) : Bool := allK (fun i => lowB ((s[i]?).getD 0)) k
def nameOk (s : ByteArray) : Bool := lowK s s.size && (inR 1 4 s.size && !decide (s.toList = eachT))
theorem name_no1 {s : ByteArray} {k : Nat} (hk : k < s.size) (h : ¬ (97 ≤ (((s[k]?).getD 0).toNat : Int) ∧ (((s[k]?).getD 0).toNat : Int) ≤ 122)) : nameOk s = false := by
  unfold nameOk lowK
  rw [allK_no (p := fun i => lowB ((s[i]?).getD 0)) (k := k) (by unfold lowB; rw [Bool.eq_false_iff, Ne, inR_iff]; exact h) _ hk]; rfl
theorem name_no2 {s : ByteArray} (h : ¬ (1 ≤ (s.size : Int) ∧ (s.size : Int) ≤ 4)) : nameOk s = false := by
  unfold nameOk
  rw [show inR 1 4 (s.size : Int) = false by rw [Bool.eq_false_iff, Ne, inR_iff]; exact h]; simp
theorem name_no3 {s : ByteArray} (h : s.toList = eachT) : nameOk s = false := by
  unfold nameOk; rw [h]; simp
theorem name_yes {s : ByteArray} (h1 : lowK s s.size = true) (h2 : 1 ≤ (s.size : Int) ∧ (s.size : Int) ≤ 4) (h3 : ¬ s.toList = eachT) : nameOk s = true := by
  unfold nameOk; rw [h1, inR_iff.2 h2, decide_eq_false h3]; rfl
theorem lowK_step {s : ByteArray} {k : Nat} (h : lowK s k = true) (h1 : 97 ≤ (((s[k]?).getD 0).toNat : Int) ∧ (((s[k]?).getD 0).toNat : Int) ≤ 122) : lowK s (k + 1) = true :=
  allK_step h (inR_iff.2 h1)
--@ct impl.QueryName val implQueryName_ct _ ?_
theorem implQueryName_ct (s : ByteArray) (hs : s.size ≤ 9223372036854775807) : Ct Tryz.prog 178 [.string s] [] (fun _ => True) (fun v A => v = .bool (nameOk s) ∧ A = []) := by
  refine Ct.intro0 G_ok Tryz.func178 rfl rfl rfl fun E H hp => ?_
  refine VCsplit.intro (fun q0 => ?_) (fun q0 => ?_)
  ·
    simp at q0
    exact ⟨[], ⟨by rw [name_no2 (by omega)], rfl⟩, .refl _⟩
  ·
    simp at q0
    refine VCsplit.intro (fun q1 => ?_) (fun q1 => ?_)
    ·
      simp at q1
      exact ⟨[], ⟨by rw [name_no2 (by omega)], rfl⟩, .refl _⟩
    ·
      simp at q1
      refine VCsplit.intro (fun q2 => ?_) (fun q2 => ?_)
      ·
        simp at q2
        exact ⟨[], ⟨by rw [name_no3 (by assumption)], rfl⟩, .refl _⟩
      ·
        simp at q2
        apply loop_mod (α := (Nat)) G_ok [16, 17, 18, 19, 22, 23, 24, 25, 26, 27, 28, 29, 30, 31, 2, 20, 21, 3] (fun z => [(3, .v (.int .i64 z))]) (fun z => []) (fun z => [H]) (fun z => s.size - z) (fun z => z ≤ s.size ∧ lowK s z = true) ((0))
        · repeat' (first | exact trivial | refine ⟨⟨_, rfl, by first | rfl | exact inc_eq _ (by omega) | (refine sl_eq ?_; simp; done), by first | exact trivial | simp [SV.ok]⟩, ?_⟩)
        · exact trivial
        · exact ⟨Nat.zero_le _, rfl⟩
        · exact .refl _
        rintro k hI
        obtain ⟨hk, ha⟩ : k ≤ s.size ∧ lowK s k = true := hI
        try dsimp only
        refine VCsplit.intro (fun q3 => ?_) (fun q3 => ?_)
        ·
          simp at q3
          refine VC.intro ?_ ?_
          · omega
          refine VCsplit.intro (fun q4 => ?_) (fun q4 => ?_)
          ·
            simp at q4
            exact ⟨[], ⟨by rw [name_no1 (k := k) (by omega) (by omega)], rfl⟩, .refl _⟩
          ·
            simp at q4
            refine VC.intro ?_ ?_
            · omega
            refine VCsplit.intro (fun q5 => ?_) (fun q5 => ?_)
            ·
              simp at q5
              exact ⟨[], ⟨by rw [name_no1 (k := k) (by omega) (by omega)], rfl⟩, .refl _⟩
            ·
              simp at q5
              apply loop_stepA (k + 1)
              · exact .refl _
              · repeat' (first | exact trivial | refine ⟨⟨_, rfl, by first | rfl | exact inc_eq _ (by omega) | (refine sl_eq ?_; simp; done), by first | exact trivial | simp [SV.ok]⟩, ?_⟩)
              · exact trivial
              · exact ⟨by omega, lowK_step ha (by omega)⟩
              omega
        ·
          simp at q3
          (have hke : k = s.size := (by omega); subst hke; exact ⟨[], ⟨by rw [name_yes ha (by omega) (by assumption)], rfl⟩, .refl _⟩)
--@ct spec.QueryName val specQueryName_ct _ ?_
theorem specQueryName_ct (s : ByteArray) (hs : s.size ≤ 9223372036854775807) : Ct Tryz.prog 141 [.string s] [] (fun _ => True) (fun v A => v = .bool (nameOk s) ∧ A = []) := by
  refine Ct.intro0 G_ok Tryz.func141 rfl rfl rfl fun E H hp => ?_
  apply loop_mod (α := (Nat)) G_ok [4, 5, 6, 7, 10, 11, 12, 13, 14, 15, 16, 17, 18, 19, 2, 8, 9, 3] (fun z => [(3, .v (.int .i64 z))]) (fun z => []) (fun z => [H]) (fun z => s.size - z) (fun z => z ≤ s.size ∧ lowK s z = true) ((0))
  · repeat' (first | exact trivial | refine ⟨⟨_, rfl, by first | rfl | exact inc_eq _ (by omega) | (refine sl_eq ?_; simp; done), by first | exact trivial | simp [SV.ok]⟩, ?_⟩)
  · exact trivial
  · exact ⟨Nat.zero_le _, rfl⟩
  · exact .refl _
  rintro k hI
  obtain ⟨hk, ha⟩ : k ≤ s.size ∧ lowK s k = true := hI
  try dsimp only
  refine VCsplit.intro (fun q0 => ?_) (fun q0 => ?_)
  ·
    simp at q0
    refine VC.intro ?_ ?_
    · omega
    refine VCsplit.intro (fun q1 => ?_) (fun q1 => ?_)
    ·
      simp at q1
      exact ⟨[], ⟨by rw [name_no1 (k := k) (by omega) (by omega)], rfl⟩, .refl _⟩
    ·
      simp at q1
      refine VC.intro ?_ ?_
      · omega
      refine VCsplit.intro (fun q2 => ?_) (fun q2 => ?_)
      ·
        simp at q2
        exact ⟨[], ⟨by rw [name_no1 (k := k) (by omega) (by omega)], rfl⟩, .refl _⟩
      ·
        simp at q2
        apply loop_stepA (k + 1)
        · exact .refl _
        · repeat' (first | exact trivial | refine ⟨⟨_, rfl, by first | rfl | exact inc_eq _ (by omega) | (refine sl_eq ?_; simp; done), by first | exact trivial | simp [SV.ok]⟩, ?_⟩)
        · exact trivial
        · exact ⟨by omega, lowK_step ha (by omega)⟩
        omega
  ·
    simp at q0
    refine call_val (l01In_ct _ _ _) trivial ?_
    rintro _ rfl
    refine VCsplit.intro (fun q4 => ?_) (fun q4 => ?_)
    ·
      have iq4 := inR_iff.1 q4
      (have hke : k = s.size := (by omega); subst hke; exact ⟨[], ⟨by unfold nameOk; rw [ha, inR_iff.2 (by assumption), Bool.true_and, Bool.true_and]; exact congrArg (fun b => Value.bool !b) (each_beq s), rfl⟩, .refl _⟩)
    ·
      have iq4 := mt inR_iff.2 (Bool.eq_false_iff.1 q4)
      exact ⟨[], ⟨by rw [name_no2 (by assumption)], rfl⟩, .refl _⟩
end Go.Proofs.YtcnclhjhnjpeiaaGreatDoor

namespace Go.Proofs.YtcnclhjhnjpeiaaGreatDoor
open Go.SX Go.Proofs
set_option linter.unusedSimpArgs false
set_option linter.unusedVariables false
set_option maxHeartbeats 4000000
attribute [local irreducible] IntKind.wrap
/-! numbers read -/
def byteAt (t : ByteArray) (i : Nat) : UInt8 := (t[i]?).getD 0
/-! frames -/
theorem byte_p (t : ByteArray) (k : Nat) : (t[k]?).getD 0 = byteAt t k := rfl
end Go.Proofs.YtcnclhjhnjpeiaaGreatDoor

namespace Go.Proofs.YtcnclhjhnjpeiaaGreatDoor
open Go.SX Go.Proofs
set_option maxHeartbeats 1000000
theorem labelOk_iff {b : UInt8} : labelOk b = true ↔ 97 ≤ b.toNat ∧ b.toNat ≤ 100 := by unfold labelOk; simp; omega
theorem byteAt_end {t : ByteArray} {i : Nat} (h : t.size ≤ i) : byteAt t i = 0 := by
  unfold byteAt; rw [getElem?_neg _ _ (by omega)]; rfl
theorem byteAt_lt {t : ByteArray} {i : Nat} (h : (byteAt t i).toNat ≠ 0) : i < t.size := by
  rcases Nat.lt_or_ge i t.size with h1 | h1
  · exact h1
  rw [byteAt_end h1] at h; exact absurd rfl h
/-- a piece's number, the place behind it, the pieces -/
abbrev PR := Int × Nat × List Piece
def postOp (b : UInt8) : Int := if b.toNat = 42 then 4 else if b.toNat = 43 then 5 else if b.toNat = 63 then 6 else 0
def pPost (t : ByteArray) : Nat → Int → Nat → List Piece → PR
  | 0, k, p, ps => (k, p, ps)
  | f + 1, k, p, ps => if postOp (byteAt t p) = 0 then (k, p, ps) else pPost t f ps.length (p + 1) (ps ++ [⟨postOp (byteAt t p), 0, [k]⟩])
def pItem (t : ByteArray) (E : Nat → List Piece → Option PR) (p : Nat) (ps : List Piece) : Option PR :=
  if (byteAt t p).toNat = 40 then
    match E (p + 1) ps with
    | none => none
    | some r => if (byteAt t r.2.1).toNat = 41 then some (pPost t (t.size + 1) r.1 (r.2.1 + 1) r.2.2) else none
  else some (pPost t (t.size + 1) ps.length (p + 1) (ps ++ [⟨1, byteAt t p, []⟩]))
def begins (b : UInt8) : Bool := labelOk b || decide (b.toNat = 40)
abbrev LR := List Int × Nat × List Piece
def pAlts (t : ByteArray) (I : Nat → List Piece → Option PR) : Nat → List Int → Nat → List Piece → Option LR
  | 0, ks, p, ps => some (ks, p, ps)
  | f + 1, ks, p, ps =>
    if begins (byteAt t p) = true then
      match I p ps with
      | none => none
      | some r => pAlts t I f (ks ++ [r.1]) r.2.1 r.2.2
    else some (ks, p, ps)
def pGroup (op : Int) (r : LR) : PR := if r.1.length = 1 then (r.1[0]?.getD 0, r.2.1, r.2.2) else (r.2.2.length, r.2.1, r.2.2 ++ [⟨op, 0, r.1⟩])
def altEnd : Option LR → Option PR
  | none => none
  | some r => if r.1.length = 0 then none else some (pGroup 2 r)
def pAlt (t : ByteArray) (I : Nat → List Piece → Option PR) (p : Nat) (ps : List Piece) : Option PR := altEnd (pAlts t I (t.size + 1) [] p ps)
def pExprs (t : ByteArray) (A : Nat → List Piece → Option PR) : Nat → List Int → Nat → List Piece → Option PR
  | 0, _, _, _ => none
  | f + 1, ks, p, ps =>
    match A p ps with
    | none => none
    | some r => if (byteAt t r.2.1).toNat = 124 then pExprs t A f (ks ++ [r.1]) (r.2.1 + 1) r.2.2 else some (pGroup 3 (ks ++ [r.1], r.2.1, r.2.2))
def pExpr (t : ByteArray) : Nat → Nat → List Piece → Option PR
  | 0, _, _ => none
  | n + 1, p, ps => pExprs t (pAlt t (pItem t (pExpr t n))) (t.size + 1) [] p ps
/-! how far and how many -/
/-- the result of reading from p with the pieces ps -/
def Reads (t : ByteArray) (p : Nat) (ps : List Piece) (r : PR) : Prop := p < r.2.1 ∧ r.2.1 ≤ t.size ∧ r.2.2.length + 1 + 2 * p ≤ ps.length + 2 * r.2.1 ∧ ps.length ≤ r.2.2.length ∧ 0 ≤ r.1 ∧ r.1 < r.2.2.length
def ReadsL (t : ByteArray) (p : Nat) (ps : List Piece) (k0 : Nat) (r : LR) : Prop := k0 ≤ r.1.length ∧ p ≤ r.2.1 ∧ r.2.1 ≤ t.size ∧ r.2.2.length + r.1.length + 2 * p ≤ ps.length + k0 + 2 * r.2.1 ∧ ps.length ≤ r.2.2.length ∧ ∀ k ∈ r.1, 0 ≤ k ∧ k < r.2.2.length
theorem postOp_lt {t : ByteArray} {p : Nat} (h : ¬ postOp (byteAt t p) = 0) : p < t.size := by
  rcases Nat.lt_or_ge p t.size with h1 | h1
  · exact h1
  rw [byteAt_end h1] at h; exact absurd rfl h
theorem pPost_le (t : ByteArray) : ∀ (f : Nat) (k : Int) (p : Nat) (ps : List Piece), p ≤ t.size → 0 ≤ k → k < ps.length →
    p ≤ (pPost t f k p ps).2.1 ∧ (pPost t f k p ps).2.1 ≤ t.size ∧ (pPost t f k p ps).2.2.length + p = ps.length + (pPost t f k p ps).2.1 ∧ 0 ≤ (pPost t f k p ps).1 ∧ (pPost t f k p ps).1 < (pPost t f k p ps).2.2.length
  | 0, k, p, ps, h, h1, h2 => ⟨Nat.le_refl _, h, rfl, h1, h2⟩
  | f + 1, k, p, ps, h, h1, h2 => by
    unfold pPost
    split
    · exact ⟨Nat.le_refl _, h, rfl, h1, h2⟩
    rename_i h3
    have h4 := postOp_lt h3
    have h5 := pPost_le t f ps.length (p + 1) (ps ++ [⟨postOp (byteAt t p), 0, [k]⟩]) (by omega) (by omega) (by simp only [List.length_append, List.length_singleton]; omega)
    rw [List.length_append, List.length_singleton] at h5
    refine ⟨by omega, h5.2.1, by omega, h5.2.2.2.1, h5.2.2.2.2⟩
theorem begins_lt {t : ByteArray} {p : Nat} (h : begins (byteAt t p) = true) : p < t.size := by
  apply byteAt_lt; intro h1
  unfold begins labelOk at h; rw [h1] at h; simp at h
theorem pItem_le {t : ByteArray} {E : Nat → List Piece → Option PR} {p : Nat} {ps : List Piece} {r : PR} (hE : ∀ p ps r, p ≤ t.size → E p ps = some r → Reads t p ps r) (hp : p < t.size) (h : pItem t E p ps = some r) : Reads t p ps r := by
  unfold pItem at h
  split at h
  · split at h
    · cases h
    rename_i r0 e
    split at h
    · rename_i h1
      cases h
      have h2 := hE _ _ _ (by omega) e
      have h3 : r0.2.1 < t.size := byteAt_lt (by omega)
      have h4 := pPost_le t (t.size + 1) r0.1 (r0.2.1 + 1) r0.2.2 (by omega) h2.2.2.2.2.1 h2.2.2.2.2.2
      unfold Reads at h2 ⊢
      refine ⟨by omega, h4.2.1, by omega, by omega, h4.2.2.2.1, h4.2.2.2.2⟩
    cases h
  cases h
  have h4 := pPost_le t (t.size + 1) ps.length (p + 1) (ps ++ [⟨1, byteAt t p, []⟩]) (by omega) (by omega) (by simp only [List.length_append, List.length_singleton]; omega)
  rw [List.length_append, List.length_singleton] at h4
  refine ⟨by omega, h4.2.1, by omega, by omega, h4.2.2.2.1, h4.2.2.2.2⟩
theorem pAlts_le {t : ByteArray} {I : Nat → List Piece → Option PR} (hI : ∀ p ps r, p < t.size → I p ps = some r → Reads t p ps r) : ∀ (f : Nat) (ks : List Int) (p : Nat) (ps : List Piece) (r : LR), p ≤ t.size → (∀ k ∈ ks, 0 ≤ k ∧ k < (ps.length : Int)) → pAlts t I f ks p ps = some r → ReadsL t p ps ks.length r
  | 0, ks, p, ps, r, hp, hk, h => by cases h; exact ⟨Nat.le_refl _, Nat.le_refl _, hp, Nat.le_refl _, Nat.le_refl _, hk⟩
  | f + 1, ks, p, ps, r, hp, hk, h => by
    unfold pAlts at h
    split at h
    · rename_i hb
      split at h
      · cases h
      rename_i r0 e
      obtain ⟨a1, a2, a3, a4, a5, a6⟩ := hI _ _ _ (begins_lt hb) e
      have h2 := pAlts_le hI f (ks ++ [r0.1]) r0.2.1 r0.2.2 r a2 (by
        intro k hk1
        rcases List.mem_append.1 hk1 with h3 | h3
        · have := hk k h3; omega
        rw [List.mem_singleton.1 h3]; exact ⟨a5, a6⟩) h
      obtain ⟨b1, b2, b3, b4, b5, b6⟩ := h2
      rw [List.length_append, List.length_singleton] at b1 b4
      exact ⟨by omega, by omega, b3, by omega, by omega, b6⟩
    cases h; exact ⟨Nat.le_refl _, Nat.le_refl _, hp, Nat.le_refl _, Nat.le_refl _, hk⟩
theorem pGroup_le {t : ByteArray} {op : Int} {p : Nat} {ps : List Piece} {r : LR} (hp : p < r.2.1) (h1 : 1 ≤ r.1.length) (h2 : r.2.1 ≤ t.size) (h3 : r.2.2.length + r.1.length + 2 * p ≤ ps.length + 2 * r.2.1) (h4 : ps.length ≤ r.2.2.length) (h5 : ∀ k ∈ r.1, 0 ≤ k ∧ k < (r.2.2.length : Int)) : Reads t p ps (pGroup op r) := by
  unfold pGroup
  split
  · rename_i e
    have h6 := h5 (r.1[0]?.getD 0) (by rw [List.getElem?_eq_getElem (by omega)]; exact List.getElem_mem _)
    exact ⟨hp, h2, by simp only; omega, h4, h6.1, h6.2⟩
  rename_i e
  refine ⟨hp, h2, ?_, ?_, ?_, ?_⟩ <;> simp only [List.length_append, List.length_singleton] <;> omega
theorem pAlt_le {t : ByteArray} {I : Nat → List Piece → Option PR} (hI : ∀ p ps r, p < t.size → I p ps = some r → Reads t p ps r) {p : Nat} {ps : List Piece} {r : PR} (hp : p ≤ t.size) (h : pAlt t I p ps = some r) : Reads t p ps r := by
  unfold pAlt altEnd at h
  split at h
  · cases h
  rename_i r0 e
  split at h
  · cases h
  cases h
  obtain ⟨b1, b2, b3, b4, b5, b6⟩ := pAlts_le hI _ _ _ _ _ hp (by simp) e
  simp only [List.length_nil] at b1 b4
  exact pGroup_le (by omega) (by omega) b3 (by omega) b5 b6
theorem pExprs_le {t : ByteArray} {A : Nat → List Piece → Option PR} (hA : ∀ p ps r, p ≤ t.size → A p ps = some r → Reads t p ps r) {p0 : Nat} {ps0 : List Piece} : ∀ (f : Nat) (ks : List Int) (p : Nat) (ps : List Piece) (r : PR), p ≤ t.size → p0 ≤ p → ps.length + ks.length + 2 * p0 ≤ ps0.length + 2 * p → ps0.length ≤ ps.length → (∀ k ∈ ks, 0 ≤ k ∧ k < (ps.length : Int)) → pExprs t A f ks p ps = some r → Reads t p0 ps0 r
  | 0, ks, p, ps, r, hp, hp0, hs, hs0, hk, h => by cases h
  | f + 1, ks, p, ps, r, hp, hp0, hs, hs0, hk, h => by
    unfold pExprs at h
    split at h
    · cases h
    rename_i r0 e
    obtain ⟨a1, a2, a3, a4, a5, a6⟩ := hA _ _ _ hp e
    have hk' : ∀ k ∈ ks ++ [r0.1], 0 ≤ k ∧ k < (r0.2.2.length : Int) := by
      intro k hk1
      rcases List.mem_append.1 hk1 with h3 | h3
      · have := hk k h3; omega
      rw [List.mem_singleton.1 h3]; exact ⟨a5, a6⟩
    split at h
    · rename_i hb
      have h3 : r0.2.1 < t.size := byteAt_lt (by omega)
      exact pExprs_le hA f _ _ _ _ (by omega) (by omega) (by rw [List.length_append, List.length_singleton]; omega) (by omega) hk' h
    cases h
    exact pGroup_le (by simp only; omega) (by simp) a2 (by simp only [List.length_append, List.length_singleton]; omega) (by simp only; omega) hk'
theorem pExpr_le (t : ByteArray) : ∀ (n p : Nat) (ps : List Piece) (r : PR), p ≤ t.size → pExpr t n p ps = some r → Reads t p ps r
  | 0, _, _, _, _, h => by cases h
  | n + 1, p, ps, r, hp, h => pExprs_le (fun _ _ _ h1 h2 => pAlt_le (fun _ _ _ h3 h4 => pItem_le (pExpr_le t n) h3 h4) h1 h2) _ _ _ _ _ hp (Nat.le_refl _) (by simp) (Nat.le_refl _) (by simp) h
theorem pAlts_more {t : ByteArray} {I : Nat → List Piece → Option PR} {f : Nat} {ks : List Int} {p : Nat} {ps : List Piece} (hb : begins (byteAt t p) = true) {r : PR} (h : I p ps = some r) : pAlts t I (f + 1) ks p ps = pAlts t I f (ks ++ [r.1]) r.2.1 r.2.2 := by
  conv => lhs; unfold pAlts
  rw [if_pos hb, h]
theorem pAlts_bad {t : ByteArray} {I : Nat → List Piece → Option PR} {f : Nat} {ks : List Int} {p : Nat} {ps : List Piece} (hb : begins (byteAt t p) = true) (h : I p ps = none) : pAlts t I (f + 1) ks p ps = none := by
  conv => lhs; unfold pAlts
  rw [if_pos hb, h]
theorem pAlts_end {t : ByteArray} {I : Nat → List Piece → Option PR} {f : Nat} {ks : List Int} {p : Nat} {ps : List Piece} (hb : begins (byteAt t p) = false) : pAlts t I f ks p ps = some (ks, p, ps) := by
  cases f with
  | zero => rfl
  | succ f => unfold pAlts; rw [if_neg (by rw [hb]; simp)]
/-! paths that are right -/
def kidsOk (ks : List Int) (i : Nat) : Bool := ks.all fun k => inR 0 ((i : Int) - 1) k
def pieceOk (x : Piece) (i : Nat) : Bool :=
  if x.op = 1 then labelOk x.label && decide (x.kids.length = 0)
  else if x.op = 2 ∨ x.op = 3 then decide (x.label = 0) && (decide (2 ≤ x.kids.length) && kidsOk x.kids i)
  else if x.op = 4 ∨ x.op = 5 ∨ x.op = 6 then decide (x.label = 0) && (decide (x.kids.length = 1) && kidsOk x.kids i)
  else false
def pathOk (p : Path) : Bool := decide (1 ≤ p.pieces.length) && (decide (p.pieces.length ≤ 60) && allK (fun i => pieceOk (p.pieces[i]?.getD default) i) p.pieces.length)
theorem pathOk_no {p : Path} {k : Nat} (h1 : k < p.pieces.length) (h : pieceOk (p.pieces[k]?.getD default) k = false) : pathOk p = false := by
  unfold pathOk; rw [allK_no (p := fun i => pieceOk (p.pieces[i]?.getD default) i) h _ h1]; simp
theorem pathOk_out {p : Path} (h : ¬ (1 ≤ p.pieces.length ∧ p.pieces.length ≤ 60)) : pathOk p = false := by
  unfold pathOk
  by_cases h1 : 1 ≤ p.pieces.length
  · rw [decide_eq_false (fun h2 => h ⟨h1, h2⟩)]; simp
  rw [decide_eq_false h1]; rfl
theorem pathOk_yes {p : Path} (h : 1 ≤ p.pieces.length ∧ p.pieces.length ≤ 60) (h2 : allK (fun i => pieceOk (p.pieces[i]?.getD default) i) p.pieces.length = true) : pathOk p = true := by
  unfold pathOk; rw [h2, decide_eq_true h.1, decide_eq_true h.2]; rfl
theorem kidsOk_no {ks : List Int} {i k : Nat} (hk : k < ks.length) (h : ¬ (0 ≤ (ks[k]?.getD 0) ∧ (ks[k]?.getD 0) ≤ (i : Int) - 1)) : kidsOk ks i = false := by
  cases e : kidsOk ks i with
  | false => rfl
  | true =>
    unfold kidsOk at e
    rw [List.all_eq_true] at e
    rw [List.getElem?_eq_getElem hk] at h
    exact absurd (inR_iff.1 (e _ (List.getElem_mem hk))) h
theorem kidsOk_step {ks : List Int} {i k : Nat} (hk : k < ks.length) (ha : kidsOk (ks.take k) i = true) (h : 0 ≤ (ks[k]?.getD 0) ∧ (ks[k]?.getD 0) ≤ (i : Int) - 1) : kidsOk (ks.take (k + 1)) i = true := by
  unfold kidsOk at *
  rw [List.getElem?_eq_getElem hk] at h
  rw [← List.take_append_getElem hk, List.all_append, ha]
  have := inR_iff.2 h
  simp only [Option.getD_some] at this
  simp [this]
theorem piece1 {x : Piece} {i : Nat} (h : x.op = 1) : pieceOk x i = (labelOk x.label && decide (x.kids.length = 0)) := by unfold pieceOk; rw [if_pos h]
theorem piece_iff {x : Piece} {i : Nat} : pieceOk x i = true ↔ (x.op = 1 ∧ 97 ≤ x.label.toNat ∧ x.label.toNat ≤ 100 ∧ x.kids.length = 0) ∨ ((x.op = 2 ∨ x.op = 3) ∧ x.label.toNat = 0 ∧ 2 ≤ x.kids.length ∧ kidsOk x.kids i = true) ∨ ((x.op = 4 ∨ x.op = 5 ∨ x.op = 6) ∧ x.label.toNat = 0 ∧ x.kids.length = 1 ∧ kidsOk x.kids i = true) := by
  have hl : x.label = 0 ↔ x.label.toNat = 0 := by
    constructor
    · intro h; rw [h]; rfl
    intro h; exact UInt8.toNat_inj.1 h
  unfold pieceOk
  split
  · rename_i h; rw [Bool.and_eq_true, labelOk_iff, decide_eq_true_iff]; constructor
    · intro h1; exact .inl ⟨h, h1.1.1, h1.1.2, h1.2⟩
    rintro (h1 | h1 | h1)
    · exact ⟨⟨h1.2.1, h1.2.2.1⟩, h1.2.2.2⟩
    · omega
    omega
  split
  · rename_i h0 h; rw [Bool.and_eq_true, Bool.and_eq_true, decide_eq_true_iff, decide_eq_true_iff, hl]; constructor
    · intro h1; exact .inr (.inl ⟨h, h1.1, h1.2.1, h1.2.2⟩)
    rintro (h1 | h1 | h1)
    · omega
    · exact ⟨h1.2.1, h1.2.2.1, h1.2.2.2⟩
    omega
  split
  · rename_i h0 h2 h; rw [Bool.and_eq_true, Bool.and_eq_true, decide_eq_true_iff, decide_eq_true_iff, hl]; constructor
    · intro h1; exact .inr (.inr ⟨h, h1.1, h1.2.1, h1.2.2⟩)
    rintro (h1 | h1 | h1)
    · omega
    · omega
    exact ⟨h1.2.1, h1.2.2.1, h1.2.2.2⟩
  constructor
  · intro h; cases h
  rintro (h1 | h1 | h1) <;> omega
theorem piece_f {x : Piece} {i : Nat} (h : pieceOk x i = true → False) : pieceOk x i = false := by
  cases e : pieceOk x i with
  | false => rfl
  | true => exact (h e).elim
theorem piece_badkid {x : Piece} {i k : Nat} (h : ¬ x.op = 1) (hk : k < x.kids.length) (h2 : ¬ (0 ≤ (x.kids[k]?.getD 0) ∧ (x.kids[k]?.getD 0) ≤ (i : Int) - 1)) : pieceOk x i = false := by
  refine piece_f fun e => ?_
  have h1 := kidsOk_no hk h2
  rcases piece_iff.1 e with h3 | h3 | h3
  · exact h h3.1
  · rw [h1] at h3; cases h3.2.2.2
  rw [h1] at h3; cases h3.2.2.2
theorem piece_end {x : Piece} {i : Nat} (h : ((x.op = 2 ∨ x.op = 3) ∧ 2 ≤ x.kids.length) ∨ ((x.op = 4 ∨ x.op = 5 ∨ x.op = 6) ∧ x.kids.length = 1)) (hk : kidsOk x.kids i = true) : pieceOk x i = (((x.label.toNat : Nat) : Int) == 0) := by
  rw [Bool.eq_iff_iff, piece_iff, hk]
  simp
  omega
theorem piece_yes {x : Piece} {i : Nat} (h : ((x.op = 2 ∨ x.op = 3) ∧ 2 ≤ x.kids.length) ∨ ((x.op = 4 ∨ x.op = 5 ∨ x.op = 6) ∧ x.kids.length = 1)) (hl : x.label.toNat = 0) (hk : kidsOk x.kids i = true) : pieceOk x i = true := by
  rw [piece_end h hk, hl]; rfl
theorem piece_step {x : Piece} {i : Nat} (h : x.op = 1) (hl : labelOk x.label = true) : pieceOk x i = (((x.kids.length : Nat) : Int) == 0) := by
  rw [piece1 h, hl, Bool.true_and, Bool.eq_iff_iff]; simp
def readPath (t : ByteArray) : Option Path :=
  if t.size ≤ 20 then
    match pExpr t (t.size + 1) 0 [] with
    | none => none
    | some r => if r.2.1 = t.size ∧ pathOk ⟨r.2.2⟩ = true then some ⟨r.2.2⟩ else none
  else none
end Go.Proofs.YtcnclhjhnjpeiaaGreatDoor

namespace Go.Proofs.YtcnclhjhnjpeiaaGreatDoor
open Go.SX Go.Proofs
set_option linter.unusedSimpArgs false
set_option linter.unusedVariables false
set_option maxHeartbeats 4000000
attribute [local irreducible] IntKind.wrap
--@ct impl.pieceOk val implPieceOk_ct _ $1 _ ?_ | %1
theorem implPieceOk_ct (l : List Value) (x : Piece) (i : Nat) (hi : i ≤ 1000000) : Ct Tryz.prog 226 [.agg ⟨l⟩, .int .i64 (i : Int)] [] (fun H => gPiece.rd H l x) (fun v A => v = .bool (pieceOk x i) ∧ A = []) := by
  refine Ct.intro0 G_ok Tryz.func226 rfl rfl rfl fun E H hp => ?_
  obtain ⟨b2p, c2p, rfl, w0p, h2p⟩ := gPiece_rd.1 hp
  have hl := (rd_len h2p).2
  refine VCnew.intro fun x0 => ?_
  refine VCsplit.intro (fun q1 => ?_) (fun q1 => ?_)
  ·
    simp at q1
    refine call_val (isLabel_ct _) trivial ?_
    rintro _ rfl
    refine VCsplit.intro (fun q3 => ?_) (fun q3 => ?_)
    ·
      exact ⟨[], ⟨by rw [piece_step ‹x.op = 1› ‹labelOk x.label = true›], rfl⟩, (.le fun a => by (try simp only [setR, List.cons_append, List.nil_append]); simp [List.count_cons, Blk.ent, idOf]; try omega)⟩
    ·
      exact ⟨[], ⟨by rw [piece1 ‹x.op = 1›, ‹labelOk x.label = false›]; rfl, rfl⟩, (.le fun a => by (try simp only [setR, List.cons_append, List.nil_append]); simp [List.count_cons, Blk.ent, idOf]; try omega)⟩
  ·
    simp at q1
    refine VCsplit.intro (fun q4 => ?_) (fun q4 => ?_)
    ·
      simp at q4
      refine VCsplit.intro (fun q5 => ?_) (fun q5 => ?_)
      ·
        simp at q5
        exact ⟨[], ⟨by rw [piece_f fun e => by (have := piece_iff.1 e; omega)], rfl⟩, (.le fun a => by (try simp only [setR, List.cons_append, List.nil_append]); simp [List.count_cons, Blk.ent, idOf]; try omega)⟩
      ·
        simp at q5
        apply loop_mod (α := (Nat)) G_ok [39, 40, 41, 6, 42, 43, 44, 45, 46, 47, 48, 4, 49, 38] (fun z => [(38, .v (.int .i64 z))]) (fun z => [{ id := x0, cs := [Value.int IntKind.i64 x.op, Value.int IntKind.u8 (↑x.label.toNat : Int), Value.slice b2p x.kids.length c2p], ty := (279 : Nat) }]) (fun z => [H]) (fun z => x.kids.length - z) (fun z => z ≤ x.kids.length ∧ kidsOk (x.kids.take z) i = true) (0)
        · repeat' (first | exact trivial | refine ⟨⟨_, rfl, by first | rfl | exact inc_eq _ (by omega) | (refine sl_eq ?_; simp; done), by first | exact trivial | simp [SV.ok]⟩, ?_⟩)
        · exact ⟨rfl, trivial⟩
        · exact ⟨by omega, rfl⟩
        · exact .refl _
        rintro k hI
        obtain ⟨hk, ha⟩ : k ≤ x.kids.length ∧ kidsOk (x.kids.take k) i = true := hI
        try dsimp only
        refine VCsplit.intro (fun q6 => ?_) (fun q6 => ?_)
        ·
          simp at q6
          refine idx_rd h2p ?_ ?_ fun b7 o7 hb7 => ?_
          · omega
          · omega
          refine load_allN 0 (k) rfl h2p ?_ ?_ hb7 rfl (mem_at 0 rfl) fun l8 hl8 => ?_
          · omega
          · omega
          obtain ⟨rfl, hw8⟩ := hl8; simp only [flStr, flInt, okI] at hw8
          refine VCsplit.intro (fun q9 => ?_) (fun q9 => ?_)
          ·
            simp at q9
            exact ⟨[], ⟨by rw [piece_badkid (k := k) (by omega) (by omega) (by omega)], rfl⟩, (.le fun a => by (try simp only [setR, List.cons_append, List.nil_append]); simp [List.count_cons, Blk.ent, idOf]; try omega)⟩
          ·
            simp at q9
            refine VCsplit.intro (fun q10 => ?_) (fun q10 => ?_)
            ·
              simp at q10
              exact ⟨[], ⟨by rw [piece_badkid (k := k) (by omega) (by omega) (by omega)], rfl⟩, (.le fun a => by (try simp only [setR, List.cons_append, List.nil_append]); simp [List.count_cons, Blk.ent, idOf]; try omega)⟩
            ·
              simp at q10
              apply loop_stepA (k + 1)
              · exact .refl _
              · repeat' (first | exact trivial | refine ⟨⟨_, rfl, by first | rfl | exact inc_eq _ (by omega) | (refine sl_eq ?_; simp; done), by first | exact trivial | simp [SV.ok]⟩, ?_⟩)
              · exact ⟨rfl, trivial⟩
              · exact ⟨by omega, kidsOk_step (by omega) ha (by omega)⟩
              omega
        ·
          simp at q6
          (have hke : k = x.kids.length := (by omega); subst hke; rw [List.take_length] at ha; exact ⟨[], ⟨by rw [piece_end (by omega) ha], rfl⟩, (.le fun a => by (try simp only [setR, List.cons_append, List.nil_append]); simp [List.count_cons, Blk.ent, idOf]; try omega)⟩)
    ·
      simp at q4
      refine VCsplit.intro (fun q11 => ?_) (fun q11 => ?_)
      ·
        simp at q11
        refine VCsplit.intro (fun q12 => ?_) (fun q12 => ?_)
        ·
          simp at q12
          exact ⟨[], ⟨by rw [piece_f fun e => by (have := piece_iff.1 e; omega)], rfl⟩, (.le fun a => by (try simp only [setR, List.cons_append, List.nil_append]); simp [List.count_cons, Blk.ent, idOf]; try omega)⟩
        ·
          simp at q12
          apply loop_mod (α := (Nat)) G_ok [39, 40, 41, 6, 42, 43, 44, 45, 46, 47, 48, 4, 49, 38] (fun z => [(38, .v (.int .i64 z))]) (fun z => [{ id := x0, cs := [Value.int IntKind.i64 x.op, Value.int IntKind.u8 (↑x.label.toNat : Int), Value.slice b2p x.kids.length c2p], ty := (279 : Nat) }]) (fun z => [H]) (fun z => x.kids.length - z) (fun z => z ≤ x.kids.length ∧ kidsOk (x.kids.take z) i = true) (0)
          · repeat' (first | exact trivial | refine ⟨⟨_, rfl, by first | rfl | exact inc_eq _ (by omega) | (refine sl_eq ?_; simp; done), by first | exact trivial | simp [SV.ok]⟩, ?_⟩)
          · exact ⟨rfl, trivial⟩
          · exact ⟨by omega, rfl⟩
          · exact .refl _
          rintro k hI
          obtain ⟨hk, ha⟩ : k ≤ x.kids.length ∧ kidsOk (x.kids.take k) i = true := hI
          try dsimp only
          refine VCsplit.intro (fun q13 => ?_) (fun q13 => ?_)
          ·
            simp at q13
            refine idx_rd h2p ?_ ?_ fun b14 o14 hb14 => ?_
            · omega
            · omega
            refine load_allN 0 (k) rfl h2p ?_ ?_ hb14 rfl (mem_at 0 rfl) fun l15 hl15 => ?_
            · omega
            · omega
            obtain ⟨rfl, hw15⟩ := hl15; simp only [flStr, flInt, okI] at hw15
            refine VCsplit.intro (fun q16 => ?_) (fun q16 => ?_)
            ·
              simp at q16
              exact ⟨[], ⟨by rw [piece_badkid (k := k) (by omega) (by omega) (by omega)], rfl⟩, (.le fun a => by (try simp only [setR, List.cons_append, List.nil_append]); simp [List.count_cons, Blk.ent, idOf]; try omega)⟩
            ·
              simp at q16
              refine VCsplit.intro (fun q17 => ?_) (fun q17 => ?_)
              ·
                simp at q17
                exact ⟨[], ⟨by rw [piece_badkid (k := k) (by omega) (by omega) (by omega)], rfl⟩, (.le fun a => by (try simp only [setR, List.cons_append, List.nil_append]); simp [List.count_cons, Blk.ent, idOf]; try omega)⟩
              ·
                simp at q17
                apply loop_stepA (k + 1)
                · exact .refl _
                · repeat' (first | exact trivial | refine ⟨⟨_, rfl, by first | rfl | exact inc_eq _ (by omega) | (refine sl_eq ?_; simp; done), by first | exact trivial | simp [SV.ok]⟩, ?_⟩)
                · exact ⟨rfl, trivial⟩
                · exact ⟨by omega, kidsOk_step (by omega) ha (by omega)⟩
                omega
          ·
            simp at q13
            (have hke : k = x.kids.length := (by omega); subst hke; rw [List.take_length] at ha; exact ⟨[], ⟨by rw [piece_end (by omega) ha], rfl⟩, (.le fun a => by (try simp only [setR, List.cons_append, List.nil_append]); simp [List.count_cons, Blk.ent, idOf]; try omega)⟩)
      ·
        simp at q11
        refine VCsplit.intro (fun q18 => ?_) (fun q18 => ?_)
        ·
          simp at q18
          refine VCsplit.intro (fun q19 => ?_) (fun q19 => ?_)
          ·
            simp at q19
            exact ⟨[], ⟨by rw [piece_f fun e => by (have := piece_iff.1 e; omega)], rfl⟩, (.le fun a => by (try simp only [setR, List.cons_append, List.nil_append]); simp [List.count_cons, Blk.ent, idOf]; try omega)⟩
          ·
            simp at q19
            apply loop_mod (α := (Nat)) G_ok [39, 40, 41, 6, 42, 43, 44, 45, 46, 47, 48, 4, 49, 38] (fun z => [(38, .v (.int .i64 z))]) (fun z => [{ id := x0, cs := [Value.int IntKind.i64 x.op, Value.int IntKind.u8 (↑x.label.toNat : Int), Value.slice b2p x.kids.length c2p], ty := (279 : Nat) }]) (fun z => [H]) (fun z => x.kids.length - z) (fun z => z ≤ x.kids.length ∧ kidsOk (x.kids.take z) i = true) (0)
            · repeat' (first | exact trivial | refine ⟨⟨_, rfl, by first | rfl | exact inc_eq _ (by omega) | (refine sl_eq ?_; simp; done), by first | exact trivial | simp [SV.ok]⟩, ?_⟩)
            · exact ⟨rfl, trivial⟩
            · exact ⟨by omega, rfl⟩
            · exact .refl _
            rintro k hI
            obtain ⟨hk, ha⟩ : k ≤ x.kids.length ∧ kidsOk (x.kids.take k) i = true := hI
            try dsimp only
            refine VCsplit.intro (fun q20 => ?_) (fun q20 => ?_)
            ·
              simp at q20
              refine idx_rd h2p ?_ ?_ fun b21 o21 hb21 => ?_
              · omega
              · omega
              refine load_allN 0 (k) rfl h2p ?_ ?_ hb21 rfl (mem_at 0 rfl) fun l22 hl22 => ?_
              · omega
              · omega
              obtain ⟨rfl, hw22⟩ := hl22; simp only [flStr, flInt, okI] at hw22
              refine VCsplit.intro (fun q23 => ?_) (fun q23 => ?_)
              ·
                simp at q23
                exact ⟨[], ⟨by rw [piece_badkid (k := k) (by omega) (by omega) (by omega)], rfl⟩, (.le fun a => by (try simp only [setR, List.cons_append, List.nil_append]); simp [List.count_cons, Blk.ent, idOf]; try omega)⟩
              ·
                simp at q23
                refine VCsplit.intro (fun q24 => ?_) (fun q24 => ?_)
                ·
                  simp at q24
                  exact ⟨[], ⟨by rw [piece_badkid (k := k) (by omega) (by omega) (by omega)], rfl⟩, (.le fun a => by (try simp only [setR, List.cons_append, List.nil_append]); simp [List.count_cons, Blk.ent, idOf]; try omega)⟩
                ·
                  simp at q24
                  apply loop_stepA (k + 1)
                  · exact .refl _
                  · repeat' (first | exact trivial | refine ⟨⟨_, rfl, by first | rfl | exact inc_eq _ (by omega) | (refine sl_eq ?_; simp; done), by first | exact trivial | simp [SV.ok]⟩, ?_⟩)
                  · exact ⟨rfl, trivial⟩
                  · exact ⟨by omega, kidsOk_step (by omega) ha (by omega)⟩
                  omega
            ·
              simp at q20
              (have hke : k = x.kids.length := (by omega); subst hke; rw [List.take_length] at ha; exact ⟨[], ⟨by rw [piece_end (by omega) ha], rfl⟩, (.le fun a => by (try simp only [setR, List.cons_append, List.nil_append]); simp [List.count_cons, Blk.ent, idOf]; try omega)⟩)
        ·
          simp at q18
          refine VCsplit.intro (fun q25 => ?_) (fun q25 => ?_)
          ·
            simp at q25
            refine VCsplit.intro (fun q26 => ?_) (fun q26 => ?_)
            ·
              simp at q26
              exact ⟨[], ⟨by rw [piece_f fun e => by (have := piece_iff.1 e; omega)], rfl⟩, (.le fun a => by (try simp only [setR, List.cons_append, List.nil_append]); simp [List.count_cons, Blk.ent, idOf]; try omega)⟩
            ·
              simp at q26
              apply loop_mod (α := (Nat)) G_ok [39, 40, 41, 6, 42, 43, 44, 45, 46, 47, 48, 4, 49, 38] (fun z => [(38, .v (.int .i64 z))]) (fun z => [{ id := x0, cs := [Value.int IntKind.i64 x.op, Value.int IntKind.u8 (↑x.label.toNat : Int), Value.slice b2p x.kids.length c2p], ty := (279 : Nat) }]) (fun z => [H]) (fun z => x.kids.length - z) (fun z => z ≤ x.kids.length ∧ kidsOk (x.kids.take z) i = true) (0)
              · repeat' (first | exact trivial | refine ⟨⟨_, rfl, by first | rfl | exact inc_eq _ (by omega) | (refine sl_eq ?_; simp; done), by first | exact trivial | simp [SV.ok]⟩, ?_⟩)
              · exact ⟨rfl, trivial⟩
              · exact ⟨by omega, rfl⟩
              · exact .refl _
              rintro k hI
              obtain ⟨hk, ha⟩ : k ≤ x.kids.length ∧ kidsOk (x.kids.take k) i = true := hI
              try dsimp only
              refine VCsplit.intro (fun q27 => ?_) (fun q27 => ?_)
              ·
                simp at q27
                refine idx_rd h2p ?_ ?_ fun b28 o28 hb28 => ?_
                · omega
                · omega
                refine load_allN 0 (k) rfl h2p ?_ ?_ hb28 rfl (mem_at 0 rfl) fun l29 hl29 => ?_
                · omega
                · omega
                obtain ⟨rfl, hw29⟩ := hl29; simp only [flStr, flInt, okI] at hw29
                refine VCsplit.intro (fun q30 => ?_) (fun q30 => ?_)
                ·
                  simp at q30
                  exact ⟨[], ⟨by rw [piece_badkid (k := k) (by omega) (by omega) (by omega)], rfl⟩, (.le fun a => by (try simp only [setR, List.cons_append, List.nil_append]); simp [List.count_cons, Blk.ent, idOf]; try omega)⟩
                ·
                  simp at q30
                  refine VCsplit.intro (fun q31 => ?_) (fun q31 => ?_)
                  ·
                    simp at q31
                    exact ⟨[], ⟨by rw [piece_badkid (k := k) (by omega) (by omega) (by omega)], rfl⟩, (.le fun a => by (try simp only [setR, List.cons_append, List.nil_append]); simp [List.count_cons, Blk.ent, idOf]; try omega)⟩
                  ·
                    simp at q31
                    apply loop_stepA (k + 1)
                    · exact .refl _
                    · repeat' (first | exact trivial | refine ⟨⟨_, rfl, by first | rfl | exact inc_eq _ (by omega) | (refine sl_eq ?_; simp; done), by first | exact trivial | simp [SV.ok]⟩, ?_⟩)
                    · exact ⟨rfl, trivial⟩
                    · exact ⟨by omega, kidsOk_step (by omega) ha (by omega)⟩
                    omega
              ·
                simp at q27
                (have hke : k = x.kids.length := (by omega); subst hke; rw [List.take_length] at ha; exact ⟨[], ⟨by rw [piece_end (by omega) ha], rfl⟩, (.le fun a => by (try simp only [setR, List.cons_append, List.nil_append]); simp [List.count_cons, Blk.ent, idOf]; try omega)⟩)
          ·
            simp at q25
            refine VCsplit.intro (fun q32 => ?_) (fun q32 => ?_)
            ·
              simp at q32
              refine VCsplit.intro (fun q33 => ?_) (fun q33 => ?_)
              ·
                simp at q33
                exact ⟨[], ⟨by rw [piece_f fun e => by (have := piece_iff.1 e; omega)], rfl⟩, (.le fun a => by (try simp only [setR, List.cons_append, List.nil_append]); simp [List.count_cons, Blk.ent, idOf]; try omega)⟩
              ·
                simp at q33
                apply loop_mod (α := (Nat)) G_ok [39, 40, 41, 6, 42, 43, 44, 45, 46, 47, 48, 4, 49, 38] (fun z => [(38, .v (.int .i64 z))]) (fun z => [{ id := x0, cs := [Value.int IntKind.i64 x.op, Value.int IntKind.u8 (↑x.label.toNat : Int), Value.slice b2p x.kids.length c2p], ty := (279 : Nat) }]) (fun z => [H]) (fun z => x.kids.length - z) (fun z => z ≤ x.kids.length ∧ kidsOk (x.kids.take z) i = true) (0)
                · repeat' (first | exact trivial | refine ⟨⟨_, rfl, by first | rfl | exact inc_eq _ (by omega) | (refine sl_eq ?_; simp; done), by first | exact trivial | simp [SV.ok]⟩, ?_⟩)
                · exact ⟨rfl, trivial⟩
                · exact ⟨by omega, rfl⟩
                · exact .refl _
                rintro k hI
                obtain ⟨hk, ha⟩ : k ≤ x.kids.length ∧ kidsOk (x.kids.take k) i = true := hI
                try dsimp only
                refine VCsplit.intro (fun q34 => ?_) (fun q34 => ?_)
                ·
                  simp at q34
                  refine idx_rd h2p ?_ ?_ fun b35 o35 hb35 => ?_
                  · omega
                  · omega
                  refine load_allN 0 (k) rfl h2p ?_ ?_ hb35 rfl (mem_at 0 rfl) fun l36 hl36 => ?_
                  · omega
                  · omega
                  obtain ⟨rfl, hw36⟩ := hl36; simp only [flStr, flInt, okI] at hw36
                  refine VCsplit.intro (fun q37 => ?_) (fun q37 => ?_)
                  ·
                    simp at q37
                    exact ⟨[], ⟨by rw [piece_badkid (k := k) (by omega) (by omega) (by omega)], rfl⟩, (.le fun a => by (try simp only [setR, List.cons_append, List.nil_append]); simp [List.count_cons, Blk.ent, idOf]; try omega)⟩
                  ·
                    simp at q37
                    refine VCsplit.intro (fun q38 => ?_) (fun q38 => ?_)
                    ·
                      simp at q38
                      exact ⟨[], ⟨by rw [piece_badkid (k := k) (by omega) (by omega) (by omega)], rfl⟩, (.le fun a => by (try simp only [setR, List.cons_append, List.nil_append]); simp [List.count_cons, Blk.ent, idOf]; try omega)⟩
                    ·
                      simp at q38
                      apply loop_stepA (k + 1)
                      · exact .refl _
                      · repeat' (first | exact trivial | refine ⟨⟨_, rfl, by first | rfl | exact inc_eq _ (by omega) | (refine sl_eq ?_; simp; done), by first | exact trivial | simp [SV.ok]⟩, ?_⟩)
                      · exact ⟨rfl, trivial⟩
                      · exact ⟨by omega, kidsOk_step (by omega) ha (by omega)⟩
                      omega
                ·
                  simp at q34
                  (have hke : k = x.kids.length := (by omega); subst hke; rw [List.take_length] at ha; exact ⟨[], ⟨by rw [piece_end (by omega) ha], rfl⟩, (.le fun a => by (try simp only [setR, List.cons_append, List.nil_append]); simp [List.count_cons, Blk.ent, idOf]; try omega)⟩)
            ·
              simp at q32
              exact ⟨[], ⟨by rw [piece_f fun e => by (have := piece_iff.1 e; omega)], rfl⟩, (.le fun a => by (try simp only [setR, List.cons_append, List.nil_append]); simp [List.count_cons, Blk.ent, idOf]; try omega)⟩
--@ct impl.PathOk val implPathOk_ct _ $1 | %1
theorem implPathOk_ct (l : List Value) (x : Path) : Ct Tryz.prog 209 [.agg ⟨l⟩] [] (fun H => gPath.rd H l x) (fun v A => v = .bool (pathOk x) ∧ A = []) := by
  refine Ct.intro0 G_ok Tryz.func209 rfl rfl rfl fun E H hp => ?_
  obtain ⟨b0p, c0p, rfl, h0p⟩ := gPath_rd.1 hp
  have hl := (rd_len h0p).2
  refine VCnew.intro fun x0 => ?_
  refine VCsplit.intro (fun q1 => ?_) (fun q1 => ?_)
  ·
    simp at q1
    exact ⟨[], ⟨by rw [pathOk_out (by omega)], rfl⟩, (.le fun a => by (try simp only [setR, List.cons_append, List.nil_append]); simp only [List.flatten_append, List.flatten_cons, List.flatten_nil, List.count_append, List.count_nil, List.append_nil, List.nil_append]; omega)⟩
  ·
    simp at q1
    refine VCsplit.intro (fun q2 => ?_) (fun q2 => ?_)
    ·
      simp at q2
      exact ⟨[], ⟨by rw [pathOk_out (by omega)], rfl⟩, (.le fun a => by (try simp only [setR, List.cons_append, List.nil_append]); simp only [List.flatten_append, List.flatten_cons, List.flatten_nil, List.count_append, List.count_nil, List.append_nil, List.nil_append]; omega)⟩
    ·
      simp at q2
      apply loop_mod (α := (Nat)) G_ok [19, 20, 21, 22, 4, 3, 23, 24, 25, 26, 2, 27, 18] (fun z => [(18, .v (.int .i64 z))]) (fun z => [{ id := x0, cs := [Value.slice b0p x.pieces.length c0p], ty := (205 : Nat) }]) (fun z => [H]) (fun z => x.pieces.length - z) (fun z => z ≤ x.pieces.length ∧ allK (fun i => pieceOk (x.pieces[i]?.getD default) i) z = true) (0)
      · repeat' (first | exact trivial | refine ⟨⟨_, rfl, by first | rfl | exact inc_eq _ (by omega) | (refine sl_eq ?_; simp; done), by first | exact trivial | simp [SV.ok]⟩, ?_⟩)
      · exact ⟨rfl, trivial⟩
      · exact ⟨by omega, rfl⟩
      · exact .refl _
      rintro k hI
      obtain ⟨hk, ha⟩ : k ≤ x.pieces.length ∧ allK (fun i => pieceOk (x.pieces[i]?.getD default) i) k = true := hI
      try dsimp only
      refine VCsplit.intro (fun q3 => ?_) (fun q3 => ?_)
      ·
        simp at q3
        refine idx_rd h0p ?_ ?_ fun b4 o4 hb4 => ?_
        · omega
        · omega
        refine load_allN default (k) rfl h0p ?_ ?_ hb4 rfl (mem_at 0 rfl) fun l5 hl5 => ?_
        · omega
        · omega
        obtain ⟨b2x5, c2x5, rfl, w0x5, h2x5⟩ := gPiece_rd.1 hl5
        refine VCnew.intro fun x6 => ?_
        refine call_val (implPieceOk_ct _ (x.pieces[k]?.getD default) _ ?_) (Rp.mono _ (mem_at 0 rfl) hl5) ?_
        · omega
        rintro _ rfl
        refine VCsplit.intro (fun q8 => ?_) (fun q8 => ?_)
        ·
          simp at q8
          exact ⟨[], ⟨by rw [pathOk_no (k := k) (by omega) (by assumption)], rfl⟩, (.le fun a => by (try simp only [setR, List.cons_append, List.nil_append]); simp only [List.flatten_append, List.flatten_cons, List.flatten_nil, List.count_append, List.count_nil, List.append_nil, List.nil_append]; omega)⟩
        ·
          simp at q8
          apply loop_stepA (k + 1)
          · exact .refl _
          · repeat' (first | exact trivial | refine ⟨⟨_, rfl, by first | rfl | exact inc_eq _ (by omega) | (refine sl_eq ?_; simp; done), by first | exact trivial | simp [SV.ok]⟩, ?_⟩)
          · exact ⟨rfl, trivial⟩
          · exact ⟨by omega, allK_step ha (by assumption)⟩
          omega
      ·
        simp at q3
        (have hke : k = x.pieces.length := (by omega); subst hke; exact ⟨[], ⟨by rw [pathOk_yes (by omega) ha], rfl⟩, (.le fun a => by (try simp only [setR, List.cons_append, List.nil_append]); simp only [List.flatten_append, List.flatten_cons, List.flatten_nil, List.count_append, List.count_nil, List.append_nil, List.nil_append]; omega)⟩)
theorem pathOk_end {p : Path} (h2 : allK (fun i => pieceOk (p.pieces[i]?.getD default) i) p.pieces.length = true) : pathOk p = inR 1 60 (p.pieces.length : Nat) := by
  rw [Bool.eq_iff_iff, inR_iff]
  unfold pathOk; rw [h2]; simp; omega
--@ct spec.PathOk val specPathOk_ct _ $1 | %1
theorem specPathOk_ct (l : List Value) (x : Path) : Ct Tryz.prog 174 [.agg ⟨l⟩] [] (fun H => gPath.rd H l x) (fun v A => v = .bool (pathOk x) ∧ A = []) := by
  refine Ct.intro0 G_ok Tryz.func174 rfl rfl rfl fun E H hp => ?_
  obtain ⟨b0p, c0p, rfl, h0p⟩ := gPath_rd.1 hp
  have hl := (rd_len h0p).2
  refine VCnew.intro fun x0 => ?_
  apply loop_mod (α := (Nat)) G_ok [7, 8, 9, 10, 11, 14, 15, 16, 17, 18, 4, 19, 20, 21, 5, 22, 23, 25, 24, 26, 27, 28, 29, 30, 31, 32, 33, 34, 35, 36, 37, 2, 39, 38, 40, 41, 42, 43, 44, 45, 46, 47, 49, 48, 50, 51, 52, 53, 54, 55, 56, 57, 58, 6, 59, 60, 61, 64, 65, 66, 67, 68, 69, 70, 71, 72, 62, 63, 12, 13, 3] (fun z => [(3, .v (.int .i64 z))]) (fun z => [{ id := x0, cs := [Value.slice b0p x.pieces.length c0p], ty := (205 : Nat) }]) (fun z => [H]) (fun z => x.pieces.length - z) (fun z => z ≤ x.pieces.length ∧ allK (fun i => pieceOk (x.pieces[i]?.getD default) i) z = true) (0)
  · repeat' (first | exact trivial | refine ⟨⟨_, rfl, by first | rfl | exact inc_eq _ (by omega) | (refine sl_eq ?_; simp; done) | exact inc_eq _ (by have h9 := (rd_len (xs := (x.pieces[k]?.getD default).kids) (by assumption)).2; omega), by first | exact trivial | simp [SV.ok]⟩, ?_⟩)
  · exact ⟨rfl, trivial⟩
  · exact ⟨by omega, rfl⟩
  · exact .refl _
  rintro k hI
  obtain ⟨hk, ha⟩ : k ≤ x.pieces.length ∧ allK (fun i => pieceOk (x.pieces[i]?.getD default) i) k = true := hI
  try dsimp only
  refine VCsplit.intro (fun q1 => ?_) (fun q1 => ?_)
  ·
    simp at q1
    refine idx_rd h0p ?_ ?_ fun b2 o2 hb2 => ?_
    · omega
    · omega
    refine load_allN default (k) rfl h0p ?_ ?_ hb2 rfl (mem_at 0 rfl) fun l3 hl3 => ?_
    · omega
    · omega
    obtain ⟨b2x3, c2x3, rfl, w0x3, h2x3⟩ := gPiece_rd.1 hl3
    refine VCnew.intro fun x4 => ?_
    refine VCsplit.intro (fun q5 => ?_) (fun q5 => ?_)
    ·
      simp at q5
      refine VCsplit.intro (fun q6 => ?_) (fun q6 => ?_)
      ·
        simp at q6
        exact ⟨[], ⟨by rw [pathOk_no (k := k) (by omega) (piece_f fun e => by (have := piece_iff.1 e; omega))], rfl⟩, (.le fun a => by (try simp only [setR, List.cons_append, List.nil_append]); simp [List.count_cons, Blk.ent, idOf]; try omega)⟩
      ·
        simp at q6
        refine VCsplit.intro (fun q7 => ?_) (fun q7 => ?_)
        ·
          simp at q7
          exact ⟨[], ⟨by rw [pathOk_no (k := k) (by omega) (piece_f fun e => by (have := piece_iff.1 e; omega))], rfl⟩, (.le fun a => by (try simp only [setR, List.cons_append, List.nil_append]); simp [List.count_cons, Blk.ent, idOf]; try omega)⟩
        ·
          simp at q7
          refine VCsplit.intro (fun q8 => ?_) (fun q8 => ?_)
          ·
            simp at q8
            (have e9 : (x.pieces[k]?.getD default).kids.length ≠ 0 := (by simpa using ‹¬ _ = []›); exact ⟨[], ⟨by rw [pathOk_no (k := k) (by omega) (piece_f fun e => by (have := piece_iff.1 e; omega))], rfl⟩, (.le fun a => by (try simp only [setR, List.cons_append, List.nil_append]); simp [List.count_cons, Blk.ent, idOf]; try omega)⟩)
          ·
            simp at q8
            apply loop_mod (α := (Nat)) G_ok [59, 60, 61, 64, 65, 66, 67, 68, 69, 70, 71, 72, 2, 62, 63, 6] (fun z => [(6, .v (.int .i64 z))]) (fun z => [{ id := x0, cs := [Value.slice b0p x.pieces.length c0p], ty := (205 : Nat) }, { id := x4, cs := [Value.int IntKind.i64 (x.pieces[k]?.getD default).op, Value.int IntKind.u8 (↑(x.pieces[k]?.getD default).label.toNat : Int), Value.slice b2x3 (x.pieces[k]?.getD default).kids.length c2x3], ty := (279 : Nat) }]) (fun z => [H]) (fun z => (x.pieces[k]?.getD default).kids.length - z) (fun z => z ≤ (x.pieces[k]?.getD default).kids.length ∧ kidsOk ((x.pieces[k]?.getD default).kids.take z) k = true) (0)
            · repeat' (first | exact trivial | refine ⟨⟨_, rfl, by first | rfl | exact inc_eq _ (by omega) | (refine sl_eq ?_; simp; done) | exact inc_eq _ (by have h9 := (rd_len (xs := (x.pieces[k]?.getD default).kids) (by assumption)).2; omega), by first | exact trivial | simp [SV.ok]⟩, ?_⟩)
            · exact ⟨rfl, rfl, trivial⟩
            · exact ⟨by omega, rfl⟩
            · exact .refl _
            rintro j hI
            obtain ⟨hj, hb⟩ : j ≤ (x.pieces[k]?.getD default).kids.length ∧ kidsOk ((x.pieces[k]?.getD default).kids.take j) k = true := hI
            try dsimp only
            refine VCsplit.intro (fun q9 => ?_) (fun q9 => ?_)
            ·
              simp at q9
              refine idx_rd h2x3 ?_ ?_ fun b10 o10 hb10 => ?_
              · omega
              · omega
              refine load_allN 0 (j) rfl h2x3 ?_ ?_ hb10 rfl (mem_at 0 rfl) fun l11 hl11 => ?_
              · omega
              · omega
              obtain ⟨rfl, hw11⟩ := hl11; simp only [flStr, flInt, okI] at hw11
              refine call_val (l01In_ct _ _ _) trivial ?_
              rintro _ rfl
              refine VCsplit.intro (fun q13 => ?_) (fun q13 => ?_)
              ·
                simp at q13
                simp (disch := omega) only [wrap_of] at q13
                have iq13 := mt inR_iff.2 (Bool.eq_false_iff.1 q13)
                exact ⟨[], ⟨by rw [pathOk_no (k := k) (by omega) (piece_f fun e => by (have := piece_iff.1 e; omega))], rfl⟩, (.le fun a => by (try simp only [setR, List.cons_append, List.nil_append]); simp [List.count_cons, Blk.ent, idOf]; try omega)⟩
              ·
                simp at q13
                simp (disch := omega) only [wrap_of] at q13
                have iq13 := inR_iff.1 q13
                apply loop_stepA (j + 1)
                · exact .refl _
                · repeat' (first | exact trivial | refine ⟨⟨_, rfl, by first | rfl | exact inc_eq _ (by omega) | (refine sl_eq ?_; simp; done) | exact inc_eq _ (by have h9 := (rd_len (xs := (x.pieces[k]?.getD default).kids) (by assumption)).2; omega), by first | exact trivial | simp [SV.ok]⟩, ?_⟩)
                · exact ⟨rfl, rfl, trivial⟩
                · exact ⟨by omega, kidsOk_step (by omega) hb (by omega)⟩
                omega
            ·
              simp at q9
              apply loop_stepA (k + 1)
              · exact .refl _
              · repeat' (first | exact trivial | refine ⟨⟨_, rfl, by first | rfl | exact inc_eq _ (by omega) | (refine sl_eq ?_; simp; done) | exact inc_eq _ (by have h9 := (rd_len (xs := (x.pieces[k]?.getD default).kids) (by assumption)).2; omega), by first | exact trivial | simp [SV.ok]⟩, ?_⟩)
              · exact ⟨rfl, trivial⟩
              · (have e9 : (x.pieces[k]?.getD default).kids.length = 0 := (by rw [‹(x.pieces[k]?.getD default).kids = []›]; rfl); exact ⟨by omega, allK_step ha (piece_iff.2 (by omega))⟩)
              omega
    ·
      simp at q5
      refine VCsplit.intro (fun q14 => ?_) (fun q14 => ?_)
      ·
        simp at q14
        refine VCsplit.intro (fun q15 => ?_) (fun q15 => ?_)
        ·
          simp at q15
          exact ⟨[], ⟨by rw [pathOk_no (k := k) (by omega) (piece_f fun e => by (have := piece_iff.1 e; omega))], rfl⟩, (.le fun a => by (try simp only [setR, List.cons_append, List.nil_append]); simp [List.count_cons, Blk.ent, idOf]; try omega)⟩
        ·
          simp at q15
          refine VCsplit.intro (fun q16 => ?_) (fun q16 => ?_)
          ·
            simp at q16
            exact ⟨[], ⟨by rw [pathOk_no (k := k) (by omega) (piece_f fun e => by (have := piece_iff.1 e; omega))], rfl⟩, (.le fun a => by (try simp only [setR, List.cons_append, List.nil_append]); simp [List.count_cons, Blk.ent, idOf]; try omega)⟩
          ·
            simp at q16
            apply loop_mod (α := (Nat)) G_ok [59, 60, 61, 64, 65, 66, 67, 68, 69, 70, 71, 72, 2, 62, 63, 6] (fun z => [(6, .v (.int .i64 z))]) (fun z => [{ id := x0, cs := [Value.slice b0p x.pieces.length c0p], ty := (205 : Nat) }, { id := x4, cs := [Value.int IntKind.i64 (x.pieces[k]?.getD default).op, Value.int IntKind.u8 (↑(x.pieces[k]?.getD default).label.toNat : Int), Value.slice b2x3 (x.pieces[k]?.getD default).kids.length c2x3], ty := (279 : Nat) }]) (fun z => [H]) (fun z => (x.pieces[k]?.getD default).kids.length - z) (fun z => z ≤ (x.pieces[k]?.getD default).kids.length ∧ kidsOk ((x.pieces[k]?.getD default).kids.take z) k = true) (0)
            · repeat' (first | exact trivial | refine ⟨⟨_, rfl, by first | rfl | exact inc_eq _ (by omega) | (refine sl_eq ?_; simp; done) | exact inc_eq _ (by have h9 := (rd_len (xs := (x.pieces[k]?.getD default).kids) (by assumption)).2; omega), by first | exact trivial | simp [SV.ok]⟩, ?_⟩)
            · exact ⟨rfl, rfl, trivial⟩
            · exact ⟨by omega, rfl⟩
            · exact .refl _
            rintro j hI
            obtain ⟨hj, hb⟩ : j ≤ (x.pieces[k]?.getD default).kids.length ∧ kidsOk ((x.pieces[k]?.getD default).kids.take j) k = true := hI
            try dsimp only
            refine VCsplit.intro (fun q17 => ?_) (fun q17 => ?_)
            ·
              simp at q17
              refine idx_rd h2x3 ?_ ?_ fun b18 o18 hb18 => ?_
              · omega
              · omega
              refine load_allN 0 (j) rfl h2x3 ?_ ?_ hb18 rfl (mem_at 0 rfl) fun l19 hl19 => ?_
              · omega
              · omega
              obtain ⟨rfl, hw19⟩ := hl19; simp only [flStr, flInt, okI] at hw19
              refine call_val (l01In_ct _ _ _) trivial ?_
              rintro _ rfl
              refine VCsplit.intro (fun q21 => ?_) (fun q21 => ?_)
              ·
                simp at q21
                simp (disch := omega) only [wrap_of] at q21
                have iq21 := mt inR_iff.2 (Bool.eq_false_iff.1 q21)
                exact ⟨[], ⟨by rw [pathOk_no (k := k) (by omega) (piece_badkid (k := j) (by omega) (by omega) (by omega))], rfl⟩, (.le fun a => by (try simp only [setR, List.cons_append, List.nil_append]); simp [List.count_cons, Blk.ent, idOf]; try omega)⟩
              ·
                simp at q21
                simp (disch := omega) only [wrap_of] at q21
                have iq21 := inR_iff.1 q21
                apply loop_stepA (j + 1)
                · exact .refl _
                · repeat' (first | exact trivial | refine ⟨⟨_, rfl, by first | rfl | exact inc_eq _ (by omega) | (refine sl_eq ?_; simp; done) | exact inc_eq _ (by have h9 := (rd_len (xs := (x.pieces[k]?.getD default).kids) (by assumption)).2; omega), by first | exact trivial | simp [SV.ok]⟩, ?_⟩)
                · exact ⟨rfl, rfl, trivial⟩
                · exact ⟨by omega, kidsOk_step (by omega) hb (by omega)⟩
                omega
            ·
              simp at q17
              apply loop_stepA (k + 1)
              · exact .refl _
              · repeat' (first | exact trivial | refine ⟨⟨_, rfl, by first | rfl | exact inc_eq _ (by omega) | (refine sl_eq ?_; simp; done) | exact inc_eq _ (by have h9 := (rd_len (xs := (x.pieces[k]?.getD default).kids) (by assumption)).2; omega), by first | exact trivial | simp [SV.ok]⟩, ?_⟩)
              · exact ⟨rfl, trivial⟩
              · (have hje : j = (x.pieces[k]?.getD default).kids.length := (by omega); subst hje; rw [List.take_length] at hb; exact ⟨by omega, allK_step ha (piece_yes (by omega) (by omega) hb)⟩)
              omega
      ·
        simp at q14
        refine VCsplit.intro (fun q22 => ?_) (fun q22 => ?_)
        ·
          simp at q22
          refine VCsplit.intro (fun q23 => ?_) (fun q23 => ?_)
          ·
            simp at q23
            exact ⟨[], ⟨by rw [pathOk_no (k := k) (by omega) (piece_f fun e => by (have := piece_iff.1 e; omega))], rfl⟩, (.le fun a => by (try simp only [setR, List.cons_append, List.nil_append]); simp [List.count_cons, Blk.ent, idOf]; try omega)⟩
          ·
            simp at q23
            refine VCsplit.intro (fun q24 => ?_) (fun q24 => ?_)
            ·
              simp at q24
              exact ⟨[], ⟨by rw [pathOk_no (k := k) (by omega) (piece_f fun e => by (have := piece_iff.1 e; omega))], rfl⟩, (.le fun a => by (try simp only [setR, List.cons_append, List.nil_append]); simp [List.count_cons, Blk.ent, idOf]; try omega)⟩
            ·
              simp at q24
              apply loop_mod (α := (Nat)) G_ok [59, 60, 61, 64, 65, 66, 67, 68, 69, 70, 71, 72, 2, 62, 63, 6] (fun z => [(6, .v (.int .i64 z))]) (fun z => [{ id := x0, cs := [Value.slice b0p x.pieces.length c0p], ty := (205 : Nat) }, { id := x4, cs := [Value.int IntKind.i64 (x.pieces[k]?.getD default).op, Value.int IntKind.u8 (↑(x.pieces[k]?.getD default).label.toNat : Int), Value.slice b2x3 (x.pieces[k]?.getD default).kids.length c2x3], ty := (279 : Nat) }]) (fun z => [H]) (fun z => (x.pieces[k]?.getD default).kids.length - z) (fun z => z ≤ (x.pieces[k]?.getD default).kids.length ∧ kidsOk ((x.pieces[k]?.getD default).kids.take z) k = true) (0)
              · repeat' (first | exact trivial | refine ⟨⟨_, rfl, by first | rfl | exact inc_eq _ (by omega) | (refine sl_eq ?_; simp; done) | exact inc_eq _ (by have h9 := (rd_len (xs := (x.pieces[k]?.getD default).kids) (by assumption)).2; omega), by first | exact trivial | simp [SV.ok]⟩, ?_⟩)
              · exact ⟨rfl, rfl, trivial⟩
              · exact ⟨by omega, rfl⟩
              · exact .refl _
              rintro j hI
              obtain ⟨hj, hb⟩ : j ≤ (x.pieces[k]?.getD default).kids.length ∧ kidsOk ((x.pieces[k]?.getD default).kids.take j) k = true := hI
              try dsimp only
              refine VCsplit.intro (fun q25 => ?_) (fun q25 => ?_)
              ·
                simp at q25
                refine idx_rd h2x3 ?_ ?_ fun b26 o26 hb26 => ?_
                · omega
                · omega
                refine load_allN 0 (j) rfl h2x3 ?_ ?_ hb26 rfl (mem_at 0 rfl) fun l27 hl27 => ?_
                · omega
                · omega
                obtain ⟨rfl, hw27⟩ := hl27; simp only [flStr, flInt, okI] at hw27
                refine call_val (l01In_ct _ _ _) trivial ?_
                rintro _ rfl
                refine VCsplit.intro (fun q29 => ?_) (fun q29 => ?_)
                ·
                  simp at q29
                  simp (disch := omega) only [wrap_of] at q29
                  have iq29 := mt inR_iff.2 (Bool.eq_false_iff.1 q29)
                  exact ⟨[], ⟨by rw [pathOk_no (k := k) (by omega) (piece_badkid (k := j) (by omega) (by omega) (by omega))], rfl⟩, (.le fun a => by (try simp only [setR, List.cons_append, List.nil_append]); simp [List.count_cons, Blk.ent, idOf]; try omega)⟩
                ·
                  simp at q29
                  simp (disch := omega) only [wrap_of] at q29
                  have iq29 := inR_iff.1 q29
                  apply loop_stepA (j + 1)
                  · exact .refl _
                  · repeat' (first | exact trivial | refine ⟨⟨_, rfl, by first | rfl | exact inc_eq _ (by omega) | (refine sl_eq ?_; simp; done) | exact inc_eq _ (by have h9 := (rd_len (xs := (x.pieces[k]?.getD default).kids) (by assumption)).2; omega), by first | exact trivial | simp [SV.ok]⟩, ?_⟩)
                  · exact ⟨rfl, rfl, trivial⟩
                  · exact ⟨by omega, kidsOk_step (by omega) hb (by omega)⟩
                  omega
              ·
                simp at q25
                apply loop_stepA (k + 1)
                · exact .refl _
                · repeat' (first | exact trivial | refine ⟨⟨_, rfl, by first | rfl | exact inc_eq _ (by omega) | (refine sl_eq ?_; simp; done) | exact inc_eq _ (by have h9 := (rd_len (xs := (x.pieces[k]?.getD default).kids) (by assumption)).2; omega), by first | exact trivial | simp [SV.ok]⟩, ?_⟩)
                · exact ⟨rfl, trivial⟩
                · (have hje : j = (x.pieces[k]?.getD default).kids.length := (by omega); subst hje; rw [List.take_length] at hb; exact ⟨by omega, allK_step ha (piece_yes (by omega) (by omega) hb)⟩)
                omega
        ·
          simp at q22
          refine VCsplit.intro (fun q30 => ?_) (fun q30 => ?_)
          ·
            simp at q30
            refine VCsplit.intro (fun q31 => ?_) (fun q31 => ?_)
            ·
              simp at q31
              exact ⟨[], ⟨by rw [pathOk_no (k := k) (by omega) (piece_f fun e => by (have := piece_iff.1 e; omega))], rfl⟩, (.le fun a => by (try simp only [setR, List.cons_append, List.nil_append]); simp [List.count_cons, Blk.ent, idOf]; try omega)⟩
            ·
              simp at q31
              refine VCsplit.intro (fun q32 => ?_) (fun q32 => ?_)
              ·
                simp at q32
                exact ⟨[], ⟨by rw [pathOk_no (k := k) (by omega) (piece_f fun e => by (have := piece_iff.1 e; omega))], rfl⟩, (.le fun a => by (try simp only [setR, List.cons_append, List.nil_append]); simp [List.count_cons, Blk.ent, idOf]; try omega)⟩
              ·
                simp at q32
                apply loop_mod (α := (Nat)) G_ok [59, 60, 61, 64, 65, 66, 67, 68, 69, 70, 71, 72, 2, 62, 63, 6] (fun z => [(6, .v (.int .i64 z))]) (fun z => [{ id := x0, cs := [Value.slice b0p x.pieces.length c0p], ty := (205 : Nat) }, { id := x4, cs := [Value.int IntKind.i64 (x.pieces[k]?.getD default).op, Value.int IntKind.u8 (↑(x.pieces[k]?.getD default).label.toNat : Int), Value.slice b2x3 (x.pieces[k]?.getD default).kids.length c2x3], ty := (279 : Nat) }]) (fun z => [H]) (fun z => (x.pieces[k]?.getD default).kids.length - z) (fun z => z ≤ (x.pieces[k]?.getD default).kids.length ∧ kidsOk ((x.pieces[k]?.getD default).kids.take z) k = true) (0)
                · repeat' (first | exact trivial | refine ⟨⟨_, rfl, by first | rfl | exact inc_eq _ (by omega) | (refine sl_eq ?_; simp; done) | exact inc_eq _ (by have h9 := (rd_len (xs := (x.pieces[k]?.getD default).kids) (by assumption)).2; omega), by first | exact trivial | simp [SV.ok]⟩, ?_⟩)
                · exact ⟨rfl, rfl, trivial⟩
                · exact ⟨by omega, rfl⟩
                · exact .refl _
                rintro j hI
                obtain ⟨hj, hb⟩ : j ≤ (x.pieces[k]?.getD default).kids.length ∧ kidsOk ((x.pieces[k]?.getD default).kids.take j) k = true := hI
                try dsimp only
                refine VCsplit.intro (fun q33 => ?_) (fun q33 => ?_)
                ·
                  simp at q33
                  refine idx_rd h2x3 ?_ ?_ fun b34 o34 hb34 => ?_
                  · omega
                  · omega
                  refine load_allN 0 (j) rfl h2x3 ?_ ?_ hb34 rfl (mem_at 0 rfl) fun l35 hl35 => ?_
                  · omega
                  · omega
                  obtain ⟨rfl, hw35⟩ := hl35; simp only [flStr, flInt, okI] at hw35
                  refine call_val (l01In_ct _ _ _) trivial ?_
                  rintro _ rfl
                  refine VCsplit.intro (fun q37 => ?_) (fun q37 => ?_)
                  ·
                    simp at q37
                    simp (disch := omega) only [wrap_of] at q37
                    have iq37 := mt inR_iff.2 (Bool.eq_false_iff.1 q37)
                    exact ⟨[], ⟨by rw [pathOk_no (k := k) (by omega) (piece_badkid (k := j) (by omega) (by omega) (by omega))], rfl⟩, (.le fun a => by (try simp only [setR, List.cons_append, List.nil_append]); simp [List.count_cons, Blk.ent, idOf]; try omega)⟩
                  ·
                    simp at q37
                    simp (disch := omega) only [wrap_of] at q37
                    have iq37 := inR_iff.1 q37
                    apply loop_stepA (j + 1)
                    · exact .refl _
                    · repeat' (first | exact trivial | refine ⟨⟨_, rfl, by first | rfl | exact inc_eq _ (by omega) | (refine sl_eq ?_; simp; done) | exact inc_eq _ (by have h9 := (rd_len (xs := (x.pieces[k]?.getD default).kids) (by assumption)).2; omega), by first | exact trivial | simp [SV.ok]⟩, ?_⟩)
                    · exact ⟨rfl, rfl, trivial⟩
                    · exact ⟨by omega, kidsOk_step (by omega) hb (by omega)⟩
                    omega
                ·
                  simp at q33
                  apply loop_stepA (k + 1)
                  · exact .refl _
                  · repeat' (first | exact trivial | refine ⟨⟨_, rfl, by first | rfl | exact inc_eq _ (by omega) | (refine sl_eq ?_; simp; done) | exact inc_eq _ (by have h9 := (rd_len (xs := (x.pieces[k]?.getD default).kids) (by assumption)).2; omega), by first | exact trivial | simp [SV.ok]⟩, ?_⟩)
                  · exact ⟨rfl, trivial⟩
                  · (have hje : j = (x.pieces[k]?.getD default).kids.length := (by omega); subst hje; rw [List.take_length] at hb; exact ⟨by omega, allK_step ha (piece_yes (by omega) (by omega) hb)⟩)
                  omega
          ·
            simp at q30
            refine VCsplit.intro (fun q38 => ?_) (fun q38 => ?_)
            ·
              simp at q38
              refine VCsplit.intro (fun q39 => ?_) (fun q39 => ?_)
              ·
                simp at q39
                exact ⟨[], ⟨by rw [pathOk_no (k := k) (by omega) (piece_f fun e => by (have := piece_iff.1 e; omega))], rfl⟩, (.le fun a => by (try simp only [setR, List.cons_append, List.nil_append]); simp [List.count_cons, Blk.ent, idOf]; try omega)⟩
              ·
                simp at q39
                refine VCsplit.intro (fun q40 => ?_) (fun q40 => ?_)
                ·
                  simp at q40
                  exact ⟨[], ⟨by rw [pathOk_no (k := k) (by omega) (piece_f fun e => by (have := piece_iff.1 e; omega))], rfl⟩, (.le fun a => by (try simp only [setR, List.cons_append, List.nil_append]); simp [List.count_cons, Blk.ent, idOf]; try omega)⟩
                ·
                  simp at q40
                  apply loop_mod (α := (Nat)) G_ok [59, 60, 61, 64, 65, 66, 67, 68, 69, 70, 71, 72, 2, 62, 63, 6] (fun z => [(6, .v (.int .i64 z))]) (fun z => [{ id := x0, cs := [Value.slice b0p x.pieces.length c0p], ty := (205 : Nat) }, { id := x4, cs := [Value.int IntKind.i64 (x.pieces[k]?.getD default).op, Value.int IntKind.u8 (↑(x.pieces[k]?.getD default).label.toNat : Int), Value.slice b2x3 (x.pieces[k]?.getD default).kids.length c2x3], ty := (279 : Nat) }]) (fun z => [H]) (fun z => (x.pieces[k]?.getD default).kids.length - z) (fun z => z ≤ (x.pieces[k]?.getD default).kids.length ∧ kidsOk ((x.pieces[k]?.getD default).kids.take z) k = true) (0)
                  · repeat' (first | exact trivial | refine ⟨⟨_, rfl, by first | rfl | exact inc_eq _ (by omega) | (refine sl_eq ?_; simp; done) | exact inc_eq _ (by have h9 := (rd_len (xs := (x.pieces[k]?.getD default).kids) (by assumption)).2; omega), by first | exact trivial | simp [SV.ok]⟩, ?_⟩)
                  · exact ⟨rfl, rfl, trivial⟩
                  · exact ⟨by omega, rfl⟩
                  · exact .refl _
                  rintro j hI
                  obtain ⟨hj, hb⟩ : j ≤ (x.pieces[k]?.getD default).kids.length ∧ kidsOk ((x.pieces[k]?.getD default).kids.take j) k = true := hI
                  try dsimp only
                  refine VCsplit.intro (fun q41 => ?_) (fun q41 => ?_)
                  ·
                    simp at q41
                    refine idx_rd h2x3 ?_ ?_ fun b42 o42 hb42 => ?_
                    · omega
                    · omega
                    refine load_allN 0 (j) rfl h2x3 ?_ ?_ hb42 rfl (mem_at 0 rfl) fun l43 hl43 => ?_
                    · omega
                    · omega
                    obtain ⟨rfl, hw43⟩ := hl43; simp only [flStr, flInt, okI] at hw43
                    refine call_val (l01In_ct _ _ _) trivial ?_
                    rintro _ rfl
                    refine VCsplit.intro (fun q45 => ?_) (fun q45 => ?_)
                    ·
                      simp at q45
                      simp (disch := omega) only [wrap_of] at q45
                      have iq45 := mt inR_iff.2 (Bool.eq_false_iff.1 q45)
                      exact ⟨[], ⟨by rw [pathOk_no (k := k) (by omega) (piece_badkid (k := j) (by omega) (by omega) (by omega))], rfl⟩, (.le fun a => by (try simp only [setR, List.cons_append, List.nil_append]); simp [List.count_cons, Blk.ent, idOf]; try omega)⟩
                    ·
                      simp at q45
                      simp (disch := omega) only [wrap_of] at q45
                      have iq45 := inR_iff.1 q45
                      apply loop_stepA (j + 1)
                      · exact .refl _
                      · repeat' (first | exact trivial | refine ⟨⟨_, rfl, by first | rfl | exact inc_eq _ (by omega) | (refine sl_eq ?_; simp; done) | exact inc_eq _ (by have h9 := (rd_len (xs := (x.pieces[k]?.getD default).kids) (by assumption)).2; omega), by first | exact trivial | simp [SV.ok]⟩, ?_⟩)
                      · exact ⟨rfl, rfl, trivial⟩
                      · exact ⟨by omega, kidsOk_step (by omega) hb (by omega)⟩
                      omega
                  ·
                    simp at q41
                    apply loop_stepA (k + 1)
                    · exact .refl _
                    · repeat' (first | exact trivial | refine ⟨⟨_, rfl, by first | rfl | exact inc_eq _ (by omega) | (refine sl_eq ?_; simp; done) | exact inc_eq _ (by have h9 := (rd_len (xs := (x.pieces[k]?.getD default).kids) (by assumption)).2; omega), by first | exact trivial | simp [SV.ok]⟩, ?_⟩)
                    · exact ⟨rfl, trivial⟩
                    · (have hje : j = (x.pieces[k]?.getD default).kids.length := (by omega); subst hje; rw [List.take_length] at hb; exact ⟨by omega, allK_step ha (piece_yes (by omega) (by omega) hb)⟩)
                    omega
            ·
              simp at q38
              refine VCsplit.intro (fun q46 => ?_) (fun q46 => ?_)
              ·
                simp at q46
                refine VCsplit.intro (fun q47 => ?_) (fun q47 => ?_)
                ·
                  simp at q47
                  exact ⟨[], ⟨by rw [pathOk_no (k := k) (by omega) (piece_f fun e => by (have := piece_iff.1 e; omega))], rfl⟩, (.le fun a => by (try simp only [setR, List.cons_append, List.nil_append]); simp [List.count_cons, Blk.ent, idOf]; try omega)⟩
                ·
                  simp at q47
                  refine VCsplit.intro (fun q48 => ?_) (fun q48 => ?_)
                  ·
                    simp at q48
                    exact ⟨[], ⟨by rw [pathOk_no (k := k) (by omega) (piece_f fun e => by (have := piece_iff.1 e; omega))], rfl⟩, (.le fun a => by (try simp only [setR, List.cons_append, List.nil_append]); simp [List.count_cons, Blk.ent, idOf]; try omega)⟩
                  ·
                    simp at q48
                    apply loop_mod (α := (Nat)) G_ok [59, 60, 61, 64, 65, 66, 67, 68, 69, 70, 71, 72, 2, 62, 63, 6] (fun z => [(6, .v (.int .i64 z))]) (fun z => [{ id := x0, cs := [Value.slice b0p x.pieces.length c0p], ty := (205 : Nat) }, { id := x4, cs := [Value.int IntKind.i64 (x.pieces[k]?.getD default).op, Value.int IntKind.u8 (↑(x.pieces[k]?.getD default).label.toNat : Int), Value.slice b2x3 (x.pieces[k]?.getD default).kids.length c2x3], ty := (279 : Nat) }]) (fun z => [H]) (fun z => (x.pieces[k]?.getD default).kids.length - z) (fun z => z ≤ (x.pieces[k]?.getD default).kids.length ∧ kidsOk ((x.pieces[k]?.getD default).kids.take z) k = true) (0)
                    · repeat' (first | exact trivial | refine ⟨⟨_, rfl, by first | rfl | exact inc_eq _ (by omega) | (refine sl_eq ?_; simp; done) | exact inc_eq _ (by have h9 := (rd_len (xs := (x.pieces[k]?.getD default).kids) (by assumption)).2; omega), by first | exact trivial | simp [SV.ok]⟩, ?_⟩)
                    · exact ⟨rfl, rfl, trivial⟩
                    · exact ⟨by omega, rfl⟩
                    · exact .refl _
                    rintro j hI
                    obtain ⟨hj, hb⟩ : j ≤ (x.pieces[k]?.getD default).kids.length ∧ kidsOk ((x.pieces[k]?.getD default).kids.take j) k = true := hI
                    try dsimp only
                    refine VCsplit.intro (fun q49 => ?_) (fun q49 => ?_)
                    ·
                      simp at q49
                      refine idx_rd h2x3 ?_ ?_ fun b50 o50 hb50 => ?_
                      · omega
                      · omega
                      refine load_allN 0 (j) rfl h2x3 ?_ ?_ hb50 rfl (mem_at 0 rfl) fun l51 hl51 => ?_
                      · omega
                      · omega
                      obtain ⟨rfl, hw51⟩ := hl51; simp only [flStr, flInt, okI] at hw51
                      refine call_val (l01In_ct _ _ _) trivial ?_
                      rintro _ rfl
                      refine VCsplit.intro (fun q53 => ?_) (fun q53 => ?_)
                      ·
                        simp at q53
                        simp (disch := omega) only [wrap_of] at q53
                        have iq53 := mt inR_iff.2 (Bool.eq_false_iff.1 q53)
                        exact ⟨[], ⟨by rw [pathOk_no (k := k) (by omega) (piece_badkid (k := j) (by omega) (by omega) (by omega))], rfl⟩, (.le fun a => by (try simp only [setR, List.cons_append, List.nil_append]); simp [List.count_cons, Blk.ent, idOf]; try omega)⟩
                      ·
                        simp at q53
                        simp (disch := omega) only [wrap_of] at q53
                        have iq53 := inR_iff.1 q53
                        apply loop_stepA (j + 1)
                        · exact .refl _
                        · repeat' (first | exact trivial | refine ⟨⟨_, rfl, by first | rfl | exact inc_eq _ (by omega) | (refine sl_eq ?_; simp; done) | exact inc_eq _ (by have h9 := (rd_len (xs := (x.pieces[k]?.getD default).kids) (by assumption)).2; omega), by first | exact trivial | simp [SV.ok]⟩, ?_⟩)
                        · exact ⟨rfl, rfl, trivial⟩
                        · exact ⟨by omega, kidsOk_step (by omega) hb (by omega)⟩
                        omega
                    ·
                      simp at q49
                      apply loop_stepA (k + 1)
                      · exact .refl _
                      · repeat' (first | exact trivial | refine ⟨⟨_, rfl, by first | rfl | exact inc_eq _ (by omega) | (refine sl_eq ?_; simp; done) | exact inc_eq _ (by have h9 := (rd_len (xs := (x.pieces[k]?.getD default).kids) (by assumption)).2; omega), by first | exact trivial | simp [SV.ok]⟩, ?_⟩)
                      · exact ⟨rfl, trivial⟩
                      · (have hje : j = (x.pieces[k]?.getD default).kids.length := (by omega); subst hje; rw [List.take_length] at hb; exact ⟨by omega, allK_step ha (piece_yes (by omega) (by omega) hb)⟩)
                      omega
              ·
                simp at q46
                exact ⟨[], ⟨by rw [pathOk_no (k := k) (by omega) (piece_f fun e => by (have := piece_iff.1 e; omega))], rfl⟩, (.le fun a => by (try simp only [setR, List.cons_append, List.nil_append]); simp [List.count_cons, Blk.ent, idOf]; try omega)⟩
  ·
    simp at q1
    refine call_val (l01In_ct _ _ _) trivial ?_
    rintro _ rfl
    (have hke : k = x.pieces.length := (by omega); subst hke; exact ⟨[], ⟨by rw [pathOk_end ha], rfl⟩, (.le fun a => by (try simp only [setR, List.cons_append, List.nil_append]); simp [List.count_cons, Blk.ent, idOf]; try omega)⟩)
end Go.Proofs.YtcnclhjhnjpeiaaGreatDoor
