/-
  The laws' helpers over their types: sizes, copies, likeness (printed by gent.py). Ranges. Checksums and numbers as bytes, on both sides. Checksums and numbers as bytes, records in frames, on both sides. The order of rows, labels. Rows compared, valid bags, on both sides. Names, lists of names, on both sides. Numbers of variable length read, frames written and read, on both sides. Path expressions read: what both sides compute. Plain. Valid paths, on both sides. Conditions: none.
-/
import Derived.Test.YtjgehblllhkdbaaGreatZp2

namespace Go.Proofs.YtjgehblllhkdbaaGreat
open Go.SX Go.Proofs
set_option maxHeartbeats 4000000
set_option linter.unusedSimpArgs false
set_option linter.unusedVariables false
--@ct laws.szIntS raw refine call_q (szIntS_ct _ _ _ $1 _ ?_ ?_) %1 ?_ | | rintro _ ⟨r#, rfl, hr#⟩
theorem szIntS_ct (b : Option Addr) (m c : Nat) (xs : List Int) (left : Int) (h0 : 0 ≤ left) (h1 : left ≤ 1048576) :
    Ct Tryz.prog 59 [.slice b m c, .int .i64 left] [] (fun H => (gSl 3 gI).rd H [.slice b m c] xs) (fun v A => (∃ r : Int, v = .int .i64 r ∧ ((r = -1 ∧ left < (szL gI xs : Int)) ∨ (r = left - (szL gI xs : Int) ∧ (szL gI xs : Int) ≤ left))) ∧ A = []) := by
  refine Ct.intro0 G_ok Tryz.func59 rfl rfl rfl fun E H hp => ?_
  obtain ⟨rfl, hcl, hl⟩ := sl_len hp
  have hq := szL_eq gI xs
  have hz := szE_zero gI (fun _ => rfl) xs
  refine VCsplit.intro (fun q0 => ?_) (fun q0 => ?_)
  ·
    simp at q0
    simp (disch := omega) only [wrap_of] at q0
    exact ⟨[], ⟨⟨-1, rfl, .inl ⟨rfl, by (try simp (disch := omega) only [wrap_of] at *); omega⟩⟩, rfl⟩, (.le fun a => by (try simp only [setR, List.cons_append, List.nil_append]); simp only [List.flatten_append, List.flatten_cons, List.flatten_nil, List.count_append, List.count_nil, List.append_nil, List.nil_append]; omega)⟩
  ·
    simp at q0
    simp (disch := omega) only [wrap_of] at q0
    exact ⟨[], ⟨⟨_, rfl, .inr ⟨by (try simp (disch := omega) only [wrap_of] at *); omega, by omega⟩⟩, rfl⟩, (.le fun a => by (try simp only [setR, List.cons_append, List.nil_append]); simp only [List.flatten_append, List.flatten_cons, List.flatten_nil, List.count_append, List.count_nil, List.append_nil, List.nil_append]; omega)⟩
--@ct laws.toIntS new toIntS_ct _ _ _ $1 ?_ | %1 | obtain ⟨b#, c#, rfl, o#⟩ := o#
theorem toIntS_ct (b : Option Addr) (m c : Nat) (xs : List Int) (hx : szL gI xs ≤ 1048576) :
    Ct Tryz.prog 13 [.slice b m c] [] (fun H => (gSl 3 gI).rd H [.slice b m c] xs) (fun v A => ∃ b c, v = .slice b xs.length c ∧ (gSl 3 gI).ow [.slice b xs.length c] xs A) := by
  refine Ct.intro0 G_ok Tryz.func13 rfl rfl rfl fun E H hp => ?_
  obtain ⟨rfl, hcl, hl⟩ := sl_len hp
  have hls := len_szL gI xs
  refine VCmake.intro ?_ ?_ ?_ ?_ fun x0 => ?_
  · omega
  · omega
  · omega
  · omega
  apply loop_mod (α := (Nat) × (Hp)) G_ok [8, 9, 10, 11, 14, 15, 16, 17, 18, 19, 20, 12, 13, 4] (fun z => [(4, .v (.int .i64 z.1))]) (fun z => []) (fun z => [z.2, H]) (fun z => xs.length - z.1) (fun z => z.1 ≤ xs.length ∧ (gSl 3 gI).ow [.slice (some ⟨x0, 0, none⟩) xs.length xs.length] (xs.take z.1 ++ List.replicate (xs.length - z.1) 0) z.2) ((0, _))
  · repeat' (first | exact trivial | refine ⟨⟨_, rfl, by first | rfl | exact inc_eq _ (by omega) | (refine sl_eq ?_; simp; done), by first | exact trivial | simp [SV.ok]⟩, ?_⟩)
  · exact trivial
  · try dsimp only
    exact ⟨by omega, by simpa using gmake (g := gI) (T := 3) (b := x0) (gI_ow (by unfold okI; decide)) (Nat.le_refl xs.length) (by omega)⟩
  · exact .refl _
  rintro ⟨k, A⟩ hI
  obtain ⟨hk, oA⟩ : k ≤ xs.length ∧ (gSl 3 gI).ow [.slice (some ⟨x0, 0, none⟩) xs.length xs.length] (xs.take k ++ List.replicate (xs.length - k) 0) A := hI
  try dsimp only
  refine VCsplit.intro (fun q1 => ?_) (fun q1 => ?_)
  ·
    simp at q1
    refine idx_rd hp ?_ ?_ fun b2 o2 hb2 => ?_
    · omega
    · omega
    refine load_allN 0 (k) rfl hp ?_ ?_ hb2 rfl (mem_at 1 rfl) fun l3 hl3 => ?_
    · omega
    · omega
    obtain ⟨rfl, hw3⟩ := hl3; simp only [flStr, flInt, okI] at hw3
    refine idx_rd (Gt.owrd _ oA) ?_ ?_ fun b4 o4 hb4 => ?_
    · omega
    · simp; omega
    refine gstoreN (Fld.id _) 0 (k) 0 rfl rfl oA ?_ ?_ hb4 rfl gI_pl _ (gI_ow ?_) fun A5 o5 => ?_
    · omega
    · simp; omega
    · trivial
    apply loop_stepA (k + 1, _)
    · exact .refl _
    · repeat' (first | exact trivial | refine ⟨⟨_, rfl, by first | rfl | exact inc_eq _ (by omega) | (refine sl_eq ?_; simp; done), by first | exact trivial | simp [SV.ok]⟩, ?_⟩)
    · exact trivial
    · try dsimp only
      exact ⟨by omega, by rw [← take_step xs k 0 (by omega)] ; assumption⟩
    · try dsimp only
      omega
  ·
    simp at q1
    obtain rfl : k = xs.length := by omega
    rw [List.take_length, Nat.sub_self, List.replicate_zero, List.append_nil] at oA
    exact ⟨_, ⟨_, _, rfl, oA⟩, (.le fun a => by (try simp only [setR, List.cons_append, List.nil_append]); simp only [List.flatten_append, List.flatten_cons, List.flatten_nil, List.count_append, List.count_nil, List.append_nil, List.nil_append]; omega)⟩
--@ct laws.eqIntS val eqIntS_ct _ _ _ _ _ _ $1 $2 | ⟨%1, %2⟩
theorem eqIntS_ct (b1 : Option Addr) (m1 c1 : Nat) (b2 : Option Addr) (m2 c2 : Nat) (xs ys : List Int) :
    Ct Tryz.prog 18 [.slice b1 m1 c1, .slice b2 m2 c2] [] (fun H => (gSl 3 gI).rd H [.slice b1 m1 c1] xs ∧ (gSl 3 gI).rd H [.slice b2 m2 c2] ys) (fun v A => v = .bool (decide (xs = ys)) ∧ A = []) := by
  refine Ct.intro0 G_ok Tryz.func18 rfl rfl rfl fun E H hp => ?_
  obtain ⟨hp1, hp2⟩ := hp
  obtain ⟨rfl, hc1, hl1⟩ := sl_len hp1
  obtain ⟨rfl, hc2, hl2⟩ := sl_len hp2
  refine VCsplit.intro (fun q0 => ?_) (fun q0 => ?_)
  ·
    simp at q0
    exact ⟨[], ⟨by rw [decide_eq_false (fun e => by subst e; omega)], rfl⟩, (.le fun a => by (try simp only [setR, List.cons_append, List.nil_append]); simp only [List.flatten_append, List.flatten_cons, List.flatten_nil, List.count_append, List.count_nil, List.append_nil, List.nil_append]; omega)⟩
  ·
    simp at q0
    apply loop_mod (α := (Nat)) G_ok [11, 12, 13, 14, 17, 18, 19, 20, 21, 22, 23, 24, 25, 4, 15, 16, 5] (fun z => [(5, .v (.int .i64 z))]) (fun z => []) (fun z => [H]) (fun z => xs.length - z) (fun z => z ≤ xs.length ∧ xs.take z = ys.take z) (0)
    · repeat' (first | exact trivial | refine ⟨⟨_, rfl, by first | rfl | exact inc_eq _ (by omega) | (refine sl_eq ?_; simp; done), by first | exact trivial | simp [SV.ok]⟩, ?_⟩)
    · exact trivial
    · exact ⟨by omega, by simp⟩
    · exact .refl _
    rintro k hI
    obtain ⟨hk, he⟩ : k ≤ xs.length ∧ xs.take k = ys.take k := hI
    try dsimp only
    refine VCsplit.intro (fun q1 => ?_) (fun q1 => ?_)
    ·
      simp at q1
      refine draw G_ok mixed none (.q 0 (.q 1 (.q 2 (.q 3 (.q 4 (.q 5 (.q 6 (.q 7 (.q 8 (.nil)))))))))) (by decide +kernel) ?_
      refine idx_rd hp1 ?_ ?_ fun b2 o2 hb2 => ?_
      · omega
      · omega
      refine load_allN 0 (k) rfl hp1 ?_ ?_ hb2 rfl (mem_at 0 rfl) fun l3 hl3 => ?_
      · omega
      · omega
      obtain ⟨rfl, hw3⟩ := hl3; simp only [flStr, flInt, okI] at hw3
      refine idx_rd hp2 ?_ ?_ fun b4 o4 hb4 => ?_
      · omega
      · omega
      refine load_allN 0 (k) rfl hp2 ?_ ?_ hb4 rfl (mem_at 0 rfl) fun l5 hl5 => ?_
      · omega
      · omega
      obtain ⟨rfl, hw5⟩ := hl5; simp only [flStr, flInt, okI] at hw5
      refine VCsplit.intro (fun q6 => ?_) (fun q6 => ?_)
      ·
        simp at q6
        exact ⟨[], ⟨by rw [decide_eq_false (fun e => by subst e; omega)], rfl⟩, (.le fun a => by (try simp only [setR, List.cons_append, List.nil_append]); simp only [List.flatten_append, List.flatten_cons, List.flatten_nil, List.count_append, List.count_nil, List.append_nil, List.nil_append]; omega)⟩
      ·
        simp at q6
        apply loop_stepA (k + 1)
        · exact .refl _
        · repeat' (first | exact trivial | refine ⟨⟨_, rfl, by first | rfl | exact inc_eq _ (by omega) | (refine sl_eq ?_; simp; done), by first | exact trivial | simp [SV.ok]⟩, ?_⟩)
        · exact trivial
        · exact ⟨by omega, eq_step 0 (by omega) he (by omega) (by simpa using ‹_›)⟩
        · omega
    ·
      simp at q1
      exact ⟨[], ⟨by rw [decide_eq_true]; rw [← List.take_length (l := xs), ← List.take_length (l := ys), ← (by omega : xs.length = ys.length), show xs.length = k by omega]; exact he, rfl⟩, (.le fun a => by (try simp only [setR, List.cons_append, List.nil_append]); simp only [List.flatten_append, List.flatten_cons, List.flatten_nil, List.count_append, List.count_nil, List.append_nil, List.nil_append]; omega)⟩
--@ct laws.szStringS raw refine call_q (szStringS_ct _ _ _ $1 _ ?_ ?_) %1 ?_ | | rintro _ ⟨r#, rfl, hr#⟩
theorem szStringS_ct (b : Option Addr) (m c : Nat) (xs : List ByteArray) (left : Int) (h0 : 0 ≤ left) (h1 : left ≤ 1048576) :
    Ct Tryz.prog 56 [.slice b m c, .int .i64 left] [] (fun H => (gSl 9 gS).rd H [.slice b m c] xs) (fun v A => (∃ r : Int, v = .int .i64 r ∧ ((r = -1 ∧ left < (szL gS xs : Int)) ∨ (r = left - (szL gS xs : Int) ∧ (szL gS xs : Int) ≤ left))) ∧ A = []) := by
  refine Ct.intro0 G_ok Tryz.func56 rfl rfl rfl fun E H hp => ?_
  obtain ⟨rfl, hcl, hl⟩ := sl_len hp
  have hq := szL_eq gS xs
  have ht := List.take_length (l := xs)
  refine VCsplit.intro (fun q0 => ?_) (fun q0 => ?_)
  ·
    simp at q0
    simp (disch := omega) only [wrap_of] at q0
    exact ⟨[], ⟨⟨-1, rfl, .inl ⟨rfl, by (try simp (disch := omega) only [wrap_of] at *); omega⟩⟩, rfl⟩, (.le fun a => by (try simp only [setR, List.cons_append, List.nil_append]); simp only [List.flatten_append, List.flatten_cons, List.flatten_nil, List.count_append, List.count_nil, List.append_nil, List.nil_append]; omega)⟩
  ·
    simp at q0
    simp (disch := omega) only [wrap_of] at q0
    apply loop_mod (α := (Nat) × (Int)) G_ok [12, 13, 14, 15, 18, 19, 20, 21, 22, 23, 24, 1, 25, 26, 4, 16, 17, 5] (fun z => [(5, .v (.int .i64 z.1)), (1, .v (.int .i64 z.2))]) (fun z => []) (fun z => [H]) (fun z => xs.length - z.1) (fun z => z.1 ≤ xs.length ∧ z.2 = left - xs.length - szE gS (xs.take z.1) ∧ 0 ≤ z.2) ((0, left - xs.length))
    · repeat' (first | exact trivial | refine ⟨⟨_, rfl, by first | rfl | exact inc_eq _ (by omega) | (refine sl_eq ?_; simp; done) | (simp (disch := omega) only [wrap_of]), by first | exact trivial | simp [SV.ok]⟩, ?_⟩)
    · exact trivial
    · try dsimp only
      exact ⟨by omega, by simp [szE], by omega⟩
    · exact .refl _
    rintro ⟨k, lf⟩ hI
    obtain ⟨hk, hlf, hnn⟩ : k ≤ xs.length ∧ lf = left - xs.length - szE gS (xs.take k) ∧ 0 ≤ lf := hI
    try dsimp only
    refine VCsplit.intro (fun q1 => ?_) (fun q1 => ?_)
    ·
      simp at q1
      have hs := szE_step gS xs k ByteArray.empty (by omega)
      have hs2 := szE_le gS xs (k + 1)
      refine idx_rd hp ?_ ?_ fun b2 o2 hb2 => ?_
      · omega
      · omega
      refine load_allN ByteArray.empty (k) rfl hp ?_ ?_ hb2 rfl (mem_at 0 rfl) fun l3 hl3 => ?_
      · omega
      · omega
      have hss : gS.sz (xs[k]?.getD ByteArray.empty) = (xs[k]?.getD ByteArray.empty).size := rfl
      obtain ⟨rfl, hw3⟩ := hl3; simp only [flStr, flInt, okI] at hw3
      refine VCsplit.intro (fun q4 => ?_) (fun q4 => ?_)
      ·
        simp at q4
        simp (disch := omega) only [wrap_of] at q4
        exact ⟨[], ⟨⟨-1, rfl, .inl ⟨rfl, by (try simp (disch := omega) only [wrap_of] at *); omega⟩⟩, rfl⟩, (.le fun a => by (try simp only [setR, List.cons_append, List.nil_append]); simp only [List.flatten_append, List.flatten_cons, List.flatten_nil, List.count_append, List.count_nil, List.append_nil, List.nil_append]; omega)⟩
      ·
        simp at q4
        simp (disch := omega) only [wrap_of] at q4
        apply loop_stepA (k + 1, lf - ((xs[k]?.getD ByteArray.empty).size : Int))
        · exact .refl _
        · repeat' (first | exact trivial | refine ⟨⟨_, rfl, by first | rfl | exact inc_eq _ (by omega) | (refine sl_eq ?_; simp; done) | (simp (disch := omega) only [wrap_of]), by first | exact trivial | simp [SV.ok]⟩, ?_⟩)
        · exact trivial
        · try dsimp only
          ((try simp (disch := omega) only [wrap_of] at *); refine ⟨by omega, by omega, by omega⟩)
        · try dsimp only
          omega
    ·
      simp at q1
      obtain rfl : k = xs.length := by omega
      rw [List.take_length] at hlf
      exact ⟨[], ⟨⟨_, rfl, .inr ⟨by (try simp (disch := omega) only [wrap_of] at *); omega, by omega⟩⟩, rfl⟩, (.le fun a => by (try simp only [setR, List.cons_append, List.nil_append]); simp only [List.flatten_append, List.flatten_cons, List.flatten_nil, List.count_append, List.count_nil, List.append_nil, List.nil_append]; omega)⟩
--@ct laws.toStringS new toStringS_ct _ _ _ $1 ?_ | %1 | obtain ⟨b#, c#, rfl, o#⟩ := o#
theorem toStringS_ct (b : Option Addr) (m c : Nat) (xs : List ByteArray) (hx : szL gS xs ≤ 1048576) :
    Ct Tryz.prog 69 [.slice b m c] [] (fun H => (gSl 9 gS).rd H [.slice b m c] xs) (fun v A => ∃ b c, v = .slice b xs.length c ∧ (gSl 9 gS).ow [.slice b xs.length c] xs A) := by
  refine Ct.intro0 G_ok Tryz.func69 rfl rfl rfl fun E H hp => ?_
  obtain ⟨rfl, hcl, hl⟩ := sl_len hp
  have hls := len_szL gS xs
  refine VCmake.intro ?_ ?_ ?_ ?_ fun x0 => ?_
  · omega
  · omega
  · omega
  · omega
  apply loop_mod (α := (Nat) × (Hp)) G_ok [8, 9, 10, 11, 14, 15, 16, 17, 18, 19, 20, 12, 13, 4] (fun z => [(4, .v (.int .i64 z.1))]) (fun z => []) (fun z => [z.2, H]) (fun z => xs.length - z.1) (fun z => z.1 ≤ xs.length ∧ (gSl 9 gS).ow [.slice (some ⟨x0, 0, none⟩) xs.length xs.length] (xs.take z.1 ++ List.replicate (xs.length - z.1) ByteArray.empty) z.2) ((0, _))
  · repeat' (first | exact trivial | refine ⟨⟨_, rfl, by first | rfl | exact inc_eq _ (by omega) | (refine sl_eq ?_; simp; done), by first | exact trivial | simp [SV.ok]⟩, ?_⟩)
  · exact trivial
  · try dsimp only
    exact ⟨by omega, by simpa using gmake (g := gS) (T := 9) (b := x0) (gS_ow (by decide)) (Nat.le_refl xs.length) (by omega)⟩
  · exact .refl _
  rintro ⟨k, A⟩ hI
  obtain ⟨hk, oA⟩ : k ≤ xs.length ∧ (gSl 9 gS).ow [.slice (some ⟨x0, 0, none⟩) xs.length xs.length] (xs.take k ++ List.replicate (xs.length - k) ByteArray.empty) A := hI
  try dsimp only
  refine VCsplit.intro (fun q1 => ?_) (fun q1 => ?_)
  ·
    simp at q1
    refine idx_rd hp ?_ ?_ fun b2 o2 hb2 => ?_
    · omega
    · omega
    refine load_allN ByteArray.empty (k) rfl hp ?_ ?_ hb2 rfl (mem_at 1 rfl) fun l3 hl3 => ?_
    · omega
    · omega
    obtain ⟨rfl, hw3⟩ := hl3; simp only [flStr, flInt, okI] at hw3
    refine idx_rd (Gt.owrd _ oA) ?_ ?_ fun b4 o4 hb4 => ?_
    · omega
    · simp; omega
    refine gstoreN (Fld.id _) ByteArray.empty (k) 0 rfl rfl oA ?_ ?_ hb4 rfl fl_pl _ (gS_ow ?_) fun A5 o5 => ?_
    · omega
    · simp; omega
    · trivial
    apply loop_stepA (k + 1, _)
    · exact .refl _
    · repeat' (first | exact trivial | refine ⟨⟨_, rfl, by first | rfl | exact inc_eq _ (by omega) | (refine sl_eq ?_; simp; done), by first | exact trivial | simp [SV.ok]⟩, ?_⟩)
    · exact trivial
    · try dsimp only
      exact ⟨by omega, by rw [← take_step xs k ByteArray.empty (by omega)] ; assumption⟩
    · try dsimp only
      omega
  ·
    simp at q1
    obtain rfl : k = xs.length := by omega
    rw [List.take_length, Nat.sub_self, List.replicate_zero, List.append_nil] at oA
    exact ⟨_, ⟨_, _, rfl, oA⟩, (.le fun a => by (try simp only [setR, List.cons_append, List.nil_append]); simp only [List.flatten_append, List.flatten_cons, List.flatten_nil, List.count_append, List.count_nil, List.append_nil, List.nil_append]; omega)⟩
--@ct laws.eqStringS val eqStringS_ct _ _ _ _ _ _ $1 $2 | ⟨%1, %2⟩
theorem eqStringS_ct (b1 : Option Addr) (m1 c1 : Nat) (b2 : Option Addr) (m2 c2 : Nat) (xs ys : List ByteArray) :
    Ct Tryz.prog 82 [.slice b1 m1 c1, .slice b2 m2 c2] [] (fun H => (gSl 9 gS).rd H [.slice b1 m1 c1] xs ∧ (gSl 9 gS).rd H [.slice b2 m2 c2] ys) (fun v A => v = .bool (decide (xs = ys)) ∧ A = []) := by
  refine Ct.intro0 G_ok Tryz.func82 rfl rfl rfl fun E H hp => ?_
  obtain ⟨hp1, hp2⟩ := hp
  obtain ⟨rfl, hc1, hl1⟩ := sl_len hp1
  obtain ⟨rfl, hc2, hl2⟩ := sl_len hp2
  refine VCsplit.intro (fun q0 => ?_) (fun q0 => ?_)
  ·
    simp at q0
    exact ⟨[], ⟨by rw [decide_eq_false (fun e => by subst e; omega)], rfl⟩, (.le fun a => by (try simp only [setR, List.cons_append, List.nil_append]); simp only [List.flatten_append, List.flatten_cons, List.flatten_nil, List.count_append, List.count_nil, List.append_nil, List.nil_append]; omega)⟩
  ·
    simp at q0
    apply loop_mod (α := (Nat)) G_ok [11, 12, 13, 14, 17, 18, 19, 20, 21, 22, 23, 24, 25, 4, 15, 16, 5] (fun z => [(5, .v (.int .i64 z))]) (fun z => []) (fun z => [H]) (fun z => xs.length - z) (fun z => z ≤ xs.length ∧ xs.take z = ys.take z) (0)
    · repeat' (first | exact trivial | refine ⟨⟨_, rfl, by first | rfl | exact inc_eq _ (by omega) | (refine sl_eq ?_; simp; done), by first | exact trivial | simp [SV.ok]⟩, ?_⟩)
    · exact trivial
    · exact ⟨by omega, by simp⟩
    · exact .refl _
    rintro k hI
    obtain ⟨hk, he⟩ : k ≤ xs.length ∧ xs.take k = ys.take k := hI
    try dsimp only
    refine VCsplit.intro (fun q1 => ?_) (fun q1 => ?_)
    ·
      simp at q1
      refine draw G_ok mixed none (.q 0 (.q 1 (.q 2 (.q 3 (.q 4 (.q 5 (.q 6 (.q 7 (.q 8 (.nil)))))))))) (by decide +kernel) ?_
      refine idx_rd hp1 ?_ ?_ fun b2 o2 hb2 => ?_
      · omega
      · omega
      refine load_allN ByteArray.empty (k) rfl hp1 ?_ ?_ hb2 rfl (mem_at 0 rfl) fun l3 hl3 => ?_
      · omega
      · omega
      obtain ⟨rfl, hw3⟩ := hl3; simp only [flStr, flInt, okI] at hw3
      refine idx_rd hp2 ?_ ?_ fun b4 o4 hb4 => ?_
      · omega
      · omega
      refine load_allN ByteArray.empty (k) rfl hp2 ?_ ?_ hb4 rfl (mem_at 0 rfl) fun l5 hl5 => ?_
      · omega
      · omega
      obtain ⟨rfl, hw5⟩ := hl5; simp only [flStr, flInt, okI] at hw5
      refine VCsplit.intro (fun q6 => ?_) (fun q6 => ?_)
      ·
        simp at q6
        simp only [str_inj, u8_inj, u8_wrap] at q6
        exact ⟨[], ⟨by rw [decide_eq_false (fun e => by subst e; simp at *)], rfl⟩, (.le fun a => by (try simp only [setR, List.cons_append, List.nil_append]); simp only [List.flatten_append, List.flatten_cons, List.flatten_nil, List.count_append, List.count_nil, List.append_nil, List.nil_append]; omega)⟩
      ·
        simp at q6
        simp only [str_inj, u8_inj, u8_wrap] at q6
        apply loop_stepA (k + 1)
        · exact .refl _
        · repeat' (first | exact trivial | refine ⟨⟨_, rfl, by first | rfl | exact inc_eq _ (by omega) | (refine sl_eq ?_; simp; done), by first | exact trivial | simp [SV.ok]⟩, ?_⟩)
        · exact trivial
        · exact ⟨by omega, eq_step ByteArray.empty (by omega) he (by omega) (by simpa using ‹_›)⟩
        · omega
    ·
      simp at q1
      exact ⟨[], ⟨by rw [decide_eq_true]; rw [← List.take_length (l := xs), ← List.take_length (l := ys), ← (by omega : xs.length = ys.length), show xs.length = k by omega]; exact he, rfl⟩, (.le fun a => by (try simp only [setR, List.cons_append, List.nil_append]); simp only [List.flatten_append, List.flatten_cons, List.flatten_nil, List.count_append, List.count_nil, List.append_nil, List.nil_append]; omega)⟩
--@ct laws.szItem raw refine call_q (szItem_ct _ $1 _ ?_ ?_) %1 ?_ | | rintro _ ⟨r#, rfl, hr#⟩
theorem szItem_ct (l : List Value) (x : Item) (left : Int) (h0 : 0 ≤ left) (h1 : left ≤ 1048576) :
    Ct Tryz.prog 345 [.agg ⟨l⟩, .int .i64 left] [] (fun H => gItem.rd H l x) (fun v A => (∃ r : Int, v = .int .i64 r ∧ ((r = -1 ∧ left < (gItem.sz x : Int)) ∨ (r = left - (gItem.sz x : Int) ∧ (gItem.sz x : Int) ≤ left))) ∧ A = []) := by
  refine Ct.intro0 G_ok Tryz.func345 rfl rfl rfl fun E H hp => ?_
  obtain ⟨b0, c0, rfl, h0, w1⟩ := gItem_rd.1 hp
  have hz := gItem_sz x
  refine VCnew.intro fun x0 => ?_
  refine call_q (szIntS_ct _ _ _ (x.row) _ ?_ ?_) (Rp.mono _ (mem_at 0 rfl) h0) ?_
  · trivial
  · trivial
  rintro _ ⟨r1, rfl, hr1⟩
  refine VCsplit.intro (fun q2 => ?_) (fun q2 => ?_)
  ·
    simp at q2
    exact ⟨[], ⟨⟨-1, rfl, .inl ⟨rfl, by (try simp (disch := omega) only [wrap_of] at *); omega⟩⟩, rfl⟩, (.le fun a => by (try simp only [setR, List.cons_append, List.nil_append]); simp only [List.flatten_append, List.flatten_cons, List.flatten_nil, List.count_append, List.count_nil, List.append_nil, List.nil_append]; omega)⟩
  ·
    simp at q2
    exact ⟨[], ⟨⟨_, rfl, .inr ⟨by (try simp (disch := omega) only [wrap_of] at *); omega, by omega⟩⟩, rfl⟩, (.le fun a => by (try simp only [setR, List.cons_append, List.nil_append]); simp only [List.flatten_append, List.flatten_cons, List.flatten_nil, List.count_append, List.count_nil, List.append_nil, List.nil_append]; omega)⟩
--@ct laws.toItem new toItem_ct _ $1 ?_ | %1 | obtain ⟨l#, rfl, o#⟩ := o# ;; have r# := Gt.owrd _ o# ;; obtain ⟨b0x#, c0x#, rfl, h0x#, w1x#⟩ := gItem_rd.1 r#
theorem toItem_ct (l : List Value) (x : Item) (hx : gItem.sz x ≤ 1048576) :
    Ct Tryz.prog 352 [.agg ⟨l⟩] [] (fun H => gItem.rd H l x) (fun v A => ∃ l, v = .agg ⟨l⟩ ∧ gItem.ow l x A) := by
  refine Ct.intro0 G_ok Tryz.func352 rfl rfl rfl fun E H hp => ?_
  obtain ⟨b0, c0, rfl, h0, w1⟩ := gItem_rd.1 hp
  have hz := gItem_sz x
  refine VCnew.intro fun x0 => ?_
  refine VCnew.intro fun x1 => ?_
  refine VCnew.intro fun x2 => ?_
  refine call_new (toIntS_ct _ _ _ (x.row) ?_) (Rp.mono _ (mem_at 0 rfl) h0) ?_
  · trivial
  rintro v3 A3 o3
  obtain ⟨b3, c3, rfl, o3⟩ := o3
  exact ⟨_, ⟨_, rfl, gItem_ow.2 ⟨_, _, _, rfl, .refl _, by assumption, by assumption⟩⟩, (.le fun a => by (try simp only [setR, List.cons_append, List.nil_append]); simp only [List.flatten_append, List.flatten_cons, List.flatten_nil, List.count_append, List.count_nil, List.append_nil, List.nil_append]; omega)⟩
--@ct laws.eqItem val eqItem_ct _ _ $1 $2 | ⟨%1, %2⟩
theorem eqItem_ct (l1 l2 : List Value) (x y : Item) :
    Ct Tryz.prog 170 [.agg ⟨l1⟩, .agg ⟨l2⟩] [] (fun H => gItem.rd H l1 x ∧ gItem.rd H l2 y) (fun v A => v = .bool (decide (x = y)) ∧ A = []) := by
  refine Ct.intro0 G_ok Tryz.func170 rfl rfl rfl fun E H hp => ?_
  obtain ⟨hp1, hp2⟩ := hp
  obtain ⟨b0p, c0p, rfl, h0p, w1p⟩ := gItem_rd.1 hp1
  obtain ⟨b0q, c0q, rfl, h0q, w1q⟩ := gItem_rd.1 hp2
  refine VCnew.intro fun x0 => ?_
  refine VCnew.intro fun x1 => ?_
  refine call_val (eqIntS_ct _ _ _ _ _ _ (x.row) (y.row)) ⟨(Rp.mono _ (mem_at 0 rfl) h0p), (Rp.mono _ (mem_at 0 rfl) h0q)⟩ ?_
  rintro _ rfl
  refine VCsplit.intro (fun q3 => ?_) (fun q3 => ?_)
  ·
    simp at q3
    exact ⟨[], ⟨by rw [decide_eq_false (fun e => by subst e; simp at *)], rfl⟩, (.le fun a => by (try simp only [setR, List.cons_append, List.nil_append]); simp only [List.flatten_append, List.flatten_cons, List.flatten_nil, List.count_append, List.count_nil, List.append_nil, List.nil_append]; omega)⟩
  ·
    simp at q3
    refine VCsplit.intro (fun q4 => ?_) (fun q4 => ?_)
    ·
      simp at q4
      exact ⟨[], ⟨by rw [decide_eq_false (fun e => by subst e; simp at *)], rfl⟩, (.le fun a => by (try simp only [setR, List.cons_append, List.nil_append]); simp only [List.flatten_append, List.flatten_cons, List.flatten_nil, List.count_append, List.count_nil, List.append_nil, List.nil_append]; omega)⟩
    ·
      simp at q4
      exact ⟨[], ⟨by rw [decide_eq_true (Item.eq_iff.2 (by simp_all))], rfl⟩, (.le fun a => by (try simp only [setR, List.cons_append, List.nil_append]); simp only [List.flatten_append, List.flatten_cons, List.flatten_nil, List.count_append, List.count_nil, List.append_nil, List.nil_append]; omega)⟩
--@ct laws.szItemS raw refine call_q (szItemS_ct _ _ _ $1 _ ?_ ?_) %1 ?_ | | rintro _ ⟨r#, rfl, hr#⟩
theorem szItemS_ct (b : Option Addr) (m c : Nat) (xs : List Item) (left : Int) (h0 : 0 ≤ left) (h1 : left ≤ 1048576) :
    Ct Tryz.prog 268 [.slice b m c, .int .i64 left] [] (fun H => (gSl 218 gItem).rd H [.slice b m c] xs) (fun v A => (∃ r : Int, v = .int .i64 r ∧ ((r = -1 ∧ left < (szL gItem xs : Int)) ∨ (r = left - (szL gItem xs : Int) ∧ (szL gItem xs : Int) ≤ left))) ∧ A = []) := by
  refine Ct.intro0 G_ok Tryz.func268 rfl rfl rfl fun E H hp => ?_
  obtain ⟨rfl, hcl, hl⟩ := sl_len hp
  have hq := szL_eq gItem xs
  have ht := List.take_length (l := xs)
  refine VCsplit.intro (fun q0 => ?_) (fun q0 => ?_)
  ·
    simp at q0
    simp (disch := omega) only [wrap_of] at q0
    exact ⟨[], ⟨⟨-1, rfl, .inl ⟨rfl, by (try simp (disch := omega) only [wrap_of] at *); omega⟩⟩, rfl⟩, (.le fun a => by (try simp only [setR, List.cons_append, List.nil_append]); simp only [List.flatten_append, List.flatten_cons, List.flatten_nil, List.count_append, List.count_nil, List.append_nil, List.nil_append]; omega)⟩
  ·
    simp at q0
    simp (disch := omega) only [wrap_of] at q0
    apply loop_mod (α := (Nat) × (Int)) G_ok [12, 13, 14, 15, 18, 19, 20, 21, 22, 23, 1, 24, 25, 4, 16, 17, 5] (fun z => [(5, .v (.int .i64 z.1)), (1, .v (.int .i64 z.2))]) (fun z => []) (fun z => [H]) (fun z => xs.length - z.1) (fun z => z.1 ≤ xs.length ∧ z.2 = left - xs.length - szE gItem (xs.take z.1) ∧ 0 ≤ z.2) ((0, left - xs.length))
    · repeat' (first | exact trivial | refine ⟨⟨_, rfl, by first | rfl | exact inc_eq _ (by omega) | (refine sl_eq ?_; simp; done) | (simp (disch := omega) only [wrap_of]), by first | exact trivial | simp [SV.ok]⟩, ?_⟩)
    · exact trivial
    · try dsimp only
      exact ⟨by omega, by simp [szE], by omega⟩
    · exact .refl _
    rintro ⟨k, lf⟩ hI
    obtain ⟨hk, hlf, hnn⟩ : k ≤ xs.length ∧ lf = left - xs.length - szE gItem (xs.take k) ∧ 0 ≤ lf := hI
    try dsimp only
    refine VCsplit.intro (fun q1 => ?_) (fun q1 => ?_)
    ·
      simp at q1
      have hs := szE_step gItem xs k default (by omega)
      have hs2 := szE_le gItem xs (k + 1)
      refine idx_rd hp ?_ ?_ fun b2 o2 hb2 => ?_
      · omega
      · omega
      refine load_allN default (k) rfl hp ?_ ?_ hb2 rfl (mem_at 0 rfl) fun l3 hl3 => ?_
      · omega
      · omega
      obtain ⟨b0x3, c0x3, rfl, h0x3, w1x3⟩ := gItem_rd.1 hl3
      refine call_q (szItem_ct _ (xs[k]?.getD default) _ ?_ ?_) (Rp.mono _ (mem_at 0 rfl) hl3) ?_
      · trivial
      · omega
      rintro _ ⟨r4, rfl, hr4⟩
      refine VCsplit.intro (fun q5 => ?_) (fun q5 => ?_)
      ·
        simp at q5
        exact ⟨[], ⟨⟨-1, rfl, .inl ⟨rfl, by (try simp (disch := omega) only [wrap_of] at *); omega⟩⟩, rfl⟩, (.le fun a => by (try simp only [setR, List.cons_append, List.nil_append]); simp only [List.flatten_append, List.flatten_cons, List.flatten_nil, List.count_append, List.count_nil, List.append_nil, List.nil_append]; omega)⟩
      ·
        simp at q5
        apply loop_stepA (k + 1, _)
        · exact .refl _
        · repeat' (first | exact trivial | refine ⟨⟨_, rfl, by first | rfl | exact inc_eq _ (by omega) | (refine sl_eq ?_; simp; done) | (simp (disch := omega) only [wrap_of]), by first | exact trivial | simp [SV.ok]⟩, ?_⟩)
        · exact trivial
        · try dsimp only
          ((try simp (disch := omega) only [wrap_of] at *); refine ⟨by omega, by omega, by omega⟩)
        · try dsimp only
          omega
    ·
      simp at q1
      obtain rfl : k = xs.length := by omega
      rw [List.take_length] at hlf
      exact ⟨[], ⟨⟨_, rfl, .inr ⟨by (try simp (disch := omega) only [wrap_of] at *); omega, by omega⟩⟩, rfl⟩, (.le fun a => by (try simp only [setR, List.cons_append, List.nil_append]); simp only [List.flatten_append, List.flatten_cons, List.flatten_nil, List.count_append, List.count_nil, List.append_nil, List.nil_append]; omega)⟩
--@ct laws.toItemS new toItemS_ct _ _ _ $1 ?_ | %1 | obtain ⟨b#, c#, rfl, o#⟩ := o#
theorem toItemS_ct (b : Option Addr) (m c : Nat) (xs : List Item) (hx : szL gItem xs ≤ 1048576) :
    Ct Tryz.prog 279 [.slice b m c] [] (fun H => (gSl 218 gItem).rd H [.slice b m c] xs) (fun v A => ∃ b c, v = .slice b xs.length c ∧ (gSl 218 gItem).ow [.slice b xs.length c] xs A) := by
  refine Ct.intro0 G_ok Tryz.func279 rfl rfl rfl fun E H hp => ?_
  obtain ⟨rfl, hcl, hl⟩ := sl_len hp
  have hls := len_szL gItem xs
  have hq := szL_eq gItem xs
  refine VCmake.intro ?_ ?_ ?_ ?_ fun x0 => ?_
  · omega
  · omega
  · omega
  · omega
  apply loop_mod (α := (Nat) × (Hp)) G_ok [8, 9, 10, 11, 14, 15, 16, 17, 18, 19, 20, 21, 12, 13, 4] (fun z => [(4, .v (.int .i64 z.1))]) (fun z => []) (fun z => [z.2, H]) (fun z => xs.length - z.1) (fun z => z.1 ≤ xs.length ∧ (gSl 218 gItem).ow [.slice (some ⟨x0, 0, none⟩) xs.length xs.length] (xs.take z.1 ++ List.replicate (xs.length - z.1) zItem) z.2) ((0, _))
  · repeat' (first | exact trivial | refine ⟨⟨_, rfl, by first | rfl | exact inc_eq _ (by omega) | (refine sl_eq ?_; simp; done), by first | exact trivial | simp [SV.ok]⟩, ?_⟩)
  · exact trivial
  · try dsimp only
    exact ⟨by omega, by simpa using gmake (g := gItem) (T := 218) (b := x0) (zItem_ow) (Nat.le_refl xs.length) (by omega)⟩
  · exact .refl _
  rintro ⟨k, A⟩ hI
  obtain ⟨hk, oA⟩ : k ≤ xs.length ∧ (gSl 218 gItem).ow [.slice (some ⟨x0, 0, none⟩) xs.length xs.length] (xs.take k ++ List.replicate (xs.length - k) zItem) A := hI
  try dsimp only
  refine VCsplit.intro (fun q1 => ?_) (fun q1 => ?_)
  ·
    simp at q1
    have hs := szE_step gItem xs k default (by omega)
    have hs2 := szE_le gItem xs (k + 1)
    refine idx_rd hp ?_ ?_ fun b2 o2 hb2 => ?_
    · omega
    · omega
    refine load_allN default (k) rfl hp ?_ ?_ hb2 rfl (mem_at 1 rfl) fun l3 hl3 => ?_
    · omega
    · omega
    obtain ⟨b0x3, c0x3, rfl, h0x3, w1x3⟩ := gItem_rd.1 hl3
    refine call_new (toItem_ct _ (xs[k]?.getD default) ?_) (Rp.mono _ (mem_at 1 rfl) hl3) ?_
    · omega
    rintro v4 A4 o4
    obtain ⟨l4, rfl, o4⟩ := o4
    have r4 := Gt.owrd _ o4
    obtain ⟨b0x4, c0x4, rfl, h0x4, w1x4⟩ := gItem_rd.1 r4
    refine idx_rd (Gt.owrd _ oA) ?_ ?_ fun b5 o5 hb5 => ?_
    · omega
    · simp; omega
    refine gstore1N (k) (A) (A4) [H] (.le fun a => by (try simp only [setR, List.cons_append, List.nil_append]); simp only [List.flatten_append, List.flatten_cons, List.flatten_nil, List.count_append, List.count_nil, List.append_nil, List.nil_append]; omega) rfl oA ?_ ?_ hb5 rfl _ o4 fun A6 o6 => ?_
    · omega
    · simp; omega
    apply loop_stepA (k + 1, _)
    · exact .refl _
    · repeat' (first | exact trivial | refine ⟨⟨_, rfl, by first | rfl | exact inc_eq _ (by omega) | (refine sl_eq ?_; simp; done), by first | exact trivial | simp [SV.ok]⟩, ?_⟩)
    · exact trivial
    · try dsimp only
      exact ⟨by omega, by rw [← take_stepz xs k default zItem (by omega)] ; assumption⟩
    · try dsimp only
      omega
  ·
    simp at q1
    obtain rfl : k = xs.length := by omega
    rw [List.take_length, Nat.sub_self, List.replicate_zero, List.append_nil] at oA
    exact ⟨_, ⟨_, _, rfl, oA⟩, (.le fun a => by (try simp only [setR, List.cons_append, List.nil_append]); simp only [List.flatten_append, List.flatten_cons, List.flatten_nil, List.count_append, List.count_nil, List.append_nil, List.nil_append]; omega)⟩
--@ct laws.eqItemS val eqItemS_ct _ _ _ _ _ _ $1 $2 | ⟨%1, %2⟩
theorem eqItemS_ct (b1 : Option Addr) (m1 c1 : Nat) (b2 : Option Addr) (m2 c2 : Nat) (xs ys : List Item) :
    Ct Tryz.prog 81 [.slice b1 m1 c1, .slice b2 m2 c2] [] (fun H => (gSl 218 gItem).rd H [.slice b1 m1 c1] xs ∧ (gSl 218 gItem).rd H [.slice b2 m2 c2] ys) (fun v A => v = .bool (decide (xs = ys)) ∧ A = []) := by
  refine Ct.intro0 G_ok Tryz.func81 rfl rfl rfl fun E H hp => ?_
  obtain ⟨hp1, hp2⟩ := hp
  obtain ⟨rfl, hc1, hl1⟩ := sl_len hp1
  obtain ⟨rfl, hc2, hl2⟩ := sl_len hp2
  refine VCsplit.intro (fun q0 => ?_) (fun q0 => ?_)
  ·
    simp at q0
    exact ⟨[], ⟨by rw [decide_eq_false (fun e => by subst e; omega)], rfl⟩, (.le fun a => by (try simp only [setR, List.cons_append, List.nil_append]); simp only [List.flatten_append, List.flatten_cons, List.flatten_nil, List.count_append, List.count_nil, List.append_nil, List.nil_append]; omega)⟩
  ·
    simp at q0
    apply loop_mod (α := (Nat)) G_ok [11, 12, 13, 14, 17, 18, 19, 20, 21, 22, 23, 24, 25, 26, 4, 15, 16, 5] (fun z => [(5, .v (.int .i64 z))]) (fun z => []) (fun z => [H]) (fun z => xs.length - z) (fun z => z ≤ xs.length ∧ xs.take z = ys.take z) (0)
    · repeat' (first | exact trivial | refine ⟨⟨_, rfl, by first | rfl | exact inc_eq _ (by omega) | (refine sl_eq ?_; simp; done), by first | exact trivial | simp [SV.ok]⟩, ?_⟩)
    · exact trivial
    · exact ⟨by omega, by simp⟩
    · exact .refl _
    rintro k hI
    obtain ⟨hk, he⟩ : k ≤ xs.length ∧ xs.take k = ys.take k := hI
    try dsimp only
    refine VCsplit.intro (fun q1 => ?_) (fun q1 => ?_)
    ·
      simp at q1
      refine draw G_ok mixed none (.q 0 (.q 1 (.q 2 (.q 3 (.q 4 (.q 5 (.q 6 (.q 7 (.f 8 (.q 9 (.nil))))))))))) (by decide +kernel) ?_
      refine idx_rd hp1 ?_ ?_ fun b2 o2 hb2 => ?_
      · omega
      · omega
      refine load_allN default (k) rfl hp1 ?_ ?_ hb2 rfl (mem_at 0 rfl) fun l3 hl3 => ?_
      · omega
      · omega
      obtain ⟨b0x3, c0x3, rfl, h0x3, w1x3⟩ := gItem_rd.1 hl3
      refine idx_rd hp2 ?_ ?_ fun b4 o4 hb4 => ?_
      · omega
      · omega
      refine load_allN default (k) rfl hp2 ?_ ?_ hb4 rfl (mem_at 0 rfl) fun l5 hl5 => ?_
      · omega
      · omega
      obtain ⟨b0x5, c0x5, rfl, h0x5, w1x5⟩ := gItem_rd.1 hl5
      refine call_val (eqItem_ct _ _ (xs[k]?.getD default) (ys[k]?.getD default)) ⟨(Rp.mono _ (mem_at 0 rfl) hl3), (Rp.mono _ (mem_at 0 rfl) hl5)⟩ ?_
      rintro _ rfl
      refine VC.intro ?_ ?_
      · exact fun _ h => h
      refine VCsplit.intro (fun q7 => ?_) (fun q7 => ?_)
      ·
        simp at q7
        exact ⟨[], ⟨by rw [decide_eq_false (fun e => by subst e; simp at *)], rfl⟩, (.le fun a => by (try simp only [setR, List.cons_append, List.nil_append]); simp only [List.flatten_append, List.flatten_cons, List.flatten_nil, List.count_append, List.count_nil, List.append_nil, List.nil_append]; omega)⟩
      ·
        simp at q7
        apply loop_stepA (k + 1)
        · exact .refl _
        · repeat' (first | exact trivial | refine ⟨⟨_, rfl, by first | rfl | exact inc_eq _ (by omega) | (refine sl_eq ?_; simp; done), by first | exact trivial | simp [SV.ok]⟩, ?_⟩)
        · exact trivial
        · exact ⟨by omega, eq_step default (by omega) he (by omega) (by simpa using ‹_›)⟩
        · omega
    ·
      simp at q1
      exact ⟨[], ⟨by rw [decide_eq_true]; rw [← List.take_length (l := xs), ← List.take_length (l := ys), ← (by omega : xs.length = ys.length), show xs.length = k by omega]; exact he, rfl⟩, (.le fun a => by (try simp only [setR, List.cons_append, List.nil_append]); simp only [List.flatten_append, List.flatten_cons, List.flatten_nil, List.count_append, List.count_nil, List.append_nil, List.nil_append]; omega)⟩
--@ct laws.szBag raw refine call_q (szBag_ct _ $1 _ ?_ ?_) %1 ?_ | | rintro _ ⟨r#, rfl, hr#⟩
theorem szBag_ct (l : List Value) (x : Bag) (left : Int) (h0 : 0 ≤ left) (h1 : left ≤ 1048576) :
    Ct Tryz.prog 187 [.agg ⟨l⟩, .int .i64 left] [] (fun H => gBag.rd H l x) (fun v A => (∃ r : Int, v = .int .i64 r ∧ ((r = -1 ∧ left < (gBag.sz x : Int)) ∨ (r = left - (gBag.sz x : Int) ∧ (gBag.sz x : Int) ≤ left))) ∧ A = []) := by
  refine Ct.intro0 G_ok Tryz.func187 rfl rfl rfl fun E H hp => ?_
  obtain ⟨b0, c0, rfl, h0⟩ := gBag_rd.1 hp
  have hz := gBag_sz x
  refine VCnew.intro fun x0 => ?_
  refine call_q (szItemS_ct _ _ _ (x.items) _ ?_ ?_) (Rp.mono _ (mem_at 0 rfl) h0) ?_
  · trivial
  · trivial
  rintro _ ⟨r1, rfl, hr1⟩
  refine VCsplit.intro (fun q2 => ?_) (fun q2 => ?_)
  ·
    simp at q2
    exact ⟨[], ⟨⟨-1, rfl, .inl ⟨rfl, by (try simp (disch := omega) only [wrap_of] at *); omega⟩⟩, rfl⟩, (.le fun a => by (try simp only [setR, List.cons_append, List.nil_append]); simp only [List.flatten_append, List.flatten_cons, List.flatten_nil, List.count_append, List.count_nil, List.append_nil, List.nil_append]; omega)⟩
  ·
    simp at q2
    exact ⟨[], ⟨⟨_, rfl, .inr ⟨by (try simp (disch := omega) only [wrap_of] at *); omega, by omega⟩⟩, rfl⟩, (.le fun a => by (try simp only [setR, List.cons_append, List.nil_append]); simp only [List.flatten_append, List.flatten_cons, List.flatten_nil, List.count_append, List.count_nil, List.append_nil, List.nil_append]; omega)⟩
--@ct laws.toBag new toBag_ct _ $1 ?_ | %1 | obtain ⟨l#, rfl, o#⟩ := o# ;; have r# := Gt.owrd _ o# ;; obtain ⟨b0x#, c0x#, rfl, h0x#⟩ := gBag_rd.1 r#
theorem toBag_ct (l : List Value) (x : Bag) (hx : gBag.sz x ≤ 1048576) :
    Ct Tryz.prog 195 [.agg ⟨l⟩] [] (fun H => gBag.rd H l x) (fun v A => ∃ l, v = .agg ⟨l⟩ ∧ gBag.ow l x A) := by
  refine Ct.intro0 G_ok Tryz.func195 rfl rfl rfl fun E H hp => ?_
  obtain ⟨b0, c0, rfl, h0⟩ := gBag_rd.1 hp
  have hz := gBag_sz x
  refine VCnew.intro fun x0 => ?_
  refine VCnew.intro fun x1 => ?_
  refine VCnew.intro fun x2 => ?_
  refine call_new (toItemS_ct _ _ _ (x.items) ?_) (Rp.mono _ (mem_at 0 rfl) h0) ?_
  · trivial
  rintro v3 A3 o3
  obtain ⟨b3, c3, rfl, o3⟩ := o3
  exact ⟨_, ⟨_, rfl, gBag_ow.2 ⟨_, _, _, rfl, .refl _, by assumption⟩⟩, (.le fun a => by (try simp only [setR, List.cons_append, List.nil_append]); simp only [List.flatten_append, List.flatten_cons, List.flatten_nil, List.count_append, List.count_nil, List.append_nil, List.nil_append]; omega)⟩
--@ct laws.eqBag val eqBag_ct _ _ $1 $2 | ⟨%1, %2⟩
theorem eqBag_ct (l1 l2 : List Value) (x y : Bag) :
    Ct Tryz.prog 16 [.agg ⟨l1⟩, .agg ⟨l2⟩] [] (fun H => gBag.rd H l1 x ∧ gBag.rd H l2 y) (fun v A => v = .bool (decide (x = y)) ∧ A = []) := by
  refine Ct.intro0 G_ok Tryz.func16 rfl rfl rfl fun E H hp => ?_
  obtain ⟨hp1, hp2⟩ := hp
  obtain ⟨b0p, c0p, rfl, h0p⟩ := gBag_rd.1 hp1
  obtain ⟨b0q, c0q, rfl, h0q⟩ := gBag_rd.1 hp2
  refine VCnew.intro fun x0 => ?_
  refine VCnew.intro fun x1 => ?_
  refine call_val (eqItemS_ct _ _ _ _ _ _ (x.items) (y.items)) ⟨(Rp.mono _ (mem_at 0 rfl) h0p), (Rp.mono _ (mem_at 0 rfl) h0q)⟩ ?_
  rintro _ rfl
  refine VCsplit.intro (fun q3 => ?_) (fun q3 => ?_)
  ·
    simp at q3
    exact ⟨[], ⟨by rw [decide_eq_false (fun e => by subst e; simp at *)], rfl⟩, (.le fun a => by (try simp only [setR, List.cons_append, List.nil_append]); simp only [List.flatten_append, List.flatten_cons, List.flatten_nil, List.count_append, List.count_nil, List.append_nil, List.nil_append]; omega)⟩
  ·
    simp at q3
    exact ⟨[], ⟨by rw [decide_eq_true (Bag.eq_iff.2 (by simp_all))], rfl⟩, (.le fun a => by (try simp only [setR, List.cons_append, List.nil_append]); simp only [List.flatten_append, List.flatten_cons, List.flatten_nil, List.count_append, List.count_nil, List.append_nil, List.nil_append]; omega)⟩
--@ct laws.toEdge new toEdge_ct _ $1 ?_ | %1 | obtain ⟨l#, rfl, o#⟩ := o# ;; have r# := Gt.owrd _ o# ;; obtain ⟨rfl, w0x#, w2x#⟩ := gEdge_rd.1 r#
--@ct laws.eqEdge val eqEdge_ct _ _ $1 $2 | ⟨%1, %2⟩
--@ct laws.szEdgeS raw refine call_q (szEdgeS_ct _ _ _ $1 _ ?_ ?_) %1 ?_ | | rintro _ ⟨r#, rfl, hr#⟩
--@ct laws.toEdgeS new toEdgeS_ct _ _ _ $1 ?_ | %1 | obtain ⟨b#, c#, rfl, o#⟩ := o#
--@ct laws.eqEdgeS val eqEdgeS_ct _ _ _ _ _ _ $1 $2 | ⟨%1, %2⟩
--@ct laws.szGraph raw refine call_q (szGraph_ct _ $1 _ ?_ ?_) %1 ?_ | | rintro _ ⟨r#, rfl, hr#⟩
--@ct laws.toGraph new toGraph_ct _ $1 ?_ | %1 | obtain ⟨l#, rfl, o#⟩ := o# ;; have r# := Gt.owrd _ o# ;; obtain ⟨b1x#, c1x#, rfl, w0x#, h1x#⟩ := gGraph_rd.1 r#
--@ct laws.eqGraph val eqGraph_ct _ _ $1 $2 | ⟨%1, %2⟩
--@ct laws.szAtom raw refine call_q (szAtom_ct _ $1 _ ?_ ?_) %1 ?_ | | rintro _ ⟨r#, rfl, hr#⟩
theorem szAtom_ct (l : List Value) (x : Atom) (left : Int) (h0 : 0 ≤ left) (h1 : left ≤ 1048576) :
    Ct Tryz.prog 149 [.agg ⟨l⟩, .int .i64 left] [] (fun H => gAtom.rd H l x) (fun v A => (∃ r : Int, v = .int .i64 r ∧ ((r = -1 ∧ left < (gAtom.sz x : Int)) ∨ (r = left - (gAtom.sz x : Int) ∧ (gAtom.sz x : Int) ≤ left))) ∧ A = []) := by
  refine Ct.intro0 G_ok Tryz.func149 rfl rfl rfl fun E H hp => ?_
  obtain ⟨rfl, w0, w1, w2⟩ := gAtom_rd.1 hp
  have hz := gAtom_sz x
  refine VCnew.intro fun x0 => ?_
  refine VCsplit.intro (fun q1 => ?_) (fun q1 => ?_)
  ·
    simp at q1
    simp (disch := omega) only [wrap_of] at q1
    exact ⟨[], ⟨⟨-1, rfl, .inl ⟨rfl, by (try simp (disch := omega) only [wrap_of] at *); omega⟩⟩, rfl⟩, (.le fun a => by (try simp only [setR, List.cons_append, List.nil_append]); simp only [List.flatten_append, List.flatten_cons, List.flatten_nil, List.count_append, List.count_nil, List.append_nil, List.nil_append]; omega)⟩
  ·
    simp at q1
    simp (disch := omega) only [wrap_of] at q1
    refine VCsplit.intro (fun q2 => ?_) (fun q2 => ?_)
    ·
      simp at q2
      simp (disch := omega) only [wrap_of] at q2
      exact ⟨[], ⟨⟨-1, rfl, .inl ⟨rfl, by (try simp (disch := omega) only [wrap_of] at *); omega⟩⟩, rfl⟩, (.le fun a => by (try simp only [setR, List.cons_append, List.nil_append]); simp only [List.flatten_append, List.flatten_cons, List.flatten_nil, List.count_append, List.count_nil, List.append_nil, List.nil_append]; omega)⟩
    ·
      simp at q2
      simp (disch := omega) only [wrap_of] at q2
      refine VCsplit.intro (fun q3 => ?_) (fun q3 => ?_)
      ·
        simp at q3
        simp (disch := omega) only [wrap_of] at q3
        exact ⟨[], ⟨⟨-1, rfl, .inl ⟨rfl, by (try simp (disch := omega) only [wrap_of] at *); omega⟩⟩, rfl⟩, (.le fun a => by (try simp only [setR, List.cons_append, List.nil_append]); simp only [List.flatten_append, List.flatten_cons, List.flatten_nil, List.count_append, List.count_nil, List.append_nil, List.nil_append]; omega)⟩
      ·
        simp at q3
        simp (disch := omega) only [wrap_of] at q3
        exact ⟨[], ⟨⟨_, rfl, .inr ⟨by (try simp (disch := omega) only [wrap_of] at *); omega, by omega⟩⟩, rfl⟩, (.le fun a => by (try simp only [setR, List.cons_append, List.nil_append]); simp only [List.flatten_append, List.flatten_cons, List.flatten_nil, List.count_append, List.count_nil, List.append_nil, List.nil_append]; omega)⟩
--@ct laws.toAtom new toAtom_ct _ $1 ?_ | %1 | obtain ⟨l#, rfl, o#⟩ := o# ;; have r# := Gt.owrd _ o# ;; obtain ⟨rfl, w0x#, w1x#, w2x#⟩ := gAtom_rd.1 r#
theorem toAtom_ct (l : List Value) (x : Atom) (hx : gAtom.sz x ≤ 1048576) :
    Ct Tryz.prog 156 [.agg ⟨l⟩] [] (fun H => gAtom.rd H l x) (fun v A => ∃ l, v = .agg ⟨l⟩ ∧ gAtom.ow l x A) := by
  refine Ct.intro0 G_ok Tryz.func156 rfl rfl rfl fun E H hp => ?_
  obtain ⟨rfl, w0, w1, w2⟩ := gAtom_rd.1 hp
  have hz := gAtom_sz x
  refine VCnew.intro fun x0 => ?_
  refine VCnew.intro fun x1 => ?_
  refine VCnew.intro fun x2 => ?_
  exact ⟨_, ⟨_, rfl, gAtom_ow.2 ⟨rfl, .refl _, by assumption, by assumption, by assumption⟩⟩, (.le fun a => by (try simp only [setR, List.cons_append, List.nil_append]); simp only [List.flatten_append, List.flatten_cons, List.flatten_nil, List.count_append, List.count_nil, List.append_nil, List.nil_append]; omega)⟩
--@ct laws.eqAtom val eqAtom_ct _ _ $1 $2 | ⟨%1, %2⟩
theorem eqAtom_ct (l1 l2 : List Value) (x y : Atom) :
    Ct Tryz.prog 171 [.agg ⟨l1⟩, .agg ⟨l2⟩] [] (fun H => gAtom.rd H l1 x ∧ gAtom.rd H l2 y) (fun v A => v = .bool (decide (x = y)) ∧ A = []) := by
  refine Ct.intro0 G_ok Tryz.func171 rfl rfl rfl fun E H hp => ?_
  obtain ⟨hp1, hp2⟩ := hp
  obtain ⟨rfl, w0p, w1p, w2p⟩ := gAtom_rd.1 hp1
  obtain ⟨rfl, w0q, w1q, w2q⟩ := gAtom_rd.1 hp2
  refine VCnew.intro fun x0 => ?_
  refine VCnew.intro fun x1 => ?_
  refine VCsplit.intro (fun q2 => ?_) (fun q2 => ?_)
  ·
    simp at q2
    simp only [str_inj, u8_inj, u8_wrap] at q2
    exact ⟨[], ⟨by rw [decide_eq_false (fun e => by subst e; simp at *)], rfl⟩, (.le fun a => by (try simp only [setR, List.cons_append, List.nil_append]); simp only [List.flatten_append, List.flatten_cons, List.flatten_nil, List.count_append, List.count_nil, List.append_nil, List.nil_append]; omega)⟩
  ·
    simp at q2
    simp only [str_inj, u8_inj, u8_wrap] at q2
    refine VCsplit.intro (fun q3 => ?_) (fun q3 => ?_)
    ·
      simp at q3
      simp only [str_inj, u8_inj, u8_wrap] at q3
      exact ⟨[], ⟨by rw [decide_eq_false (fun e => by subst e; simp at *)], rfl⟩, (.le fun a => by (try simp only [setR, List.cons_append, List.nil_append]); simp only [List.flatten_append, List.flatten_cons, List.flatten_nil, List.count_append, List.count_nil, List.append_nil, List.nil_append]; omega)⟩
    ·
      simp at q3
      simp only [str_inj, u8_inj, u8_wrap] at q3
      refine VCsplit.intro (fun q4 => ?_) (fun q4 => ?_)
      ·
        simp at q4
        simp only [str_inj, u8_inj, u8_wrap] at q4
        exact ⟨[], ⟨by rw [decide_eq_false (fun e => by subst e; simp at *)], rfl⟩, (.le fun a => by (try simp only [setR, List.cons_append, List.nil_append]); simp only [List.flatten_append, List.flatten_cons, List.flatten_nil, List.count_append, List.count_nil, List.append_nil, List.nil_append]; omega)⟩
      ·
        simp at q4
        simp only [str_inj, u8_inj, u8_wrap] at q4
        exact ⟨[], ⟨by rw [decide_eq_true (Atom.eq_iff.2 (by simp_all))], rfl⟩, (.le fun a => by (try simp only [setR, List.cons_append, List.nil_append]); simp only [List.flatten_append, List.flatten_cons, List.flatten_nil, List.count_append, List.count_nil, List.append_nil, List.nil_append]; omega)⟩
--@ct laws.szFilter raw refine call_q (szFilter_ct _ $1 _ ?_ ?_) %1 ?_ | | rintro _ ⟨r#, rfl, hr#⟩
theorem szFilter_ct (l : List Value) (x : Filter) (left : Int) (h0 : 0 ≤ left) (h1 : left ≤ 1048576) :
    Ct Tryz.prog 150 [.agg ⟨l⟩, .int .i64 left] [] (fun H => gFilter.rd H l x) (fun v A => (∃ r : Int, v = .int .i64 r ∧ ((r = -1 ∧ left < (gFilter.sz x : Int)) ∨ (r = left - (gFilter.sz x : Int) ∧ (gFilter.sz x : Int) ≤ left))) ∧ A = []) := by
  refine Ct.intro0 G_ok Tryz.func150 rfl rfl rfl fun E H hp => ?_
  obtain ⟨rfl, w0, w1, w2, w3⟩ := gFilter_rd.1 hp
  have hz := gFilter_sz x
  refine VCnew.intro fun x0 => ?_
  refine VCsplit.intro (fun q1 => ?_) (fun q1 => ?_)
  ·
    simp at q1
    simp (disch := omega) only [wrap_of] at q1
    exact ⟨[], ⟨⟨-1, rfl, .inl ⟨rfl, by (try simp (disch := omega) only [wrap_of] at *); omega⟩⟩, rfl⟩, (.le fun a => by (try simp only [setR, List.cons_append, List.nil_append]); simp only [List.flatten_append, List.flatten_cons, List.flatten_nil, List.count_append, List.count_nil, List.append_nil, List.nil_append]; omega)⟩
  ·
    simp at q1
    simp (disch := omega) only [wrap_of] at q1
    refine VCsplit.intro (fun q2 => ?_) (fun q2 => ?_)
    ·
      simp at q2
      simp (disch := omega) only [wrap_of] at q2
      exact ⟨[], ⟨⟨-1, rfl, .inl ⟨rfl, by (try simp (disch := omega) only [wrap_of] at *); omega⟩⟩, rfl⟩, (.le fun a => by (try simp only [setR, List.cons_append, List.nil_append]); simp only [List.flatten_append, List.flatten_cons, List.flatten_nil, List.count_append, List.count_nil, List.append_nil, List.nil_append]; omega)⟩
    ·
      simp at q2
      simp (disch := omega) only [wrap_of] at q2
      exact ⟨[], ⟨⟨_, rfl, .inr ⟨by (try simp (disch := omega) only [wrap_of] at *); omega, by omega⟩⟩, rfl⟩, (.le fun a => by (try simp only [setR, List.cons_append, List.nil_append]); simp only [List.flatten_append, List.flatten_cons, List.flatten_nil, List.count_append, List.count_nil, List.append_nil, List.nil_append]; omega)⟩
--@ct laws.toFilter new toFilter_ct _ $1 ?_ | %1 | obtain ⟨l#, rfl, o#⟩ := o# ;; have r# := Gt.owrd _ o# ;; obtain ⟨rfl, w0x#, w1x#, w2x#, w3x#⟩ := gFilter_rd.1 r#
theorem toFilter_ct (l : List Value) (x : Filter) (hx : gFilter.sz x ≤ 1048576) :
    Ct Tryz.prog 157 [.agg ⟨l⟩] [] (fun H => gFilter.rd H l x) (fun v A => ∃ l, v = .agg ⟨l⟩ ∧ gFilter.ow l x A) := by
  refine Ct.intro0 G_ok Tryz.func157 rfl rfl rfl fun E H hp => ?_
  obtain ⟨rfl, w0, w1, w2, w3⟩ := gFilter_rd.1 hp
  have hz := gFilter_sz x
  refine VCnew.intro fun x0 => ?_
  refine VCnew.intro fun x1 => ?_
  refine VCnew.intro fun x2 => ?_
  exact ⟨_, ⟨_, rfl, gFilter_ow.2 ⟨rfl, .refl _, by assumption, by assumption, by assumption, by assumption⟩⟩, (.le fun a => by (try simp only [setR, List.cons_append, List.nil_append]); simp only [List.flatten_append, List.flatten_cons, List.flatten_nil, List.count_append, List.count_nil, List.append_nil, List.nil_append]; omega)⟩
--@ct laws.eqFilter val eqFilter_ct _ _ $1 $2 | ⟨%1, %2⟩
theorem eqFilter_ct (l1 l2 : List Value) (x y : Filter) :
    Ct Tryz.prog 172 [.agg ⟨l1⟩, .agg ⟨l2⟩] [] (fun H => gFilter.rd H l1 x ∧ gFilter.rd H l2 y) (fun v A => v = .bool (decide (x = y)) ∧ A = []) := by
  refine Ct.intro0 G_ok Tryz.func172 rfl rfl rfl fun E H hp => ?_
  obtain ⟨hp1, hp2⟩ := hp
  obtain ⟨rfl, w0p, w1p, w2p, w3p⟩ := gFilter_rd.1 hp1
  obtain ⟨rfl, w0q, w1q, w2q, w3q⟩ := gFilter_rd.1 hp2
  refine VCnew.intro fun x0 => ?_
  refine VCnew.intro fun x1 => ?_
  refine VCsplit.intro (fun q2 => ?_) (fun q2 => ?_)
  ·
    simp at q2
    simp only [str_inj, u8_inj, u8_wrap] at q2
    exact ⟨[], ⟨by rw [decide_eq_false (fun e => by subst e; simp at *)], rfl⟩, (.le fun a => by (try simp only [setR, List.cons_append, List.nil_append]); simp only [List.flatten_append, List.flatten_cons, List.flatten_nil, List.count_append, List.count_nil, List.append_nil, List.nil_append]; omega)⟩
  ·
    simp at q2
    simp only [str_inj, u8_inj, u8_wrap] at q2
    refine VCsplit.intro (fun q3 => ?_) (fun q3 => ?_)
    ·
      simp at q3
      exact ⟨[], ⟨by rw [decide_eq_false (fun e => by subst e; simp at *)], rfl⟩, (.le fun a => by (try simp only [setR, List.cons_append, List.nil_append]); simp only [List.flatten_append, List.flatten_cons, List.flatten_nil, List.count_append, List.count_nil, List.append_nil, List.nil_append]; omega)⟩
    ·
      simp at q3
      refine VCsplit.intro (fun q4 => ?_) (fun q4 => ?_)
      ·
        simp at q4
        simp only [str_inj, u8_inj, u8_wrap] at q4
        exact ⟨[], ⟨by rw [decide_eq_false (fun e => by subst e; simp at *)], rfl⟩, (.le fun a => by (try simp only [setR, List.cons_append, List.nil_append]); simp only [List.flatten_append, List.flatten_cons, List.flatten_nil, List.count_append, List.count_nil, List.append_nil, List.nil_append]; omega)⟩
      ·
        simp at q4
        simp only [str_inj, u8_inj, u8_wrap] at q4
        refine VCsplit.intro (fun q5 => ?_) (fun q5 => ?_)
        ·
          simp at q5
          exact ⟨[], ⟨by rw [decide_eq_false (fun e => by subst e; simp at *)], rfl⟩, (.le fun a => by (try simp only [setR, List.cons_append, List.nil_append]); simp only [List.flatten_append, List.flatten_cons, List.flatten_nil, List.count_append, List.count_nil, List.append_nil, List.nil_append]; omega)⟩
        ·
          simp at q5
          exact ⟨[], ⟨by rw [decide_eq_true (Filter.eq_iff.2 (by simp_all))], rfl⟩, (.le fun a => by (try simp only [setR, List.cons_append, List.nil_append]); simp only [List.flatten_append, List.flatten_cons, List.flatten_nil, List.count_append, List.count_nil, List.append_nil, List.nil_append]; omega)⟩
--@ct laws.szAtomS raw refine call_q (szAtomS_ct _ _ _ $1 _ ?_ ?_) %1 ?_ | | rintro _ ⟨r#, rfl, hr#⟩
theorem szAtomS_ct (b : Option Addr) (m c : Nat) (xs : List Atom) (left : Int) (h0 : 0 ≤ left) (h1 : left ≤ 1048576) :
    Ct Tryz.prog 57 [.slice b m c, .int .i64 left] [] (fun H => (gSl 118 gAtom).rd H [.slice b m c] xs) (fun v A => (∃ r : Int, v = .int .i64 r ∧ ((r = -1 ∧ left < (szL gAtom xs : Int)) ∨ (r = left - (szL gAtom xs : Int) ∧ (szL gAtom xs : Int) ≤ left))) ∧ A = []) := by
  refine Ct.intro0 G_ok Tryz.func57 rfl rfl rfl fun E H hp => ?_
  obtain ⟨rfl, hcl, hl⟩ := sl_len hp
  have hq := szL_eq gAtom xs
  have ht := List.take_length (l := xs)
  refine VCsplit.intro (fun q0 => ?_) (fun q0 => ?_)
  ·
    simp at q0
    simp (disch := omega) only [wrap_of] at q0
    exact ⟨[], ⟨⟨-1, rfl, .inl ⟨rfl, by (try simp (disch := omega) only [wrap_of] at *); omega⟩⟩, rfl⟩, (.le fun a => by (try simp only [setR, List.cons_append, List.nil_append]); simp only [List.flatten_append, List.flatten_cons, List.flatten_nil, List.count_append, List.count_nil, List.append_nil, List.nil_append]; omega)⟩
  ·
    simp at q0
    simp (disch := omega) only [wrap_of] at q0
    apply loop_mod (α := (Nat) × (Int)) G_ok [12, 13, 14, 15, 18, 19, 20, 21, 22, 23, 1, 24, 25, 4, 16, 17, 5] (fun z => [(5, .v (.int .i64 z.1)), (1, .v (.int .i64 z.2))]) (fun z => []) (fun z => [H]) (fun z => xs.length - z.1) (fun z => z.1 ≤ xs.length ∧ z.2 = left - xs.length - szE gAtom (xs.take z.1) ∧ 0 ≤ z.2) ((0, left - xs.length))
    · repeat' (first | exact trivial | refine ⟨⟨_, rfl, by first | rfl | exact inc_eq _ (by omega) | (refine sl_eq ?_; simp; done) | (simp (disch := omega) only [wrap_of]), by first | exact trivial | simp [SV.ok]⟩, ?_⟩)
    · exact trivial
    · try dsimp only
      exact ⟨by omega, by simp [szE], by omega⟩
    · exact .refl _
    rintro ⟨k, lf⟩ hI
    obtain ⟨hk, hlf, hnn⟩ : k ≤ xs.length ∧ lf = left - xs.length - szE gAtom (xs.take k) ∧ 0 ≤ lf := hI
    try dsimp only
    refine VCsplit.intro (fun q1 => ?_) (fun q1 => ?_)
    ·
      simp at q1
      have hs := szE_step gAtom xs k default (by omega)
      have hs2 := szE_le gAtom xs (k + 1)
      refine idx_rd hp ?_ ?_ fun b2 o2 hb2 => ?_
      · omega
      · omega
      refine load_allN default (k) rfl hp ?_ ?_ hb2 rfl (mem_at 0 rfl) fun l3 hl3 => ?_
      · omega
      · omega
      obtain ⟨rfl, w0x3, w1x3, w2x3⟩ := gAtom_rd.1 hl3
      refine call_q (szAtom_ct _ (xs[k]?.getD default) _ ?_ ?_) (Rp.mono _ (mem_at 0 rfl) hl3) ?_
      · trivial
      · omega
      rintro _ ⟨r4, rfl, hr4⟩
      refine VCsplit.intro (fun q5 => ?_) (fun q5 => ?_)
      ·
        simp at q5
        exact ⟨[], ⟨⟨-1, rfl, .inl ⟨rfl, by (try simp (disch := omega) only [wrap_of] at *); omega⟩⟩, rfl⟩, (.le fun a => by (try simp only [setR, List.cons_append, List.nil_append]); simp only [List.flatten_append, List.flatten_cons, List.flatten_nil, List.count_append, List.count_nil, List.append_nil, List.nil_append]; omega)⟩
      ·
        simp at q5
        apply loop_stepA (k + 1, _)
        · exact .refl _
        · repeat' (first | exact trivial | refine ⟨⟨_, rfl, by first | rfl | exact inc_eq _ (by omega) | (refine sl_eq ?_; simp; done) | (simp (disch := omega) only [wrap_of]), by first | exact trivial | simp [SV.ok]⟩, ?_⟩)
        · exact trivial
        · try dsimp only
          ((try simp (disch := omega) only [wrap_of] at *); refine ⟨by omega, by omega, by omega⟩)
        · try dsimp only
          omega
    ·
      simp at q1
      obtain rfl : k = xs.length := by omega
      rw [List.take_length] at hlf
      exact ⟨[], ⟨⟨_, rfl, .inr ⟨by (try simp (disch := omega) only [wrap_of] at *); omega, by omega⟩⟩, rfl⟩, (.le fun a => by (try simp only [setR, List.cons_append, List.nil_append]); simp only [List.flatten_append, List.flatten_cons, List.flatten_nil, List.count_append, List.count_nil, List.append_nil, List.nil_append]; omega)⟩
--@ct laws.toAtomS new toAtomS_ct _ _ _ $1 ?_ | %1 | obtain ⟨b#, c#, rfl, o#⟩ := o#
theorem toAtomS_ct (b : Option Addr) (m c : Nat) (xs : List Atom) (hx : szL gAtom xs ≤ 1048576) :
    Ct Tryz.prog 70 [.slice b m c] [] (fun H => (gSl 118 gAtom).rd H [.slice b m c] xs) (fun v A => ∃ b c, v = .slice b xs.length c ∧ (gSl 118 gAtom).ow [.slice b xs.length c] xs A) := by
  refine Ct.intro0 G_ok Tryz.func70 rfl rfl rfl fun E H hp => ?_
  obtain ⟨rfl, hcl, hl⟩ := sl_len hp
  have hls := len_szL gAtom xs
  have hq := szL_eq gAtom xs
  refine VCmake.intro ?_ ?_ ?_ ?_ fun x0 => ?_
  · omega
  · omega
  · omega
  · omega
  apply loop_mod (α := (Nat) × (Hp)) G_ok [8, 9, 10, 11, 14, 15, 16, 17, 18, 19, 20, 21, 12, 13, 4] (fun z => [(4, .v (.int .i64 z.1))]) (fun z => []) (fun z => [z.2, H]) (fun z => xs.length - z.1) (fun z => z.1 ≤ xs.length ∧ (gSl 118 gAtom).ow [.slice (some ⟨x0, 0, none⟩) xs.length xs.length] (xs.take z.1 ++ List.replicate (xs.length - z.1) zAtom) z.2) ((0, _))
  · repeat' (first | exact trivial | refine ⟨⟨_, rfl, by first | rfl | exact inc_eq _ (by omega) | (refine sl_eq ?_; simp; done), by first | exact trivial | simp [SV.ok]⟩, ?_⟩)
  · exact trivial
  · try dsimp only
    exact ⟨by omega, by simpa using gmake (g := gAtom) (T := 118) (b := x0) (zAtom_ow) (Nat.le_refl xs.length) (by omega)⟩
  · exact .refl _
  rintro ⟨k, A⟩ hI
  obtain ⟨hk, oA⟩ : k ≤ xs.length ∧ (gSl 118 gAtom).ow [.slice (some ⟨x0, 0, none⟩) xs.length xs.length] (xs.take k ++ List.replicate (xs.length - k) zAtom) A := hI
  try dsimp only
  refine VCsplit.intro (fun q1 => ?_) (fun q1 => ?_)
  ·
    simp at q1
    have hs := szE_step gAtom xs k default (by omega)
    have hs2 := szE_le gAtom xs (k + 1)
    refine idx_rd hp ?_ ?_ fun b2 o2 hb2 => ?_
    · omega
    · omega
    refine load_allN default (k) rfl hp ?_ ?_ hb2 rfl (mem_at 1 rfl) fun l3 hl3 => ?_
    · omega
    · omega
    obtain ⟨rfl, w0x3, w1x3, w2x3⟩ := gAtom_rd.1 hl3
    refine call_new (toAtom_ct _ (xs[k]?.getD default) ?_) (Rp.mono _ (mem_at 1 rfl) hl3) ?_
    · omega
    rintro v4 A4 o4
    obtain ⟨l4, rfl, o4⟩ := o4
    have r4 := Gt.owrd _ o4
    obtain ⟨rfl, w0x4, w1x4, w2x4⟩ := gAtom_rd.1 r4
    refine idx_rd (Gt.owrd _ oA) ?_ ?_ fun b5 o5 hb5 => ?_
    · omega
    · simp; omega
    refine gstore1N (k) (A) (A4) [H] (.le fun a => by (try simp only [setR, List.cons_append, List.nil_append]); simp only [List.flatten_append, List.flatten_cons, List.flatten_nil, List.count_append, List.count_nil, List.append_nil, List.nil_append]; omega) rfl oA ?_ ?_ hb5 rfl _ o4 fun A6 o6 => ?_
    · omega
    · simp; omega
    apply loop_stepA (k + 1, _)
    · exact .refl _
    · repeat' (first | exact trivial | refine ⟨⟨_, rfl, by first | rfl | exact inc_eq _ (by omega) | (refine sl_eq ?_; simp; done), by first | exact trivial | simp [SV.ok]⟩, ?_⟩)
    · exact trivial
    · try dsimp only
      exact ⟨by omega, by rw [← take_stepz xs k default zAtom (by omega)] ; assumption⟩
    · try dsimp only
      omega
  ·
    simp at q1
    obtain rfl : k = xs.length := by omega
    rw [List.take_length, Nat.sub_self, List.replicate_zero, List.append_nil] at oA
    exact ⟨_, ⟨_, _, rfl, oA⟩, (.le fun a => by (try simp only [setR, List.cons_append, List.nil_append]); simp only [List.flatten_append, List.flatten_cons, List.flatten_nil, List.count_append, List.count_nil, List.append_nil, List.nil_append]; omega)⟩
--@ct laws.eqAtomS val eqAtomS_ct _ _ _ _ _ _ $1 $2 | ⟨%1, %2⟩
theorem eqAtomS_ct (b1 : Option Addr) (m1 c1 : Nat) (b2 : Option Addr) (m2 c2 : Nat) (xs ys : List Atom) :
    Ct Tryz.prog 83 [.slice b1 m1 c1, .slice b2 m2 c2] [] (fun H => (gSl 118 gAtom).rd H [.slice b1 m1 c1] xs ∧ (gSl 118 gAtom).rd H [.slice b2 m2 c2] ys) (fun v A => v = .bool (decide (xs = ys)) ∧ A = []) := by
  refine Ct.intro0 G_ok Tryz.func83 rfl rfl rfl fun E H hp => ?_
  obtain ⟨hp1, hp2⟩ := hp
  obtain ⟨rfl, hc1, hl1⟩ := sl_len hp1
  obtain ⟨rfl, hc2, hl2⟩ := sl_len hp2
  refine VCsplit.intro (fun q0 => ?_) (fun q0 => ?_)
  ·
    simp at q0
    exact ⟨[], ⟨by rw [decide_eq_false (fun e => by subst e; omega)], rfl⟩, (.le fun a => by (try simp only [setR, List.cons_append, List.nil_append]); simp only [List.flatten_append, List.flatten_cons, List.flatten_nil, List.count_append, List.count_nil, List.append_nil, List.nil_append]; omega)⟩
  ·
    simp at q0
    apply loop_mod (α := (Nat)) G_ok [11, 12, 13, 14, 17, 18, 19, 20, 21, 22, 23, 24, 25, 26, 4, 15, 16, 5] (fun z => [(5, .v (.int .i64 z))]) (fun z => []) (fun z => [H]) (fun z => xs.length - z) (fun z => z ≤ xs.length ∧ xs.take z = ys.take z) (0)
    · repeat' (first | exact trivial | refine ⟨⟨_, rfl, by first | rfl | exact inc_eq _ (by omega) | (refine sl_eq ?_; simp; done), by first | exact trivial | simp [SV.ok]⟩, ?_⟩)
    · exact trivial
    · exact ⟨by omega, by simp⟩
    · exact .refl _
    rintro k hI
    obtain ⟨hk, he⟩ : k ≤ xs.length ∧ xs.take k = ys.take k := hI
    try dsimp only
    refine VCsplit.intro (fun q1 => ?_) (fun q1 => ?_)
    ·
      simp at q1
      refine draw G_ok mixed none (.q 0 (.q 1 (.q 2 (.q 3 (.q 4 (.q 5 (.q 6 (.q 7 (.f 8 (.q 9 (.nil))))))))))) (by decide +kernel) ?_
      refine idx_rd hp1 ?_ ?_ fun b2 o2 hb2 => ?_
      · omega
      · omega
      refine load_allN default (k) rfl hp1 ?_ ?_ hb2 rfl (mem_at 0 rfl) fun l3 hl3 => ?_
      · omega
      · omega
      obtain ⟨rfl, w0x3, w1x3, w2x3⟩ := gAtom_rd.1 hl3
      refine idx_rd hp2 ?_ ?_ fun b4 o4 hb4 => ?_
      · omega
      · omega
      refine load_allN default (k) rfl hp2 ?_ ?_ hb4 rfl (mem_at 0 rfl) fun l5 hl5 => ?_
      · omega
      · omega
      obtain ⟨rfl, w0x5, w1x5, w2x5⟩ := gAtom_rd.1 hl5
      refine call_val (eqAtom_ct _ _ (xs[k]?.getD default) (ys[k]?.getD default)) ⟨(Rp.mono _ (mem_at 0 rfl) hl3), (Rp.mono _ (mem_at 0 rfl) hl5)⟩ ?_
      rintro _ rfl
      refine VC.intro ?_ ?_
      · exact fun _ h => h
      refine VCsplit.intro (fun q7 => ?_) (fun q7 => ?_)
      ·
        simp at q7
        exact ⟨[], ⟨by rw [decide_eq_false (fun e => by subst e; simp at *)], rfl⟩, (.le fun a => by (try simp only [setR, List.cons_append, List.nil_append]); simp only [List.flatten_append, List.flatten_cons, List.flatten_nil, List.count_append, List.count_nil, List.append_nil, List.nil_append]; omega)⟩
      ·
        simp at q7
        apply loop_stepA (k + 1)
        · exact .refl _
        · repeat' (first | exact trivial | refine ⟨⟨_, rfl, by first | rfl | exact inc_eq _ (by omega) | (refine sl_eq ?_; simp; done), by first | exact trivial | simp [SV.ok]⟩, ?_⟩)
        · exact trivial
        · exact ⟨by omega, eq_step default (by omega) he (by omega) (by simpa using ‹_›)⟩
        · omega
    ·
      simp at q1
      exact ⟨[], ⟨by rw [decide_eq_true]; rw [← List.take_length (l := xs), ← List.take_length (l := ys), ← (by omega : xs.length = ys.length), show xs.length = k by omega]; exact he, rfl⟩, (.le fun a => by (try simp only [setR, List.cons_append, List.nil_append]); simp only [List.flatten_append, List.flatten_cons, List.flatten_nil, List.count_append, List.count_nil, List.append_nil, List.nil_append]; omega)⟩
--@ct laws.szFilterS raw refine call_q (szFilterS_ct _ _ _ $1 _ ?_ ?_) %1 ?_ | | rintro _ ⟨r#, rfl, hr#⟩
theorem szFilterS_ct (b : Option Addr) (m c : Nat) (xs : List Filter) (left : Int) (h0 : 0 ≤ left) (h1 : left ≤ 1048576) :
    Ct Tryz.prog 58 [.slice b m c, .int .i64 left] [] (fun H => (gSl 220 gFilter).rd H [.slice b m c] xs) (fun v A => (∃ r : Int, v = .int .i64 r ∧ ((r = -1 ∧ left < (szL gFilter xs : Int)) ∨ (r = left - (szL gFilter xs : Int) ∧ (szL gFilter xs : Int) ≤ left))) ∧ A = []) := by
  refine Ct.intro0 G_ok Tryz.func58 rfl rfl rfl fun E H hp => ?_
  obtain ⟨rfl, hcl, hl⟩ := sl_len hp
  have hq := szL_eq gFilter xs
  have ht := List.take_length (l := xs)
  refine VCsplit.intro (fun q0 => ?_) (fun q0 => ?_)
  ·
    simp at q0
    simp (disch := omega) only [wrap_of] at q0
    exact ⟨[], ⟨⟨-1, rfl, .inl ⟨rfl, by (try simp (disch := omega) only [wrap_of] at *); omega⟩⟩, rfl⟩, (.le fun a => by (try simp only [setR, List.cons_append, List.nil_append]); simp only [List.flatten_append, List.flatten_cons, List.flatten_nil, List.count_append, List.count_nil, List.append_nil, List.nil_append]; omega)⟩
  ·
    simp at q0
    simp (disch := omega) only [wrap_of] at q0
    apply loop_mod (α := (Nat) × (Int)) G_ok [12, 13, 14, 15, 18, 19, 20, 21, 22, 23, 1, 24, 25, 4, 16, 17, 5] (fun z => [(5, .v (.int .i64 z.1)), (1, .v (.int .i64 z.2))]) (fun z => []) (fun z => [H]) (fun z => xs.length - z.1) (fun z => z.1 ≤ xs.length ∧ z.2 = left - xs.length - szE gFilter (xs.take z.1) ∧ 0 ≤ z.2) ((0, left - xs.length))
    · repeat' (first | exact trivial | refine ⟨⟨_, rfl, by first | rfl | exact inc_eq _ (by omega) | (refine sl_eq ?_; simp; done) | (simp (disch := omega) only [wrap_of]), by first | exact trivial | simp [SV.ok]⟩, ?_⟩)
    · exact trivial
    · try dsimp only
      exact ⟨by omega, by simp [szE], by omega⟩
    · exact .refl _
    rintro ⟨k, lf⟩ hI
    obtain ⟨hk, hlf, hnn⟩ : k ≤ xs.length ∧ lf = left - xs.length - szE gFilter (xs.take k) ∧ 0 ≤ lf := hI
    try dsimp only
    refine VCsplit.intro (fun q1 => ?_) (fun q1 => ?_)
    ·
      simp at q1
      have hs := szE_step gFilter xs k default (by omega)
      have hs2 := szE_le gFilter xs (k + 1)
      refine idx_rd hp ?_ ?_ fun b2 o2 hb2 => ?_
      · omega
      · omega
      refine load_allN default (k) rfl hp ?_ ?_ hb2 rfl (mem_at 0 rfl) fun l3 hl3 => ?_
      · omega
      · omega
      obtain ⟨rfl, w0x3, w1x3, w2x3, w3x3⟩ := gFilter_rd.1 hl3
      refine call_q (szFilter_ct _ (xs[k]?.getD default) _ ?_ ?_) (Rp.mono _ (mem_at 0 rfl) hl3) ?_
      · trivial
      · omega
      rintro _ ⟨r4, rfl, hr4⟩
      refine VCsplit.intro (fun q5 => ?_) (fun q5 => ?_)
      ·
        simp at q5
        exact ⟨[], ⟨⟨-1, rfl, .inl ⟨rfl, by (try simp (disch := omega) only [wrap_of] at *); omega⟩⟩, rfl⟩, (.le fun a => by (try simp only [setR, List.cons_append, List.nil_append]); simp only [List.flatten_append, List.flatten_cons, List.flatten_nil, List.count_append, List.count_nil, List.append_nil, List.nil_append]; omega)⟩
      ·
        simp at q5
        apply loop_stepA (k + 1, _)
        · exact .refl _
        · repeat' (first | exact trivial | refine ⟨⟨_, rfl, by first | rfl | exact inc_eq _ (by omega) | (refine sl_eq ?_; simp; done) | (simp (disch := omega) only [wrap_of]), by first | exact trivial | simp [SV.ok]⟩, ?_⟩)
        · exact trivial
        · try dsimp only
          ((try simp (disch := omega) only [wrap_of] at *); refine ⟨by omega, by omega, by omega⟩)
        · try dsimp only
          omega
    ·
      simp at q1
      obtain rfl : k = xs.length := by omega
      rw [List.take_length] at hlf
      exact ⟨[], ⟨⟨_, rfl, .inr ⟨by (try simp (disch := omega) only [wrap_of] at *); omega, by omega⟩⟩, rfl⟩, (.le fun a => by (try simp only [setR, List.cons_append, List.nil_append]); simp only [List.flatten_append, List.flatten_cons, List.flatten_nil, List.count_append, List.count_nil, List.append_nil, List.nil_append]; omega)⟩
--@ct laws.toFilterS new toFilterS_ct _ _ _ $1 ?_ | %1 | obtain ⟨b#, c#, rfl, o#⟩ := o#
theorem toFilterS_ct (b : Option Addr) (m c : Nat) (xs : List Filter) (hx : szL gFilter xs ≤ 1048576) :
    Ct Tryz.prog 71 [.slice b m c] [] (fun H => (gSl 220 gFilter).rd H [.slice b m c] xs) (fun v A => ∃ b c, v = .slice b xs.length c ∧ (gSl 220 gFilter).ow [.slice b xs.length c] xs A) := by
  refine Ct.intro0 G_ok Tryz.func71 rfl rfl rfl fun E H hp => ?_
  obtain ⟨rfl, hcl, hl⟩ := sl_len hp
  have hls := len_szL gFilter xs
  have hq := szL_eq gFilter xs
  refine VCmake.intro ?_ ?_ ?_ ?_ fun x0 => ?_
  · omega
  · omega
  · omega
  · omega
  apply loop_mod (α := (Nat) × (Hp)) G_ok [8, 9, 10, 11, 14, 15, 16, 17, 18, 19, 20, 21, 12, 13, 4] (fun z => [(4, .v (.int .i64 z.1))]) (fun z => []) (fun z => [z.2, H]) (fun z => xs.length - z.1) (fun z => z.1 ≤ xs.length ∧ (gSl 220 gFilter).ow [.slice (some ⟨x0, 0, none⟩) xs.length xs.length] (xs.take z.1 ++ List.replicate (xs.length - z.1) zFilter) z.2) ((0, _))
  · repeat' (first | exact trivial | refine ⟨⟨_, rfl, by first | rfl | exact inc_eq _ (by omega) | (refine sl_eq ?_; simp; done), by first | exact trivial | simp [SV.ok]⟩, ?_⟩)
  · exact trivial
  · try dsimp only
    exact ⟨by omega, by simpa using gmake (g := gFilter) (T := 220) (b := x0) (zFilter_ow) (Nat.le_refl xs.length) (by omega)⟩
  · exact .refl _
  rintro ⟨k, A⟩ hI
  obtain ⟨hk, oA⟩ : k ≤ xs.length ∧ (gSl 220 gFilter).ow [.slice (some ⟨x0, 0, none⟩) xs.length xs.length] (xs.take k ++ List.replicate (xs.length - k) zFilter) A := hI
  try dsimp only
  refine VCsplit.intro (fun q1 => ?_) (fun q1 => ?_)
  ·
    simp at q1
    have hs := szE_step gFilter xs k default (by omega)
    have hs2 := szE_le gFilter xs (k + 1)
    refine idx_rd hp ?_ ?_ fun b2 o2 hb2 => ?_
    · omega
    · omega
    refine load_allN default (k) rfl hp ?_ ?_ hb2 rfl (mem_at 1 rfl) fun l3 hl3 => ?_
    · omega
    · omega
    obtain ⟨rfl, w0x3, w1x3, w2x3, w3x3⟩ := gFilter_rd.1 hl3
    refine call_new (toFilter_ct _ (xs[k]?.getD default) ?_) (Rp.mono _ (mem_at 1 rfl) hl3) ?_
    · omega
    rintro v4 A4 o4
    obtain ⟨l4, rfl, o4⟩ := o4
    have r4 := Gt.owrd _ o4
    obtain ⟨rfl, w0x4, w1x4, w2x4, w3x4⟩ := gFilter_rd.1 r4
    refine idx_rd (Gt.owrd _ oA) ?_ ?_ fun b5 o5 hb5 => ?_
    · omega
    · simp; omega
    refine gstore1N (k) (A) (A4) [H] (.le fun a => by (try simp only [setR, List.cons_append, List.nil_append]); simp only [List.flatten_append, List.flatten_cons, List.flatten_nil, List.count_append, List.count_nil, List.append_nil, List.nil_append]; omega) rfl oA ?_ ?_ hb5 rfl _ o4 fun A6 o6 => ?_
    · omega
    · simp; omega
    apply loop_stepA (k + 1, _)
    · exact .refl _
    · repeat' (first | exact trivial | refine ⟨⟨_, rfl, by first | rfl | exact inc_eq _ (by omega) | (refine sl_eq ?_; simp; done), by first | exact trivial | simp [SV.ok]⟩, ?_⟩)
    · exact trivial
    · try dsimp only
      exact ⟨by omega, by rw [← take_stepz xs k default zFilter (by omega)] ; assumption⟩
    · try dsimp only
      omega
  ·
    simp at q1
    obtain rfl : k = xs.length := by omega
    rw [List.take_length, Nat.sub_self, List.replicate_zero, List.append_nil] at oA
    exact ⟨_, ⟨_, _, rfl, oA⟩, (.le fun a => by (try simp only [setR, List.cons_append, List.nil_append]); simp only [List.flatten_append, List.flatten_cons, List.flatten_nil, List.count_append, List.count_nil, List.append_nil, List.nil_append]; omega)⟩
--@ct laws.eqFilterS val eqFilterS_ct _ _ _ _ _ _ $1 $2 | ⟨%1, %2⟩
theorem eqFilterS_ct (b1 : Option Addr) (m1 c1 : Nat) (b2 : Option Addr) (m2 c2 : Nat) (xs ys : List Filter) :
    Ct Tryz.prog 84 [.slice b1 m1 c1, .slice b2 m2 c2] [] (fun H => (gSl 220 gFilter).rd H [.slice b1 m1 c1] xs ∧ (gSl 220 gFilter).rd H [.slice b2 m2 c2] ys) (fun v A => v = .bool (decide (xs = ys)) ∧ A = []) := by
  refine Ct.intro0 G_ok Tryz.func84 rfl rfl rfl fun E H hp => ?_
  obtain ⟨hp1, hp2⟩ := hp
  obtain ⟨rfl, hc1, hl1⟩ := sl_len hp1
  obtain ⟨rfl, hc2, hl2⟩ := sl_len hp2
  refine VCsplit.intro (fun q0 => ?_) (fun q0 => ?_)
  ·
    simp at q0
    exact ⟨[], ⟨by rw [decide_eq_false (fun e => by subst e; omega)], rfl⟩, (.le fun a => by (try simp only [setR, List.cons_append, List.nil_append]); simp only [List.flatten_append, List.flatten_cons, List.flatten_nil, List.count_append, List.count_nil, List.append_nil, List.nil_append]; omega)⟩
  ·
    simp at q0
    apply loop_mod (α := (Nat)) G_ok [11, 12, 13, 14, 17, 18, 19, 20, 21, 22, 23, 24, 25, 26, 4, 15, 16, 5] (fun z => [(5, .v (.int .i64 z))]) (fun z => []) (fun z => [H]) (fun z => xs.length - z) (fun z => z ≤ xs.length ∧ xs.take z = ys.take z) (0)
    · repeat' (first | exact trivial | refine ⟨⟨_, rfl, by first | rfl | exact inc_eq _ (by omega) | (refine sl_eq ?_; simp; done), by first | exact trivial | simp [SV.ok]⟩, ?_⟩)
    · exact trivial
    · exact ⟨by omega, by simp⟩
    · exact .refl _
    rintro k hI
    obtain ⟨hk, he⟩ : k ≤ xs.length ∧ xs.take k = ys.take k := hI
    try dsimp only
    refine VCsplit.intro (fun q1 => ?_) (fun q1 => ?_)
    ·
      simp at q1
      refine draw G_ok mixed none (.q 0 (.q 1 (.q 2 (.q 3 (.q 4 (.q 5 (.q 6 (.q 7 (.f 8 (.q 9 (.nil))))))))))) (by decide +kernel) ?_
      refine idx_rd hp1 ?_ ?_ fun b2 o2 hb2 => ?_
      · omega
      · omega
      refine load_allN default (k) rfl hp1 ?_ ?_ hb2 rfl (mem_at 0 rfl) fun l3 hl3 => ?_
      · omega
      · omega
      obtain ⟨rfl, w0x3, w1x3, w2x3, w3x3⟩ := gFilter_rd.1 hl3
      refine idx_rd hp2 ?_ ?_ fun b4 o4 hb4 => ?_
      · omega
      · omega
      refine load_allN default (k) rfl hp2 ?_ ?_ hb4 rfl (mem_at 0 rfl) fun l5 hl5 => ?_
      · omega
      · omega
      obtain ⟨rfl, w0x5, w1x5, w2x5, w3x5⟩ := gFilter_rd.1 hl5
      refine call_val (eqFilter_ct _ _ (xs[k]?.getD default) (ys[k]?.getD default)) ⟨(Rp.mono _ (mem_at 0 rfl) hl3), (Rp.mono _ (mem_at 0 rfl) hl5)⟩ ?_
      rintro _ rfl
      refine VC.intro ?_ ?_
      · exact fun _ h => h
      refine VCsplit.intro (fun q7 => ?_) (fun q7 => ?_)
      ·
        simp at q7
        exact ⟨[], ⟨by rw [decide_eq_false (fun e => by subst e; simp at *)], rfl⟩, (.le fun a => by (try simp only [setR, List.cons_append, List.nil_append]); simp only [List.flatten_append, List.flatten_cons, List.flatten_nil, List.count_append, List.count_nil, List.append_nil, List.nil_append]; omega)⟩
      ·
        simp at q7
        apply loop_stepA (k + 1)
        · exact .refl _
        · repeat' (first | exact trivial | refine ⟨⟨_, rfl, by first | rfl | exact inc_eq _ (by omega) | (refine sl_eq ?_; simp; done), by first | exact trivial | simp [SV.ok]⟩, ?_⟩)
        · exact trivial
        · exact ⟨by omega, eq_step default (by omega) he (by omega) (by simpa using ‹_›)⟩
        · omega
    ·
      simp at q1
      exact ⟨[], ⟨by rw [decide_eq_true]; rw [← List.take_length (l := xs), ← List.take_length (l := ys), ← (by omega : xs.length = ys.length), show xs.length = k by omega]; exact he, rfl⟩, (.le fun a => by (try simp only [setR, List.cons_append, List.nil_append]); simp only [List.flatten_append, List.flatten_cons, List.flatten_nil, List.count_append, List.count_nil, List.append_nil, List.nil_append]; omega)⟩
--@ct laws.szQuery raw refine call_q (szQuery_ct _ $1 _ ?_ ?_) %1 ?_ | | rintro _ ⟨r#, rfl, hr#⟩
theorem szQuery_ct (l : List Value) (x : Query) (left : Int) (h0 : 0 ≤ left) (h1 : left ≤ 1048576) :
    Ct Tryz.prog 9 [.agg ⟨l⟩, .int .i64 left] [] (fun H => gQuery.rd H l x) (fun v A => (∃ r : Int, v = .int .i64 r ∧ ((r = -1 ∧ left < (gQuery.sz x : Int)) ∨ (r = left - (gQuery.sz x : Int) ∧ (gQuery.sz x : Int) ≤ left))) ∧ A = []) := by
  refine Ct.intro0 G_ok Tryz.func9 rfl rfl rfl fun E H hp => ?_
  obtain ⟨b1, c1, b2, c2, b3, c3, rfl, h1, h2, h3⟩ := gQuery_rd.1 hp
  have hz := gQuery_sz x
  refine VCnew.intro fun x0 => ?_
  refine call_q (szStringS_ct _ _ _ (x.out) _ ?_ ?_) (Rp.mono _ (mem_at 0 rfl) h1) ?_
  · trivial
  · trivial
  rintro _ ⟨r1, rfl, hr1⟩
  refine VCsplit.intro (fun q2 => ?_) (fun q2 => ?_)
  ·
    simp at q2
    exact ⟨[], ⟨⟨-1, rfl, .inl ⟨rfl, by (try simp (disch := omega) only [wrap_of] at *); omega⟩⟩, rfl⟩, (.le fun a => by (try simp only [setR, List.cons_append, List.nil_append]); simp only [List.flatten_append, List.flatten_cons, List.flatten_nil, List.count_append, List.count_nil, List.append_nil, List.nil_append]; omega)⟩
  ·
    simp at q2
    refine call_q (szAtomS_ct _ _ _ (x.atoms) _ ?_ ?_) (Rp.mono _ (mem_at 0 rfl) h2) ?_
    · trivial
    · omega
    rintro _ ⟨r3, rfl, hr3⟩
    refine VCsplit.intro (fun q4 => ?_) (fun q4 => ?_)
    ·
      simp at q4
      exact ⟨[], ⟨⟨-1, rfl, .inl ⟨rfl, by (try simp (disch := omega) only [wrap_of] at *); omega⟩⟩, rfl⟩, (.le fun a => by (try simp only [setR, List.cons_append, List.nil_append]); simp only [List.flatten_append, List.flatten_cons, List.flatten_nil, List.count_append, List.count_nil, List.append_nil, List.nil_append]; omega)⟩
    ·
      simp at q4
      refine call_q (szFilterS_ct _ _ _ (x.filters) _ ?_ ?_) (Rp.mono _ (mem_at 0 rfl) h3) ?_
      · trivial
      · omega
      rintro _ ⟨r5, rfl, hr5⟩
      refine VCsplit.intro (fun q6 => ?_) (fun q6 => ?_)
      ·
        simp at q6
        exact ⟨[], ⟨⟨-1, rfl, .inl ⟨rfl, by (try simp (disch := omega) only [wrap_of] at *); omega⟩⟩, rfl⟩, (.le fun a => by (try simp only [setR, List.cons_append, List.nil_append]); simp only [List.flatten_append, List.flatten_cons, List.flatten_nil, List.count_append, List.count_nil, List.append_nil, List.nil_append]; omega)⟩
      ·
        simp at q6
        exact ⟨[], ⟨⟨_, rfl, .inr ⟨by (try simp (disch := omega) only [wrap_of] at *); omega, by omega⟩⟩, rfl⟩, (.le fun a => by (try simp only [setR, List.cons_append, List.nil_append]); simp only [List.flatten_append, List.flatten_cons, List.flatten_nil, List.count_append, List.count_nil, List.append_nil, List.nil_append]; omega)⟩
--@ct laws.toQuery new toQuery_ct _ $1 ?_ | %1 | obtain ⟨l#, rfl, o#⟩ := o# ;; have r# := Gt.owrd _ o# ;; obtain ⟨b1x#, c1x#, b2x#, c2x#, b3x#, c3x#, rfl, h1x#, h2x#, h3x#⟩ := gQuery_rd.1 r#
theorem toQuery_ct (l : List Value) (x : Query) (hx : gQuery.sz x ≤ 1048576) :
    Ct Tryz.prog 12 [.agg ⟨l⟩] [] (fun H => gQuery.rd H l x) (fun v A => ∃ l, v = .agg ⟨l⟩ ∧ gQuery.ow l x A) := by
  refine Ct.intro0 G_ok Tryz.func12 rfl rfl rfl fun E H hp => ?_
  obtain ⟨b1, c1, b2, c2, b3, c3, rfl, h1, h2, h3⟩ := gQuery_rd.1 hp
  have hz := gQuery_sz x
  refine VCnew.intro fun x0 => ?_
  refine VCnew.intro fun x1 => ?_
  refine VCnew.intro fun x2 => ?_
  refine call_new (toStringS_ct _ _ _ (x.out) ?_) (Rp.mono _ (mem_at 0 rfl) h1) ?_
  · omega
  rintro v3 A3 o3
  obtain ⟨b3, c3, rfl, o3⟩ := o3
  refine call_new (toAtomS_ct _ _ _ (x.atoms) ?_) (Rp.mono _ (mem_at 1 rfl) h2) ?_
  · omega
  rintro v4 A4 o4
  obtain ⟨b4, c4, rfl, o4⟩ := o4
  refine call_new (toFilterS_ct _ _ _ (x.filters) ?_) (Rp.mono _ (mem_at 2 rfl) h3) ?_
  · omega
  rintro v5 A5 o5
  obtain ⟨b5, c5, rfl, o5⟩ := o5
  exact ⟨_, ⟨_, rfl, gQuery_ow.2 ⟨_, _, _, _, _, _, _, _, _, rfl, .refl _, by assumption, by assumption, by assumption⟩⟩, (.le fun a => by (try simp only [setR, List.cons_append, List.nil_append]); simp only [List.flatten_append, List.flatten_cons, List.flatten_nil, List.count_append, List.count_nil, List.append_nil, List.nil_append]; omega)⟩
--@ct laws.eqQuery val eqQuery_ct _ _ $1 $2 | ⟨%1, %2⟩
theorem eqQuery_ct (l1 l2 : List Value) (x y : Query) :
    Ct Tryz.prog 17 [.agg ⟨l1⟩, .agg ⟨l2⟩] [] (fun H => gQuery.rd H l1 x ∧ gQuery.rd H l2 y) (fun v A => v = .bool (decide (x = y)) ∧ A = []) := by
  refine Ct.intro0 G_ok Tryz.func17 rfl rfl rfl fun E H hp => ?_
  obtain ⟨hp1, hp2⟩ := hp
  obtain ⟨b1p, c1p, b2p, c2p, b3p, c3p, rfl, h1p, h2p, h3p⟩ := gQuery_rd.1 hp1
  obtain ⟨b1q, c1q, b2q, c2q, b3q, c3q, rfl, h1q, h2q, h3q⟩ := gQuery_rd.1 hp2
  refine VCnew.intro fun x0 => ?_
  refine VCnew.intro fun x1 => ?_
  refine VCsplit.intro (fun q2 => ?_) (fun q2 => ?_)
  ·
    simp at q2
    exact ⟨[], ⟨by rw [decide_eq_false (fun e => by subst e; simp at *)], rfl⟩, (.le fun a => by (try simp only [setR, List.cons_append, List.nil_append]); simp only [List.flatten_append, List.flatten_cons, List.flatten_nil, List.count_append, List.count_nil, List.append_nil, List.nil_append]; omega)⟩
  ·
    simp at q2
    refine call_val (eqStringS_ct _ _ _ _ _ _ (x.out) (y.out)) ⟨(Rp.mono _ (mem_at 0 rfl) h1p), (Rp.mono _ (mem_at 0 rfl) h1q)⟩ ?_
    rintro _ rfl
    refine VCsplit.intro (fun q4 => ?_) (fun q4 => ?_)
    ·
      simp at q4
      exact ⟨[], ⟨by rw [decide_eq_false (fun e => by subst e; simp at *)], rfl⟩, (.le fun a => by (try simp only [setR, List.cons_append, List.nil_append]); simp only [List.flatten_append, List.flatten_cons, List.flatten_nil, List.count_append, List.count_nil, List.append_nil, List.nil_append]; omega)⟩
    ·
      simp at q4
      refine call_val (eqAtomS_ct _ _ _ _ _ _ (x.atoms) (y.atoms)) ⟨(Rp.mono _ (mem_at 0 rfl) h2p), (Rp.mono _ (mem_at 0 rfl) h2q)⟩ ?_
      rintro _ rfl
      refine VCsplit.intro (fun q6 => ?_) (fun q6 => ?_)
      ·
        simp at q6
        exact ⟨[], ⟨by rw [decide_eq_false (fun e => by subst e; simp at *)], rfl⟩, (.le fun a => by (try simp only [setR, List.cons_append, List.nil_append]); simp only [List.flatten_append, List.flatten_cons, List.flatten_nil, List.count_append, List.count_nil, List.append_nil, List.nil_append]; omega)⟩
      ·
        simp at q6
        refine call_val (eqFilterS_ct _ _ _ _ _ _ (x.filters) (y.filters)) ⟨(Rp.mono _ (mem_at 0 rfl) h3p), (Rp.mono _ (mem_at 0 rfl) h3q)⟩ ?_
        rintro _ rfl
        refine VCsplit.intro (fun q8 => ?_) (fun q8 => ?_)
        ·
          simp at q8
          exact ⟨[], ⟨by rw [decide_eq_false (fun e => by subst e; simp at *)], rfl⟩, (.le fun a => by (try simp only [setR, List.cons_append, List.nil_append]); simp only [List.flatten_append, List.flatten_cons, List.flatten_nil, List.count_append, List.count_nil, List.append_nil, List.nil_append]; omega)⟩
        ·
          simp at q8
          exact ⟨[], ⟨by rw [decide_eq_true (Query.eq_iff.2 (by simp_all))], rfl⟩, (.le fun a => by (try simp only [setR, List.cons_append, List.nil_append]); simp only [List.flatten_append, List.flatten_cons, List.flatten_nil, List.count_append, List.count_nil, List.append_nil, List.nil_append]; omega)⟩
--@ct laws.szFile raw refine call_q (szFile_ct _ $1 _ ?_ ?_) %1 ?_ | | rintro _ ⟨r#, rfl, hr#⟩
--@ct laws.toFile new toFile_ct _ $1 ?_ | %1 | obtain ⟨l#, rfl, o#⟩ := o# ;; have r# := Gt.owrd _ o# ;; obtain ⟨rfl, w0x#, w1x#, w2x#⟩ := gFile_rd.1 r#
--@ct laws.eqFile val eqFile_ct _ _ $1 $2 | ⟨%1, %2⟩
--@ct laws.szFileS raw refine call_q (szFileS_ct _ _ _ $1 _ ?_ ?_) %1 ?_ | | rintro _ ⟨r#, rfl, hr#⟩
--@ct laws.toFileS new toFileS_ct _ _ _ $1 ?_ | %1 | obtain ⟨b#, c#, rfl, o#⟩ := o#
--@ct laws.eqFileS val eqFileS_ct _ _ _ _ _ _ $1 $2 | ⟨%1, %2⟩
--@ct laws.szDisk raw refine call_q (szDisk_ct _ $1 _ ?_ ?_) %1 ?_ | | rintro _ ⟨r#, rfl, hr#⟩
--@ct laws.toDisk new toDisk_ct _ $1 ?_ | %1 | obtain ⟨l#, rfl, o#⟩ := o# ;; have r# := Gt.owrd _ o# ;; obtain ⟨b0x#, c0x#, rfl, h0x#⟩ := gDisk_rd.1 r#
--@ct laws.eqDisk val eqDisk_ct _ _ $1 $2 | ⟨%1, %2⟩
--@ct laws.toWalk new toWalk_ct _ $1 ?_ | %1 | obtain ⟨l#, rfl, o#⟩ := o# ;; have r# := Gt.owrd _ o# ;; obtain ⟨rfl, w0x#, w1x#, w2x#, w3x#⟩ := gWalk_rd.1 r#
theorem toWalk_ct (l : List Value) (x : Walk) (hx : gWalk.sz x ≤ 1048576) :
    Ct Tryz.prog 175 [.agg ⟨l⟩] [] (fun H => gWalk.rd H l x) (fun v A => ∃ l, v = .agg ⟨l⟩ ∧ gWalk.ow l x A) := by
  refine Ct.intro0 G_ok Tryz.func175 rfl rfl rfl fun E H hp => ?_
  obtain ⟨rfl, w0, w1, w2, w3⟩ := gWalk_rd.1 hp
  have hz := gWalk_sz x
  refine VCnew.intro fun x0 => ?_
  refine VCnew.intro fun x1 => ?_
  refine VCnew.intro fun x2 => ?_
  exact ⟨_, ⟨_, rfl, gWalk_ow.2 ⟨rfl, .refl _, by assumption, by assumption, by assumption, by assumption⟩⟩, (.le fun a => by (try simp only [setR, List.cons_append, List.nil_append]); simp only [List.flatten_append, List.flatten_cons, List.flatten_nil, List.count_append, List.count_nil, List.append_nil, List.nil_append]; omega)⟩
--@ct laws.eqWalk val eqWalk_ct _ _ $1 $2 | ⟨%1, %2⟩
theorem eqWalk_ct (l1 l2 : List Value) (x y : Walk) :
    Ct Tryz.prog 184 [.agg ⟨l1⟩, .agg ⟨l2⟩] [] (fun H => gWalk.rd H l1 x ∧ gWalk.rd H l2 y) (fun v A => v = .bool (decide (x = y)) ∧ A = []) := by
  refine Ct.intro0 G_ok Tryz.func184 rfl rfl rfl fun E H hp => ?_
  obtain ⟨hp1, hp2⟩ := hp
  obtain ⟨rfl, w0p, w1p, w2p, w3p⟩ := gWalk_rd.1 hp1
  obtain ⟨rfl, w0q, w1q, w2q, w3q⟩ := gWalk_rd.1 hp2
  refine VCnew.intro fun x0 => ?_
  refine VCnew.intro fun x1 => ?_
  refine VCsplit.intro (fun q2 => ?_) (fun q2 => ?_)
  ·
    simp at q2
    exact ⟨[], ⟨by rw [decide_eq_false (fun e => by subst e; simp at *)], rfl⟩, (.le fun a => by (try simp only [setR, List.cons_append, List.nil_append]); simp only [List.flatten_append, List.flatten_cons, List.flatten_nil, List.count_append, List.count_nil, List.append_nil, List.nil_append]; omega)⟩
  ·
    simp at q2
    refine VCsplit.intro (fun q3 => ?_) (fun q3 => ?_)
    ·
      simp at q3
      exact ⟨[], ⟨by rw [decide_eq_false (fun e => by subst e; simp at *)], rfl⟩, (.le fun a => by (try simp only [setR, List.cons_append, List.nil_append]); simp only [List.flatten_append, List.flatten_cons, List.flatten_nil, List.count_append, List.count_nil, List.append_nil, List.nil_append]; omega)⟩
    ·
      simp at q3
      refine VCsplit.intro (fun q4 => ?_) (fun q4 => ?_)
      ·
        simp at q4
        exact ⟨[], ⟨by rw [decide_eq_false (fun e => by subst e; simp at *)], rfl⟩, (.le fun a => by (try simp only [setR, List.cons_append, List.nil_append]); simp only [List.flatten_append, List.flatten_cons, List.flatten_nil, List.count_append, List.count_nil, List.append_nil, List.nil_append]; omega)⟩
      ·
        simp at q4
        refine VCsplit.intro (fun q5 => ?_) (fun q5 => ?_)
        ·
          simp at q5
          exact ⟨[], ⟨by rw [decide_eq_false (fun e => by subst e; simp at *)], rfl⟩, (.le fun a => by (try simp only [setR, List.cons_append, List.nil_append]); simp only [List.flatten_append, List.flatten_cons, List.flatten_nil, List.count_append, List.count_nil, List.append_nil, List.nil_append]; omega)⟩
        ·
          simp at q5
          exact ⟨[], ⟨by rw [decide_eq_true (Walk.eq_iff.2 (by simp_all))], rfl⟩, (.le fun a => by (try simp only [setR, List.cons_append, List.nil_append]); simp only [List.flatten_append, List.flatten_cons, List.flatten_nil, List.count_append, List.count_nil, List.append_nil, List.nil_append]; omega)⟩
--@ct laws.szWalkS raw refine call_q (szWalkS_ct _ _ _ $1 _ ?_ ?_) %1 ?_ | | rintro _ ⟨r#, rfl, hr#⟩
theorem szWalkS_ct (b : Option Addr) (m c : Nat) (xs : List Walk) (left : Int) (h0 : 0 ≤ left) (h1 : left ≤ 1048576) :
    Ct Tryz.prog 90 [.slice b m c, .int .i64 left] [] (fun H => (gSl 164 gWalk).rd H [.slice b m c] xs) (fun v A => (∃ r : Int, v = .int .i64 r ∧ ((r = -1 ∧ left < (szL gWalk xs : Int)) ∨ (r = left - (szL gWalk xs : Int) ∧ (szL gWalk xs : Int) ≤ left))) ∧ A = []) := by
  refine Ct.intro0 G_ok Tryz.func90 rfl rfl rfl fun E H hp => ?_
  obtain ⟨rfl, hcl, hl⟩ := sl_len hp
  have hq := szL_eq gWalk xs
  have hz := szE_zero gWalk (fun _ => rfl) xs
  refine VCsplit.intro (fun q0 => ?_) (fun q0 => ?_)
  ·
    simp at q0
    simp (disch := omega) only [wrap_of] at q0
    exact ⟨[], ⟨⟨-1, rfl, .inl ⟨rfl, by (try simp (disch := omega) only [wrap_of] at *); omega⟩⟩, rfl⟩, (.le fun a => by (try simp only [setR, List.cons_append, List.nil_append]); simp only [List.flatten_append, List.flatten_cons, List.flatten_nil, List.count_append, List.count_nil, List.append_nil, List.nil_append]; omega)⟩
  ·
    simp at q0
    simp (disch := omega) only [wrap_of] at q0
    exact ⟨[], ⟨⟨_, rfl, .inr ⟨by (try simp (disch := omega) only [wrap_of] at *); omega, by omega⟩⟩, rfl⟩, (.le fun a => by (try simp only [setR, List.cons_append, List.nil_append]); simp only [List.flatten_append, List.flatten_cons, List.flatten_nil, List.count_append, List.count_nil, List.append_nil, List.nil_append]; omega)⟩
--@ct laws.toWalkS new toWalkS_ct _ _ _ $1 ?_ | %1 | obtain ⟨b#, c#, rfl, o#⟩ := o#
theorem toWalkS_ct (b : Option Addr) (m c : Nat) (xs : List Walk) (hx : szL gWalk xs ≤ 1048576) :
    Ct Tryz.prog 93 [.slice b m c] [] (fun H => (gSl 164 gWalk).rd H [.slice b m c] xs) (fun v A => ∃ b c, v = .slice b xs.length c ∧ (gSl 164 gWalk).ow [.slice b xs.length c] xs A) := by
  refine Ct.intro0 G_ok Tryz.func93 rfl rfl rfl fun E H hp => ?_
  obtain ⟨rfl, hcl, hl⟩ := sl_len hp
  have hls := len_szL gWalk xs
  refine VCmake.intro ?_ ?_ ?_ ?_ fun x0 => ?_
  · omega
  · omega
  · omega
  · omega
  apply loop_mod (α := (Nat) × (Hp)) G_ok [8, 9, 10, 11, 14, 15, 16, 17, 18, 19, 20, 21, 12, 13, 4] (fun z => [(4, .v (.int .i64 z.1))]) (fun z => []) (fun z => [z.2, H]) (fun z => xs.length - z.1) (fun z => z.1 ≤ xs.length ∧ (gSl 164 gWalk).ow [.slice (some ⟨x0, 0, none⟩) xs.length xs.length] (xs.take z.1 ++ List.replicate (xs.length - z.1) zWalk) z.2) ((0, _))
  · repeat' (first | exact trivial | refine ⟨⟨_, rfl, by first | rfl | exact inc_eq _ (by omega) | (refine sl_eq ?_; simp; done), by first | exact trivial | simp [SV.ok]⟩, ?_⟩)
  · exact trivial
  · try dsimp only
    exact ⟨by omega, by simpa using gmake (g := gWalk) (T := 164) (b := x0) (zWalk_ow) (Nat.le_refl xs.length) (by omega)⟩
  · exact .refl _
  rintro ⟨k, A⟩ hI
  obtain ⟨hk, oA⟩ : k ≤ xs.length ∧ (gSl 164 gWalk).ow [.slice (some ⟨x0, 0, none⟩) xs.length xs.length] (xs.take k ++ List.replicate (xs.length - k) zWalk) A := hI
  try dsimp only
  refine VCsplit.intro (fun q1 => ?_) (fun q1 => ?_)
  ·
    simp at q1
    refine idx_rd hp ?_ ?_ fun b2 o2 hb2 => ?_
    · omega
    · omega
    refine load_allN default (k) rfl hp ?_ ?_ hb2 rfl (mem_at 1 rfl) fun l3 hl3 => ?_
    · omega
    · omega
    obtain ⟨rfl, w0x3, w1x3, w2x3, w3x3⟩ := gWalk_rd.1 hl3
    refine call_new (toWalk_ct _ (xs[k]?.getD default) ?_) (Rp.mono _ (mem_at 1 rfl) hl3) ?_
    · exact Nat.zero_le 1048576
    rintro v4 A4 o4
    obtain ⟨l4, rfl, o4⟩ := o4
    have r4 := Gt.owrd _ o4
    obtain ⟨rfl, w0x4, w1x4, w2x4, w3x4⟩ := gWalk_rd.1 r4
    refine idx_rd (Gt.owrd _ oA) ?_ ?_ fun b5 o5 hb5 => ?_
    · omega
    · simp; omega
    refine gstore1N (k) (A) (A4) [H] (.le fun a => by (try simp only [setR, List.cons_append, List.nil_append]); simp only [List.flatten_append, List.flatten_cons, List.flatten_nil, List.count_append, List.count_nil, List.append_nil, List.nil_append]; omega) rfl oA ?_ ?_ hb5 rfl _ o4 fun A6 o6 => ?_
    · omega
    · simp; omega
    apply loop_stepA (k + 1, _)
    · exact .refl _
    · repeat' (first | exact trivial | refine ⟨⟨_, rfl, by first | rfl | exact inc_eq _ (by omega) | (refine sl_eq ?_; simp; done), by first | exact trivial | simp [SV.ok]⟩, ?_⟩)
    · exact trivial
    · try dsimp only
      exact ⟨by omega, by rw [← take_stepz xs k default zWalk (by omega)] ; assumption⟩
    · try dsimp only
      omega
  ·
    simp at q1
    obtain rfl : k = xs.length := by omega
    rw [List.take_length, Nat.sub_self, List.replicate_zero, List.append_nil] at oA
    exact ⟨_, ⟨_, _, rfl, oA⟩, (.le fun a => by (try simp only [setR, List.cons_append, List.nil_append]); simp only [List.flatten_append, List.flatten_cons, List.flatten_nil, List.count_append, List.count_nil, List.append_nil, List.nil_append]; omega)⟩
--@ct laws.eqWalkS val eqWalkS_ct _ _ _ _ _ _ $1 $2 | ⟨%1, %2⟩
theorem eqWalkS_ct (b1 : Option Addr) (m1 c1 : Nat) (b2 : Option Addr) (m2 c2 : Nat) (xs ys : List Walk) :
    Ct Tryz.prog 96 [.slice b1 m1 c1, .slice b2 m2 c2] [] (fun H => (gSl 164 gWalk).rd H [.slice b1 m1 c1] xs ∧ (gSl 164 gWalk).rd H [.slice b2 m2 c2] ys) (fun v A => v = .bool (decide (xs = ys)) ∧ A = []) := by
  refine Ct.intro0 G_ok Tryz.func96 rfl rfl rfl fun E H hp => ?_
  obtain ⟨hp1, hp2⟩ := hp
  obtain ⟨rfl, hc1, hl1⟩ := sl_len hp1
  obtain ⟨rfl, hc2, hl2⟩ := sl_len hp2
  refine VCsplit.intro (fun q0 => ?_) (fun q0 => ?_)
  ·
    simp at q0
    exact ⟨[], ⟨by rw [decide_eq_false (fun e => by subst e; omega)], rfl⟩, (.le fun a => by (try simp only [setR, List.cons_append, List.nil_append]); simp only [List.flatten_append, List.flatten_cons, List.flatten_nil, List.count_append, List.count_nil, List.append_nil, List.nil_append]; omega)⟩
  ·
    simp at q0
    apply loop_mod (α := (Nat)) G_ok [11, 12, 13, 14, 17, 18, 19, 20, 21, 22, 23, 24, 25, 26, 4, 15, 16, 5] (fun z => [(5, .v (.int .i64 z))]) (fun z => []) (fun z => [H]) (fun z => xs.length - z) (fun z => z ≤ xs.length ∧ xs.take z = ys.take z) (0)
    · repeat' (first | exact trivial | refine ⟨⟨_, rfl, by first | rfl | exact inc_eq _ (by omega) | (refine sl_eq ?_; simp; done), by first | exact trivial | simp [SV.ok]⟩, ?_⟩)
    · exact trivial
    · exact ⟨by omega, by simp⟩
    · exact .refl _
    rintro k hI
    obtain ⟨hk, he⟩ : k ≤ xs.length ∧ xs.take k = ys.take k := hI
    try dsimp only
    refine VCsplit.intro (fun q1 => ?_) (fun q1 => ?_)
    ·
      simp at q1
      refine draw G_ok mixed none (.q 0 (.q 1 (.q 2 (.q 3 (.q 4 (.q 5 (.q 6 (.q 7 (.f 8 (.q 9 (.nil))))))))))) (by decide +kernel) ?_
      refine idx_rd hp1 ?_ ?_ fun b2 o2 hb2 => ?_
      · omega
      · omega
      refine load_allN default (k) rfl hp1 ?_ ?_ hb2 rfl (mem_at 0 rfl) fun l3 hl3 => ?_
      · omega
      · omega
      obtain ⟨rfl, w0x3, w1x3, w2x3, w3x3⟩ := gWalk_rd.1 hl3
      refine idx_rd hp2 ?_ ?_ fun b4 o4 hb4 => ?_
      · omega
      · omega
      refine load_allN default (k) rfl hp2 ?_ ?_ hb4 rfl (mem_at 0 rfl) fun l5 hl5 => ?_
      · omega
      · omega
      obtain ⟨rfl, w0x5, w1x5, w2x5, w3x5⟩ := gWalk_rd.1 hl5
      refine call_val (eqWalk_ct _ _ (xs[k]?.getD default) (ys[k]?.getD default)) ⟨(Rp.mono _ (mem_at 0 rfl) hl3), (Rp.mono _ (mem_at 0 rfl) hl5)⟩ ?_
      rintro _ rfl
      refine VC.intro ?_ ?_
      · exact fun _ h => h
      refine VCsplit.intro (fun q7 => ?_) (fun q7 => ?_)
      ·
        simp at q7
        exact ⟨[], ⟨by rw [decide_eq_false (fun e => by subst e; simp at *)], rfl⟩, (.le fun a => by (try simp only [setR, List.cons_append, List.nil_append]); simp only [List.flatten_append, List.flatten_cons, List.flatten_nil, List.count_append, List.count_nil, List.append_nil, List.nil_append]; omega)⟩
      ·
        simp at q7
        apply loop_stepA (k + 1)
        · exact .refl _
        · repeat' (first | exact trivial | refine ⟨⟨_, rfl, by first | rfl | exact inc_eq _ (by omega) | (refine sl_eq ?_; simp; done), by first | exact trivial | simp [SV.ok]⟩, ?_⟩)
        · exact trivial
        · exact ⟨by omega, eq_step default (by omega) he (by omega) (by simpa using ‹_›)⟩
        · omega
    ·
      simp at q1
      exact ⟨[], ⟨by rw [decide_eq_true]; rw [← List.take_length (l := xs), ← List.take_length (l := ys), ← (by omega : xs.length = ys.length), show xs.length = k by omega]; exact he, rfl⟩, (.le fun a => by (try simp only [setR, List.cons_append, List.nil_append]); simp only [List.flatten_append, List.flatten_cons, List.flatten_nil, List.count_append, List.count_nil, List.append_nil, List.nil_append]; omega)⟩
--@ct laws.szLetter raw refine call_q (szLetter_ct _ $1 _ ?_ ?_) %1 ?_ | | rintro _ ⟨r#, rfl, hr#⟩
theorem szLetter_ct (l : List Value) (x : Letter) (left : Int) (h0 : 0 ≤ left) (h1 : left ≤ 1048576) :
    Ct Tryz.prog 259 [.agg ⟨l⟩, .int .i64 left] [] (fun H => gLetter.rd H l x) (fun v A => (∃ r : Int, v = .int .i64 r ∧ ((r = -1 ∧ left < (gLetter.sz x : Int)) ∨ (r = left - (gLetter.sz x : Int) ∧ (gLetter.sz x : Int) ≤ left))) ∧ A = []) := by
  refine Ct.intro0 G_ok Tryz.func259 rfl rfl rfl fun E H hp => ?_
  obtain ⟨b4, c4, rfl, w0, w1, w2, h4, w5⟩ := gLetter_rd.1 hp
  have hz := gLetter_sz x
  refine VCnew.intro fun x0 => ?_
  refine call_q (szWalkS_ct _ _ _ (x.walks) _ ?_ ?_) (Rp.mono _ (mem_at 0 rfl) h4) ?_
  · trivial
  · trivial
  rintro _ ⟨r1, rfl, hr1⟩
  refine VCsplit.intro (fun q2 => ?_) (fun q2 => ?_)
  ·
    simp at q2
    exact ⟨[], ⟨⟨-1, rfl, .inl ⟨rfl, by (try simp (disch := omega) only [wrap_of] at *); omega⟩⟩, rfl⟩, (.le fun a => by (try simp only [setR, List.cons_append, List.nil_append]); simp only [List.flatten_append, List.flatten_cons, List.flatten_nil, List.count_append, List.count_nil, List.append_nil, List.nil_append]; omega)⟩
  ·
    simp at q2
    refine VCsplit.intro (fun q3 => ?_) (fun q3 => ?_)
    ·
      simp at q3
      simp (disch := omega) only [wrap_of] at q3
      exact ⟨[], ⟨⟨-1, rfl, .inl ⟨rfl, by (try simp (disch := omega) only [wrap_of] at *); omega⟩⟩, rfl⟩, (.le fun a => by (try simp only [setR, List.cons_append, List.nil_append]); simp only [List.flatten_append, List.flatten_cons, List.flatten_nil, List.count_append, List.count_nil, List.append_nil, List.nil_append]; omega)⟩
    ·
      simp at q3
      simp (disch := omega) only [wrap_of] at q3
      exact ⟨[], ⟨⟨_, rfl, .inr ⟨by (try simp (disch := omega) only [wrap_of] at *); omega, by omega⟩⟩, rfl⟩, (.le fun a => by (try simp only [setR, List.cons_append, List.nil_append]); simp only [List.flatten_append, List.flatten_cons, List.flatten_nil, List.count_append, List.count_nil, List.append_nil, List.nil_append]; omega)⟩
--@ct laws.toLetter new toLetter_ct _ $1 ?_ | %1 | obtain ⟨l#, rfl, o#⟩ := o# ;; have r# := Gt.owrd _ o# ;; obtain ⟨b4x#, c4x#, rfl, w0x#, w1x#, w2x#, h4x#, w5x#⟩ := gLetter_rd.1 r#
theorem toLetter_ct (l : List Value) (x : Letter) (hx : gLetter.sz x ≤ 1048576) :
    Ct Tryz.prog 260 [.agg ⟨l⟩] [] (fun H => gLetter.rd H l x) (fun v A => ∃ l, v = .agg ⟨l⟩ ∧ gLetter.ow l x A) := by
  refine Ct.intro0 G_ok Tryz.func260 rfl rfl rfl fun E H hp => ?_
  obtain ⟨b4, c4, rfl, w0, w1, w2, h4, w5⟩ := gLetter_rd.1 hp
  have hz := gLetter_sz x
  refine VCnew.intro fun x0 => ?_
  refine VCnew.intro fun x1 => ?_
  refine VCnew.intro fun x2 => ?_
  refine call_new (toWalkS_ct _ _ _ (x.walks) ?_) (Rp.mono _ (mem_at 0 rfl) h4) ?_
  · omega
  rintro v3 A3 o3
  obtain ⟨b3, c3, rfl, o3⟩ := o3
  exact ⟨_, ⟨_, rfl, gLetter_ow.2 ⟨_, _, _, rfl, .refl _, by assumption, by assumption, by assumption, by assumption, by assumption⟩⟩, (.le fun a => by (try simp only [setR, List.cons_append, List.nil_append]); simp only [List.flatten_append, List.flatten_cons, List.flatten_nil, List.count_append, List.count_nil, List.append_nil, List.nil_append]; omega)⟩
--@ct laws.eqLetter val eqLetter_ct _ _ $1 $2 | ⟨%1, %2⟩
theorem eqLetter_ct (l1 l2 : List Value) (x y : Letter) :
    Ct Tryz.prog 264 [.agg ⟨l1⟩, .agg ⟨l2⟩] [] (fun H => gLetter.rd H l1 x ∧ gLetter.rd H l2 y) (fun v A => v = .bool (decide (x = y)) ∧ A = []) := by
  refine Ct.intro0 G_ok Tryz.func264 rfl rfl rfl fun E H hp => ?_
  obtain ⟨hp1, hp2⟩ := hp
  obtain ⟨b4p, c4p, rfl, w0p, w1p, w2p, h4p, w5p⟩ := gLetter_rd.1 hp1
  obtain ⟨b4q, c4q, rfl, w0q, w1q, w2q, h4q, w5q⟩ := gLetter_rd.1 hp2
  refine VCnew.intro fun x0 => ?_
  refine VCnew.intro fun x1 => ?_
  refine VCsplit.intro (fun q2 => ?_) (fun q2 => ?_)
  ·
    simp at q2
    exact ⟨[], ⟨by rw [decide_eq_false (fun e => by subst e; simp at *)], rfl⟩, (.le fun a => by (try simp only [setR, List.cons_append, List.nil_append]); simp only [List.flatten_append, List.flatten_cons, List.flatten_nil, List.count_append, List.count_nil, List.append_nil, List.nil_append]; omega)⟩
  ·
    simp at q2
    refine VCsplit.intro (fun q3 => ?_) (fun q3 => ?_)
    ·
      simp at q3
      exact ⟨[], ⟨by rw [decide_eq_false (fun e => by subst e; simp at *)], rfl⟩, (.le fun a => by (try simp only [setR, List.cons_append, List.nil_append]); simp only [List.flatten_append, List.flatten_cons, List.flatten_nil, List.count_append, List.count_nil, List.append_nil, List.nil_append]; omega)⟩
    ·
      simp at q3
      refine VCsplit.intro (fun q4 => ?_) (fun q4 => ?_)
      ·
        simp at q4
        exact ⟨[], ⟨by rw [decide_eq_false (fun e => by subst e; simp at *)], rfl⟩, (.le fun a => by (try simp only [setR, List.cons_append, List.nil_append]); simp only [List.flatten_append, List.flatten_cons, List.flatten_nil, List.count_append, List.count_nil, List.append_nil, List.nil_append]; omega)⟩
      ·
        simp at q4
        refine VCsplit.intro (fun q5 => ?_) (fun q5 => ?_)
        ·
          simp at q5
          exact ⟨[], ⟨by rw [decide_eq_false (fun e => by subst e; simp at *)], rfl⟩, (.le fun a => by (try simp only [setR, List.cons_append, List.nil_append]); simp only [List.flatten_append, List.flatten_cons, List.flatten_nil, List.count_append, List.count_nil, List.append_nil, List.nil_append]; omega)⟩
        ·
          simp at q5
          refine call_val (eqWalkS_ct _ _ _ _ _ _ (x.walks) (y.walks)) ⟨(Rp.mono _ (mem_at 0 rfl) h4p), (Rp.mono _ (mem_at 0 rfl) h4q)⟩ ?_
          rintro _ rfl
          refine VCsplit.intro (fun q7 => ?_) (fun q7 => ?_)
          ·
            simp at q7
            exact ⟨[], ⟨by rw [decide_eq_false (fun e => by subst e; simp at *)], rfl⟩, (.le fun a => by (try simp only [setR, List.cons_append, List.nil_append]); simp only [List.flatten_append, List.flatten_cons, List.flatten_nil, List.count_append, List.count_nil, List.append_nil, List.nil_append]; omega)⟩
          ·
            simp at q7
            refine VCsplit.intro (fun q8 => ?_) (fun q8 => ?_)
            ·
              simp at q8
              simp only [str_inj, u8_inj, u8_wrap] at q8
              exact ⟨[], ⟨by rw [decide_eq_false (fun e => by subst e; simp at *)], rfl⟩, (.le fun a => by (try simp only [setR, List.cons_append, List.nil_append]); simp only [List.flatten_append, List.flatten_cons, List.flatten_nil, List.count_append, List.count_nil, List.append_nil, List.nil_append]; omega)⟩
            ·
              simp at q8
              simp only [str_inj, u8_inj, u8_wrap] at q8
              exact ⟨[], ⟨by rw [decide_eq_true (Letter.eq_iff.2 (by simp_all))], rfl⟩, (.le fun a => by (try simp only [setR, List.cons_append, List.nil_append]); simp only [List.flatten_append, List.flatten_cons, List.flatten_nil, List.count_append, List.count_nil, List.append_nil, List.nil_append]; omega)⟩
--@ct laws.szLink raw refine call_q (szLink_ct _ $1 _ ?_ ?_) %1 ?_ | | rintro _ ⟨r#, rfl, hr#⟩
--@ct laws.toLink new toLink_ct _ $1 ?_ | %1 | obtain ⟨l#, rfl, o#⟩ := o# ;; have r# := Gt.owrd _ o# ;; obtain ⟨b0x#, c0x#, rfl, h0x#, w1x#, w2x#⟩ := gLink_rd.1 r#
--@ct laws.eqLink val eqLink_ct _ _ $1 $2 | ⟨%1, %2⟩
--@ct laws.szGot raw refine call_q (szGot_ct _ $1 _ ?_ ?_) %1 ?_ | | rintro _ ⟨r#, rfl, hr#⟩
theorem szGot_ct (l : List Value) (x : Got) (left : Int) (h0 : 0 ≤ left) (h1 : left ≤ 1048576) :
    Ct Tryz.prog 214 [.agg ⟨l⟩, .int .i64 left] [] (fun H => gGot.rd H l x) (fun v A => (∃ r : Int, v = .int .i64 r ∧ ((r = -1 ∧ left < (gGot.sz x : Int)) ∨ (r = left - (gGot.sz x : Int) ∧ (gGot.sz x : Int) ≤ left))) ∧ A = []) := by
  refine Ct.intro0 G_ok Tryz.func214 rfl rfl rfl fun E H hp => ?_
  obtain ⟨l2, rfl, w0, w1, h2⟩ := gGot_rd.1 hp
  obtain ⟨b0_2, c0_2, rfl, h0_2⟩ := gBag_rd.1 h2
  have hz := gGot_sz x
  refine VCnew.intro fun x0 => ?_
  refine call_q (szBag_ct _ (x.bag) _ ?_ ?_) (Rp.mono _ (mem_at 0 rfl) h2) ?_
  · trivial
  · trivial
  rintro _ ⟨r1, rfl, hr1⟩
  refine VCsplit.intro (fun q2 => ?_) (fun q2 => ?_)
  ·
    simp at q2
    exact ⟨[], ⟨⟨-1, rfl, .inl ⟨rfl, by (try simp (disch := omega) only [wrap_of] at *); omega⟩⟩, rfl⟩, (.le fun a => by (try simp only [setR, List.cons_append, List.nil_append]); simp only [List.flatten_append, List.flatten_cons, List.flatten_nil, List.count_append, List.count_nil, List.append_nil, List.nil_append]; omega)⟩
  ·
    simp at q2
    exact ⟨[], ⟨⟨_, rfl, .inr ⟨by (try simp (disch := omega) only [wrap_of] at *); omega, by omega⟩⟩, rfl⟩, (.le fun a => by (try simp only [setR, List.cons_append, List.nil_append]); simp only [List.flatten_append, List.flatten_cons, List.flatten_nil, List.count_append, List.count_nil, List.append_nil, List.nil_append]; omega)⟩
--@ct laws.toGot new toGot_ct _ $1 ?_ | %1 | obtain ⟨l#, rfl, o#⟩ := o# ;; have r# := Gt.owrd _ o# ;; obtain ⟨l2x#, rfl, w0x#, w1x#, h2x#⟩ := gGot_rd.1 r# ;; obtain ⟨b0_2x#, c0_2x#, rfl, h0_2x#⟩ := gBag_rd.1 h2x#
theorem toGot_ct (l : List Value) (x : Got) (hx : gGot.sz x ≤ 1048576) :
    Ct Tryz.prog 225 [.agg ⟨l⟩] [] (fun H => gGot.rd H l x) (fun v A => ∃ l, v = .agg ⟨l⟩ ∧ gGot.ow l x A) := by
  refine Ct.intro0 G_ok Tryz.func225 rfl rfl rfl fun E H hp => ?_
  obtain ⟨l2, rfl, w0, w1, h2⟩ := gGot_rd.1 hp
  obtain ⟨b0_2, c0_2, rfl, h0_2⟩ := gBag_rd.1 h2
  have hz := gGot_sz x
  refine VCnew.intro fun x0 => ?_
  refine VCnew.intro fun x1 => ?_
  refine VCnew.intro fun x2 => ?_
  refine call_new (toBag_ct _ (x.bag) ?_) (Rp.mono _ (mem_at 0 rfl) h2) ?_
  · omega
  rintro v3 A3 o3
  obtain ⟨l3, rfl, o3⟩ := o3
  have r3 := Gt.owrd _ o3
  obtain ⟨b0x3, c0x3, rfl, h0x3⟩ := gBag_rd.1 r3
  exact ⟨_, ⟨_, rfl, gGot_ow.2 ⟨_, _, rfl, .refl _, by assumption, by assumption, by assumption⟩⟩, (.le fun a => by (try simp only [setR, List.cons_append, List.nil_append]); simp only [List.flatten_append, List.flatten_cons, List.flatten_nil, List.count_append, List.count_nil, List.append_nil, List.nil_append]; omega)⟩
--@ct laws.eqGot val eqGot_ct _ _ $1 $2 | ⟨%1, %2⟩
theorem eqGot_ct (l1 l2 : List Value) (x y : Got) :
    Ct Tryz.prog 235 [.agg ⟨l1⟩, .agg ⟨l2⟩] [] (fun H => gGot.rd H l1 x ∧ gGot.rd H l2 y) (fun v A => v = .bool (decide (x = y)) ∧ A = []) := by
  refine Ct.intro0 G_ok Tryz.func235 rfl rfl rfl fun E H hp => ?_
  obtain ⟨hp1, hp2⟩ := hp
  obtain ⟨l2p, rfl, w0p, w1p, h2p⟩ := gGot_rd.1 hp1
  obtain ⟨b0_2p, c0_2p, rfl, h0_2p⟩ := gBag_rd.1 h2p
  obtain ⟨l2q, rfl, w0q, w1q, h2q⟩ := gGot_rd.1 hp2
  obtain ⟨b0_2q, c0_2q, rfl, h0_2q⟩ := gBag_rd.1 h2q
  refine VCnew.intro fun x0 => ?_
  refine VCnew.intro fun x1 => ?_
  refine VCsplit.intro (fun q2 => ?_) (fun q2 => ?_)
  ·
    simp at q2
    exact ⟨[], ⟨by rw [decide_eq_false (fun e => by subst e; simp at *)], rfl⟩, (.le fun a => by (try simp only [setR, List.cons_append, List.nil_append]); simp only [List.flatten_append, List.flatten_cons, List.flatten_nil, List.count_append, List.count_nil, List.append_nil, List.nil_append]; omega)⟩
  ·
    simp at q2
    refine VCsplit.intro (fun q3 => ?_) (fun q3 => ?_)
    ·
      simp at q3
      exact ⟨[], ⟨by rw [decide_eq_false (fun e => by subst e; simp at *)], rfl⟩, (.le fun a => by (try simp only [setR, List.cons_append, List.nil_append]); simp only [List.flatten_append, List.flatten_cons, List.flatten_nil, List.count_append, List.count_nil, List.append_nil, List.nil_append]; omega)⟩
    ·
      simp at q3
      refine call_val (eqBag_ct _ _ (x.bag) (y.bag)) ⟨(Rp.mono _ (mem_at 0 rfl) h2p), (Rp.mono _ (mem_at 0 rfl) h2q)⟩ ?_
      rintro _ rfl
      refine VCsplit.intro (fun q5 => ?_) (fun q5 => ?_)
      ·
        simp at q5
        exact ⟨[], ⟨by rw [decide_eq_false (fun e => by subst e; simp at *)], rfl⟩, (.le fun a => by (try simp only [setR, List.cons_append, List.nil_append]); simp only [List.flatten_append, List.flatten_cons, List.flatten_nil, List.count_append, List.count_nil, List.append_nil, List.nil_append]; omega)⟩
      ·
        simp at q5
        exact ⟨[], ⟨by rw [decide_eq_true (Got.eq_iff.2 (by simp_all))], rfl⟩, (.le fun a => by (try simp only [setR, List.cons_append, List.nil_append]); simp only [List.flatten_append, List.flatten_cons, List.flatten_nil, List.count_append, List.count_nil, List.append_nil, List.nil_append]; omega)⟩
--@ct laws.szGotS raw refine call_q (szGotS_ct _ _ _ $1 _ ?_ ?_) %1 ?_ | | rintro _ ⟨r#, rfl, hr#⟩
theorem szGotS_ct (b : Option Addr) (m c : Nat) (xs : List Got) (left : Int) (h0 : 0 ≤ left) (h1 : left ≤ 1048576) :
    Ct Tryz.prog 125 [.slice b m c, .int .i64 left] [] (fun H => (gSl 188 gGot).rd H [.slice b m c] xs) (fun v A => (∃ r : Int, v = .int .i64 r ∧ ((r = -1 ∧ left < (szL gGot xs : Int)) ∨ (r = left - (szL gGot xs : Int) ∧ (szL gGot xs : Int) ≤ left))) ∧ A = []) := by
  refine Ct.intro0 G_ok Tryz.func125 rfl rfl rfl fun E H hp => ?_
  obtain ⟨rfl, hcl, hl⟩ := sl_len hp
  have hq := szL_eq gGot xs
  have ht := List.take_length (l := xs)
  refine VCsplit.intro (fun q0 => ?_) (fun q0 => ?_)
  ·
    simp at q0
    simp (disch := omega) only [wrap_of] at q0
    exact ⟨[], ⟨⟨-1, rfl, .inl ⟨rfl, by (try simp (disch := omega) only [wrap_of] at *); omega⟩⟩, rfl⟩, (.le fun a => by (try simp only [setR, List.cons_append, List.nil_append]); simp only [List.flatten_append, List.flatten_cons, List.flatten_nil, List.count_append, List.count_nil, List.append_nil, List.nil_append]; omega)⟩
  ·
    simp at q0
    simp (disch := omega) only [wrap_of] at q0
    apply loop_mod (α := (Nat) × (Int)) G_ok [12, 13, 14, 15, 18, 19, 20, 21, 22, 23, 1, 24, 25, 4, 16, 17, 5] (fun z => [(5, .v (.int .i64 z.1)), (1, .v (.int .i64 z.2))]) (fun z => []) (fun z => [H]) (fun z => xs.length - z.1) (fun z => z.1 ≤ xs.length ∧ z.2 = left - xs.length - szE gGot (xs.take z.1) ∧ 0 ≤ z.2) ((0, left - xs.length))
    · repeat' (first | exact trivial | refine ⟨⟨_, rfl, by first | rfl | exact inc_eq _ (by omega) | (refine sl_eq ?_; simp; done) | (simp (disch := omega) only [wrap_of]), by first | exact trivial | simp [SV.ok]⟩, ?_⟩)
    · exact trivial
    · try dsimp only
      exact ⟨by omega, by simp [szE], by omega⟩
    · exact .refl _
    rintro ⟨k, lf⟩ hI
    obtain ⟨hk, hlf, hnn⟩ : k ≤ xs.length ∧ lf = left - xs.length - szE gGot (xs.take k) ∧ 0 ≤ lf := hI
    try dsimp only
    refine VCsplit.intro (fun q1 => ?_) (fun q1 => ?_)
    ·
      simp at q1
      have hs := szE_step gGot xs k default (by omega)
      have hs2 := szE_le gGot xs (k + 1)
      refine idx_rd hp ?_ ?_ fun b2 o2 hb2 => ?_
      · omega
      · omega
      refine load_allN default (k) rfl hp ?_ ?_ hb2 rfl (mem_at 0 rfl) fun l3 hl3 => ?_
      · omega
      · omega
      obtain ⟨l2x3, rfl, w0x3, w1x3, h2x3⟩ := gGot_rd.1 hl3 ; obtain ⟨b0_2x3, c0_2x3, rfl, h0_2x3⟩ := gBag_rd.1 h2x3
      refine call_q (szGot_ct _ (xs[k]?.getD default) _ ?_ ?_) (Rp.mono _ (mem_at 0 rfl) hl3) ?_
      · trivial
      · omega
      rintro _ ⟨r4, rfl, hr4⟩
      refine VCsplit.intro (fun q5 => ?_) (fun q5 => ?_)
      ·
        simp at q5
        exact ⟨[], ⟨⟨-1, rfl, .inl ⟨rfl, by (try simp (disch := omega) only [wrap_of] at *); omega⟩⟩, rfl⟩, (.le fun a => by (try simp only [setR, List.cons_append, List.nil_append]); simp only [List.flatten_append, List.flatten_cons, List.flatten_nil, List.count_append, List.count_nil, List.append_nil, List.nil_append]; omega)⟩
      ·
        simp at q5
        apply loop_stepA (k + 1, _)
        · exact .refl _
        · repeat' (first | exact trivial | refine ⟨⟨_, rfl, by first | rfl | exact inc_eq _ (by omega) | (refine sl_eq ?_; simp; done) | (simp (disch := omega) only [wrap_of]), by first | exact trivial | simp [SV.ok]⟩, ?_⟩)
        · exact trivial
        · try dsimp only
          ((try simp (disch := omega) only [wrap_of] at *); refine ⟨by omega, by omega, by omega⟩)
        · try dsimp only
          omega
    ·
      simp at q1
      obtain rfl : k = xs.length := by omega
      rw [List.take_length] at hlf
      exact ⟨[], ⟨⟨_, rfl, .inr ⟨by (try simp (disch := omega) only [wrap_of] at *); omega, by omega⟩⟩, rfl⟩, (.le fun a => by (try simp only [setR, List.cons_append, List.nil_append]); simp only [List.flatten_append, List.flatten_cons, List.flatten_nil, List.count_append, List.count_nil, List.append_nil, List.nil_append]; omega)⟩
--@ct laws.toGotS new toGotS_ct _ _ _ $1 ?_ | %1 | obtain ⟨b#, c#, rfl, o#⟩ := o#
theorem toGotS_ct (b : Option Addr) (m c : Nat) (xs : List Got) (hx : szL gGot xs ≤ 1048576) :
    Ct Tryz.prog 129 [.slice b m c] [] (fun H => (gSl 188 gGot).rd H [.slice b m c] xs) (fun v A => ∃ b c, v = .slice b xs.length c ∧ (gSl 188 gGot).ow [.slice b xs.length c] xs A) := by
  refine Ct.intro0 G_ok Tryz.func129 rfl rfl rfl fun E H hp => ?_
  obtain ⟨rfl, hcl, hl⟩ := sl_len hp
  have hls := len_szL gGot xs
  have hq := szL_eq gGot xs
  refine VCmake.intro ?_ ?_ ?_ ?_ fun x0 => ?_
  · omega
  · omega
  · omega
  · omega
  apply loop_mod (α := (Nat) × (Hp)) G_ok [8, 9, 10, 11, 14, 15, 16, 17, 18, 19, 20, 21, 12, 13, 4] (fun z => [(4, .v (.int .i64 z.1))]) (fun z => []) (fun z => [z.2, H]) (fun z => xs.length - z.1) (fun z => z.1 ≤ xs.length ∧ (gSl 188 gGot).ow [.slice (some ⟨x0, 0, none⟩) xs.length xs.length] (xs.take z.1 ++ List.replicate (xs.length - z.1) zGot) z.2) ((0, _))
  · repeat' (first | exact trivial | refine ⟨⟨_, rfl, by first | rfl | exact inc_eq _ (by omega) | (refine sl_eq ?_; simp; done), by first | exact trivial | simp [SV.ok]⟩, ?_⟩)
  · exact trivial
  · try dsimp only
    exact ⟨by omega, by simpa using gmake (g := gGot) (T := 188) (b := x0) (zGot_ow) (Nat.le_refl xs.length) (by omega)⟩
  · exact .refl _
  rintro ⟨k, A⟩ hI
  obtain ⟨hk, oA⟩ : k ≤ xs.length ∧ (gSl 188 gGot).ow [.slice (some ⟨x0, 0, none⟩) xs.length xs.length] (xs.take k ++ List.replicate (xs.length - k) zGot) A := hI
  try dsimp only
  refine VCsplit.intro (fun q1 => ?_) (fun q1 => ?_)
  ·
    simp at q1
    have hs := szE_step gGot xs k default (by omega)
    have hs2 := szE_le gGot xs (k + 1)
    refine idx_rd hp ?_ ?_ fun b2 o2 hb2 => ?_
    · omega
    · omega
    refine load_allN default (k) rfl hp ?_ ?_ hb2 rfl (mem_at 1 rfl) fun l3 hl3 => ?_
    · omega
    · omega
    obtain ⟨l2x3, rfl, w0x3, w1x3, h2x3⟩ := gGot_rd.1 hl3 ; obtain ⟨b0_2x3, c0_2x3, rfl, h0_2x3⟩ := gBag_rd.1 h2x3
    refine call_new (toGot_ct _ (xs[k]?.getD default) ?_) (Rp.mono _ (mem_at 1 rfl) hl3) ?_
    · omega
    rintro v4 A4 o4
    obtain ⟨l4, rfl, o4⟩ := o4
    have r4 := Gt.owrd _ o4
    obtain ⟨l2x4, rfl, w0x4, w1x4, h2x4⟩ := gGot_rd.1 r4
    obtain ⟨b0_2x4, c0_2x4, rfl, h0_2x4⟩ := gBag_rd.1 h2x4
    refine idx_rd (Gt.owrd _ oA) ?_ ?_ fun b5 o5 hb5 => ?_
    · omega
    · simp; omega
    refine gstore1N (k) (A) (A4) [H] (.le fun a => by (try simp only [setR, List.cons_append, List.nil_append]); simp only [List.flatten_append, List.flatten_cons, List.flatten_nil, List.count_append, List.count_nil, List.append_nil, List.nil_append]; omega) rfl oA ?_ ?_ hb5 rfl _ o4 fun A6 o6 => ?_
    · omega
    · simp; omega
    apply loop_stepA (k + 1, _)
    · exact .refl _
    · repeat' (first | exact trivial | refine ⟨⟨_, rfl, by first | rfl | exact inc_eq _ (by omega) | (refine sl_eq ?_; simp; done), by first | exact trivial | simp [SV.ok]⟩, ?_⟩)
    · exact trivial
    · try dsimp only
      exact ⟨by omega, by rw [← take_stepz xs k default zGot (by omega)] ; assumption⟩
    · try dsimp only
      omega
  ·
    simp at q1
    obtain rfl : k = xs.length := by omega
    rw [List.take_length, Nat.sub_self, List.replicate_zero, List.append_nil] at oA
    exact ⟨_, ⟨_, _, rfl, oA⟩, (.le fun a => by (try simp only [setR, List.cons_append, List.nil_append]); simp only [List.flatten_append, List.flatten_cons, List.flatten_nil, List.count_append, List.count_nil, List.append_nil, List.nil_append]; omega)⟩
--@ct laws.eqGotS val eqGotS_ct _ _ _ _ _ _ $1 $2 | ⟨%1, %2⟩
theorem eqGotS_ct (b1 : Option Addr) (m1 c1 : Nat) (b2 : Option Addr) (m2 c2 : Nat) (xs ys : List Got) :
    Ct Tryz.prog 134 [.slice b1 m1 c1, .slice b2 m2 c2] [] (fun H => (gSl 188 gGot).rd H [.slice b1 m1 c1] xs ∧ (gSl 188 gGot).rd H [.slice b2 m2 c2] ys) (fun v A => v = .bool (decide (xs = ys)) ∧ A = []) := by
  refine Ct.intro0 G_ok Tryz.func134 rfl rfl rfl fun E H hp => ?_
  obtain ⟨hp1, hp2⟩ := hp
  obtain ⟨rfl, hc1, hl1⟩ := sl_len hp1
  obtain ⟨rfl, hc2, hl2⟩ := sl_len hp2
  refine VCsplit.intro (fun q0 => ?_) (fun q0 => ?_)
  ·
    simp at q0
    exact ⟨[], ⟨by rw [decide_eq_false (fun e => by subst e; omega)], rfl⟩, (.le fun a => by (try simp only [setR, List.cons_append, List.nil_append]); simp only [List.flatten_append, List.flatten_cons, List.flatten_nil, List.count_append, List.count_nil, List.append_nil, List.nil_append]; omega)⟩
  ·
    simp at q0
    apply loop_mod (α := (Nat)) G_ok [11, 12, 13, 14, 17, 18, 19, 20, 21, 22, 23, 24, 25, 26, 4, 15, 16, 5] (fun z => [(5, .v (.int .i64 z))]) (fun z => []) (fun z => [H]) (fun z => xs.length - z) (fun z => z ≤ xs.length ∧ xs.take z = ys.take z) (0)
    · repeat' (first | exact trivial | refine ⟨⟨_, rfl, by first | rfl | exact inc_eq _ (by omega) | (refine sl_eq ?_; simp; done), by first | exact trivial | simp [SV.ok]⟩, ?_⟩)
    · exact trivial
    · exact ⟨by omega, by simp⟩
    · exact .refl _
    rintro k hI
    obtain ⟨hk, he⟩ : k ≤ xs.length ∧ xs.take k = ys.take k := hI
    try dsimp only
    refine VCsplit.intro (fun q1 => ?_) (fun q1 => ?_)
    ·
      simp at q1
      refine draw G_ok mixed none (.q 0 (.q 1 (.q 2 (.q 3 (.q 4 (.q 5 (.q 6 (.q 7 (.f 8 (.q 9 (.nil))))))))))) (by decide +kernel) ?_
      refine idx_rd hp1 ?_ ?_ fun b2 o2 hb2 => ?_
      · omega
      · omega
      refine load_allN default (k) rfl hp1 ?_ ?_ hb2 rfl (mem_at 0 rfl) fun l3 hl3 => ?_
      · omega
      · omega
      obtain ⟨l2x3, rfl, w0x3, w1x3, h2x3⟩ := gGot_rd.1 hl3 ; obtain ⟨b0_2x3, c0_2x3, rfl, h0_2x3⟩ := gBag_rd.1 h2x3
      refine idx_rd hp2 ?_ ?_ fun b4 o4 hb4 => ?_
      · omega
      · omega
      refine load_allN default (k) rfl hp2 ?_ ?_ hb4 rfl (mem_at 0 rfl) fun l5 hl5 => ?_
      · omega
      · omega
      obtain ⟨l2x5, rfl, w0x5, w1x5, h2x5⟩ := gGot_rd.1 hl5 ; obtain ⟨b0_2x5, c0_2x5, rfl, h0_2x5⟩ := gBag_rd.1 h2x5
      refine call_val (eqGot_ct _ _ (xs[k]?.getD default) (ys[k]?.getD default)) ⟨(Rp.mono _ (mem_at 0 rfl) hl3), (Rp.mono _ (mem_at 0 rfl) hl5)⟩ ?_
      rintro _ rfl
      refine VC.intro ?_ ?_
      · exact fun _ h => h
      refine VCsplit.intro (fun q7 => ?_) (fun q7 => ?_)
      ·
        simp at q7
        exact ⟨[], ⟨by rw [decide_eq_false (fun e => by subst e; simp at *)], rfl⟩, (.le fun a => by (try simp only [setR, List.cons_append, List.nil_append]); simp only [List.flatten_append, List.flatten_cons, List.flatten_nil, List.count_append, List.count_nil, List.append_nil, List.nil_append]; omega)⟩
      ·
        simp at q7
        apply loop_stepA (k + 1)
        · exact .refl _
        · repeat' (first | exact trivial | refine ⟨⟨_, rfl, by first | rfl | exact inc_eq _ (by omega) | (refine sl_eq ?_; simp; done), by first | exact trivial | simp [SV.ok]⟩, ?_⟩)
        · exact trivial
        · exact ⟨by omega, eq_step default (by omega) he (by omega) (by simpa using ‹_›)⟩
        · omega
    ·
      simp at q1
      exact ⟨[], ⟨by rw [decide_eq_true]; rw [← List.take_length (l := xs), ← List.take_length (l := ys), ← (by omega : xs.length = ys.length), show xs.length = k by omega]; exact he, rfl⟩, (.le fun a => by (try simp only [setR, List.cons_append, List.nil_append]); simp only [List.flatten_append, List.flatten_cons, List.flatten_nil, List.count_append, List.count_nil, List.append_nil, List.nil_append]; omega)⟩
--@ct laws.szCell raw refine call_q (szCell_ct _ $1 _ ?_ ?_) %1 ?_ | | rintro _ ⟨r#, rfl, hr#⟩
theorem szCell_ct (l : List Value) (x : Cell) (left : Int) (h0 : 0 ≤ left) (h1 : left ≤ 1048576) :
    Ct Tryz.prog 42 [.agg ⟨l⟩, .int .i64 left] [] (fun H => gCell.rd H l x) (fun v A => (∃ r : Int, v = .int .i64 r ∧ ((r = -1 ∧ left < (gCell.sz x : Int)) ∨ (r = left - (gCell.sz x : Int) ∧ (gCell.sz x : Int) ≤ left))) ∧ A = []) := by
  refine Ct.intro0 G_ok Tryz.func42 rfl rfl rfl fun E H hp => ?_
  obtain ⟨l0, b1, c1, b4, c4, rfl, h0, h1, w2, w3, h4⟩ := gCell_rd.1 hp
  obtain ⟨b1_0, c1_0, b2_0, c2_0, b3_0, c3_0, rfl, h1_0, h2_0, h3_0⟩ := gQuery_rd.1 h0
  have hz := gCell_sz x
  refine VCnew.intro fun x0 => ?_
  refine call_q (szQuery_ct _ (x.query) _ ?_ ?_) (Rp.mono _ (mem_at 0 rfl) h0) ?_
  · trivial
  · trivial
  rintro _ ⟨r1, rfl, hr1⟩
  refine VCsplit.intro (fun q2 => ?_) (fun q2 => ?_)
  ·
    simp at q2
    exact ⟨[], ⟨⟨-1, rfl, .inl ⟨rfl, by (try simp (disch := omega) only [wrap_of] at *); omega⟩⟩, rfl⟩, (.le fun a => by (try simp only [setR, List.cons_append, List.nil_append]); simp only [List.flatten_append, List.flatten_cons, List.flatten_nil, List.count_append, List.count_nil, List.append_nil, List.nil_append]; omega)⟩
  ·
    simp at q2
    refine call_q (szIntS_ct _ _ _ (x.shares) _ ?_ ?_) (Rp.mono _ (mem_at 0 rfl) h1) ?_
    · trivial
    · omega
    rintro _ ⟨r3, rfl, hr3⟩
    refine VCsplit.intro (fun q4 => ?_) (fun q4 => ?_)
    ·
      simp at q4
      exact ⟨[], ⟨⟨-1, rfl, .inl ⟨rfl, by (try simp (disch := omega) only [wrap_of] at *); omega⟩⟩, rfl⟩, (.le fun a => by (try simp only [setR, List.cons_append, List.nil_append]); simp only [List.flatten_append, List.flatten_cons, List.flatten_nil, List.count_append, List.count_nil, List.append_nil, List.nil_append]; omega)⟩
    ·
      simp at q4
      refine call_q (szGotS_ct _ _ _ (x.gots) _ ?_ ?_) (Rp.mono _ (mem_at 0 rfl) h4) ?_
      · trivial
      · omega
      rintro _ ⟨r5, rfl, hr5⟩
      refine VCsplit.intro (fun q6 => ?_) (fun q6 => ?_)
      ·
        simp at q6
        exact ⟨[], ⟨⟨-1, rfl, .inl ⟨rfl, by (try simp (disch := omega) only [wrap_of] at *); omega⟩⟩, rfl⟩, (.le fun a => by (try simp only [setR, List.cons_append, List.nil_append]); simp only [List.flatten_append, List.flatten_cons, List.flatten_nil, List.count_append, List.count_nil, List.append_nil, List.nil_append]; omega)⟩
      ·
        simp at q6
        exact ⟨[], ⟨⟨_, rfl, .inr ⟨by (try simp (disch := omega) only [wrap_of] at *); omega, by omega⟩⟩, rfl⟩, (.le fun a => by (try simp only [setR, List.cons_append, List.nil_append]); simp only [List.flatten_append, List.flatten_cons, List.flatten_nil, List.count_append, List.count_nil, List.append_nil, List.nil_append]; omega)⟩
--@ct laws.toCell new toCell_ct _ $1 ?_ | %1 | obtain ⟨l#, rfl, o#⟩ := o# ;; have r# := Gt.owrd _ o# ;; obtain ⟨l0x#, b1x#, c1x#, b4x#, c4x#, rfl, h0x#, h1x#, w2x#, w3x#, h4x#⟩ := gCell_rd.1 r# ;; obtain ⟨b1_0x#, c1_0x#, b2_0x#, c2_0x#, b3_0x#, c3_0x#, rfl, h1_0x#, h2_0x#, h3_0x#⟩ := gQuery_rd.1 h0x#
theorem toCell_ct (l : List Value) (x : Cell) (hx : gCell.sz x ≤ 1048576) :
    Ct Tryz.prog 44 [.agg ⟨l⟩] [] (fun H => gCell.rd H l x) (fun v A => ∃ l, v = .agg ⟨l⟩ ∧ gCell.ow l x A) := by
  refine Ct.intro0 G_ok Tryz.func44 rfl rfl rfl fun E H hp => ?_
  obtain ⟨l0, b1, c1, b4, c4, rfl, h0, h1, w2, w3, h4⟩ := gCell_rd.1 hp
  obtain ⟨b1_0, c1_0, b2_0, c2_0, b3_0, c3_0, rfl, h1_0, h2_0, h3_0⟩ := gQuery_rd.1 h0
  have hz := gCell_sz x
  refine VCnew.intro fun x0 => ?_
  refine VCnew.intro fun x1 => ?_
  refine VCnew.intro fun x2 => ?_
  refine call_new (toQuery_ct _ (x.query) ?_) (Rp.mono _ (mem_at 0 rfl) h0) ?_
  · omega
  rintro v3 A3 o3
  obtain ⟨l3, rfl, o3⟩ := o3
  have r3 := Gt.owrd _ o3
  obtain ⟨b1x3, c1x3, b2x3, c2x3, b3x3, c3x3, rfl, h1x3, h2x3, h3x3⟩ := gQuery_rd.1 r3
  refine call_new (toIntS_ct _ _ _ (x.shares) ?_) (Rp.mono _ (mem_at 1 rfl) h1) ?_
  · omega
  rintro v4 A4 o4
  obtain ⟨b4, c4, rfl, o4⟩ := o4
  refine call_new (toGotS_ct _ _ _ (x.gots) ?_) (Rp.mono _ (mem_at 2 rfl) h4) ?_
  · omega
  rintro v5 A5 o5
  obtain ⟨b5, c5, rfl, o5⟩ := o5
  exact ⟨_, ⟨_, rfl, gCell_ow.2 ⟨_, _, _, _, _, _, _, _, rfl, .refl _, by assumption, by assumption, by assumption, by assumption, by assumption⟩⟩, (.le fun a => by (try simp only [setR, List.cons_append, List.nil_append]); simp only [List.flatten_append, List.flatten_cons, List.flatten_nil, List.count_append, List.count_nil, List.append_nil, List.nil_append]; omega)⟩
--@ct laws.eqCell val eqCell_ct _ _ $1 $2 | ⟨%1, %2⟩
theorem eqCell_ct (l1 l2 : List Value) (x y : Cell) :
    Ct Tryz.prog 46 [.agg ⟨l1⟩, .agg ⟨l2⟩] [] (fun H => gCell.rd H l1 x ∧ gCell.rd H l2 y) (fun v A => v = .bool (decide (x = y)) ∧ A = []) := by
  refine Ct.intro0 G_ok Tryz.func46 rfl rfl rfl fun E H hp => ?_
  obtain ⟨hp1, hp2⟩ := hp
  obtain ⟨l0p, b1p, c1p, b4p, c4p, rfl, h0p, h1p, w2p, w3p, h4p⟩ := gCell_rd.1 hp1
  obtain ⟨b1_0p, c1_0p, b2_0p, c2_0p, b3_0p, c3_0p, rfl, h1_0p, h2_0p, h3_0p⟩ := gQuery_rd.1 h0p
  obtain ⟨l0q, b1q, c1q, b4q, c4q, rfl, h0q, h1q, w2q, w3q, h4q⟩ := gCell_rd.1 hp2
  obtain ⟨b1_0q, c1_0q, b2_0q, c2_0q, b3_0q, c3_0q, rfl, h1_0q, h2_0q, h3_0q⟩ := gQuery_rd.1 h0q
  refine VCnew.intro fun x0 => ?_
  refine VCnew.intro fun x1 => ?_
  refine call_val (eqQuery_ct _ _ (x.query) (y.query)) ⟨(Rp.mono _ (mem_at 0 rfl) h0p), (Rp.mono _ (mem_at 0 rfl) h0q)⟩ ?_
  rintro _ rfl
  refine VCsplit.intro (fun q3 => ?_) (fun q3 => ?_)
  ·
    simp at q3
    exact ⟨[], ⟨by rw [decide_eq_false (fun e => by subst e; simp at *)], rfl⟩, (.le fun a => by (try simp only [setR, List.cons_append, List.nil_append]); simp only [List.flatten_append, List.flatten_cons, List.flatten_nil, List.count_append, List.count_nil, List.append_nil, List.nil_append]; omega)⟩
  ·
    simp at q3
    refine call_val (eqIntS_ct _ _ _ _ _ _ (x.shares) (y.shares)) ⟨(Rp.mono _ (mem_at 0 rfl) h1p), (Rp.mono _ (mem_at 0 rfl) h1q)⟩ ?_
    rintro _ rfl
    refine VCsplit.intro (fun q5 => ?_) (fun q5 => ?_)
    ·
      simp at q5
      exact ⟨[], ⟨by rw [decide_eq_false (fun e => by subst e; simp at *)], rfl⟩, (.le fun a => by (try simp only [setR, List.cons_append, List.nil_append]); simp only [List.flatten_append, List.flatten_cons, List.flatten_nil, List.count_append, List.count_nil, List.append_nil, List.nil_append]; omega)⟩
    ·
      simp at q5
      refine VCsplit.intro (fun q6 => ?_) (fun q6 => ?_)
      ·
        simp at q6
        exact ⟨[], ⟨by rw [decide_eq_false (fun e => by subst e; simp at *)], rfl⟩, (.le fun a => by (try simp only [setR, List.cons_append, List.nil_append]); simp only [List.flatten_append, List.flatten_cons, List.flatten_nil, List.count_append, List.count_nil, List.append_nil, List.nil_append]; omega)⟩
      ·
        simp at q6
        refine VCsplit.intro (fun q7 => ?_) (fun q7 => ?_)
        ·
          simp at q7
          exact ⟨[], ⟨by rw [decide_eq_false (fun e => by subst e; simp at *)], rfl⟩, (.le fun a => by (try simp only [setR, List.cons_append, List.nil_append]); simp only [List.flatten_append, List.flatten_cons, List.flatten_nil, List.count_append, List.count_nil, List.append_nil, List.nil_append]; omega)⟩
        ·
          simp at q7
          refine call_val (eqGotS_ct _ _ _ _ _ _ (x.gots) (y.gots)) ⟨(Rp.mono _ (mem_at 0 rfl) h4p), (Rp.mono _ (mem_at 0 rfl) h4q)⟩ ?_
          rintro _ rfl
          refine VCsplit.intro (fun q9 => ?_) (fun q9 => ?_)
          ·
            simp at q9
            exact ⟨[], ⟨by rw [decide_eq_false (fun e => by subst e; simp at *)], rfl⟩, (.le fun a => by (try simp only [setR, List.cons_append, List.nil_append]); simp only [List.flatten_append, List.flatten_cons, List.flatten_nil, List.count_append, List.count_nil, List.append_nil, List.nil_append]; omega)⟩
          ·
            simp at q9
            exact ⟨[], ⟨by rw [decide_eq_true (Cell.eq_iff.2 (by simp_all))], rfl⟩, (.le fun a => by (try simp only [setR, List.cons_append, List.nil_append]); simp only [List.flatten_append, List.flatten_cons, List.flatten_nil, List.count_append, List.count_nil, List.append_nil, List.nil_append]; omega)⟩
--@ct laws.szMail raw refine call_q (szMail_ct _ $1 _ ?_ ?_) %1 ?_ | | rintro _ ⟨r#, rfl, hr#⟩
theorem szMail_ct (l : List Value) (x : Mail) (left : Int) (h0 : 0 ≤ left) (h1 : left ≤ 1048576) :
    Ct Tryz.prog 174 [.agg ⟨l⟩, .int .i64 left] [] (fun H => gMail.rd H l x) (fun v A => (∃ r : Int, v = .int .i64 r ∧ ((r = -1 ∧ left < (gMail.sz x : Int)) ∨ (r = left - (gMail.sz x : Int) ∧ (gMail.sz x : Int) ≤ left))) ∧ A = []) := by
  refine Ct.intro0 G_ok Tryz.func174 rfl rfl rfl fun E H hp => ?_
  obtain ⟨l1, rfl, w0, h1⟩ := gMail_rd.1 hp
  obtain ⟨b4_1, c4_1, rfl, w0_1, w1_1, w2_1, h4_1, w5_1⟩ := gLetter_rd.1 h1
  have hz := gMail_sz x
  refine VCnew.intro fun x0 => ?_
  refine call_q (szLetter_ct _ (x.letter) _ ?_ ?_) (Rp.mono _ (mem_at 0 rfl) h1) ?_
  · trivial
  · trivial
  rintro _ ⟨r1, rfl, hr1⟩
  refine VCsplit.intro (fun q2 => ?_) (fun q2 => ?_)
  ·
    simp at q2
    exact ⟨[], ⟨⟨-1, rfl, .inl ⟨rfl, by (try simp (disch := omega) only [wrap_of] at *); omega⟩⟩, rfl⟩, (.le fun a => by (try simp only [setR, List.cons_append, List.nil_append]); simp only [List.flatten_append, List.flatten_cons, List.flatten_nil, List.count_append, List.count_nil, List.append_nil, List.nil_append]; omega)⟩
  ·
    simp at q2
    exact ⟨[], ⟨⟨_, rfl, .inr ⟨by (try simp (disch := omega) only [wrap_of] at *); omega, by omega⟩⟩, rfl⟩, (.le fun a => by (try simp only [setR, List.cons_append, List.nil_append]); simp only [List.flatten_append, List.flatten_cons, List.flatten_nil, List.count_append, List.count_nil, List.append_nil, List.nil_append]; omega)⟩
--@ct laws.toMail new toMail_ct _ $1 ?_ | %1 | obtain ⟨l#, rfl, o#⟩ := o# ;; have r# := Gt.owrd _ o# ;; obtain ⟨l1x#, rfl, w0x#, h1x#⟩ := gMail_rd.1 r# ;; obtain ⟨b4_1x#, c4_1x#, rfl, w0_1x#, w1_1x#, w2_1x#, h4_1x#, w5_1x#⟩ := gLetter_rd.1 h1x#
theorem toMail_ct (l : List Value) (x : Mail) (hx : gMail.sz x ≤ 1048576) :
    Ct Tryz.prog 176 [.agg ⟨l⟩] [] (fun H => gMail.rd H l x) (fun v A => ∃ l, v = .agg ⟨l⟩ ∧ gMail.ow l x A) := by
  refine Ct.intro0 G_ok Tryz.func176 rfl rfl rfl fun E H hp => ?_
  obtain ⟨l1, rfl, w0, h1⟩ := gMail_rd.1 hp
  obtain ⟨b4_1, c4_1, rfl, w0_1, w1_1, w2_1, h4_1, w5_1⟩ := gLetter_rd.1 h1
  have hz := gMail_sz x
  refine VCnew.intro fun x0 => ?_
  refine VCnew.intro fun x1 => ?_
  refine VCnew.intro fun x2 => ?_
  refine call_new (toLetter_ct _ (x.letter) ?_) (Rp.mono _ (mem_at 0 rfl) h1) ?_
  · omega
  rintro v3 A3 o3
  obtain ⟨l3, rfl, o3⟩ := o3
  have r3 := Gt.owrd _ o3
  obtain ⟨b4x3, c4x3, rfl, w0x3, w1x3, w2x3, h4x3, w5x3⟩ := gLetter_rd.1 r3
  exact ⟨_, ⟨_, rfl, gMail_ow.2 ⟨_, _, rfl, .refl _, by assumption, by assumption⟩⟩, (.le fun a => by (try simp only [setR, List.cons_append, List.nil_append]); simp only [List.flatten_append, List.flatten_cons, List.flatten_nil, List.count_append, List.count_nil, List.append_nil, List.nil_append]; omega)⟩
--@ct laws.eqMail val eqMail_ct _ _ $1 $2 | ⟨%1, %2⟩
theorem eqMail_ct (l1 l2 : List Value) (x y : Mail) :
    Ct Tryz.prog 185 [.agg ⟨l1⟩, .agg ⟨l2⟩] [] (fun H => gMail.rd H l1 x ∧ gMail.rd H l2 y) (fun v A => v = .bool (decide (x = y)) ∧ A = []) := by
  refine Ct.intro0 G_ok Tryz.func185 rfl rfl rfl fun E H hp => ?_
  obtain ⟨hp1, hp2⟩ := hp
  obtain ⟨l1p, rfl, w0p, h1p⟩ := gMail_rd.1 hp1
  obtain ⟨b4_1p, c4_1p, rfl, w0_1p, w1_1p, w2_1p, h4_1p, w5_1p⟩ := gLetter_rd.1 h1p
  obtain ⟨l1q, rfl, w0q, h1q⟩ := gMail_rd.1 hp2
  obtain ⟨b4_1q, c4_1q, rfl, w0_1q, w1_1q, w2_1q, h4_1q, w5_1q⟩ := gLetter_rd.1 h1q
  refine VCnew.intro fun x0 => ?_
  refine VCnew.intro fun x1 => ?_
  refine VCsplit.intro (fun q2 => ?_) (fun q2 => ?_)
  ·
    simp at q2
    exact ⟨[], ⟨by rw [decide_eq_false (fun e => by subst e; simp at *)], rfl⟩, (.le fun a => by (try simp only [setR, List.cons_append, List.nil_append]); simp only [List.flatten_append, List.flatten_cons, List.flatten_nil, List.count_append, List.count_nil, List.append_nil, List.nil_append]; omega)⟩
  ·
    simp at q2
    refine call_val (eqLetter_ct _ _ (x.letter) (y.letter)) ⟨(Rp.mono _ (mem_at 0 rfl) h1p), (Rp.mono _ (mem_at 0 rfl) h1q)⟩ ?_
    rintro _ rfl
    refine VCsplit.intro (fun q4 => ?_) (fun q4 => ?_)
    ·
      simp at q4
      exact ⟨[], ⟨by rw [decide_eq_false (fun e => by subst e; simp at *)], rfl⟩, (.le fun a => by (try simp only [setR, List.cons_append, List.nil_append]); simp only [List.flatten_append, List.flatten_cons, List.flatten_nil, List.count_append, List.count_nil, List.append_nil, List.nil_append]; omega)⟩
    ·
      simp at q4
      exact ⟨[], ⟨by rw [decide_eq_true (Mail.eq_iff.2 (by simp_all))], rfl⟩, (.le fun a => by (try simp only [setR, List.cons_append, List.nil_append]); simp only [List.flatten_append, List.flatten_cons, List.flatten_nil, List.count_append, List.count_nil, List.append_nil, List.nil_append]; omega)⟩
--@ct laws.szMailS raw refine call_q (szMailS_ct _ _ _ $1 _ ?_ ?_) %1 ?_ | | rintro _ ⟨r#, rfl, hr#⟩
theorem szMailS_ct (b : Option Addr) (m c : Nat) (xs : List Mail) (left : Int) (h0 : 0 ≤ left) (h1 : left ≤ 1048576) :
    Ct Tryz.prog 91 [.slice b m c, .int .i64 left] [] (fun H => (gSl 245 gMail).rd H [.slice b m c] xs) (fun v A => (∃ r : Int, v = .int .i64 r ∧ ((r = -1 ∧ left < (szL gMail xs : Int)) ∨ (r = left - (szL gMail xs : Int) ∧ (szL gMail xs : Int) ≤ left))) ∧ A = []) := by
  refine Ct.intro0 G_ok Tryz.func91 rfl rfl rfl fun E H hp => ?_
  obtain ⟨rfl, hcl, hl⟩ := sl_len hp
  have hq := szL_eq gMail xs
  have ht := List.take_length (l := xs)
  refine VCsplit.intro (fun q0 => ?_) (fun q0 => ?_)
  ·
    simp at q0
    simp (disch := omega) only [wrap_of] at q0
    exact ⟨[], ⟨⟨-1, rfl, .inl ⟨rfl, by (try simp (disch := omega) only [wrap_of] at *); omega⟩⟩, rfl⟩, (.le fun a => by (try simp only [setR, List.cons_append, List.nil_append]); simp only [List.flatten_append, List.flatten_cons, List.flatten_nil, List.count_append, List.count_nil, List.append_nil, List.nil_append]; omega)⟩
  ·
    simp at q0
    simp (disch := omega) only [wrap_of] at q0
    apply loop_mod (α := (Nat) × (Int)) G_ok [12, 13, 14, 15, 18, 19, 20, 21, 22, 23, 1, 24, 25, 4, 16, 17, 5] (fun z => [(5, .v (.int .i64 z.1)), (1, .v (.int .i64 z.2))]) (fun z => []) (fun z => [H]) (fun z => xs.length - z.1) (fun z => z.1 ≤ xs.length ∧ z.2 = left - xs.length - szE gMail (xs.take z.1) ∧ 0 ≤ z.2) ((0, left - xs.length))
    · repeat' (first | exact trivial | refine ⟨⟨_, rfl, by first | rfl | exact inc_eq _ (by omega) | (refine sl_eq ?_; simp; done) | (simp (disch := omega) only [wrap_of]), by first | exact trivial | simp [SV.ok]⟩, ?_⟩)
    · exact trivial
    · try dsimp only
      exact ⟨by omega, by simp [szE], by omega⟩
    · exact .refl _
    rintro ⟨k, lf⟩ hI
    obtain ⟨hk, hlf, hnn⟩ : k ≤ xs.length ∧ lf = left - xs.length - szE gMail (xs.take k) ∧ 0 ≤ lf := hI
    try dsimp only
    refine VCsplit.intro (fun q1 => ?_) (fun q1 => ?_)
    ·
      simp at q1
      have hs := szE_step gMail xs k default (by omega)
      have hs2 := szE_le gMail xs (k + 1)
      refine idx_rd hp ?_ ?_ fun b2 o2 hb2 => ?_
      · omega
      · omega
      refine load_allN default (k) rfl hp ?_ ?_ hb2 rfl (mem_at 0 rfl) fun l3 hl3 => ?_
      · omega
      · omega
      obtain ⟨l1x3, rfl, w0x3, h1x3⟩ := gMail_rd.1 hl3 ; obtain ⟨b4_1x3, c4_1x3, rfl, w0_1x3, w1_1x3, w2_1x3, h4_1x3, w5_1x3⟩ := gLetter_rd.1 h1x3
      refine call_q (szMail_ct _ (xs[k]?.getD default) _ ?_ ?_) (Rp.mono _ (mem_at 0 rfl) hl3) ?_
      · trivial
      · omega
      rintro _ ⟨r4, rfl, hr4⟩
      refine VCsplit.intro (fun q5 => ?_) (fun q5 => ?_)
      ·
        simp at q5
        exact ⟨[], ⟨⟨-1, rfl, .inl ⟨rfl, by (try simp (disch := omega) only [wrap_of] at *); omega⟩⟩, rfl⟩, (.le fun a => by (try simp only [setR, List.cons_append, List.nil_append]); simp only [List.flatten_append, List.flatten_cons, List.flatten_nil, List.count_append, List.count_nil, List.append_nil, List.nil_append]; omega)⟩
      ·
        simp at q5
        apply loop_stepA (k + 1, _)
        · exact .refl _
        · repeat' (first | exact trivial | refine ⟨⟨_, rfl, by first | rfl | exact inc_eq _ (by omega) | (refine sl_eq ?_; simp; done) | (simp (disch := omega) only [wrap_of]), by first | exact trivial | simp [SV.ok]⟩, ?_⟩)
        · exact trivial
        · try dsimp only
          ((try simp (disch := omega) only [wrap_of] at *); refine ⟨by omega, by omega, by omega⟩)
        · try dsimp only
          omega
    ·
      simp at q1
      obtain rfl : k = xs.length := by omega
      rw [List.take_length] at hlf
      exact ⟨[], ⟨⟨_, rfl, .inr ⟨by (try simp (disch := omega) only [wrap_of] at *); omega, by omega⟩⟩, rfl⟩, (.le fun a => by (try simp only [setR, List.cons_append, List.nil_append]); simp only [List.flatten_append, List.flatten_cons, List.flatten_nil, List.count_append, List.count_nil, List.append_nil, List.nil_append]; omega)⟩
--@ct laws.toMailS new toMailS_ct _ _ _ $1 ?_ | %1 | obtain ⟨b#, c#, rfl, o#⟩ := o#
theorem toMailS_ct (b : Option Addr) (m c : Nat) (xs : List Mail) (hx : szL gMail xs ≤ 1048576) :
    Ct Tryz.prog 94 [.slice b m c] [] (fun H => (gSl 245 gMail).rd H [.slice b m c] xs) (fun v A => ∃ b c, v = .slice b xs.length c ∧ (gSl 245 gMail).ow [.slice b xs.length c] xs A) := by
  refine Ct.intro0 G_ok Tryz.func94 rfl rfl rfl fun E H hp => ?_
  obtain ⟨rfl, hcl, hl⟩ := sl_len hp
  have hls := len_szL gMail xs
  have hq := szL_eq gMail xs
  refine VCmake.intro ?_ ?_ ?_ ?_ fun x0 => ?_
  · omega
  · omega
  · omega
  · omega
  apply loop_mod (α := (Nat) × (Hp)) G_ok [8, 9, 10, 11, 14, 15, 16, 17, 18, 19, 20, 21, 12, 13, 4] (fun z => [(4, .v (.int .i64 z.1))]) (fun z => []) (fun z => [z.2, H]) (fun z => xs.length - z.1) (fun z => z.1 ≤ xs.length ∧ (gSl 245 gMail).ow [.slice (some ⟨x0, 0, none⟩) xs.length xs.length] (xs.take z.1 ++ List.replicate (xs.length - z.1) zMail) z.2) ((0, _))
  · repeat' (first | exact trivial | refine ⟨⟨_, rfl, by first | rfl | exact inc_eq _ (by omega) | (refine sl_eq ?_; simp; done), by first | exact trivial | simp [SV.ok]⟩, ?_⟩)
  · exact trivial
  · try dsimp only
    exact ⟨by omega, by simpa using gmake (g := gMail) (T := 245) (b := x0) (zMail_ow) (Nat.le_refl xs.length) (by omega)⟩
  · exact .refl _
  rintro ⟨k, A⟩ hI
  obtain ⟨hk, oA⟩ : k ≤ xs.length ∧ (gSl 245 gMail).ow [.slice (some ⟨x0, 0, none⟩) xs.length xs.length] (xs.take k ++ List.replicate (xs.length - k) zMail) A := hI
  try dsimp only
  refine VCsplit.intro (fun q1 => ?_) (fun q1 => ?_)
  ·
    simp at q1
    have hs := szE_step gMail xs k default (by omega)
    have hs2 := szE_le gMail xs (k + 1)
    refine idx_rd hp ?_ ?_ fun b2 o2 hb2 => ?_
    · omega
    · omega
    refine load_allN default (k) rfl hp ?_ ?_ hb2 rfl (mem_at 1 rfl) fun l3 hl3 => ?_
    · omega
    · omega
    obtain ⟨l1x3, rfl, w0x3, h1x3⟩ := gMail_rd.1 hl3 ; obtain ⟨b4_1x3, c4_1x3, rfl, w0_1x3, w1_1x3, w2_1x3, h4_1x3, w5_1x3⟩ := gLetter_rd.1 h1x3
    refine call_new (toMail_ct _ (xs[k]?.getD default) ?_) (Rp.mono _ (mem_at 1 rfl) hl3) ?_
    · omega
    rintro v4 A4 o4
    obtain ⟨l4, rfl, o4⟩ := o4
    have r4 := Gt.owrd _ o4
    obtain ⟨l1x4, rfl, w0x4, h1x4⟩ := gMail_rd.1 r4
    obtain ⟨b4_1x4, c4_1x4, rfl, w0_1x4, w1_1x4, w2_1x4, h4_1x4, w5_1x4⟩ := gLetter_rd.1 h1x4
    refine idx_rd (Gt.owrd _ oA) ?_ ?_ fun b5 o5 hb5 => ?_
    · omega
    · simp; omega
    refine gstore1N (k) (A) (A4) [H] (.le fun a => by (try simp only [setR, List.cons_append, List.nil_append]); simp only [List.flatten_append, List.flatten_cons, List.flatten_nil, List.count_append, List.count_nil, List.append_nil, List.nil_append]; omega) rfl oA ?_ ?_ hb5 rfl _ o4 fun A6 o6 => ?_
    · omega
    · simp; omega
    apply loop_stepA (k + 1, _)
    · exact .refl _
    · repeat' (first | exact trivial | refine ⟨⟨_, rfl, by first | rfl | exact inc_eq _ (by omega) | (refine sl_eq ?_; simp; done), by first | exact trivial | simp [SV.ok]⟩, ?_⟩)
    · exact trivial
    · try dsimp only
      exact ⟨by omega, by rw [← take_stepz xs k default zMail (by omega)] ; assumption⟩
    · try dsimp only
      omega
  ·
    simp at q1
    obtain rfl : k = xs.length := by omega
    rw [List.take_length, Nat.sub_self, List.replicate_zero, List.append_nil] at oA
    exact ⟨_, ⟨_, _, rfl, oA⟩, (.le fun a => by (try simp only [setR, List.cons_append, List.nil_append]); simp only [List.flatten_append, List.flatten_cons, List.flatten_nil, List.count_append, List.count_nil, List.append_nil, List.nil_append]; omega)⟩
--@ct laws.eqMailS val eqMailS_ct _ _ _ _ _ _ $1 $2 | ⟨%1, %2⟩
theorem eqMailS_ct (b1 : Option Addr) (m1 c1 : Nat) (b2 : Option Addr) (m2 c2 : Nat) (xs ys : List Mail) :
    Ct Tryz.prog 97 [.slice b1 m1 c1, .slice b2 m2 c2] [] (fun H => (gSl 245 gMail).rd H [.slice b1 m1 c1] xs ∧ (gSl 245 gMail).rd H [.slice b2 m2 c2] ys) (fun v A => v = .bool (decide (xs = ys)) ∧ A = []) := by
  refine Ct.intro0 G_ok Tryz.func97 rfl rfl rfl fun E H hp => ?_
  obtain ⟨hp1, hp2⟩ := hp
  obtain ⟨rfl, hc1, hl1⟩ := sl_len hp1
  obtain ⟨rfl, hc2, hl2⟩ := sl_len hp2
  refine VCsplit.intro (fun q0 => ?_) (fun q0 => ?_)
  ·
    simp at q0
    exact ⟨[], ⟨by rw [decide_eq_false (fun e => by subst e; omega)], rfl⟩, (.le fun a => by (try simp only [setR, List.cons_append, List.nil_append]); simp only [List.flatten_append, List.flatten_cons, List.flatten_nil, List.count_append, List.count_nil, List.append_nil, List.nil_append]; omega)⟩
  ·
    simp at q0
    apply loop_mod (α := (Nat)) G_ok [11, 12, 13, 14, 17, 18, 19, 20, 21, 22, 23, 24, 25, 26, 4, 15, 16, 5] (fun z => [(5, .v (.int .i64 z))]) (fun z => []) (fun z => [H]) (fun z => xs.length - z) (fun z => z ≤ xs.length ∧ xs.take z = ys.take z) (0)
    · repeat' (first | exact trivial | refine ⟨⟨_, rfl, by first | rfl | exact inc_eq _ (by omega) | (refine sl_eq ?_; simp; done), by first | exact trivial | simp [SV.ok]⟩, ?_⟩)
    · exact trivial
    · exact ⟨by omega, by simp⟩
    · exact .refl _
    rintro k hI
    obtain ⟨hk, he⟩ : k ≤ xs.length ∧ xs.take k = ys.take k := hI
    try dsimp only
    refine VCsplit.intro (fun q1 => ?_) (fun q1 => ?_)
    ·
      simp at q1
      refine draw G_ok mixed none (.q 0 (.q 1 (.q 2 (.q 3 (.q 4 (.q 5 (.q 6 (.q 7 (.f 8 (.q 9 (.nil))))))))))) (by decide +kernel) ?_
      refine idx_rd hp1 ?_ ?_ fun b2 o2 hb2 => ?_
      · omega
      · omega
      refine load_allN default (k) rfl hp1 ?_ ?_ hb2 rfl (mem_at 0 rfl) fun l3 hl3 => ?_
      · omega
      · omega
      obtain ⟨l1x3, rfl, w0x3, h1x3⟩ := gMail_rd.1 hl3 ; obtain ⟨b4_1x3, c4_1x3, rfl, w0_1x3, w1_1x3, w2_1x3, h4_1x3, w5_1x3⟩ := gLetter_rd.1 h1x3
      refine idx_rd hp2 ?_ ?_ fun b4 o4 hb4 => ?_
      · omega
      · omega
      refine load_allN default (k) rfl hp2 ?_ ?_ hb4 rfl (mem_at 0 rfl) fun l5 hl5 => ?_
      · omega
      · omega
      obtain ⟨l1x5, rfl, w0x5, h1x5⟩ := gMail_rd.1 hl5 ; obtain ⟨b4_1x5, c4_1x5, rfl, w0_1x5, w1_1x5, w2_1x5, h4_1x5, w5_1x5⟩ := gLetter_rd.1 h1x5
      refine call_val (eqMail_ct _ _ (xs[k]?.getD default) (ys[k]?.getD default)) ⟨(Rp.mono _ (mem_at 0 rfl) hl3), (Rp.mono _ (mem_at 0 rfl) hl5)⟩ ?_
      rintro _ rfl
      refine VC.intro ?_ ?_
      · exact fun _ h => h
      refine VCsplit.intro (fun q7 => ?_) (fun q7 => ?_)
      ·
        simp at q7
        exact ⟨[], ⟨by rw [decide_eq_false (fun e => by subst e; simp at *)], rfl⟩, (.le fun a => by (try simp only [setR, List.cons_append, List.nil_append]); simp only [List.flatten_append, List.flatten_cons, List.flatten_nil, List.count_append, List.count_nil, List.append_nil, List.nil_append]; omega)⟩
      ·
        simp at q7
        apply loop_stepA (k + 1)
        · exact .refl _
        · repeat' (first | exact trivial | refine ⟨⟨_, rfl, by first | rfl | exact inc_eq _ (by omega) | (refine sl_eq ?_; simp; done), by first | exact trivial | simp [SV.ok]⟩, ?_⟩)
        · exact trivial
        · exact ⟨by omega, eq_step default (by omega) he (by omega) (by simpa using ‹_›)⟩
        · omega
    ·
      simp at q1
      exact ⟨[], ⟨by rw [decide_eq_true]; rw [← List.take_length (l := xs), ← List.take_length (l := ys), ← (by omega : xs.length = ys.length), show xs.length = k by omega]; exact he, rfl⟩, (.le fun a => by (try simp only [setR, List.cons_append, List.nil_append]); simp only [List.flatten_append, List.flatten_cons, List.flatten_nil, List.count_append, List.count_nil, List.append_nil, List.nil_append]; omega)⟩
--@ct laws.szWork raw refine call_q (szWork_ct _ $1 _ ?_ ?_) %1 ?_ | | rintro _ ⟨r#, rfl, hr#⟩
theorem szWork_ct (l : List Value) (x : Work) (left : Int) (h0 : 0 ≤ left) (h1 : left ≤ 1048576) :
    Ct Tryz.prog 25 [.agg ⟨l⟩, .int .i64 left] [] (fun H => gWork.rd H l x) (fun v A => (∃ r : Int, v = .int .i64 r ∧ ((r = -1 ∧ left < (gWork.sz x : Int)) ∨ (r = left - (gWork.sz x : Int) ∧ (gWork.sz x : Int) ≤ left))) ∧ A = []) := by
  refine Ct.intro0 G_ok Tryz.func25 rfl rfl rfl fun E H hp => ?_
  obtain ⟨l1, b2, c2, b4, c4, l11, b13, c13, rfl, h1, h2, w3, h4, w5, w8, h11, h13⟩ := gWork_rd.1 hp
  obtain ⟨b1_1, c1_1, b2_1, c2_1, b3_1, c3_1, rfl, h1_1, h2_1, h3_1⟩ := gQuery_rd.1 h1
  obtain ⟨l0_11, b1_11, c1_11, b4_11, c4_11, rfl, h0_11, h1_11, w2_11, w3_11, h4_11⟩ := gCell_rd.1 h11
  obtain ⟨b1_0_11, c1_0_11, b2_0_11, c2_0_11, b3_0_11, c3_0_11, rfl, h1_0_11, h2_0_11, h3_0_11⟩ := gQuery_rd.1 h0_11
  have hz := gWork_sz x
  refine VCnew.intro fun x0 => ?_
  refine call_q (szQuery_ct _ (x.query) _ ?_ ?_) (Rp.mono _ (mem_at 0 rfl) h1) ?_
  · trivial
  · trivial
  rintro _ ⟨r1, rfl, hr1⟩
  refine VCsplit.intro (fun q2 => ?_) (fun q2 => ?_)
  ·
    simp at q2
    exact ⟨[], ⟨⟨-1, rfl, .inl ⟨rfl, by (try simp (disch := omega) only [wrap_of] at *); omega⟩⟩, rfl⟩, (.le fun a => by (try simp only [setR, List.cons_append, List.nil_append]); simp only [List.flatten_append, List.flatten_cons, List.flatten_nil, List.count_append, List.count_nil, List.append_nil, List.nil_append]; omega)⟩
  ·
    simp at q2
    refine call_q (szIntS_ct _ _ _ (x.shares) _ ?_ ?_) (Rp.mono _ (mem_at 0 rfl) h2) ?_
    · trivial
    · omega
    rintro _ ⟨r3, rfl, hr3⟩
    refine VCsplit.intro (fun q4 => ?_) (fun q4 => ?_)
    ·
      simp at q4
      exact ⟨[], ⟨⟨-1, rfl, .inl ⟨rfl, by (try simp (disch := omega) only [wrap_of] at *); omega⟩⟩, rfl⟩, (.le fun a => by (try simp only [setR, List.cons_append, List.nil_append]); simp only [List.flatten_append, List.flatten_cons, List.flatten_nil, List.count_append, List.count_nil, List.append_nil, List.nil_append]; omega)⟩
    ·
      simp at q4
      refine call_q (szWalkS_ct _ _ _ (x.seen) _ ?_ ?_) (Rp.mono _ (mem_at 0 rfl) h4) ?_
      · trivial
      · omega
      rintro _ ⟨r5, rfl, hr5⟩
      refine VCsplit.intro (fun q6 => ?_) (fun q6 => ?_)
      ·
        simp at q6
        exact ⟨[], ⟨⟨-1, rfl, .inl ⟨rfl, by (try simp (disch := omega) only [wrap_of] at *); omega⟩⟩, rfl⟩, (.le fun a => by (try simp only [setR, List.cons_append, List.nil_append]); simp only [List.flatten_append, List.flatten_cons, List.flatten_nil, List.count_append, List.count_nil, List.append_nil, List.nil_append]; omega)⟩
      ·
        simp at q6
        refine call_q (szCell_ct _ (x.cell) _ ?_ ?_) (Rp.mono _ (mem_at 0 rfl) h11) ?_
        · trivial
        · omega
        rintro _ ⟨r7, rfl, hr7⟩
        refine VCsplit.intro (fun q8 => ?_) (fun q8 => ?_)
        ·
          simp at q8
          exact ⟨[], ⟨⟨-1, rfl, .inl ⟨rfl, by (try simp (disch := omega) only [wrap_of] at *); omega⟩⟩, rfl⟩, (.le fun a => by (try simp only [setR, List.cons_append, List.nil_append]); simp only [List.flatten_append, List.flatten_cons, List.flatten_nil, List.count_append, List.count_nil, List.append_nil, List.nil_append]; omega)⟩
        ·
          simp at q8
          refine call_q (szMailS_ct _ _ _ (x.waits) _ ?_ ?_) (Rp.mono _ (mem_at 0 rfl) h13) ?_
          · trivial
          · omega
          rintro _ ⟨r9, rfl, hr9⟩
          refine VCsplit.intro (fun q10 => ?_) (fun q10 => ?_)
          ·
            simp at q10
            exact ⟨[], ⟨⟨-1, rfl, .inl ⟨rfl, by (try simp (disch := omega) only [wrap_of] at *); omega⟩⟩, rfl⟩, (.le fun a => by (try simp only [setR, List.cons_append, List.nil_append]); simp only [List.flatten_append, List.flatten_cons, List.flatten_nil, List.count_append, List.count_nil, List.append_nil, List.nil_append]; omega)⟩
          ·
            simp at q10
            exact ⟨[], ⟨⟨_, rfl, .inr ⟨by (try simp (disch := omega) only [wrap_of] at *); omega, by omega⟩⟩, rfl⟩, (.le fun a => by (try simp only [setR, List.cons_append, List.nil_append]); simp only [List.flatten_append, List.flatten_cons, List.flatten_nil, List.count_append, List.count_nil, List.append_nil, List.nil_append]; omega)⟩
--@ct laws.toWork new toWork_ct _ $1 ?_ | %1 | obtain ⟨l#, rfl, o#⟩ := o# ;; have r# := Gt.owrd _ o# ;; obtain ⟨l1x#, b2x#, c2x#, b4x#, c4x#, l11x#, b13x#, c13x#, rfl, h1x#, h2x#, w3x#, h4x#, w5x#, w8x#, h11x#, h13x#⟩ := gWork_rd.1 r# ;; obtain ⟨b1_1x#, c1_1x#, b2_1x#, c2_1x#, b3_1x#, c3_1x#, rfl, h1_1x#, h2_1x#, h3_1x#⟩ := gQuery_rd.1 h1x# ;; obtain ⟨l0_11x#, b1_11x#, c1_11x#, b4_11x#, c4_11x#, rfl, h0_11x#, h1_11x#, w2_11x#, w3_11x#, h4_11x#⟩ := gCell_rd.1 h11x# ;; obtain ⟨b1_0_11x#, c1_0_11x#, b2_0_11x#, c2_0_11x#, b3_0_11x#, c3_0_11x#, rfl, h1_0_11x#, h2_0_11x#, h3_0_11x#⟩ := gQuery_rd.1 h0_11x#
theorem toWork_ct (l : List Value) (x : Work) (hx : gWork.sz x ≤ 1048576) :
    Ct Tryz.prog 27 [.agg ⟨l⟩] [] (fun H => gWork.rd H l x) (fun v A => ∃ l, v = .agg ⟨l⟩ ∧ gWork.ow l x A) := by
  refine Ct.intro0 G_ok Tryz.func27 rfl rfl rfl fun E H hp => ?_
  obtain ⟨l1, b2, c2, b4, c4, l11, b13, c13, rfl, h1, h2, w3, h4, w5, w8, h11, h13⟩ := gWork_rd.1 hp
  obtain ⟨b1_1, c1_1, b2_1, c2_1, b3_1, c3_1, rfl, h1_1, h2_1, h3_1⟩ := gQuery_rd.1 h1
  obtain ⟨l0_11, b1_11, c1_11, b4_11, c4_11, rfl, h0_11, h1_11, w2_11, w3_11, h4_11⟩ := gCell_rd.1 h11
  obtain ⟨b1_0_11, c1_0_11, b2_0_11, c2_0_11, b3_0_11, c3_0_11, rfl, h1_0_11, h2_0_11, h3_0_11⟩ := gQuery_rd.1 h0_11
  have hz := gWork_sz x
  refine VCnew.intro fun x0 => ?_
  refine VCnew.intro fun x1 => ?_
  refine VCnew.intro fun x2 => ?_
  refine call_new (toQuery_ct _ (x.query) ?_) (Rp.mono _ (mem_at 0 rfl) h1) ?_
  · omega
  rintro v3 A3 o3
  obtain ⟨l3, rfl, o3⟩ := o3
  have r3 := Gt.owrd _ o3
  obtain ⟨b1x3, c1x3, b2x3, c2x3, b3x3, c3x3, rfl, h1x3, h2x3, h3x3⟩ := gQuery_rd.1 r3
  refine call_new (toIntS_ct _ _ _ (x.shares) ?_) (Rp.mono _ (mem_at 1 rfl) h2) ?_
  · omega
  rintro v4 A4 o4
  obtain ⟨b4, c4, rfl, o4⟩ := o4
  refine call_new (toWalkS_ct _ _ _ (x.seen) ?_) (Rp.mono _ (mem_at 2 rfl) h4) ?_
  · omega
  rintro v5 A5 o5
  obtain ⟨b5, c5, rfl, o5⟩ := o5
  refine call_new (toCell_ct _ (x.cell) ?_) (Rp.mono _ (mem_at 3 rfl) h11) ?_
  · omega
  rintro v6 A6 o6
  obtain ⟨l6, rfl, o6⟩ := o6
  have r6 := Gt.owrd _ o6
  obtain ⟨l0x6, b1x6, c1x6, b4x6, c4x6, rfl, h0x6, h1x6, w2x6, w3x6, h4x6⟩ := gCell_rd.1 r6
  obtain ⟨b1_0x6, c1_0x6, b2_0x6, c2_0x6, b3_0x6, c3_0x6, rfl, h1_0x6, h2_0x6, h3_0x6⟩ := gQuery_rd.1 h0x6
  refine call_new (toMailS_ct _ _ _ (x.waits) ?_) (Rp.mono _ (mem_at 4 rfl) h13) ?_
  · omega
  rintro v7 A7 o7
  obtain ⟨b7, c7, rfl, o7⟩ := o7
  exact ⟨_, ⟨_, rfl, gWork_ow.2 ⟨_, _, _, _, _, _, _, _, _, _, _, _, _, rfl, .refl _, by assumption, by assumption, by assumption, by assumption, by assumption, by assumption, by assumption, by assumption⟩⟩, (.le fun a => by (try simp only [setR, List.cons_append, List.nil_append]); simp only [List.flatten_append, List.flatten_cons, List.flatten_nil, List.count_append, List.count_nil, List.append_nil, List.nil_append]; omega)⟩
--@ct laws.eqWork val eqWork_ct _ _ $1 $2 | ⟨%1, %2⟩
theorem eqWork_ct (l1 l2 : List Value) (x y : Work) :
    Ct Tryz.prog 29 [.agg ⟨l1⟩, .agg ⟨l2⟩] [] (fun H => gWork.rd H l1 x ∧ gWork.rd H l2 y) (fun v A => v = .bool (decide (x = y)) ∧ A = []) := by
  refine Ct.intro0 G_ok Tryz.func29 rfl rfl rfl fun E H hp => ?_
  obtain ⟨hp1, hp2⟩ := hp
  obtain ⟨l1p, b2p, c2p, b4p, c4p, l11p, b13p, c13p, rfl, h1p, h2p, w3p, h4p, w5p, w8p, h11p, h13p⟩ := gWork_rd.1 hp1
  obtain ⟨b1_1p, c1_1p, b2_1p, c2_1p, b3_1p, c3_1p, rfl, h1_1p, h2_1p, h3_1p⟩ := gQuery_rd.1 h1p
  obtain ⟨l0_11p, b1_11p, c1_11p, b4_11p, c4_11p, rfl, h0_11p, h1_11p, w2_11p, w3_11p, h4_11p⟩ := gCell_rd.1 h11p
  obtain ⟨b1_0_11p, c1_0_11p, b2_0_11p, c2_0_11p, b3_0_11p, c3_0_11p, rfl, h1_0_11p, h2_0_11p, h3_0_11p⟩ := gQuery_rd.1 h0_11p
  obtain ⟨l1q, b2q, c2q, b4q, c4q, l11q, b13q, c13q, rfl, h1q, h2q, w3q, h4q, w5q, w8q, h11q, h13q⟩ := gWork_rd.1 hp2
  obtain ⟨b1_1q, c1_1q, b2_1q, c2_1q, b3_1q, c3_1q, rfl, h1_1q, h2_1q, h3_1q⟩ := gQuery_rd.1 h1q
  obtain ⟨l0_11q, b1_11q, c1_11q, b4_11q, c4_11q, rfl, h0_11q, h1_11q, w2_11q, w3_11q, h4_11q⟩ := gCell_rd.1 h11q
  obtain ⟨b1_0_11q, c1_0_11q, b2_0_11q, c2_0_11q, b3_0_11q, c3_0_11q, rfl, h1_0_11q, h2_0_11q, h3_0_11q⟩ := gQuery_rd.1 h0_11q
  refine VCnew.intro fun x0 => ?_
  refine VCnew.intro fun x1 => ?_
  refine VCsplit.intro (fun q2 => ?_) (fun q2 => ?_)
  ·
    simp at q2
    exact ⟨[], ⟨by rw [decide_eq_false (fun e => by subst e; simp at *)], rfl⟩, (.le fun a => by (try simp only [setR, List.cons_append, List.nil_append]); simp only [List.flatten_append, List.flatten_cons, List.flatten_nil, List.count_append, List.count_nil, List.append_nil, List.nil_append]; omega)⟩
  ·
    simp at q2
    refine call_val (eqQuery_ct _ _ (x.query) (y.query)) ⟨(Rp.mono _ (mem_at 0 rfl) h1p), (Rp.mono _ (mem_at 0 rfl) h1q)⟩ ?_
    rintro _ rfl
    refine VCsplit.intro (fun q4 => ?_) (fun q4 => ?_)
    ·
      simp at q4
      exact ⟨[], ⟨by rw [decide_eq_false (fun e => by subst e; simp at *)], rfl⟩, (.le fun a => by (try simp only [setR, List.cons_append, List.nil_append]); simp only [List.flatten_append, List.flatten_cons, List.flatten_nil, List.count_append, List.count_nil, List.append_nil, List.nil_append]; omega)⟩
    ·
      simp at q4
      refine call_val (eqIntS_ct _ _ _ _ _ _ (x.shares) (y.shares)) ⟨(Rp.mono _ (mem_at 0 rfl) h2p), (Rp.mono _ (mem_at 0 rfl) h2q)⟩ ?_
      rintro _ rfl
      refine VCsplit.intro (fun q6 => ?_) (fun q6 => ?_)
      ·
        simp at q6
        exact ⟨[], ⟨by rw [decide_eq_false (fun e => by subst e; simp at *)], rfl⟩, (.le fun a => by (try simp only [setR, List.cons_append, List.nil_append]); simp only [List.flatten_append, List.flatten_cons, List.flatten_nil, List.count_append, List.count_nil, List.append_nil, List.nil_append]; omega)⟩
      ·
        simp at q6
        refine VCsplit.intro (fun q7 => ?_) (fun q7 => ?_)
        ·
          simp at q7
          exact ⟨[], ⟨by rw [decide_eq_false (fun e => by subst e; simp at *)], rfl⟩, (.le fun a => by (try simp only [setR, List.cons_append, List.nil_append]); simp only [List.flatten_append, List.flatten_cons, List.flatten_nil, List.count_append, List.count_nil, List.append_nil, List.nil_append]; omega)⟩
        ·
          simp at q7
          refine call_val (eqWalkS_ct _ _ _ _ _ _ (x.seen) (y.seen)) ⟨(Rp.mono _ (mem_at 0 rfl) h4p), (Rp.mono _ (mem_at 0 rfl) h4q)⟩ ?_
          rintro _ rfl
          refine VCsplit.intro (fun q9 => ?_) (fun q9 => ?_)
          ·
            simp at q9
            exact ⟨[], ⟨by rw [decide_eq_false (fun e => by subst e; simp at *)], rfl⟩, (.le fun a => by (try simp only [setR, List.cons_append, List.nil_append]); simp only [List.flatten_append, List.flatten_cons, List.flatten_nil, List.count_append, List.count_nil, List.append_nil, List.nil_append]; omega)⟩
          ·
            simp at q9
            refine VCsplit.intro (fun q10 => ?_) (fun q10 => ?_)
            ·
              simp at q10
              exact ⟨[], ⟨by rw [decide_eq_false (fun e => by subst e; simp at *)], rfl⟩, (.le fun a => by (try simp only [setR, List.cons_append, List.nil_append]); simp only [List.flatten_append, List.flatten_cons, List.flatten_nil, List.count_append, List.count_nil, List.append_nil, List.nil_append]; omega)⟩
            ·
              simp at q10
              refine VCsplit.intro (fun q11 => ?_) (fun q11 => ?_)
              ·
                simp at q11
                exact ⟨[], ⟨by rw [decide_eq_false (fun e => by subst e; simp at *)], rfl⟩, (.le fun a => by (try simp only [setR, List.cons_append, List.nil_append]); simp only [List.flatten_append, List.flatten_cons, List.flatten_nil, List.count_append, List.count_nil, List.append_nil, List.nil_append]; omega)⟩
              ·
                simp at q11
                refine VCsplit.intro (fun q12 => ?_) (fun q12 => ?_)
                ·
                  simp at q12
                  exact ⟨[], ⟨by rw [decide_eq_false (fun e => by subst e; simp at *)], rfl⟩, (.le fun a => by (try simp only [setR, List.cons_append, List.nil_append]); simp only [List.flatten_append, List.flatten_cons, List.flatten_nil, List.count_append, List.count_nil, List.append_nil, List.nil_append]; omega)⟩
                ·
                  simp at q12
                  refine VCsplit.intro (fun q13 => ?_) (fun q13 => ?_)
                  ·
                    simp at q13
                    exact ⟨[], ⟨by rw [decide_eq_false (fun e => by subst e; simp at *)], rfl⟩, (.le fun a => by (try simp only [setR, List.cons_append, List.nil_append]); simp only [List.flatten_append, List.flatten_cons, List.flatten_nil, List.count_append, List.count_nil, List.append_nil, List.nil_append]; omega)⟩
                  ·
                    simp at q13
                    refine VCsplit.intro (fun q14 => ?_) (fun q14 => ?_)
                    ·
                      simp at q14
                      exact ⟨[], ⟨by rw [decide_eq_false (fun e => by subst e; simp at *)], rfl⟩, (.le fun a => by (try simp only [setR, List.cons_append, List.nil_append]); simp only [List.flatten_append, List.flatten_cons, List.flatten_nil, List.count_append, List.count_nil, List.append_nil, List.nil_append]; omega)⟩
                    ·
                      simp at q14
                      refine VCsplit.intro (fun q15 => ?_) (fun q15 => ?_)
                      ·
                        simp at q15
                        exact ⟨[], ⟨by rw [decide_eq_false (fun e => by subst e; simp at *)], rfl⟩, (.le fun a => by (try simp only [setR, List.cons_append, List.nil_append]); simp only [List.flatten_append, List.flatten_cons, List.flatten_nil, List.count_append, List.count_nil, List.append_nil, List.nil_append]; omega)⟩
                      ·
                        simp at q15
                        refine call_val (eqCell_ct _ _ (x.cell) (y.cell)) ⟨(Rp.mono _ (mem_at 0 rfl) h11p), (Rp.mono _ (mem_at 0 rfl) h11q)⟩ ?_
                        rintro _ rfl
                        refine VCsplit.intro (fun q17 => ?_) (fun q17 => ?_)
                        ·
                          simp at q17
                          exact ⟨[], ⟨by rw [decide_eq_false (fun e => by subst e; simp at *)], rfl⟩, (.le fun a => by (try simp only [setR, List.cons_append, List.nil_append]); simp only [List.flatten_append, List.flatten_cons, List.flatten_nil, List.count_append, List.count_nil, List.append_nil, List.nil_append]; omega)⟩
                        ·
                          simp at q17
                          refine VCsplit.intro (fun q18 => ?_) (fun q18 => ?_)
                          ·
                            simp at q18
                            exact ⟨[], ⟨by rw [decide_eq_false (fun e => by subst e; simp at *)], rfl⟩, (.le fun a => by (try simp only [setR, List.cons_append, List.nil_append]); simp only [List.flatten_append, List.flatten_cons, List.flatten_nil, List.count_append, List.count_nil, List.append_nil, List.nil_append]; omega)⟩
                          ·
                            simp at q18
                            refine call_val (eqMailS_ct _ _ _ _ _ _ (x.waits) (y.waits)) ⟨(Rp.mono _ (mem_at 0 rfl) h13p), (Rp.mono _ (mem_at 0 rfl) h13q)⟩ ?_
                            rintro _ rfl
                            refine VCsplit.intro (fun q20 => ?_) (fun q20 => ?_)
                            ·
                              simp at q20
                              exact ⟨[], ⟨by rw [decide_eq_false (fun e => by subst e; simp at *)], rfl⟩, (.le fun a => by (try simp only [setR, List.cons_append, List.nil_append]); simp only [List.flatten_append, List.flatten_cons, List.flatten_nil, List.count_append, List.count_nil, List.append_nil, List.nil_append]; omega)⟩
                            ·
                              simp at q20
                              exact ⟨[], ⟨by rw [decide_eq_true (Work.eq_iff.2 (by simp_all))], rfl⟩, (.le fun a => by (try simp only [setR, List.cons_append, List.nil_append]); simp only [List.flatten_append, List.flatten_cons, List.flatten_nil, List.count_append, List.count_nil, List.append_nil, List.nil_append]; omega)⟩
--@ct laws.szAsk raw refine call_q (szAsk_ct _ $1 _ ?_ ?_) %1 ?_ | | rintro _ ⟨r#, rfl, hr#⟩
--@ct laws.toAsk new toAsk_ct _ $1 ?_ | %1 | obtain ⟨l#, rfl, o#⟩ := o# ;; have r# := Gt.owrd _ o# ;; obtain ⟨l1x#, b2x#, c2x#, b4x#, c4x#, l6x#, rfl, h1x#, h2x#, w3x#, h4x#, h6x#⟩ := gAsk_rd.1 r# ;; obtain ⟨b1_1x#, c1_1x#, b2_1x#, c2_1x#, b3_1x#, c3_1x#, rfl, h1_1x#, h2_1x#, h3_1x#⟩ := gQuery_rd.1 h1x# ;; obtain ⟨b0_6x#, c0_6x#, rfl, h0_6x#⟩ := gBag_rd.1 h6x#
--@ct laws.eqAsk val eqAsk_ct _ _ $1 $2 | ⟨%1, %2⟩
--@ct laws.szLinkS raw refine call_q (szLinkS_ct _ _ _ $1 _ ?_ ?_) %1 ?_ | | rintro _ ⟨r#, rfl, hr#⟩
--@ct laws.toLinkS new toLinkS_ct _ _ _ $1 ?_ | %1 | obtain ⟨b#, c#, rfl, o#⟩ := o#
--@ct laws.eqLinkS val eqLinkS_ct _ _ _ _ _ _ $1 $2 | ⟨%1, %2⟩
--@ct laws.szNode raw refine call_q (szNode_ct _ $1 _ ?_ ?_) %1 ?_ | | rintro _ ⟨r#, rfl, hr#⟩
--@ct laws.toNode new toNode_ct _ $1 ?_ | %1 | obtain ⟨l#, rfl, o#⟩ := o# ;; have r# := Gt.owrd _ o# ;; obtain ⟨l2x#, b5x#, c5x#, l6x#, l7x#, rfl, w0x#, h2x#, w3x#, h5x#, h6x#, h7x#⟩ := gNode_rd.1 r# ;; obtain ⟨b0_2x#, c0_2x#, rfl, h0_2x#⟩ := gDisk_rd.1 h2x# ;; obtain ⟨l1_6x#, b2_6x#, c2_6x#, b4_6x#, c4_6x#, l11_6x#, b13_6x#, c13_6x#, rfl, h1_6x#, h2_6x#, w3_6x#, h4_6x#, w5_6x#, w8_6x#, h11_6x#, h13_6x#⟩ := gWork_rd.1 h6x# ;; obtain ⟨b1_1_6x#, c1_1_6x#, b2_1_6x#, c2_1_6x#, b3_1_6x#, c3_1_6x#, rfl, h1_1_6x#, h2_1_6x#, h3_1_6x#⟩ := gQuery_rd.1 h1_6x# ;; obtain ⟨l0_11_6x#, b1_11_6x#, c1_11_6x#, b4_11_6x#, c4_11_6x#, rfl, h0_11_6x#, h1_11_6x#, w2_11_6x#, w3_11_6x#, h4_11_6x#⟩ := gCell_rd.1 h11_6x# ;; obtain ⟨b1_0_11_6x#, c1_0_11_6x#, b2_0_11_6x#, c2_0_11_6x#, b3_0_11_6x#, c3_0_11_6x#, rfl, h1_0_11_6x#, h2_0_11_6x#, h3_0_11_6x#⟩ := gQuery_rd.1 h0_11_6x# ;; obtain ⟨l1_7x#, b2_7x#, c2_7x#, b4_7x#, c4_7x#, l6_7x#, rfl, h1_7x#, h2_7x#, w3_7x#, h4_7x#, h6_7x#⟩ := gAsk_rd.1 h7x# ;; obtain ⟨b1_1_7x#, c1_1_7x#, b2_1_7x#, c2_1_7x#, b3_1_7x#, c3_1_7x#, rfl, h1_1_7x#, h2_1_7x#, h3_1_7x#⟩ := gQuery_rd.1 h1_7x# ;; obtain ⟨b0_6_7x#, c0_6_7x#, rfl, h0_6_7x#⟩ := gBag_rd.1 h6_7x#
--@ct laws.eqNode val eqNode_ct _ _ $1 $2 | ⟨%1, %2⟩
--@ct laws.szNodeS raw refine call_q (szNodeS_ct _ _ _ $1 _ ?_ ?_) %1 ?_ | | rintro _ ⟨r#, rfl, hr#⟩
--@ct laws.toNodeS new toNodeS_ct _ _ _ $1 ?_ | %1 | obtain ⟨b#, c#, rfl, o#⟩ := o#
--@ct laws.eqNodeS val eqNodeS_ct _ _ _ _ _ _ $1 $2 | ⟨%1, %2⟩
--@ct laws.szBagS raw refine call_q (szBagS_ct _ _ _ $1 _ ?_ ?_) %1 ?_ | | rintro _ ⟨r#, rfl, hr#⟩
--@ct laws.toBagS new toBagS_ct _ _ _ $1 ?_ | %1 | obtain ⟨b#, c#, rfl, o#⟩ := o#
--@ct laws.eqBagS val eqBagS_ct _ _ _ _ _ _ $1 $2 | ⟨%1, %2⟩
--@ct laws.szCluster raw refine call_q (szCluster_ct _ $1 _ ?_ ?_) %1 ?_ | | rintro _ ⟨r#, rfl, hr#⟩
--@ct laws.toCluster new toCluster_ct _ $1 ?_ | %1 | obtain ⟨l#, rfl, o#⟩ := o# ;; have r# := Gt.owrd _ o# ;; obtain ⟨l0x#, b1x#, c1x#, b2x#, c2x#, b3x#, c3x#, b4x#, c4x#, rfl, h0x#, h1x#, h2x#, h3x#, h4x#⟩ := gCluster_rd.1 r# ;; obtain ⟨b1_0x#, c1_0x#, b2_0x#, c2_0x#, b3_0x#, c3_0x#, rfl, h1_0x#, h2_0x#, h3_0x#⟩ := gQuery_rd.1 h0x#
--@ct laws.eqCluster val eqCluster_ct _ _ $1 $2 | ⟨%1, %2⟩
--@ct laws.szIntSS raw refine call_q (szIntSS_ct _ _ _ $1 _ ?_ ?_) %1 ?_ | | rintro _ ⟨r#, rfl, hr#⟩
--@ct laws.toIntSS new toIntSS_ct _ _ _ $1 ?_ | %1 | obtain ⟨b#, c#, rfl, o#⟩ := o#
--@ct laws.eqIntSS val eqIntSS_ct _ _ _ _ _ _ $1 $2 | ⟨%1, %2⟩
theorem eqIntSS_ct (b1 : Option Addr) (m1 c1 : Nat) (b2 : Option Addr) (m2 c2 : Nat) (xs ys : List (List Int)) :
    Ct Tryz.prog 19 [.slice b1 m1 c1, .slice b2 m2 c2] [] (fun H => (gSl 27 (gSl 3 gI)).rd H [.slice b1 m1 c1] xs ∧ (gSl 27 (gSl 3 gI)).rd H [.slice b2 m2 c2] ys) (fun v A => v = .bool (decide (xs = ys)) ∧ A = []) := by
  refine Ct.intro0 G_ok Tryz.func19 rfl rfl rfl fun E H hp => ?_
  obtain ⟨hp1, hp2⟩ := hp
  obtain ⟨rfl, hc1, hl1⟩ := sl_len hp1
  obtain ⟨rfl, hc2, hl2⟩ := sl_len hp2
  refine VCsplit.intro (fun q0 => ?_) (fun q0 => ?_)
  ·
    simp at q0
    exact ⟨[], ⟨by rw [decide_eq_false (fun e => by subst e; omega)], rfl⟩, (.le fun a => by (try simp only [setR, List.cons_append, List.nil_append]); simp only [List.flatten_append, List.flatten_cons, List.flatten_nil, List.count_append, List.count_nil, List.append_nil, List.nil_append]; omega)⟩
  ·
    simp at q0
    apply loop_mod (α := (Nat)) G_ok [11, 12, 13, 14, 17, 18, 19, 20, 21, 22, 23, 24, 25, 26, 4, 15, 16, 5] (fun z => [(5, .v (.int .i64 z))]) (fun z => []) (fun z => [H]) (fun z => xs.length - z) (fun z => z ≤ xs.length ∧ xs.take z = ys.take z) (0)
    · repeat' (first | exact trivial | refine ⟨⟨_, rfl, by first | rfl | exact inc_eq _ (by omega) | (refine sl_eq ?_; simp; done), by first | exact trivial | simp [SV.ok]⟩, ?_⟩)
    · exact trivial
    · exact ⟨by omega, by simp⟩
    · exact .refl _
    rintro k hI
    obtain ⟨hk, he⟩ : k ≤ xs.length ∧ xs.take k = ys.take k := hI
    try dsimp only
    refine VCsplit.intro (fun q1 => ?_) (fun q1 => ?_)
    ·
      simp at q1
      refine draw G_ok mixed none (.q 0 (.q 1 (.q 2 (.q 3 (.q 4 (.q 5 (.q 6 (.q 7 (.f 8 (.q 9 (.nil))))))))))) (by decide +kernel) ?_
      refine idx_rd hp1 ?_ ?_ fun b2 o2 hb2 => ?_
      · omega
      · omega
      refine load_allN [] (k) rfl hp1 ?_ ?_ hb2 rfl (mem_at 0 rfl) fun l3 hl3 => ?_
      · omega
      · omega
      obtain ⟨u3, w3, rfl, hl3⟩ := sl_rd hl3
      refine idx_rd hp2 ?_ ?_ fun b4 o4 hb4 => ?_
      · omega
      · omega
      refine load_allN [] (k) rfl hp2 ?_ ?_ hb4 rfl (mem_at 0 rfl) fun l5 hl5 => ?_
      · omega
      · omega
      obtain ⟨u5, w5, rfl, hl5⟩ := sl_rd hl5
      refine call_val (eqIntS_ct _ _ _ _ _ _ (xs[k]?.getD []) (ys[k]?.getD [])) ⟨(Rp.mono _ (mem_at 0 rfl) hl3), (Rp.mono _ (mem_at 0 rfl) hl5)⟩ ?_
      rintro _ rfl
      refine VC.intro ?_ ?_
      · exact fun _ h => h
      refine VCsplit.intro (fun q7 => ?_) (fun q7 => ?_)
      ·
        simp at q7
        exact ⟨[], ⟨by rw [decide_eq_false (fun e => by subst e; simp at *)], rfl⟩, (.le fun a => by (try simp only [setR, List.cons_append, List.nil_append]); simp only [List.flatten_append, List.flatten_cons, List.flatten_nil, List.count_append, List.count_nil, List.append_nil, List.nil_append]; omega)⟩
      ·
        simp at q7
        apply loop_stepA (k + 1)
        · exact .refl _
        · repeat' (first | exact trivial | refine ⟨⟨_, rfl, by first | rfl | exact inc_eq _ (by omega) | (refine sl_eq ?_; simp; done), by first | exact trivial | simp [SV.ok]⟩, ?_⟩)
        · exact trivial
        · exact ⟨by omega, eq_step [] (by omega) he (by omega) (by simpa using ‹_›)⟩
        · omega
    ·
      simp at q1
      exact ⟨[], ⟨by rw [decide_eq_true]; rw [← List.take_length (l := xs), ← List.take_length (l := ys), ← (by omega : xs.length = ys.length), show xs.length = k by omega]; exact he, rfl⟩, (.le fun a => by (try simp only [setR, List.cons_append, List.nil_append]); simp only [List.flatten_append, List.flatten_cons, List.flatten_nil, List.count_append, List.count_nil, List.append_nil, List.nil_append]; omega)⟩
end Go.Proofs.YtjgehblllhkdbaaGreat

namespace Go.Proofs.YtjgehblllhkdbaaGreat
open Go.SX Go.Proofs
set_option linter.unusedSimpArgs false
set_option linter.unusedVariables false
set_option maxHeartbeats 4000000
def inR (a b n : Int) : Bool := decide (a ≤ n) && decide (n ≤ b)
theorem inR_iff {a b n : Int} : inR a b n = true ↔ a ≤ n ∧ n ≤ b := by unfold inR; simp
--@ct impl.isWorkers val isWorkers_ct _
--@ct spec.l01In val l01In_ct _ _ _
theorem l01In_ct (n a b : Int) : Ct Tryz.prog 61 [.int .i64 n, .int .i64 a, .int .i64 b] [] (fun _ => True) (fun v A => v = .bool (inR a b n) ∧ A = []) := by
  refine Ct.intro0 G_ok Tryz.func61 rfl rfl rfl fun E H hp => ?_
  refine VCsplit.intro (fun q0 => ?_) (fun q0 => ?_)
  ·
    simp at q0
    exact ⟨[], ⟨by unfold inR; first | rw [decide_eq_true (by omega : a ≤ n), Bool.true_and] | rw [decide_eq_false (by omega : ¬ a ≤ n), Bool.false_and], rfl⟩, (.le fun a => by (try simp only [setR, List.cons_append, List.nil_append]); simp only [List.flatten_append, List.flatten_cons, List.flatten_nil, List.count_append, List.count_nil, List.append_nil, List.nil_append]; omega)⟩
  ·
    simp at q0
    exact ⟨[], ⟨by unfold inR; first | rw [decide_eq_true (by omega : a ≤ n), Bool.true_and] | rw [decide_eq_false (by omega : ¬ a ≤ n), Bool.false_and], rfl⟩, (.le fun a => by (try simp only [setR, List.cons_append, List.nil_append]); simp only [List.flatten_append, List.flatten_cons, List.flatten_nil, List.count_append, List.count_nil, List.append_nil, List.nil_append]; omega)⟩
end Go.Proofs.YtjgehblllhkdbaaGreat

namespace Go.Proofs.YtjgehblllhkdbaaGreat
open Go.SX Go.Proofs
set_option linter.unusedSimpArgs false
set_option linter.unusedVariables false
set_option maxHeartbeats 4000000
/-- the bytes of a text -/
def by' (s : ByteArray) : List UInt8 := s.data.toList
def tx (l : List UInt8) : ByteArray := ⟨l.toArray⟩
theorem tx_by (s : ByteArray) : tx (by' s) = s := by unfold tx by'; rfl
theorem by_inj {a b : ByteArray} : by' a = by' b ↔ a = b := ⟨fun h => by rw [← tx_by a, h, tx_by], fun h => by rw [h]⟩
theorem by_size (s : ByteArray) : (by' s).length = s.size := by unfold by'; simp
def xu (x y : Int) : Int := IntKind.u32.wrap (BitVec.ofInt IntKind.u32.bits x ^^^ BitVec.ofInt IntKind.u32.bits y).toNat
theorem u32_wrap (x : Int) : IntKind.u32.wrap x = x % 4294967296 := by
  unfold IntKind.wrap
  simp [IntKind.bits, IntKind.signed]
def bitStep (s : Int) : Int := if s % 2 = 1 then xu (s / 2) 3558460437 else s / 2
def bits : Nat → Int → Int
  | 0, s => s
  | n + 1, s => bitStep (bits n s)
def byteStep (s : Int) (b : UInt8) : Int := bits 8 (xu s b.toNat)
def sumMore (s : Int) (l : List UInt8) : Int := l.foldl byteStep s
def sumOf (t : ByteArray) : Int := sumMore 4294967295 (by' t)
attribute [irreducible] xu bits sumMore
attribute [local irreducible] IntKind.wrap
--@ct impl.SumMore val implSumMore_ct _ _ ?_ ?_
--@ct spec.SumMore val specSumMore_ct _ _ ?_ ?_
end Go.Proofs.YtjgehblllhkdbaaGreat

namespace Go.Proofs.YtjgehblllhkdbaaGreat
open Go.SX Go.Proofs
set_option linter.unusedSimpArgs false
set_option linter.unusedVariables false
set_option maxHeartbeats 4000000
attribute [local irreducible] IntKind.wrap
--@ct impl.SumOf val implSumOf_ct _ ?_
--@ct spec.SumOf val specSumOf_ct _ ?_
def varL : Nat → Nat → List UInt8
  | 0, n => [UInt8.ofNat n]
  | f + 1, n => if 127 < n then UInt8.ofNat (128 + n % 128) :: varL f (n / 128) else [UInt8.ofNat n]
def varT (n : Int) : List UInt8 := varL 9 n.toNat
def varText (n : Int) : ByteArray := tx (varT n)
--@ct impl.varText val varText_ct _ ?_ ?_
--@ct spec.l01Var val l01Var_ct _ ?_ ?_
def fourL (s : Int) : List UInt8 := [UInt8.ofNat (s / 16777216 % 256).toNat, UInt8.ofNat (s / 65536 % 256).toNat, UInt8.ofNat (s / 256 % 256).toNat, UInt8.ofNat (s % 256).toNat]
def four (s : Int) : ByteArray := tx (fourL s)
--@ct spec.l02Four val l02Four_ct _ ?_
--@ct impl.sumText val sumText_ct _ ?_
end Go.Proofs.YtjgehblllhkdbaaGreat

namespace Go.Proofs.YtjgehblllhkdbaaGreat
open Go.SX Go.Proofs
set_option linter.unusedSimpArgs false
set_option linter.unusedVariables false
set_option maxHeartbeats 4000000
attribute [local irreducible] IntKind.wrap
def cmpI (a b : Int) : Int := if a < b then -1 else if b < a then 1 else 0
def cmpL : List Int → List Int → Int
  | [], [] => 0
  | [], _ :: _ => -1
  | _ :: _, [] => 1
  | a :: r, b :: s => if a < b then -1 else if b < a then 1 else cmpL r s
--@ct cmp.isNaN[int] val isNaN_ct _
theorem isNaN_ct (a : Int) : Ct Tryz.prog 342 [.int .i64 a] [] (fun _ => True) (fun v A => v = .bool false ∧ A = []) := by
  refine Ct.intro0 G_ok Tryz.func342 rfl rfl rfl fun E H hp => ?_
  exact ⟨[], ⟨by simp, rfl⟩, (.le fun a => by (try simp only [setR, List.cons_append, List.nil_append]); simp only [List.flatten_append, List.flatten_cons, List.flatten_nil, List.count_append, List.count_nil, List.append_nil, List.nil_append]; omega)⟩
--@ct cmp.Compare[int] val cmpCompare_ct _ _
theorem cmpCompare_ct (a b : Int) : Ct Tryz.prog 263 [.int .i64 a, .int .i64 b] [] (fun _ => True) (fun v A => v = .int .i64 (cmpI a b) ∧ A = []) := by
  refine Ct.intro0 G_ok Tryz.func263 rfl rfl rfl fun E H hp => ?_
  refine call_val (isNaN_ct _) trivial ?_
  rintro _ rfl
  refine call_val (isNaN_ct _) trivial ?_
  rintro _ rfl
  refine VCsplit.intro (fun q2 => ?_) (fun q2 => ?_)
  ·
    simp at q2
  ·
    simp at q2
    refine VCsplit.intro (fun q3 => ?_) (fun q3 => ?_)
    ·
      simp at q3
    ·
      simp at q3
      refine VCsplit.intro (fun q4 => ?_) (fun q4 => ?_)
      ·
        simp at q4
        exact ⟨[], ⟨by unfold cmpI; rw [if_pos (by omega)], rfl⟩, (.le fun a => by (try simp only [setR, List.cons_append, List.nil_append]); simp only [List.flatten_append, List.flatten_cons, List.flatten_nil, List.count_append, List.count_nil, List.append_nil, List.nil_append]; omega)⟩
      ·
        simp at q4
        refine VCsplit.intro (fun q5 => ?_) (fun q5 => ?_)
        ·
          simp at q5
          exact ⟨[], ⟨by unfold cmpI; rw [if_neg (by omega), if_pos (by omega)], rfl⟩, (.le fun a => by (try simp only [setR, List.cons_append, List.nil_append]); simp only [List.flatten_append, List.flatten_cons, List.flatten_nil, List.count_append, List.count_nil, List.append_nil, List.nil_append]; omega)⟩
        ·
          simp at q5
          exact ⟨[], ⟨by unfold cmpI; rw [if_neg (by omega), if_neg (by omega)], rfl⟩, (.le fun a => by (try simp only [setR, List.cons_append, List.nil_append]); simp only [List.flatten_append, List.flatten_cons, List.flatten_nil, List.count_append, List.count_nil, List.append_nil, List.nil_append]; omega)⟩
theorem cmpL_drop {xs ys : List Int} (k : Nat) (h1 : k < xs.length) (h2 : k < ys.length) :
    cmpL (xs.drop k) (ys.drop k) = if cmpI (xs[k]?.getD 0) (ys[k]?.getD 0) = 0 then cmpL (xs.drop (k + 1)) (ys.drop (k + 1)) else cmpI (xs[k]?.getD 0) (ys[k]?.getD 0) := by
  rw [List.drop_eq_getElem_cons h1, List.drop_eq_getElem_cons h2, List.getElem?_eq_getElem h1, List.getElem?_eq_getElem h2]
  simp only [Option.getD_some, cmpL, cmpI]
  split
  · simp
  · split
    · simp
    · simp
--@ct slices.Compare[[]int,int] val sCompare_ct _ _ _ _ _ _ $1 $2 | ⟨%1, %2⟩
theorem sCompare_ct (b1 : Option Addr) (m1 c1 : Nat) (b2 : Option Addr) (m2 c2 : Nat) (xs ys : List Int) :
    Ct Tryz.prog 179 [.slice b1 m1 c1, .slice b2 m2 c2] [] (fun H => (gSl 3 gI).rd H [.slice b1 m1 c1] xs ∧ (gSl 3 gI).rd H [.slice b2 m2 c2] ys) (fun v A => v = .int .i64 (cmpL xs ys) ∧ A = []) := by
  refine Ct.intro0 G_ok Tryz.func179 rfl rfl rfl fun E H hp => ?_
  obtain ⟨hp1, hp2⟩ := hp
  obtain ⟨rfl, hc1, hl1⟩ := sl_len hp1
  obtain ⟨rfl, hc2, hl2⟩ := sl_len hp2
  apply loop_mod (α := (Nat)) G_ok [12, 13, 14, 15, 5, 6, 16, 17, 18, 19, 4, 20, 21, 22, 23, 7, 24, 25, 26, 8, 27, 28, 29, 30, 11] (fun z => [(11, .v (.int .i64 z))]) (fun z => []) (fun z => [H]) (fun z => xs.length - z) (fun z => z ≤ xs.length ∧ z ≤ ys.length ∧ cmpL xs ys = cmpL (xs.drop z) (ys.drop z)) (0)
  · repeat' (first | exact trivial | refine ⟨⟨_, rfl, by first | rfl | exact inc_eq _ (by omega) | (refine sl_eq ?_; simp; done), by first | exact trivial | simp [SV.ok]⟩, ?_⟩)
  · exact trivial
  · exact ⟨by omega, by omega, by simp⟩
  · exact .refl _
  rintro k hI
  obtain ⟨hk, hk2, he⟩ : k ≤ xs.length ∧ k ≤ ys.length ∧ cmpL xs ys = cmpL (xs.drop k) (ys.drop k) := hI
  try dsimp only
  refine VCsplit.intro (fun q0 => ?_) (fun q0 => ?_)
  ·
    simp at q0
    refine idx_rd hp1 ?_ ?_ fun b1 o1 hb1 => ?_
    · omega
    · omega
    refine load_allN 0 (k) rfl hp1 ?_ ?_ hb1 rfl (mem_at 0 rfl) fun l2 hl2 => ?_
    · omega
    · omega
    obtain ⟨rfl, hw2⟩ := hl2; simp only [flStr, flInt, okI] at hw2
    refine VCsplit.intro (fun q3 => ?_) (fun q3 => ?_)
    ·
      simp at q3
      exact ⟨[], ⟨by rw [he, List.drop_eq_getElem_cons (by omega : k < xs.length), List.drop_eq_nil_of_le (by omega : ys.length ≤ k)]; rfl, rfl⟩, (.le fun a => by (try simp only [setR, List.cons_append, List.nil_append]); simp only [List.flatten_append, List.flatten_cons, List.flatten_nil, List.count_append, List.count_nil, List.append_nil, List.nil_append]; omega)⟩
    ·
      simp at q3
      refine idx_rd hp2 ?_ ?_ fun b4 o4 hb4 => ?_
      · omega
      · omega
      refine load_allN 0 (k) rfl hp2 ?_ ?_ hb4 rfl (mem_at 0 rfl) fun l5 hl5 => ?_
      · omega
      · omega
      obtain ⟨rfl, hw5⟩ := hl5; simp only [flStr, flInt, okI] at hw5
      refine call_val (cmpCompare_ct _ _) trivial ?_
      rintro _ rfl
      refine VCsplit.intro (fun q7 => ?_) (fun q7 => ?_)
      ·
        simp at q7
        exact ⟨[], ⟨by rw [he, cmpL_drop k (by omega) (by omega), if_neg (by assumption)], rfl⟩, (.le fun a => by (try simp only [setR, List.cons_append, List.nil_append]); simp only [List.flatten_append, List.flatten_cons, List.flatten_nil, List.count_append, List.count_nil, List.append_nil, List.nil_append]; omega)⟩
      ·
        simp at q7
        apply loop_stepA (k + 1)
        · exact .refl _
        · repeat' (first | exact trivial | refine ⟨⟨_, rfl, by first | rfl | exact inc_eq _ (by omega) | (refine sl_eq ?_; simp; done), by first | exact trivial | simp [SV.ok]⟩, ?_⟩)
        · exact trivial
        · exact ⟨by omega, by omega, by rw [he, cmpL_drop k (by omega) (by omega), if_pos (by assumption)]⟩
        · omega
  ·
    simp at q0
    refine VCsplit.intro (fun q8 => ?_) (fun q8 => ?_)
    ·
      simp at q8
      exact ⟨[], ⟨by rw [he, List.drop_eq_getElem_cons (by omega : k < ys.length), List.drop_eq_nil_of_le (by omega : xs.length ≤ k)]; rfl, rfl⟩, (.le fun a => by (try simp only [setR, List.cons_append, List.nil_append]); simp only [List.flatten_append, List.flatten_cons, List.flatten_nil, List.count_append, List.count_nil, List.append_nil, List.nil_append]; omega)⟩
    ·
      simp at q8
      exact ⟨[], ⟨by rw [he, List.drop_eq_nil_of_le (by omega : ys.length ≤ k), List.drop_eq_nil_of_le (by omega : xs.length ≤ k)]; rfl, rfl⟩, (.le fun a => by (try simp only [setR, List.cons_append, List.nil_append]); simp only [List.flatten_append, List.flatten_cons, List.flatten_nil, List.count_append, List.count_nil, List.append_nil, List.nil_append]; omega)⟩
def labelOk (b : UInt8) : Bool := decide (97 ≤ (b.toNat : Int)) && decide ((b.toNat : Int) ≤ 100)
--@ct impl.isLabel val isLabel_ct _
theorem isLabel_ct (b : UInt8) : Ct Tryz.prog 198 [.int .u8 b.toNat] [] (fun _ => True) (fun v A => v = .bool (labelOk b) ∧ A = []) := by
  refine Ct.intro0 G_ok Tryz.func198 rfl rfl rfl fun E H hp => ?_
  refine VCsplit.intro (fun q0 => ?_) (fun q0 => ?_)
  ·
    simp at q0
    exact ⟨[], ⟨by unfold labelOk; first | rw [decide_eq_true (by omega : (97 : Int) ≤ b.toNat), Bool.true_and] | rw [decide_eq_false (by omega : ¬ (97 : Int) ≤ b.toNat), Bool.false_and], rfl⟩, (.le fun a => by (try simp only [setR, List.cons_append, List.nil_append]); simp only [List.flatten_append, List.flatten_cons, List.flatten_nil, List.count_append, List.count_nil, List.append_nil, List.nil_append]; omega)⟩
  ·
    simp at q0
    exact ⟨[], ⟨by unfold labelOk; first | rw [decide_eq_true (by omega : (97 : Int) ≤ b.toNat), Bool.true_and] | rw [decide_eq_false (by omega : ¬ (97 : Int) ≤ b.toNat), Bool.false_and], rfl⟩, (.le fun a => by (try simp only [setR, List.cons_append, List.nil_append]); simp only [List.flatten_append, List.flatten_cons, List.flatten_nil, List.count_append, List.count_nil, List.append_nil, List.nil_append]; omega)⟩
end Go.Proofs.YtjgehblllhkdbaaGreat

namespace Go.Proofs.YtjgehblllhkdbaaGreat
open Go.SX Go.Proofs
set_option linter.unusedSimpArgs false
set_option linter.unusedVariables false
set_option maxHeartbeats 4000000
attribute [local irreducible] IntKind.wrap
def allK (p : Nat → Bool) : Nat → Bool
  | 0 => true
  | k + 1 => allK p k && p k
theorem allK_no {p : Nat → Bool} {k : Nat} (h : p k = false) : ∀ n, k < n → allK p n = false
  | 0, h1 => by omega
  | n + 1, h1 => by
    unfold allK
    rcases Nat.lt_or_ge k n with h2 | h2
    · rw [allK_no h n h2]; rfl
    · rw [show n = k by omega, h]; simp
theorem allK_step {p : Nat → Bool} {k : Nat} (h : allK p k = true) (h1 : p k = true) : allK p (k + 1) = true := by unfold allK; rw [h, h1]; rfl
theorem allK_at {p : Nat → Bool} : ∀ {n : Nat}, allK p n = true → ∀ k, k < n → p k = true
  | 0, _, k, hk => by omega
  | n + 1, h, k, hk => by
    unfold allK at h
    rw [Bool.and_eq_true] at h
    rcases Nat.lt_or_ge k n with h1 | h1
    · exact allK_at h.1 k h1
    · rw [show k = n by omega]; exact h.2
theorem cmpI_zero {a b : Int} : cmpI a b = 0 ↔ a = b := by
  unfold cmpI; split
  · omega
  · split <;> omega
theorem cmpI_neg {a b : Int} : cmpI a b < 0 ↔ a < b := by
  unfold cmpI; split
  · omega
  · split <;> omega
theorem cmpL_end {xs ys : List Int} {k : Nat} (h : xs.length ≤ k ∨ ys.length ≤ k) (h1 : k ≤ xs.length) (h2 : k ≤ ys.length) : decide (cmpL (xs.drop k) (ys.drop k) < 0) = decide (xs.length < ys.length) := by
  rcases Nat.lt_or_ge k xs.length with h3 | h3
  · rw [List.drop_eq_nil_of_le (by omega : ys.length ≤ k), List.drop_eq_getElem_cons h3, decide_eq_decide]
    simp only [cmpL]; omega
  · rw [List.drop_eq_nil_of_le h3]
    rcases Nat.lt_or_ge k ys.length with h4 | h4
    · rw [List.drop_eq_getElem_cons h4, decide_eq_decide]; simp only [cmpL]; omega
    · rw [List.drop_eq_nil_of_le h4, decide_eq_decide]; simp only [cmpL]; omega
theorem cmpL_go {xs ys : List Int} {k : Nat} (h1 : k < xs.length) (h2 : k < ys.length) (h : ¬ (xs[k]?.getD 0) = (ys[k]?.getD 0)) : decide (cmpL (xs.drop k) (ys.drop k) < 0) = decide ((xs[k]?.getD 0) < (ys[k]?.getD 0)) := by
  rw [cmpL_drop k h1 h2, if_neg (by rw [cmpI_zero]; exact h), decide_eq_decide]; exact cmpI_neg
theorem cmpL_eq {xs ys : List Int} {k : Nat} (h1 : k < xs.length) (h2 : k < ys.length) (h : (xs[k]?.getD 0) = (ys[k]?.getD 0)) : cmpL (xs.drop k) (ys.drop k) = cmpL (xs.drop (k + 1)) (ys.drop (k + 1)) := by
  rw [cmpL_drop k h1 h2, if_pos (by rw [cmpI_zero]; exact h)]
def rowLess (a b : List Int) : Bool := decide (cmpL a b < 0)
--@ct impl.RowLess val implRowLess_ct _ _ _ _ _ _ $1 $2 | ⟨%1, %2⟩
--@ct spec.RowLess val specRowLess_ct _ _ _ _ _ _ $1 $2 | ⟨%1, %2⟩
theorem specRowLess_ct (b1 : Option Addr) (m1 c1 : Nat) (b2 : Option Addr) (m2 c2 : Nat) (xs ys : List Int) :
    Ct Tryz.prog 155 [.slice b1 m1 c1, .slice b2 m2 c2] [] (fun H => (gSl 3 gI).rd H [.slice b1 m1 c1] xs ∧ (gSl 3 gI).rd H [.slice b2 m2 c2] ys) (fun v A => v = .bool (rowLess xs ys) ∧ A = []) := by
  refine Ct.intro0 G_ok Tryz.func155 rfl rfl rfl fun E H hp => ?_
  obtain ⟨hp1, hp2⟩ := hp
  obtain ⟨rfl, hc1, hl1⟩ := sl_len hp1
  obtain ⟨rfl, hc2, hl2⟩ := sl_len hp2
  apply loop_mod (α := (Nat)) G_ok [6, 7, 8, 9, 10, 11, 12, 13, 14, 15, 18, 19, 20, 21, 22, 23, 24, 25, 26, 27, 28, 29, 30, 31, 32, 33, 34, 35, 4, 16, 17, 5] (fun z => [(5, .v (.int .i64 z))]) (fun z => []) (fun z => [H]) (fun z => xs.length - z) (fun z => z ≤ xs.length ∧ z ≤ ys.length ∧ cmpL xs ys = cmpL (xs.drop z) (ys.drop z)) (0)
  · repeat' (first | exact trivial | refine ⟨⟨_, rfl, by first | rfl | exact inc_eq _ (by omega) | (refine sl_eq ?_; simp; done), by first | exact trivial | simp [SV.ok]⟩, ?_⟩)
  · exact trivial
  · exact ⟨by omega, by omega, by simp⟩
  · exact .refl _
  rintro k hI
  obtain ⟨hk, hk2, he⟩ : k ≤ xs.length ∧ k ≤ ys.length ∧ cmpL xs ys = cmpL (xs.drop k) (ys.drop k) := hI
  try dsimp only
  refine VCsplit.intro (fun q0 => ?_) (fun q0 => ?_)
  ·
    simp at q0
    refine VCsplit.intro (fun q1 => ?_) (fun q1 => ?_)
    ·
      simp at q1
      refine draw G_ok mixed none (.q 0 (.q 1 (.q 2 (.q 3 (.q 4 (.q 5 (.q 6 (.q 7 (.q 8 (.nil)))))))))) (by decide +kernel) ?_
      refine idx_rd hp1 ?_ ?_ fun b2 o2 hb2 => ?_
      · omega
      · omega
      refine load_allN 0 (k) rfl hp1 ?_ ?_ hb2 rfl (mem_at 0 rfl) fun l3 hl3 => ?_
      · omega
      · omega
      obtain ⟨rfl, hw3⟩ := hl3; simp only [flStr, flInt, okI] at hw3
      refine idx_rd hp2 ?_ ?_ fun b4 o4 hb4 => ?_
      · omega
      · omega
      refine load_allN 0 (k) rfl hp2 ?_ ?_ hb4 rfl (mem_at 0 rfl) fun l5 hl5 => ?_
      · omega
      · omega
      obtain ⟨rfl, hw5⟩ := hl5; simp only [flStr, flInt, okI] at hw5
      refine VCsplit.intro (fun q6 => ?_) (fun q6 => ?_)
      ·
        simp at q6
        refine draw G_ok mixed none (.q 0 (.q 1 (.q 2 (.q 3 (.q 4 (.q 5 (.q 6 (.q 7 (.q 8 (.q 9 (.nil))))))))))) (by decide +kernel) ?_
        refine idx_rd hp1 ?_ ?_ fun b7 o7 hb7 => ?_
        · omega
        · omega
        refine load_allN 0 (k) rfl hp1 ?_ ?_ hb7 rfl (mem_at 0 rfl) fun l8 hl8 => ?_
        · omega
        · omega
        obtain ⟨rfl, hw8⟩ := hl8; simp only [flStr, flInt, okI] at hw8
        refine idx_rd hp2 ?_ ?_ fun b9 o9 hb9 => ?_
        · omega
        · omega
        refine load_allN 0 (k) rfl hp2 ?_ ?_ hb9 rfl (mem_at 0 rfl) fun l10 hl10 => ?_
        · omega
        · omega
        obtain ⟨rfl, hw10⟩ := hl10; simp only [flStr, flInt, okI] at hw10
        exact ⟨[], ⟨by unfold rowLess; rw [he, cmpL_go (by omega) (by omega) ‹¬ _ = _›], rfl⟩, (.le fun a => by (try simp only [setR, List.cons_append, List.nil_append]); simp only [List.flatten_append, List.flatten_cons, List.flatten_nil, List.count_append, List.count_nil, List.append_nil, List.nil_append]; omega)⟩
      ·
        simp at q6
        apply loop_stepA (k + 1)
        · exact .refl _
        · repeat' (first | exact trivial | refine ⟨⟨_, rfl, by first | rfl | exact inc_eq _ (by omega) | (refine sl_eq ?_; simp; done), by first | exact trivial | simp [SV.ok]⟩, ?_⟩)
        · exact trivial
        · exact ⟨by omega, by omega, by rw [he, cmpL_eq (by omega) (by omega) ‹_ = _›]⟩
        · omega
    ·
      simp at q1
      exact ⟨[], ⟨by unfold rowLess; rw [he, cmpL_end (by omega) (by omega) (by omega)]; congr 1; rw [decide_eq_decide]; omega, rfl⟩, (.le fun a => by (try simp only [setR, List.cons_append, List.nil_append]); simp only [List.flatten_append, List.flatten_cons, List.flatten_nil, List.count_append, List.count_nil, List.append_nil, List.nil_append]; omega)⟩
  ·
    simp at q0
    exact ⟨[], ⟨by unfold rowLess; rw [he, cmpL_end (by omega) (by omega) (by omega)]; congr 1; rw [decide_eq_decide]; omega, rfl⟩, (.le fun a => by (try simp only [setR, List.cons_append, List.nil_append]); simp only [List.flatten_append, List.flatten_cons, List.flatten_nil, List.count_append, List.count_nil, List.append_nil, List.nil_append]; omega)⟩
--@ct impl.rowOk val implRowOk_ct _ _ _ $1 | %1
--@ct spec.l03Row val l03Row_ct _ _ _ $1 | %1
--@ct impl.timesOk val timesOk_ct _
--@ct impl.BagOk val implBagOk_ct _ $1 | %1
--@ct spec.BagOk val specBagOk_ct _ $1 | %1
end Go.Proofs.YtjgehblllhkdbaaGreat

namespace Go.Proofs.YtjgehblllhkdbaaGreat
open Go.SX Go.Proofs
set_option linter.unusedSimpArgs false
set_option linter.unusedVariables false
set_option maxHeartbeats 4000000
attribute [local irreducible] IntKind.wrap
/-! a text among texts -/
def hasS (l : List ByteArray) (s : ByteArray) : Bool := !allK (fun i => !decide ((l[i]?.getD ByteArray.empty).toList = s.toList)) l.length
theorem hasS_at {l : List ByteArray} {s : ByteArray} {k : Nat} (hk : k < l.length) (h : (l[k]?.getD ByteArray.empty).toList = s.toList) : hasS l s = true := by
  unfold hasS
  rw [allK_no (p := fun i => !decide ((l[i]?.getD ByteArray.empty).toList = s.toList)) (k := k) (by simp [h]) _ hk]; rfl
theorem hasS_none {l : List ByteArray} {s : ByteArray} (h : allK (fun i => !decide ((l[i]?.getD ByteArray.empty).toList = s.toList)) l.length = true) : hasS l s = false := by
  unfold hasS; rw [h]; rfl
theorem not_in {a b : ByteArray} (h : ¬ a = b) : (!decide (a.toList = b.toList)) = true := by
  rw [Bool.not_eq_true', decide_eq_false_iff_not, str_inj]; exact h
--@ct slices.Index[[]string,string] val sIndexS_ct _ _ _ $1 _ | %1
theorem sIndexS_ct (b : Option Addr) (m c : Nat) (xs : List ByteArray) (v : ByteArray) :
    Ct Tryz.prog 252 [.slice b m c, .string v] [] (fun H => (gSl 9 gS).rd H [.slice b m c] xs)
      (fun w A => (∃ k : Int, w = .int .i64 k ∧ (decide (k ≥ 0)) = hasS xs v) ∧ A = []) := by
  refine Ct.intro0 G_ok Tryz.func252 rfl rfl rfl fun E H hp => ?_
  obtain ⟨rfl, hcl, hl⟩ := sl_len hp
  apply loop_mod (α := (Nat) × (Int)) G_ok [9, 10, 5, 11, 12, 13, 14, 15, 16, 17, 4, 18, 8] (fun z => [(8, .v (.int .i64 z.1)), (4, .v (.int .i64 z.2))]) (fun z => []) (fun z => [H]) (fun z => xs.length - z.1) (fun z => z.1 ≤ xs.length ∧ allK (fun i => !decide ((xs[i]?.getD ByteArray.empty).toList = v.toList)) z.1 = true) ((0, 0))
  · repeat' (first | exact trivial | refine ⟨⟨_, rfl, by first | rfl | exact inc_eq _ (by omega) | (refine sl_eq ?_; simp; done), by first | exact trivial | simp [SV.ok]⟩, ?_⟩)
  · exact trivial
  · try dsimp only
    exact ⟨Nat.zero_le _, rfl⟩
  · exact .refl _
  rintro ⟨k, j⟩ hI
  obtain ⟨hk, ha⟩ : k ≤ xs.length ∧ allK (fun i => !decide ((xs[i]?.getD ByteArray.empty).toList = v.toList)) k = true := hI
  try dsimp only
  refine VCsplit.intro (fun q0 => ?_) (fun q0 => ?_)
  ·
    simp at q0
    refine idx_rd hp ?_ ?_ fun b1 o1 hb1 => ?_
    · omega
    · omega
    refine load_allN ByteArray.empty (k) rfl hp ?_ ?_ hb1 rfl (mem_at 0 rfl) fun l2 hl2 => ?_
    · omega
    · omega
    obtain ⟨rfl, hw2⟩ := hl2; simp only [flStr, flInt, okI] at hw2
    refine VCsplit.intro (fun q3 => ?_) (fun q3 => ?_)
    ·
      simp at q3
      simp only [str_inj, u8_inj, u8_wrap] at q3
      exact ⟨[], ⟨⟨_, rfl, by rw [hasS_at (k := k) (by omega) (congrArg ByteArray.toList (by first | assumption | exact Eq.symm (by assumption)))]; simp⟩, rfl⟩, .refl _⟩
    ·
      simp at q3
      simp only [str_inj, u8_inj, u8_wrap] at q3
      apply loop_stepA (k + 1, _)
      · exact .refl _
      · repeat' (first | exact trivial | refine ⟨⟨_, rfl, by first | rfl | exact inc_eq _ (by omega) | (refine sl_eq ?_; simp; done), by first | exact trivial | simp [SV.ok]⟩, ?_⟩)
      · exact trivial
      · try dsimp only
        exact ⟨by omega, allK_step ha (not_in (by first | assumption | exact fun e => absurd e.symm (by assumption)))⟩
      · try dsimp only
        omega
  ·
    simp at q0
    (have hke : k = xs.length := (by omega); subst hke; exact ⟨[], ⟨⟨_, rfl, by rw [hasS_none ha]; decide⟩, rfl⟩, .refl _⟩)
--@ct slices.Contains[[]string,string] val sContainsS_ct _ _ _ $1 _ | %1
theorem sContainsS_ct (b : Option Addr) (m c : Nat) (xs : List ByteArray) (v : ByteArray) :
    Ct Tryz.prog 162 [.slice b m c, .string v] [] (fun H => (gSl 9 gS).rd H [.slice b m c] xs)
      (fun w A => w = .bool (hasS xs v) ∧ A = []) := by
  refine Ct.intro0 G_ok Tryz.func162 rfl rfl rfl fun E H hp => ?_
  refine call_val (sIndexS_ct _ _ _ (xs) _) (Rp.mono _ (mem_at 0 rfl) hp) ?_
  rintro _ ⟨k, rfl, hk⟩
  exact ⟨[], ⟨by rw [← hk], rfl⟩, .refl _⟩
--@ct spec.l08In val l08In_ct _ _ _ $1 _ | %1
theorem l08In_ct (b : Option Addr) (m c : Nat) (xs : List ByteArray) (v : ByteArray) :
    Ct Tryz.prog 152 [.slice b m c, .string v] [] (fun H => (gSl 9 gS).rd H [.slice b m c] xs)
      (fun w A => w = .bool (hasS xs v) ∧ A = []) := by
  refine Ct.intro0 G_ok Tryz.func152 rfl rfl rfl fun E H hp => ?_
  obtain ⟨rfl, hcl, hl⟩ := sl_len hp
  apply loop_mod (α := (Nat)) G_ok [6, 7, 8, 9, 12, 13, 14, 15, 16, 17, 4, 10, 11, 5] (fun z => [(5, .v (.int .i64 z))]) (fun z => []) (fun z => [H]) (fun z => xs.length - z) (fun z => z ≤ xs.length ∧ allK (fun i => !decide ((xs[i]?.getD ByteArray.empty).toList = v.toList)) z = true) ((0))
  · repeat' (first | exact trivial | refine ⟨⟨_, rfl, by first | rfl | exact inc_eq _ (by omega) | (refine sl_eq ?_; simp; done), by first | exact trivial | simp [SV.ok]⟩, ?_⟩)
  · exact trivial
  · exact ⟨Nat.zero_le _, rfl⟩
  · exact .refl _
  rintro k hI
  obtain ⟨hk, ha⟩ : k ≤ xs.length ∧ allK (fun i => !decide ((xs[i]?.getD ByteArray.empty).toList = v.toList)) k = true := hI
  try dsimp only
  refine VCsplit.intro (fun q0 => ?_) (fun q0 => ?_)
  ·
    simp at q0
    refine idx_rd hp ?_ ?_ fun b1 o1 hb1 => ?_
    · omega
    · omega
    refine load_allN ByteArray.empty (k) rfl hp ?_ ?_ hb1 rfl (mem_at 0 rfl) fun l2 hl2 => ?_
    · omega
    · omega
    obtain ⟨rfl, hw2⟩ := hl2; simp only [flStr, flInt, okI] at hw2
    refine VCsplit.intro (fun q3 => ?_) (fun q3 => ?_)
    ·
      simp at q3
      simp only [str_inj, u8_inj, u8_wrap] at q3
      exact ⟨[], ⟨by rw [hasS_at (k := k) (by omega) (congrArg ByteArray.toList (by first | assumption | exact Eq.symm (by assumption)))], rfl⟩, .refl _⟩
    ·
      simp at q3
      simp only [str_inj, u8_inj, u8_wrap] at q3
      apply loop_stepA (k + 1)
      · exact .refl _
      · repeat' (first | exact trivial | refine ⟨⟨_, rfl, by first | rfl | exact inc_eq _ (by omega) | (refine sl_eq ?_; simp; done), by first | exact trivial | simp [SV.ok]⟩, ?_⟩)
      · exact trivial
      · exact ⟨by omega, allK_step ha (not_in (by first | assumption | exact fun e => absurd e.symm (by assumption)))⟩
      · omega
  ·
    simp at q0
    (have hke : k = xs.length := (by omega); subst hke; exact ⟨[], ⟨by rw [hasS_none ha], rfl⟩, .refl _⟩)
/-! names -/
def eachT : List UInt8 := [101, 97, 99, 104]
theorem each_beq (s : ByteArray) : (s.toList == (⟨#[101, 97, 99, 104]⟩ : ByteArray).toList) = decide (s.toList = eachT) := by
  rw [show (⟨#[101, 97, 99, 104]⟩ : ByteArray).toList = eachT by simp [eachT], Bool.eq_iff_iff, beq_iff_eq, decide_eq_true_iff]
def lowB (b : UInt8) : Bool := inR 97 122 (b.toNat : Int)
def lowK (s : ByteArray) (k : Nat) : Bool := allK (fun i => lowB ((s[i]?).getD 0)) k
def nameOk (s : ByteArray) : Bool := lowK s s.size && (inR 1 4 s.size && !decide (s.toList = eachT))
theorem name_no1 {s : ByteArray} {k : Nat} (hk : k < s.size) (h : ¬ (97 ≤ (((s[k]?).getD 0).toNat : Int) ∧ (((s[k]?).getD 0).toNat : Int) ≤ 122)) : nameOk s = false := by
  unfold nameOk lowK
  rw [allK_no (p := fun i => lowB ((s[i]?).getD 0)) (k := k) (by unfold lowB; rw [Bool.eq_false_iff, Ne, inR_iff]; exact h) _ hk]; rfl
theorem name_no2 {s : ByteArray} (h : ¬ (1 ≤ (s.size : Int) ∧ (s.size : Int) ≤ 4)) : nameOk s = false := by
  unfold nameOk
  rw [show inR 1 4 (s.size : Int) = false by rw [Bool.eq_false_iff, Ne, inR_iff]; exact h]; simp
theorem name_no3 {s : ByteArray} (h : s.toList = eachT) : nameOk s = false := by
  unfold nameOk; rw [h]; simp
theorem name_yes {s : ByteArray} (h1 : lowK s s.size = true) (h2 : 1 ≤ (s.size : Int) ∧ (s.size : Int) ≤ 4) (h3 : ¬ s.toList = eachT) : nameOk s = true := by
  unfold nameOk; rw [h1, inR_iff.2 h2, decide_eq_false h3]; rfl
theorem lowK_step {s : ByteArray} {k : Nat} (h : lowK s k = true) (h1 : 97 ≤ (((s[k]?).getD 0).toNat : Int) ∧ (((s[k]?).getD 0).toNat : Int) ≤ 122) : lowK s (k + 1) = true :=
  allK_step h (inR_iff.2 h1)
--@ct impl.QueryName val implQueryName_ct _ ?_
theorem implQueryName_ct (s : ByteArray) (hs : s.size ≤ 9223372036854775807) : Ct Tryz.prog 281 [.string s] [] (fun _ => True) (fun v A => v = .bool (nameOk s) ∧ A = []) := by
  refine Ct.intro0 G_ok Tryz.func281 rfl rfl rfl fun E H hp => ?_
  refine VCsplit.intro (fun q0 => ?_) (fun q0 => ?_)
  ·
    simp at q0
    exact ⟨[], ⟨by rw [name_no2 (by omega)], rfl⟩, .refl _⟩
  ·
    simp at q0
    refine VCsplit.intro (fun q1 => ?_) (fun q1 => ?_)
    ·
      simp at q1
      exact ⟨[], ⟨by rw [name_no2 (by omega)], rfl⟩, .refl _⟩
    ·
      simp at q1
      refine VCsplit.intro (fun q2 => ?_) (fun q2 => ?_)
      ·
        simp at q2
        exact ⟨[], ⟨by rw [name_no3 (by assumption)], rfl⟩, .refl _⟩
      ·
        simp at q2
        apply loop_mod (α := (Nat)) G_ok [16, 17, 18, 19, 22, 23, 24, 25, 26, 27, 28, 29, 30, 31, 2, 20, 21, 3] (fun z => [(3, .v (.int .i64 z))]) (fun z => []) (fun z => [H]) (fun z => s.size - z) (fun z => z ≤ s.size ∧ lowK s z = true) ((0))
        · repeat' (first | exact trivial | refine ⟨⟨_, rfl, by first | rfl | exact inc_eq _ (by omega) | (refine sl_eq ?_; simp; done), by first | exact trivial | simp [SV.ok]⟩, ?_⟩)
        · exact trivial
        · exact ⟨Nat.zero_le _, rfl⟩
        · exact .refl _
        rintro k hI
        obtain ⟨hk, ha⟩ : k ≤ s.size ∧ lowK s k = true := hI
        try dsimp only
        refine VCsplit.intro (fun q3 => ?_) (fun q3 => ?_)
        ·
          simp at q3
          refine VC.intro ?_ ?_
          · omega
          refine VCsplit.intro (fun q4 => ?_) (fun q4 => ?_)
          ·
            simp at q4
            exact ⟨[], ⟨by rw [name_no1 (k := k) (by omega) (by omega)], rfl⟩, .refl _⟩
          ·
            simp at q4
            refine VC.intro ?_ ?_
            · omega
            refine VCsplit.intro (fun q5 => ?_) (fun q5 => ?_)
            ·
              simp at q5
              exact ⟨[], ⟨by rw [name_no1 (k := k) (by omega) (by omega)], rfl⟩, .refl _⟩
            ·
              simp at q5
              apply loop_stepA (k + 1)
              · exact .refl _
              · repeat' (first | exact trivial | refine ⟨⟨_, rfl, by first | rfl | exact inc_eq _ (by omega) | (refine sl_eq ?_; simp; done), by first | exact trivial | simp [SV.ok]⟩, ?_⟩)
              · exact trivial
              · exact ⟨by omega, lowK_step ha (by omega)⟩
              · omega
        ·
          simp at q3
          (have hke : k = s.size := (by omega); subst hke; exact ⟨[], ⟨by rw [name_yes ha (by omega) (by assumption)], rfl⟩, .refl _⟩)
--@ct spec.QueryName val specQueryName_ct _ ?_
theorem specQueryName_ct (s : ByteArray) (hs : s.size ≤ 9223372036854775807) : Ct Tryz.prog 269 [.string s] [] (fun _ => True) (fun v A => v = .bool (nameOk s) ∧ A = []) := by
  refine Ct.intro0 G_ok Tryz.func269 rfl rfl rfl fun E H hp => ?_
  apply loop_mod (α := (Nat)) G_ok [4, 5, 6, 7, 10, 11, 12, 13, 14, 15, 16, 17, 18, 19, 2, 8, 9, 3] (fun z => [(3, .v (.int .i64 z))]) (fun z => []) (fun z => [H]) (fun z => s.size - z) (fun z => z ≤ s.size ∧ lowK s z = true) ((0))
  · repeat' (first | exact trivial | refine ⟨⟨_, rfl, by first | rfl | exact inc_eq _ (by omega) | (refine sl_eq ?_; simp; done), by first | exact trivial | simp [SV.ok]⟩, ?_⟩)
  · exact trivial
  · exact ⟨Nat.zero_le _, rfl⟩
  · exact .refl _
  rintro k hI
  obtain ⟨hk, ha⟩ : k ≤ s.size ∧ lowK s k = true := hI
  try dsimp only
  refine VCsplit.intro (fun q0 => ?_) (fun q0 => ?_)
  ·
    simp at q0
    refine VC.intro ?_ ?_
    · omega
    refine VCsplit.intro (fun q1 => ?_) (fun q1 => ?_)
    ·
      simp at q1
      exact ⟨[], ⟨by rw [name_no1 (k := k) (by omega) (by omega)], rfl⟩, .refl _⟩
    ·
      simp at q1
      refine VC.intro ?_ ?_
      · omega
      refine VCsplit.intro (fun q2 => ?_) (fun q2 => ?_)
      ·
        simp at q2
        exact ⟨[], ⟨by rw [name_no1 (k := k) (by omega) (by omega)], rfl⟩, .refl _⟩
      ·
        simp at q2
        apply loop_stepA (k + 1)
        · exact .refl _
        · repeat' (first | exact trivial | refine ⟨⟨_, rfl, by first | rfl | exact inc_eq _ (by omega) | (refine sl_eq ?_; simp; done), by first | exact trivial | simp [SV.ok]⟩, ?_⟩)
        · exact trivial
        · exact ⟨by omega, lowK_step ha (by omega)⟩
        · omega
  ·
    simp at q0
    refine call_val (l01In_ct _ _ _) trivial ?_
    rintro _ rfl
    refine VCsplit.intro (fun q4 => ?_) (fun q4 => ?_)
    ·
      have iq4 := inR_iff.1 q4
      (have hke : k = s.size := (by omega); subst hke; exact ⟨[], ⟨by unfold nameOk; rw [ha, inR_iff.2 (by assumption), Bool.true_and, Bool.true_and]; exact congrArg (fun b => Value.bool !b) (each_beq s), rfl⟩, .refl _⟩)
    ·
      have iq4 := mt inR_iff.2 (Bool.eq_false_iff.1 q4)
      exact ⟨[], ⟨by rw [name_no2 (by assumption)], rfl⟩, .refl _⟩
end Go.Proofs.YtjgehblllhkdbaaGreat

namespace Go.Proofs.YtjgehblllhkdbaaGreat
open Go.SX Go.Proofs
set_option linter.unusedSimpArgs false
set_option linter.unusedVariables false
set_option maxHeartbeats 4000000
attribute [local irreducible] IntKind.wrap
def frame (t : ByteArray) : ByteArray := varText t.size ++ four (sumOf t) ++ t
--@ct impl.Frame val implFrame_ct _ ?_
--@ct spec.Frame val specFrame_ct _ ?_
/-! numbers read -/
def byteAt (t : ByteArray) (i : Nat) : UInt8 := (t[i]?).getD 0
/-! frames -/
theorem byte_p (t : ByteArray) (k : Nat) : (t[k]?).getD 0 = byteAt t k := rfl
--@ct impl.ReadVar val implReadVar_ct _ _ ?_ ?_
--@ct spec.ReadVar val specReadVar_ct _ _ ?_ ?_
end Go.Proofs.YtjgehblllhkdbaaGreat

namespace Go.Proofs.YtjgehblllhkdbaaGreat
open Go.SX Go.Proofs
set_option maxHeartbeats 1000000
theorem labelOk_iff {b : UInt8} : labelOk b = true ↔ 97 ≤ b.toNat ∧ b.toNat ≤ 100 := by unfold labelOk; simp; omega
theorem byteAt_end {t : ByteArray} {i : Nat} (h : t.size ≤ i) : byteAt t i = 0 := by
  unfold byteAt; rw [getElem?_neg _ _ (by omega)]; rfl
theorem byteAt_lt {t : ByteArray} {i : Nat} (h : (byteAt t i).toNat ≠ 0) : i < t.size := by
  rcases Nat.lt_or_ge i t.size with h1 | h1
  · exact h1
  · rw [byteAt_end h1] at h; exact absurd rfl h
/-- a piece's number, the place behind it, the pieces -/
abbrev PR := Int × Nat × List Piece
def postOp (b : UInt8) : Int := if b.toNat = 42 then 4 else if b.toNat = 43 then 5 else if b.toNat = 63 then 6 else 0
def pPost (t : ByteArray) : Nat → Int → Nat → List Piece → PR
  | 0, k, p, ps => (k, p, ps)
  | f + 1, k, p, ps => if postOp (byteAt t p) = 0 then (k, p, ps) else pPost t f ps.length (p + 1) (ps ++ [⟨postOp (byteAt t p), 0, [k]⟩])
def pItem (t : ByteArray) (E : Nat → List Piece → Option PR) (p : Nat) (ps : List Piece) : Option PR :=
  if (byteAt t p).toNat = 40 then
    match E (p + 1) ps with
    | none => none
    | some r => if (byteAt t r.2.1).toNat = 41 then some (pPost t (t.size + 1) r.1 (r.2.1 + 1) r.2.2) else none
  else some (pPost t (t.size + 1) ps.length (p + 1) (ps ++ [⟨1, byteAt t p, []⟩]))
def begins (b : UInt8) : Bool := labelOk b || decide (b.toNat = 40)
abbrev LR := List Int × Nat × List Piece
def pAlts (t : ByteArray) (I : Nat → List Piece → Option PR) : Nat → List Int → Nat → List Piece → Option LR
  | 0, ks, p, ps => some (ks, p, ps)
  | f + 1, ks, p, ps =>
    if begins (byteAt t p) = true then
      match I p ps with
      | none => none
      | some r => pAlts t I f (ks ++ [r.1]) r.2.1 r.2.2
    else some (ks, p, ps)
def pGroup (op : Int) (r : LR) : PR := if r.1.length = 1 then (r.1[0]?.getD 0, r.2.1, r.2.2) else (r.2.2.length, r.2.1, r.2.2 ++ [⟨op, 0, r.1⟩])
def altEnd : Option LR → Option PR
  | none => none
  | some r => if r.1.length = 0 then none else some (pGroup 2 r)
def pAlt (t : ByteArray) (I : Nat → List Piece → Option PR) (p : Nat) (ps : List Piece) : Option PR := altEnd (pAlts t I (t.size + 1) [] p ps)
def pExprs (t : ByteArray) (A : Nat → List Piece → Option PR) : Nat → List Int → Nat → List Piece → Option PR
  | 0, _, _, _ => none
  | f + 1, ks, p, ps =>
    match A p ps with
    | none => none
    | some r => if (byteAt t r.2.1).toNat = 124 then pExprs t A f (ks ++ [r.1]) (r.2.1 + 1) r.2.2 else some (pGroup 3 (ks ++ [r.1], r.2.1, r.2.2))
def pExpr (t : ByteArray) : Nat → Nat → List Piece → Option PR
  | 0, _, _ => none
  | n + 1, p, ps => pExprs t (pAlt t (pItem t (pExpr t n))) (t.size + 1) [] p ps
/-! how far and how many -/
/-- the result of reading from p with the pieces ps -/
def Reads (t : ByteArray) (p : Nat) (ps : List Piece) (r : PR) : Prop := p < r.2.1 ∧ r.2.1 ≤ t.size ∧ r.2.2.length + 1 + 2 * p ≤ ps.length + 2 * r.2.1 ∧ ps.length ≤ r.2.2.length ∧ 0 ≤ r.1 ∧ r.1 < r.2.2.length
def ReadsL (t : ByteArray) (p : Nat) (ps : List Piece) (k0 : Nat) (r : LR) : Prop := k0 ≤ r.1.length ∧ p ≤ r.2.1 ∧ r.2.1 ≤ t.size ∧ r.2.2.length + r.1.length + 2 * p ≤ ps.length + k0 + 2 * r.2.1 ∧ ps.length ≤ r.2.2.length ∧ ∀ k ∈ r.1, 0 ≤ k ∧ k < r.2.2.length
theorem postOp_lt {t : ByteArray} {p : Nat} (h : ¬ postOp (byteAt t p) = 0) : p < t.size := by
  rcases Nat.lt_or_ge p t.size with h1 | h1
  · exact h1
  · rw [byteAt_end h1] at h; exact absurd rfl h
theorem pPost_le (t : ByteArray) : ∀ (f : Nat) (k : Int) (p : Nat) (ps : List Piece), p ≤ t.size → 0 ≤ k → k < ps.length →
    p ≤ (pPost t f k p ps).2.1 ∧ (pPost t f k p ps).2.1 ≤ t.size ∧ (pPost t f k p ps).2.2.length + p = ps.length + (pPost t f k p ps).2.1 ∧ 0 ≤ (pPost t f k p ps).1 ∧ (pPost t f k p ps).1 < (pPost t f k p ps).2.2.length
  | 0, k, p, ps, h, h1, h2 => ⟨Nat.le_refl _, h, rfl, h1, h2⟩
  | f + 1, k, p, ps, h, h1, h2 => by
    unfold pPost
    split
    · exact ⟨Nat.le_refl _, h, rfl, h1, h2⟩
    · rename_i h3
      have h4 := postOp_lt h3
      have h5 := pPost_le t f ps.length (p + 1) (ps ++ [⟨postOp (byteAt t p), 0, [k]⟩]) (by omega) (by omega) (by simp only [List.length_append, List.length_singleton]; omega)
      rw [List.length_append, List.length_singleton] at h5
      refine ⟨by omega, h5.2.1, by omega, h5.2.2.2.1, h5.2.2.2.2⟩
theorem begins_lt {t : ByteArray} {p : Nat} (h : begins (byteAt t p) = true) : p < t.size := by
  apply byteAt_lt; intro h1
  unfold begins labelOk at h; rw [h1] at h; simp at h
theorem pItem_le {t : ByteArray} {E : Nat → List Piece → Option PR} {p : Nat} {ps : List Piece} {r : PR} (hE : ∀ p ps r, p ≤ t.size → E p ps = some r → Reads t p ps r) (hp : p < t.size) (h : pItem t E p ps = some r) : Reads t p ps r := by
  unfold pItem at h
  split at h
  · split at h
    · cases h
    · rename_i r0 e
      split at h
      · rename_i h1
        cases h
        have h2 := hE _ _ _ (by omega) e
        have h3 : r0.2.1 < t.size := byteAt_lt (by omega)
        have h4 := pPost_le t (t.size + 1) r0.1 (r0.2.1 + 1) r0.2.2 (by omega) h2.2.2.2.2.1 h2.2.2.2.2.2
        unfold Reads at h2 ⊢
        refine ⟨by omega, h4.2.1, by omega, by omega, h4.2.2.2.1, h4.2.2.2.2⟩
      · cases h
  · cases h
    have h4 := pPost_le t (t.size + 1) ps.length (p + 1) (ps ++ [⟨1, byteAt t p, []⟩]) (by omega) (by omega) (by simp only [List.length_append, List.length_singleton]; omega)
    rw [List.length_append, List.length_singleton] at h4
    refine ⟨by omega, h4.2.1, by omega, by omega, h4.2.2.2.1, h4.2.2.2.2⟩
theorem pAlts_le {t : ByteArray} {I : Nat → List Piece → Option PR} (hI : ∀ p ps r, p < t.size → I p ps = some r → Reads t p ps r) : ∀ (f : Nat) (ks : List Int) (p : Nat) (ps : List Piece) (r : LR), p ≤ t.size → (∀ k ∈ ks, 0 ≤ k ∧ k < (ps.length : Int)) → pAlts t I f ks p ps = some r → ReadsL t p ps ks.length r
  | 0, ks, p, ps, r, hp, hk, h => by cases h; exact ⟨Nat.le_refl _, Nat.le_refl _, hp, Nat.le_refl _, Nat.le_refl _, hk⟩
  | f + 1, ks, p, ps, r, hp, hk, h => by
    unfold pAlts at h
    split at h
    · rename_i hb
      split at h
      · cases h
      · rename_i r0 e
        obtain ⟨a1, a2, a3, a4, a5, a6⟩ := hI _ _ _ (begins_lt hb) e
        have h2 := pAlts_le hI f (ks ++ [r0.1]) r0.2.1 r0.2.2 r a2 (by
          intro k hk1
          rcases List.mem_append.1 hk1 with h3 | h3
          · have := hk k h3; omega
          · rw [List.mem_singleton.1 h3]; exact ⟨a5, a6⟩) h
        obtain ⟨b1, b2, b3, b4, b5, b6⟩ := h2
        rw [List.length_append, List.length_singleton] at b1 b4
        exact ⟨by omega, by omega, b3, by omega, by omega, b6⟩
    · cases h; exact ⟨Nat.le_refl _, Nat.le_refl _, hp, Nat.le_refl _, Nat.le_refl _, hk⟩
theorem pGroup_le {t : ByteArray} {op : Int} {p : Nat} {ps : List Piece} {r : LR} (hp : p < r.2.1) (h1 : 1 ≤ r.1.length) (h2 : r.2.1 ≤ t.size) (h3 : r.2.2.length + r.1.length + 2 * p ≤ ps.length + 2 * r.2.1) (h4 : ps.length ≤ r.2.2.length) (h5 : ∀ k ∈ r.1, 0 ≤ k ∧ k < (r.2.2.length : Int)) : Reads t p ps (pGroup op r) := by
  unfold pGroup
  split
  · rename_i e
    have h6 := h5 (r.1[0]?.getD 0) (by rw [List.getElem?_eq_getElem (by omega)]; exact List.getElem_mem _)
    exact ⟨hp, h2, by simp only; omega, h4, h6.1, h6.2⟩
  · rename_i e
    refine ⟨hp, h2, ?_, ?_, ?_, ?_⟩ <;> simp only [List.length_append, List.length_singleton] <;> omega
theorem pAlt_le {t : ByteArray} {I : Nat → List Piece → Option PR} (hI : ∀ p ps r, p < t.size → I p ps = some r → Reads t p ps r) {p : Nat} {ps : List Piece} {r : PR} (hp : p ≤ t.size) (h : pAlt t I p ps = some r) : Reads t p ps r := by
  unfold pAlt altEnd at h
  split at h
  · cases h
  · rename_i r0 e
    split at h
    · cases h
    · cases h
      obtain ⟨b1, b2, b3, b4, b5, b6⟩ := pAlts_le hI _ _ _ _ _ hp (by simp) e
      simp only [List.length_nil] at b1 b4
      exact pGroup_le (by omega) (by omega) b3 (by omega) b5 b6
theorem pExprs_le {t : ByteArray} {A : Nat → List Piece → Option PR} (hA : ∀ p ps r, p ≤ t.size → A p ps = some r → Reads t p ps r) {p0 : Nat} {ps0 : List Piece} : ∀ (f : Nat) (ks : List Int) (p : Nat) (ps : List Piece) (r : PR), p ≤ t.size → p0 ≤ p → ps.length + ks.length + 2 * p0 ≤ ps0.length + 2 * p → ps0.length ≤ ps.length → (∀ k ∈ ks, 0 ≤ k ∧ k < (ps.length : Int)) → pExprs t A f ks p ps = some r → Reads t p0 ps0 r
  | 0, ks, p, ps, r, hp, hp0, hs, hs0, hk, h => by cases h
  | f + 1, ks, p, ps, r, hp, hp0, hs, hs0, hk, h => by
    unfold pExprs at h
    split at h
    · cases h
    · rename_i r0 e
      obtain ⟨a1, a2, a3, a4, a5, a6⟩ := hA _ _ _ hp e
      have hk' : ∀ k ∈ ks ++ [r0.1], 0 ≤ k ∧ k < (r0.2.2.length : Int) := by
        intro k hk1
        rcases List.mem_append.1 hk1 with h3 | h3
        · have := hk k h3; omega
        · rw [List.mem_singleton.1 h3]; exact ⟨a5, a6⟩
      split at h
      · rename_i hb
        have h3 : r0.2.1 < t.size := byteAt_lt (by omega)
        exact pExprs_le hA f _ _ _ _ (by omega) (by omega) (by rw [List.length_append, List.length_singleton]; omega) (by omega) hk' h
      · cases h
        exact pGroup_le (by simp only; omega) (by simp) a2 (by simp only [List.length_append, List.length_singleton]; omega) (by simp only; omega) hk'
theorem pExpr_le (t : ByteArray) : ∀ (n p : Nat) (ps : List Piece) (r : PR), p ≤ t.size → pExpr t n p ps = some r → Reads t p ps r
  | 0, _, _, _, _, h => by cases h
  | n + 1, p, ps, r, hp, h => pExprs_le (fun _ _ _ h1 h2 => pAlt_le (fun _ _ _ h3 h4 => pItem_le (pExpr_le t n) h3 h4) h1 h2) _ _ _ _ _ hp (Nat.le_refl _) (by simp) (Nat.le_refl _) (by simp) h
theorem pAlts_more {t : ByteArray} {I : Nat → List Piece → Option PR} {f : Nat} {ks : List Int} {p : Nat} {ps : List Piece} (hb : begins (byteAt t p) = true) {r : PR} (h : I p ps = some r) : pAlts t I (f + 1) ks p ps = pAlts t I f (ks ++ [r.1]) r.2.1 r.2.2 := by
  conv => lhs; unfold pAlts
  rw [if_pos hb, h]
theorem pAlts_bad {t : ByteArray} {I : Nat → List Piece → Option PR} {f : Nat} {ks : List Int} {p : Nat} {ps : List Piece} (hb : begins (byteAt t p) = true) (h : I p ps = none) : pAlts t I (f + 1) ks p ps = none := by
  conv => lhs; unfold pAlts
  rw [if_pos hb, h]
theorem pAlts_end {t : ByteArray} {I : Nat → List Piece → Option PR} {f : Nat} {ks : List Int} {p : Nat} {ps : List Piece} (hb : begins (byteAt t p) = false) : pAlts t I f ks p ps = some (ks, p, ps) := by
  cases f with
  | zero => rfl
  | succ f => unfold pAlts; rw [if_neg (by rw [hb]; simp)]
/-! paths that are right -/
def kidsOk (ks : List Int) (i : Nat) : Bool := ks.all fun k => inR 0 ((i : Int) - 1) k
def pieceOk (x : Piece) (i : Nat) : Bool :=
  if x.op = 1 then labelOk x.label && decide (x.kids.length = 0)
  else if x.op = 2 ∨ x.op = 3 then decide (x.label = 0) && (decide (2 ≤ x.kids.length) && kidsOk x.kids i)
  else if x.op = 4 ∨ x.op = 5 ∨ x.op = 6 then decide (x.label = 0) && (decide (x.kids.length = 1) && kidsOk x.kids i)
  else false
def pathOk (p : Path) : Bool := decide (1 ≤ p.pieces.length) && (decide (p.pieces.length ≤ 60) && allK (fun i => pieceOk (p.pieces[i]?.getD default) i) p.pieces.length)
theorem pathOk_no {p : Path} {k : Nat} (h1 : k < p.pieces.length) (h : pieceOk (p.pieces[k]?.getD default) k = false) : pathOk p = false := by
  unfold pathOk; rw [allK_no (p := fun i => pieceOk (p.pieces[i]?.getD default) i) h _ h1]; simp
theorem pathOk_out {p : Path} (h : ¬ (1 ≤ p.pieces.length ∧ p.pieces.length ≤ 60)) : pathOk p = false := by
  unfold pathOk
  by_cases h1 : 1 ≤ p.pieces.length
  · rw [decide_eq_false (fun h2 => h ⟨h1, h2⟩)]; simp
  · rw [decide_eq_false h1]; rfl
theorem pathOk_yes {p : Path} (h : 1 ≤ p.pieces.length ∧ p.pieces.length ≤ 60) (h2 : allK (fun i => pieceOk (p.pieces[i]?.getD default) i) p.pieces.length = true) : pathOk p = true := by
  unfold pathOk; rw [h2, decide_eq_true h.1, decide_eq_true h.2]; rfl
theorem kidsOk_no {ks : List Int} {i k : Nat} (hk : k < ks.length) (h : ¬ (0 ≤ (ks[k]?.getD 0) ∧ (ks[k]?.getD 0) ≤ (i : Int) - 1)) : kidsOk ks i = false := by
  cases e : kidsOk ks i with
  | false => rfl
  | true =>
    unfold kidsOk at e
    rw [List.all_eq_true] at e
    rw [List.getElem?_eq_getElem hk] at h
    exact absurd (inR_iff.1 (e _ (List.getElem_mem hk))) h
theorem kidsOk_step {ks : List Int} {i k : Nat} (hk : k < ks.length) (ha : kidsOk (ks.take k) i = true) (h : 0 ≤ (ks[k]?.getD 0) ∧ (ks[k]?.getD 0) ≤ (i : Int) - 1) : kidsOk (ks.take (k + 1)) i = true := by
  unfold kidsOk at *
  rw [List.getElem?_eq_getElem hk] at h
  rw [← List.take_append_getElem hk, List.all_append, ha]
  have := inR_iff.2 h
  simp only [Option.getD_some] at this
  simp [this]
theorem piece1 {x : Piece} {i : Nat} (h : x.op = 1) : pieceOk x i = (labelOk x.label && decide (x.kids.length = 0)) := by unfold pieceOk; rw [if_pos h]
theorem piece_iff {x : Piece} {i : Nat} : pieceOk x i = true ↔ (x.op = 1 ∧ 97 ≤ x.label.toNat ∧ x.label.toNat ≤ 100 ∧ x.kids.length = 0) ∨ ((x.op = 2 ∨ x.op = 3) ∧ x.label.toNat = 0 ∧ 2 ≤ x.kids.length ∧ kidsOk x.kids i = true) ∨ ((x.op = 4 ∨ x.op = 5 ∨ x.op = 6) ∧ x.label.toNat = 0 ∧ x.kids.length = 1 ∧ kidsOk x.kids i = true) := by
  have hl : x.label = 0 ↔ x.label.toNat = 0 := by
    constructor
    · intro h; rw [h]; rfl
    · intro h; exact UInt8.toNat_inj.1 h
  unfold pieceOk
  split
  · rename_i h; rw [Bool.and_eq_true, labelOk_iff, decide_eq_true_iff]; constructor
    · intro h1; exact .inl ⟨h, h1.1.1, h1.1.2, h1.2⟩
    · rintro (h1 | h1 | h1)
      · exact ⟨⟨h1.2.1, h1.2.2.1⟩, h1.2.2.2⟩
      · omega
      · omega
  · split
    · rename_i h0 h; rw [Bool.and_eq_true, Bool.and_eq_true, decide_eq_true_iff, decide_eq_true_iff, hl]; constructor
      · intro h1; exact .inr (.inl ⟨h, h1.1, h1.2.1, h1.2.2⟩)
      · rintro (h1 | h1 | h1)
        · omega
        · exact ⟨h1.2.1, h1.2.2.1, h1.2.2.2⟩
        · omega
    · split
      · rename_i h0 h2 h; rw [Bool.and_eq_true, Bool.and_eq_true, decide_eq_true_iff, decide_eq_true_iff, hl]; constructor
        · intro h1; exact .inr (.inr ⟨h, h1.1, h1.2.1, h1.2.2⟩)
        · rintro (h1 | h1 | h1)
          · omega
          · omega
          · exact ⟨h1.2.1, h1.2.2.1, h1.2.2.2⟩
      · constructor
        · intro h; cases h
        · rintro (h1 | h1 | h1) <;> omega
theorem piece_f {x : Piece} {i : Nat} (h : pieceOk x i = true → False) : pieceOk x i = false := by
  cases e : pieceOk x i with
  | false => rfl
  | true => exact (h e).elim
theorem piece_badkid {x : Piece} {i k : Nat} (h : ¬ x.op = 1) (hk : k < x.kids.length) (h2 : ¬ (0 ≤ (x.kids[k]?.getD 0) ∧ (x.kids[k]?.getD 0) ≤ (i : Int) - 1)) : pieceOk x i = false := by
  refine piece_f fun e => ?_
  have h1 := kidsOk_no hk h2
  rcases piece_iff.1 e with h3 | h3 | h3
  · exact h h3.1
  · rw [h1] at h3; cases h3.2.2.2
  · rw [h1] at h3; cases h3.2.2.2
theorem piece_end {x : Piece} {i : Nat} (h : ((x.op = 2 ∨ x.op = 3) ∧ 2 ≤ x.kids.length) ∨ ((x.op = 4 ∨ x.op = 5 ∨ x.op = 6) ∧ x.kids.length = 1)) (hk : kidsOk x.kids i = true) : pieceOk x i = (((x.label.toNat : Nat) : Int) == 0) := by
  rw [Bool.eq_iff_iff, piece_iff, hk]
  simp
  omega
theorem piece_yes {x : Piece} {i : Nat} (h : ((x.op = 2 ∨ x.op = 3) ∧ 2 ≤ x.kids.length) ∨ ((x.op = 4 ∨ x.op = 5 ∨ x.op = 6) ∧ x.kids.length = 1)) (hl : x.label.toNat = 0) (hk : kidsOk x.kids i = true) : pieceOk x i = true := by
  rw [piece_end h hk, hl]; rfl
theorem piece_step {x : Piece} {i : Nat} (h : x.op = 1) (hl : labelOk x.label = true) : pieceOk x i = (((x.kids.length : Nat) : Int) == 0) := by
  rw [piece1 h, hl, Bool.true_and, Bool.eq_iff_iff]; simp
def readPath (t : ByteArray) : Option Path :=
  if t.size ≤ 20 then
    match pExpr t (t.size + 1) 0 [] with
    | none => none
    | some r => if r.2.1 = t.size ∧ pathOk ⟨r.2.2⟩ = true then some ⟨r.2.2⟩ else none
  else none
end Go.Proofs.YtjgehblllhkdbaaGreat

namespace Go.Proofs.YtjgehblllhkdbaaGreat
open Go.SX Go.Proofs
set_option linter.unusedSimpArgs false
set_option linter.unusedVariables false
set_option maxHeartbeats 4000000
attribute [local irreducible] IntKind.wrap
--@ct impl.pieceOk val implPieceOk_ct _ $1 _ ?_ | %1
theorem implPieceOk_ct (l : List Value) (x : Piece) (i : Nat) (hi : i ≤ 1000000) : Ct Tryz.prog 364 [.agg ⟨l⟩, .int .i64 (i : Int)] [] (fun H => gPiece.rd H l x) (fun v A => v = .bool (pieceOk x i) ∧ A = []) := by
  refine Ct.intro0 G_ok Tryz.func364 rfl rfl rfl fun E H hp => ?_
  obtain ⟨b2p, c2p, rfl, w0p, h2p⟩ := gPiece_rd.1 hp
  have hl := (rd_len h2p).2
  refine VCnew.intro fun x0 => ?_
  refine VCsplit.intro (fun q1 => ?_) (fun q1 => ?_)
  ·
    simp at q1
    refine call_val (isLabel_ct _) trivial ?_
    rintro _ rfl
    refine VCsplit.intro (fun q3 => ?_) (fun q3 => ?_)
    ·
      exact ⟨[], ⟨by rw [piece_step ‹x.op = 1› ‹labelOk x.label = true›], rfl⟩, (.le fun a => by (try simp only [setR, List.cons_append, List.nil_append]); simp [List.count_cons, Blk.ent, idOf]; try omega)⟩
    ·
      exact ⟨[], ⟨by rw [piece1 ‹x.op = 1›, ‹labelOk x.label = false›]; rfl, rfl⟩, (.le fun a => by (try simp only [setR, List.cons_append, List.nil_append]); simp [List.count_cons, Blk.ent, idOf]; try omega)⟩
  ·
    simp at q1
    refine VCsplit.intro (fun q4 => ?_) (fun q4 => ?_)
    ·
      simp at q4
      refine VCsplit.intro (fun q5 => ?_) (fun q5 => ?_)
      ·
        simp at q5
        exact ⟨[], ⟨by rw [piece_f fun e => by (have := piece_iff.1 e; omega)], rfl⟩, (.le fun a => by (try simp only [setR, List.cons_append, List.nil_append]); simp [List.count_cons, Blk.ent, idOf]; try omega)⟩
      ·
        simp at q5
        apply loop_mod (α := (Nat)) G_ok [39, 40, 41, 6, 42, 43, 44, 45, 46, 47, 48, 4, 49, 38] (fun z => [(38, .v (.int .i64 z))]) (fun z => [{ id := x0, cs := [Value.int IntKind.i64 x.op, Value.int IntKind.u8 (↑x.label.toNat : Int), Value.slice b2p x.kids.length c2p], ty := (417 : Nat) }]) (fun z => [H]) (fun z => x.kids.length - z) (fun z => z ≤ x.kids.length ∧ kidsOk (x.kids.take z) i = true) (0)
        · repeat' (first | exact trivial | refine ⟨⟨_, rfl, by first | rfl | exact inc_eq _ (by omega) | (refine sl_eq ?_; simp; done), by first | exact trivial | simp [SV.ok]⟩, ?_⟩)
        · exact ⟨rfl, trivial⟩
        · exact ⟨by omega, rfl⟩
        · exact .refl _
        rintro k hI
        obtain ⟨hk, ha⟩ : k ≤ x.kids.length ∧ kidsOk (x.kids.take k) i = true := hI
        try dsimp only
        refine VCsplit.intro (fun q6 => ?_) (fun q6 => ?_)
        ·
          simp at q6
          refine idx_rd h2p ?_ ?_ fun b7 o7 hb7 => ?_
          · omega
          · omega
          refine load_allN 0 (k) rfl h2p ?_ ?_ hb7 rfl (mem_at 0 rfl) fun l8 hl8 => ?_
          · omega
          · omega
          obtain ⟨rfl, hw8⟩ := hl8; simp only [flStr, flInt, okI] at hw8
          refine VCsplit.intro (fun q9 => ?_) (fun q9 => ?_)
          ·
            simp at q9
            exact ⟨[], ⟨by rw [piece_badkid (k := k) (by omega) (by omega) (by omega)], rfl⟩, (.le fun a => by (try simp only [setR, List.cons_append, List.nil_append]); simp [List.count_cons, Blk.ent, idOf]; try omega)⟩
          ·
            simp at q9
            refine VCsplit.intro (fun q10 => ?_) (fun q10 => ?_)
            ·
              simp at q10
              exact ⟨[], ⟨by rw [piece_badkid (k := k) (by omega) (by omega) (by omega)], rfl⟩, (.le fun a => by (try simp only [setR, List.cons_append, List.nil_append]); simp [List.count_cons, Blk.ent, idOf]; try omega)⟩
            ·
              simp at q10
              apply loop_stepA (k + 1)
              · exact .refl _
              · repeat' (first | exact trivial | refine ⟨⟨_, rfl, by first | rfl | exact inc_eq _ (by omega) | (refine sl_eq ?_; simp; done), by first | exact trivial | simp [SV.ok]⟩, ?_⟩)
              · exact ⟨rfl, trivial⟩
              · exact ⟨by omega, kidsOk_step (by omega) ha (by omega)⟩
              · omega
        ·
          simp at q6
          (have hke : k = x.kids.length := (by omega); subst hke; rw [List.take_length] at ha; exact ⟨[], ⟨by rw [piece_end (by omega) ha], rfl⟩, (.le fun a => by (try simp only [setR, List.cons_append, List.nil_append]); simp [List.count_cons, Blk.ent, idOf]; try omega)⟩)
    ·
      simp at q4
      refine VCsplit.intro (fun q11 => ?_) (fun q11 => ?_)
      ·
        simp at q11
        refine VCsplit.intro (fun q12 => ?_) (fun q12 => ?_)
        ·
          simp at q12
          exact ⟨[], ⟨by rw [piece_f fun e => by (have := piece_iff.1 e; omega)], rfl⟩, (.le fun a => by (try simp only [setR, List.cons_append, List.nil_append]); simp [List.count_cons, Blk.ent, idOf]; try omega)⟩
        ·
          simp at q12
          apply loop_mod (α := (Nat)) G_ok [39, 40, 41, 6, 42, 43, 44, 45, 46, 47, 48, 4, 49, 38] (fun z => [(38, .v (.int .i64 z))]) (fun z => [{ id := x0, cs := [Value.int IntKind.i64 x.op, Value.int IntKind.u8 (↑x.label.toNat : Int), Value.slice b2p x.kids.length c2p], ty := (417 : Nat) }]) (fun z => [H]) (fun z => x.kids.length - z) (fun z => z ≤ x.kids.length ∧ kidsOk (x.kids.take z) i = true) (0)
          · repeat' (first | exact trivial | refine ⟨⟨_, rfl, by first | rfl | exact inc_eq _ (by omega) | (refine sl_eq ?_; simp; done), by first | exact trivial | simp [SV.ok]⟩, ?_⟩)
          · exact ⟨rfl, trivial⟩
          · exact ⟨by omega, rfl⟩
          · exact .refl _
          rintro k hI
          obtain ⟨hk, ha⟩ : k ≤ x.kids.length ∧ kidsOk (x.kids.take k) i = true := hI
          try dsimp only
          refine VCsplit.intro (fun q13 => ?_) (fun q13 => ?_)
          ·
            simp at q13
            refine idx_rd h2p ?_ ?_ fun b14 o14 hb14 => ?_
            · omega
            · omega
            refine load_allN 0 (k) rfl h2p ?_ ?_ hb14 rfl (mem_at 0 rfl) fun l15 hl15 => ?_
            · omega
            · omega
            obtain ⟨rfl, hw15⟩ := hl15; simp only [flStr, flInt, okI] at hw15
            refine VCsplit.intro (fun q16 => ?_) (fun q16 => ?_)
            ·
              simp at q16
              exact ⟨[], ⟨by rw [piece_badkid (k := k) (by omega) (by omega) (by omega)], rfl⟩, (.le fun a => by (try simp only [setR, List.cons_append, List.nil_append]); simp [List.count_cons, Blk.ent, idOf]; try omega)⟩
            ·
              simp at q16
              refine VCsplit.intro (fun q17 => ?_) (fun q17 => ?_)
              ·
                simp at q17
                exact ⟨[], ⟨by rw [piece_badkid (k := k) (by omega) (by omega) (by omega)], rfl⟩, (.le fun a => by (try simp only [setR, List.cons_append, List.nil_append]); simp [List.count_cons, Blk.ent, idOf]; try omega)⟩
              ·
                simp at q17
                apply loop_stepA (k + 1)
                · exact .refl _
                · repeat' (first | exact trivial | refine ⟨⟨_, rfl, by first | rfl | exact inc_eq _ (by omega) | (refine sl_eq ?_; simp; done), by first | exact trivial | simp [SV.ok]⟩, ?_⟩)
                · exact ⟨rfl, trivial⟩
                · exact ⟨by omega, kidsOk_step (by omega) ha (by omega)⟩
                · omega
          ·
            simp at q13
            (have hke : k = x.kids.length := (by omega); subst hke; rw [List.take_length] at ha; exact ⟨[], ⟨by rw [piece_end (by omega) ha], rfl⟩, (.le fun a => by (try simp only [setR, List.cons_append, List.nil_append]); simp [List.count_cons, Blk.ent, idOf]; try omega)⟩)
      ·
        simp at q11
        refine VCsplit.intro (fun q18 => ?_) (fun q18 => ?_)
        ·
          simp at q18
          refine VCsplit.intro (fun q19 => ?_) (fun q19 => ?_)
          ·
            simp at q19
            exact ⟨[], ⟨by rw [piece_f fun e => by (have := piece_iff.1 e; omega)], rfl⟩, (.le fun a => by (try simp only [setR, List.cons_append, List.nil_append]); simp [List.count_cons, Blk.ent, idOf]; try omega)⟩
          ·
            simp at q19
            apply loop_mod (α := (Nat)) G_ok [39, 40, 41, 6, 42, 43, 44, 45, 46, 47, 48, 4, 49, 38] (fun z => [(38, .v (.int .i64 z))]) (fun z => [{ id := x0, cs := [Value.int IntKind.i64 x.op, Value.int IntKind.u8 (↑x.label.toNat : Int), Value.slice b2p x.kids.length c2p], ty := (417 : Nat) }]) (fun z => [H]) (fun z => x.kids.length - z) (fun z => z ≤ x.kids.length ∧ kidsOk (x.kids.take z) i = true) (0)
            · repeat' (first | exact trivial | refine ⟨⟨_, rfl, by first | rfl | exact inc_eq _ (by omega) | (refine sl_eq ?_; simp; done), by first | exact trivial | simp [SV.ok]⟩, ?_⟩)
            · exact ⟨rfl, trivial⟩
            · exact ⟨by omega, rfl⟩
            · exact .refl _
            rintro k hI
            obtain ⟨hk, ha⟩ : k ≤ x.kids.length ∧ kidsOk (x.kids.take k) i = true := hI
            try dsimp only
            refine VCsplit.intro (fun q20 => ?_) (fun q20 => ?_)
            ·
              simp at q20
              refine idx_rd h2p ?_ ?_ fun b21 o21 hb21 => ?_
              · omega
              · omega
              refine load_allN 0 (k) rfl h2p ?_ ?_ hb21 rfl (mem_at 0 rfl) fun l22 hl22 => ?_
              · omega
              · omega
              obtain ⟨rfl, hw22⟩ := hl22; simp only [flStr, flInt, okI] at hw22
              refine VCsplit.intro (fun q23 => ?_) (fun q23 => ?_)
              ·
                simp at q23
                exact ⟨[], ⟨by rw [piece_badkid (k := k) (by omega) (by omega) (by omega)], rfl⟩, (.le fun a => by (try simp only [setR, List.cons_append, List.nil_append]); simp [List.count_cons, Blk.ent, idOf]; try omega)⟩
              ·
                simp at q23
                refine VCsplit.intro (fun q24 => ?_) (fun q24 => ?_)
                ·
                  simp at q24
                  exact ⟨[], ⟨by rw [piece_badkid (k := k) (by omega) (by omega) (by omega)], rfl⟩, (.le fun a => by (try simp only [setR, List.cons_append, List.nil_append]); simp [List.count_cons, Blk.ent, idOf]; try omega)⟩
                ·
                  simp at q24
                  apply loop_stepA (k + 1)
                  · exact .refl _
                  · repeat' (first | exact trivial | refine ⟨⟨_, rfl, by first | rfl | exact inc_eq _ (by omega) | (refine sl_eq ?_; simp; done), by first | exact trivial | simp [SV.ok]⟩, ?_⟩)
                  · exact ⟨rfl, trivial⟩
                  · exact ⟨by omega, kidsOk_step (by omega) ha (by omega)⟩
                  · omega
            ·
              simp at q20
              (have hke : k = x.kids.length := (by omega); subst hke; rw [List.take_length] at ha; exact ⟨[], ⟨by rw [piece_end (by omega) ha], rfl⟩, (.le fun a => by (try simp only [setR, List.cons_append, List.nil_append]); simp [List.count_cons, Blk.ent, idOf]; try omega)⟩)
        ·
          simp at q18
          refine VCsplit.intro (fun q25 => ?_) (fun q25 => ?_)
          ·
            simp at q25
            refine VCsplit.intro (fun q26 => ?_) (fun q26 => ?_)
            ·
              simp at q26
              exact ⟨[], ⟨by rw [piece_f fun e => by (have := piece_iff.1 e; omega)], rfl⟩, (.le fun a => by (try simp only [setR, List.cons_append, List.nil_append]); simp [List.count_cons, Blk.ent, idOf]; try omega)⟩
            ·
              simp at q26
              apply loop_mod (α := (Nat)) G_ok [39, 40, 41, 6, 42, 43, 44, 45, 46, 47, 48, 4, 49, 38] (fun z => [(38, .v (.int .i64 z))]) (fun z => [{ id := x0, cs := [Value.int IntKind.i64 x.op, Value.int IntKind.u8 (↑x.label.toNat : Int), Value.slice b2p x.kids.length c2p], ty := (417 : Nat) }]) (fun z => [H]) (fun z => x.kids.length - z) (fun z => z ≤ x.kids.length ∧ kidsOk (x.kids.take z) i = true) (0)
              · repeat' (first | exact trivial | refine ⟨⟨_, rfl, by first | rfl | exact inc_eq _ (by omega) | (refine sl_eq ?_; simp; done), by first | exact trivial | simp [SV.ok]⟩, ?_⟩)
              · exact ⟨rfl, trivial⟩
              · exact ⟨by omega, rfl⟩
              · exact .refl _
              rintro k hI
              obtain ⟨hk, ha⟩ : k ≤ x.kids.length ∧ kidsOk (x.kids.take k) i = true := hI
              try dsimp only
              refine VCsplit.intro (fun q27 => ?_) (fun q27 => ?_)
              ·
                simp at q27
                refine idx_rd h2p ?_ ?_ fun b28 o28 hb28 => ?_
                · omega
                · omega
                refine load_allN 0 (k) rfl h2p ?_ ?_ hb28 rfl (mem_at 0 rfl) fun l29 hl29 => ?_
                · omega
                · omega
                obtain ⟨rfl, hw29⟩ := hl29; simp only [flStr, flInt, okI] at hw29
                refine VCsplit.intro (fun q30 => ?_) (fun q30 => ?_)
                ·
                  simp at q30
                  exact ⟨[], ⟨by rw [piece_badkid (k := k) (by omega) (by omega) (by omega)], rfl⟩, (.le fun a => by (try simp only [setR, List.cons_append, List.nil_append]); simp [List.count_cons, Blk.ent, idOf]; try omega)⟩
                ·
                  simp at q30
                  refine VCsplit.intro (fun q31 => ?_) (fun q31 => ?_)
                  ·
                    simp at q31
                    exact ⟨[], ⟨by rw [piece_badkid (k := k) (by omega) (by omega) (by omega)], rfl⟩, (.le fun a => by (try simp only [setR, List.cons_append, List.nil_append]); simp [List.count_cons, Blk.ent, idOf]; try omega)⟩
                  ·
                    simp at q31
                    apply loop_stepA (k + 1)
                    · exact .refl _
                    · repeat' (first | exact trivial | refine ⟨⟨_, rfl, by first | rfl | exact inc_eq _ (by omega) | (refine sl_eq ?_; simp; done), by first | exact trivial | simp [SV.ok]⟩, ?_⟩)
                    · exact ⟨rfl, trivial⟩
                    · exact ⟨by omega, kidsOk_step (by omega) ha (by omega)⟩
                    · omega
              ·
                simp at q27
                (have hke : k = x.kids.length := (by omega); subst hke; rw [List.take_length] at ha; exact ⟨[], ⟨by rw [piece_end (by omega) ha], rfl⟩, (.le fun a => by (try simp only [setR, List.cons_append, List.nil_append]); simp [List.count_cons, Blk.ent, idOf]; try omega)⟩)
          ·
            simp at q25
            refine VCsplit.intro (fun q32 => ?_) (fun q32 => ?_)
            ·
              simp at q32
              refine VCsplit.intro (fun q33 => ?_) (fun q33 => ?_)
              ·
                simp at q33
                exact ⟨[], ⟨by rw [piece_f fun e => by (have := piece_iff.1 e; omega)], rfl⟩, (.le fun a => by (try simp only [setR, List.cons_append, List.nil_append]); simp [List.count_cons, Blk.ent, idOf]; try omega)⟩
              ·
                simp at q33
                apply loop_mod (α := (Nat)) G_ok [39, 40, 41, 6, 42, 43, 44, 45, 46, 47, 48, 4, 49, 38] (fun z => [(38, .v (.int .i64 z))]) (fun z => [{ id := x0, cs := [Value.int IntKind.i64 x.op, Value.int IntKind.u8 (↑x.label.toNat : Int), Value.slice b2p x.kids.length c2p], ty := (417 : Nat) }]) (fun z => [H]) (fun z => x.kids.length - z) (fun z => z ≤ x.kids.length ∧ kidsOk (x.kids.take z) i = true) (0)
                · repeat' (first | exact trivial | refine ⟨⟨_, rfl, by first | rfl | exact inc_eq _ (by omega) | (refine sl_eq ?_; simp; done), by first | exact trivial | simp [SV.ok]⟩, ?_⟩)
                · exact ⟨rfl, trivial⟩
                · exact ⟨by omega, rfl⟩
                · exact .refl _
                rintro k hI
                obtain ⟨hk, ha⟩ : k ≤ x.kids.length ∧ kidsOk (x.kids.take k) i = true := hI
                try dsimp only
                refine VCsplit.intro (fun q34 => ?_) (fun q34 => ?_)
                ·
                  simp at q34
                  refine idx_rd h2p ?_ ?_ fun b35 o35 hb35 => ?_
                  · omega
                  · omega
                  refine load_allN 0 (k) rfl h2p ?_ ?_ hb35 rfl (mem_at 0 rfl) fun l36 hl36 => ?_
                  · omega
                  · omega
                  obtain ⟨rfl, hw36⟩ := hl36; simp only [flStr, flInt, okI] at hw36
                  refine VCsplit.intro (fun q37 => ?_) (fun q37 => ?_)
                  ·
                    simp at q37
                    exact ⟨[], ⟨by rw [piece_badkid (k := k) (by omega) (by omega) (by omega)], rfl⟩, (.le fun a => by (try simp only [setR, List.cons_append, List.nil_append]); simp [List.count_cons, Blk.ent, idOf]; try omega)⟩
                  ·
                    simp at q37
                    refine VCsplit.intro (fun q38 => ?_) (fun q38 => ?_)
                    ·
                      simp at q38
                      exact ⟨[], ⟨by rw [piece_badkid (k := k) (by omega) (by omega) (by omega)], rfl⟩, (.le fun a => by (try simp only [setR, List.cons_append, List.nil_append]); simp [List.count_cons, Blk.ent, idOf]; try omega)⟩
                    ·
                      simp at q38
                      apply loop_stepA (k + 1)
                      · exact .refl _
                      · repeat' (first | exact trivial | refine ⟨⟨_, rfl, by first | rfl | exact inc_eq _ (by omega) | (refine sl_eq ?_; simp; done), by first | exact trivial | simp [SV.ok]⟩, ?_⟩)
                      · exact ⟨rfl, trivial⟩
                      · exact ⟨by omega, kidsOk_step (by omega) ha (by omega)⟩
                      · omega
                ·
                  simp at q34
                  (have hke : k = x.kids.length := (by omega); subst hke; rw [List.take_length] at ha; exact ⟨[], ⟨by rw [piece_end (by omega) ha], rfl⟩, (.le fun a => by (try simp only [setR, List.cons_append, List.nil_append]); simp [List.count_cons, Blk.ent, idOf]; try omega)⟩)
            ·
              simp at q32
              exact ⟨[], ⟨by rw [piece_f fun e => by (have := piece_iff.1 e; omega)], rfl⟩, (.le fun a => by (try simp only [setR, List.cons_append, List.nil_append]); simp [List.count_cons, Blk.ent, idOf]; try omega)⟩
--@ct impl.PathOk val implPathOk_ct _ $1 | %1
theorem implPathOk_ct (l : List Value) (x : Path) : Ct Tryz.prog 290 [.agg ⟨l⟩] [] (fun H => gPath.rd H l x) (fun v A => v = .bool (pathOk x) ∧ A = []) := by
  refine Ct.intro0 G_ok Tryz.func290 rfl rfl rfl fun E H hp => ?_
  obtain ⟨b0p, c0p, rfl, h0p⟩ := gPath_rd.1 hp
  have hl := (rd_len h0p).2
  refine VCnew.intro fun x0 => ?_
  refine VCsplit.intro (fun q1 => ?_) (fun q1 => ?_)
  ·
    simp at q1
    exact ⟨[], ⟨by rw [pathOk_out (by omega)], rfl⟩, (.le fun a => by (try simp only [setR, List.cons_append, List.nil_append]); simp only [List.flatten_append, List.flatten_cons, List.flatten_nil, List.count_append, List.count_nil, List.append_nil, List.nil_append]; omega)⟩
  ·
    simp at q1
    refine VCsplit.intro (fun q2 => ?_) (fun q2 => ?_)
    ·
      simp at q2
      exact ⟨[], ⟨by rw [pathOk_out (by omega)], rfl⟩, (.le fun a => by (try simp only [setR, List.cons_append, List.nil_append]); simp only [List.flatten_append, List.flatten_cons, List.flatten_nil, List.count_append, List.count_nil, List.append_nil, List.nil_append]; omega)⟩
    ·
      simp at q2
      apply loop_mod (α := (Nat)) G_ok [19, 20, 21, 22, 4, 3, 23, 24, 25, 26, 2, 27, 18] (fun z => [(18, .v (.int .i64 z))]) (fun z => [{ id := x0, cs := [Value.slice b0p x.pieces.length c0p], ty := (269 : Nat) }]) (fun z => [H]) (fun z => x.pieces.length - z) (fun z => z ≤ x.pieces.length ∧ allK (fun i => pieceOk (x.pieces[i]?.getD default) i) z = true) (0)
      · repeat' (first | exact trivial | refine ⟨⟨_, rfl, by first | rfl | exact inc_eq _ (by omega) | (refine sl_eq ?_; simp; done), by first | exact trivial | simp [SV.ok]⟩, ?_⟩)
      · exact ⟨rfl, trivial⟩
      · exact ⟨by omega, rfl⟩
      · exact .refl _
      rintro k hI
      obtain ⟨hk, ha⟩ : k ≤ x.pieces.length ∧ allK (fun i => pieceOk (x.pieces[i]?.getD default) i) k = true := hI
      try dsimp only
      refine VCsplit.intro (fun q3 => ?_) (fun q3 => ?_)
      ·
        simp at q3
        refine idx_rd h0p ?_ ?_ fun b4 o4 hb4 => ?_
        · omega
        · omega
        refine load_allN default (k) rfl h0p ?_ ?_ hb4 rfl (mem_at 0 rfl) fun l5 hl5 => ?_
        · omega
        · omega
        obtain ⟨b2x5, c2x5, rfl, w0x5, h2x5⟩ := gPiece_rd.1 hl5
        refine VCnew.intro fun x6 => ?_
        refine call_val (implPieceOk_ct _ (x.pieces[k]?.getD default) _ ?_) (Rp.mono _ (mem_at 0 rfl) hl5) ?_
        · omega
        rintro _ rfl
        refine VCsplit.intro (fun q8 => ?_) (fun q8 => ?_)
        ·
          simp at q8
          exact ⟨[], ⟨by rw [pathOk_no (k := k) (by omega) (by assumption)], rfl⟩, (.le fun a => by (try simp only [setR, List.cons_append, List.nil_append]); simp only [List.flatten_append, List.flatten_cons, List.flatten_nil, List.count_append, List.count_nil, List.append_nil, List.nil_append]; omega)⟩
        ·
          simp at q8
          apply loop_stepA (k + 1)
          · exact .refl _
          · repeat' (first | exact trivial | refine ⟨⟨_, rfl, by first | rfl | exact inc_eq _ (by omega) | (refine sl_eq ?_; simp; done), by first | exact trivial | simp [SV.ok]⟩, ?_⟩)
          · exact ⟨rfl, trivial⟩
          · exact ⟨by omega, allK_step ha (by assumption)⟩
          · omega
      ·
        simp at q3
        (have hke : k = x.pieces.length := (by omega); subst hke; exact ⟨[], ⟨by rw [pathOk_yes (by omega) ha], rfl⟩, (.le fun a => by (try simp only [setR, List.cons_append, List.nil_append]); simp only [List.flatten_append, List.flatten_cons, List.flatten_nil, List.count_append, List.count_nil, List.append_nil, List.nil_append]; omega)⟩)
theorem pathOk_end {p : Path} (h2 : allK (fun i => pieceOk (p.pieces[i]?.getD default) i) p.pieces.length = true) : pathOk p = inR 1 60 (p.pieces.length : Nat) := by
  rw [Bool.eq_iff_iff, inR_iff]
  unfold pathOk; rw [h2]; simp; omega
--@ct spec.PathOk val specPathOk_ct _ $1 | %1
theorem specPathOk_ct (l : List Value) (x : Path) : Ct Tryz.prog 271 [.agg ⟨l⟩] [] (fun H => gPath.rd H l x) (fun v A => v = .bool (pathOk x) ∧ A = []) := by
  refine Ct.intro0 G_ok Tryz.func271 rfl rfl rfl fun E H hp => ?_
  obtain ⟨b0p, c0p, rfl, h0p⟩ := gPath_rd.1 hp
  have hl := (rd_len h0p).2
  refine VCnew.intro fun x0 => ?_
  apply loop_mod (α := (Nat)) G_ok [7, 8, 9, 10, 11, 14, 15, 16, 17, 18, 4, 19, 20, 21, 5, 22, 23, 25, 24, 26, 27, 28, 29, 30, 31, 32, 33, 34, 35, 36, 37, 2, 39, 38, 40, 41, 42, 43, 44, 45, 46, 47, 49, 48, 50, 51, 52, 53, 54, 55, 56, 57, 58, 6, 59, 60, 61, 64, 65, 66, 67, 68, 69, 70, 71, 72, 62, 63, 12, 13, 3] (fun z => [(3, .v (.int .i64 z))]) (fun z => [{ id := x0, cs := [Value.slice b0p x.pieces.length c0p], ty := (269 : Nat) }]) (fun z => [H]) (fun z => x.pieces.length - z) (fun z => z ≤ x.pieces.length ∧ allK (fun i => pieceOk (x.pieces[i]?.getD default) i) z = true) (0)
  · repeat' (first | exact trivial | refine ⟨⟨_, rfl, by first | rfl | exact inc_eq _ (by omega) | (refine sl_eq ?_; simp; done) | exact inc_eq _ (by have h9 := (rd_len (xs := (x.pieces[k]?.getD default).kids) (by assumption)).2; omega), by first | exact trivial | simp [SV.ok]⟩, ?_⟩)
  · exact ⟨rfl, trivial⟩
  · exact ⟨by omega, rfl⟩
  · exact .refl _
  rintro k hI
  obtain ⟨hk, ha⟩ : k ≤ x.pieces.length ∧ allK (fun i => pieceOk (x.pieces[i]?.getD default) i) k = true := hI
  try dsimp only
  refine VCsplit.intro (fun q1 => ?_) (fun q1 => ?_)
  ·
    simp at q1
    refine idx_rd h0p ?_ ?_ fun b2 o2 hb2 => ?_
    · omega
    · omega
    refine load_allN default (k) rfl h0p ?_ ?_ hb2 rfl (mem_at 0 rfl) fun l3 hl3 => ?_
    · omega
    · omega
    obtain ⟨b2x3, c2x3, rfl, w0x3, h2x3⟩ := gPiece_rd.1 hl3
    refine VCnew.intro fun x4 => ?_
    refine VCsplit.intro (fun q5 => ?_) (fun q5 => ?_)
    ·
      simp at q5
      refine VCsplit.intro (fun q6 => ?_) (fun q6 => ?_)
      ·
        simp at q6
        exact ⟨[], ⟨by rw [pathOk_no (k := k) (by omega) (piece_f fun e => by (have := piece_iff.1 e; omega))], rfl⟩, (.le fun a => by (try simp only [setR, List.cons_append, List.nil_append]); simp [List.count_cons, Blk.ent, idOf]; try omega)⟩
      ·
        simp at q6
        refine VCsplit.intro (fun q7 => ?_) (fun q7 => ?_)
        ·
          simp at q7
          exact ⟨[], ⟨by rw [pathOk_no (k := k) (by omega) (piece_f fun e => by (have := piece_iff.1 e; omega))], rfl⟩, (.le fun a => by (try simp only [setR, List.cons_append, List.nil_append]); simp [List.count_cons, Blk.ent, idOf]; try omega)⟩
        ·
          simp at q7
          refine VCsplit.intro (fun q8 => ?_) (fun q8 => ?_)
          ·
            simp at q8
            (have e9 : (x.pieces[k]?.getD default).kids.length ≠ 0 := (by simpa using ‹¬ _ = []›); exact ⟨[], ⟨by rw [pathOk_no (k := k) (by omega) (piece_f fun e => by (have := piece_iff.1 e; omega))], rfl⟩, (.le fun a => by (try simp only [setR, List.cons_append, List.nil_append]); simp [List.count_cons, Blk.ent, idOf]; try omega)⟩)
          ·
            simp at q8
            apply loop_mod (α := (Nat)) G_ok [59, 60, 61, 64, 65, 66, 67, 68, 69, 70, 71, 72, 2, 62, 63, 6] (fun z => [(6, .v (.int .i64 z))]) (fun z => [{ id := x0, cs := [Value.slice b0p x.pieces.length c0p], ty := (269 : Nat) }, { id := x4, cs := [Value.int IntKind.i64 (x.pieces[k]?.getD default).op, Value.int IntKind.u8 (↑(x.pieces[k]?.getD default).label.toNat : Int), Value.slice b2x3 (x.pieces[k]?.getD default).kids.length c2x3], ty := (417 : Nat) }]) (fun z => [H]) (fun z => (x.pieces[k]?.getD default).kids.length - z) (fun z => z ≤ (x.pieces[k]?.getD default).kids.length ∧ kidsOk ((x.pieces[k]?.getD default).kids.take z) k = true) (0)
            · repeat' (first | exact trivial | refine ⟨⟨_, rfl, by first | rfl | exact inc_eq _ (by omega) | (refine sl_eq ?_; simp; done) | exact inc_eq _ (by have h9 := (rd_len (xs := (x.pieces[k]?.getD default).kids) (by assumption)).2; omega), by first | exact trivial | simp [SV.ok]⟩, ?_⟩)
            · exact ⟨rfl, rfl, trivial⟩
            · exact ⟨by omega, rfl⟩
            · exact .refl _
            rintro j hI
            obtain ⟨hj, hb⟩ : j ≤ (x.pieces[k]?.getD default).kids.length ∧ kidsOk ((x.pieces[k]?.getD default).kids.take j) k = true := hI
            try dsimp only
            refine VCsplit.intro (fun q9 => ?_) (fun q9 => ?_)
            ·
              simp at q9
              refine idx_rd h2x3 ?_ ?_ fun b10 o10 hb10 => ?_
              · omega
              · omega
              refine load_allN 0 (j) rfl h2x3 ?_ ?_ hb10 rfl (mem_at 0 rfl) fun l11 hl11 => ?_
              · omega
              · omega
              obtain ⟨rfl, hw11⟩ := hl11; simp only [flStr, flInt, okI] at hw11
              refine call_val (l01In_ct _ _ _) trivial ?_
              rintro _ rfl
              refine VCsplit.intro (fun q13 => ?_) (fun q13 => ?_)
              ·
                simp at q13
                simp (disch := omega) only [wrap_of] at q13
                have iq13 := mt inR_iff.2 (Bool.eq_false_iff.1 q13)
                exact ⟨[], ⟨by rw [pathOk_no (k := k) (by omega) (piece_f fun e => by (have := piece_iff.1 e; omega))], rfl⟩, (.le fun a => by (try simp only [setR, List.cons_append, List.nil_append]); simp [List.count_cons, Blk.ent, idOf]; try omega)⟩
              ·
                simp at q13
                simp (disch := omega) only [wrap_of] at q13
                have iq13 := inR_iff.1 q13
                apply loop_stepA (j + 1)
                · exact .refl _
                · repeat' (first | exact trivial | refine ⟨⟨_, rfl, by first | rfl | exact inc_eq _ (by omega) | (refine sl_eq ?_; simp; done) | exact inc_eq _ (by have h9 := (rd_len (xs := (x.pieces[k]?.getD default).kids) (by assumption)).2; omega), by first | exact trivial | simp [SV.ok]⟩, ?_⟩)
                · exact ⟨rfl, rfl, trivial⟩
                · exact ⟨by omega, kidsOk_step (by omega) hb (by omega)⟩
                · omega
            ·
              simp at q9
              apply loop_stepA (k + 1)
              · exact .refl _
              · repeat' (first | exact trivial | refine ⟨⟨_, rfl, by first | rfl | exact inc_eq _ (by omega) | (refine sl_eq ?_; simp; done) | exact inc_eq _ (by have h9 := (rd_len (xs := (x.pieces[k]?.getD default).kids) (by assumption)).2; omega), by first | exact trivial | simp [SV.ok]⟩, ?_⟩)
              · exact ⟨rfl, trivial⟩
              · (have e9 : (x.pieces[k]?.getD default).kids.length = 0 := (by rw [‹(x.pieces[k]?.getD default).kids = []›]; rfl); exact ⟨by omega, allK_step ha (piece_iff.2 (by omega))⟩)
              · omega
    ·
      simp at q5
      refine VCsplit.intro (fun q14 => ?_) (fun q14 => ?_)
      ·
        simp at q14
        refine VCsplit.intro (fun q15 => ?_) (fun q15 => ?_)
        ·
          simp at q15
          exact ⟨[], ⟨by rw [pathOk_no (k := k) (by omega) (piece_f fun e => by (have := piece_iff.1 e; omega))], rfl⟩, (.le fun a => by (try simp only [setR, List.cons_append, List.nil_append]); simp [List.count_cons, Blk.ent, idOf]; try omega)⟩
        ·
          simp at q15
          refine VCsplit.intro (fun q16 => ?_) (fun q16 => ?_)
          ·
            simp at q16
            exact ⟨[], ⟨by rw [pathOk_no (k := k) (by omega) (piece_f fun e => by (have := piece_iff.1 e; omega))], rfl⟩, (.le fun a => by (try simp only [setR, List.cons_append, List.nil_append]); simp [List.count_cons, Blk.ent, idOf]; try omega)⟩
          ·
            simp at q16
            apply loop_mod (α := (Nat)) G_ok [59, 60, 61, 64, 65, 66, 67, 68, 69, 70, 71, 72, 2, 62, 63, 6] (fun z => [(6, .v (.int .i64 z))]) (fun z => [{ id := x0, cs := [Value.slice b0p x.pieces.length c0p], ty := (269 : Nat) }, { id := x4, cs := [Value.int IntKind.i64 (x.pieces[k]?.getD default).op, Value.int IntKind.u8 (↑(x.pieces[k]?.getD default).label.toNat : Int), Value.slice b2x3 (x.pieces[k]?.getD default).kids.length c2x3], ty := (417 : Nat) }]) (fun z => [H]) (fun z => (x.pieces[k]?.getD default).kids.length - z) (fun z => z ≤ (x.pieces[k]?.getD default).kids.length ∧ kidsOk ((x.pieces[k]?.getD default).kids.take z) k = true) (0)
            · repeat' (first | exact trivial | refine ⟨⟨_, rfl, by first | rfl | exact inc_eq _ (by omega) | (refine sl_eq ?_; simp; done) | exact inc_eq _ (by have h9 := (rd_len (xs := (x.pieces[k]?.getD default).kids) (by assumption)).2; omega), by first | exact trivial | simp [SV.ok]⟩, ?_⟩)
            · exact ⟨rfl, rfl, trivial⟩
            · exact ⟨by omega, rfl⟩
            · exact .refl _
            rintro j hI
            obtain ⟨hj, hb⟩ : j ≤ (x.pieces[k]?.getD default).kids.length ∧ kidsOk ((x.pieces[k]?.getD default).kids.take j) k = true := hI
            try dsimp only
            refine VCsplit.intro (fun q17 => ?_) (fun q17 => ?_)
            ·
              simp at q17
              refine idx_rd h2x3 ?_ ?_ fun b18 o18 hb18 => ?_
              · omega
              · omega
              refine load_allN 0 (j) rfl h2x3 ?_ ?_ hb18 rfl (mem_at 0 rfl) fun l19 hl19 => ?_
              · omega
              · omega
              obtain ⟨rfl, hw19⟩ := hl19; simp only [flStr, flInt, okI] at hw19
              refine call_val (l01In_ct _ _ _) trivial ?_
              rintro _ rfl
              refine VCsplit.intro (fun q21 => ?_) (fun q21 => ?_)
              ·
                simp at q21
                simp (disch := omega) only [wrap_of] at q21
                have iq21 := mt inR_iff.2 (Bool.eq_false_iff.1 q21)
                exact ⟨[], ⟨by rw [pathOk_no (k := k) (by omega) (piece_badkid (k := j) (by omega) (by omega) (by omega))], rfl⟩, (.le fun a => by (try simp only [setR, List.cons_append, List.nil_append]); simp [List.count_cons, Blk.ent, idOf]; try omega)⟩
              ·
                simp at q21
                simp (disch := omega) only [wrap_of] at q21
                have iq21 := inR_iff.1 q21
                apply loop_stepA (j + 1)
                · exact .refl _
                · repeat' (first | exact trivial | refine ⟨⟨_, rfl, by first | rfl | exact inc_eq _ (by omega) | (refine sl_eq ?_; simp; done) | exact inc_eq _ (by have h9 := (rd_len (xs := (x.pieces[k]?.getD default).kids) (by assumption)).2; omega), by first | exact trivial | simp [SV.ok]⟩, ?_⟩)
                · exact ⟨rfl, rfl, trivial⟩
                · exact ⟨by omega, kidsOk_step (by omega) hb (by omega)⟩
                · omega
            ·
              simp at q17
              apply loop_stepA (k + 1)
              · exact .refl _
              · repeat' (first | exact trivial | refine ⟨⟨_, rfl, by first | rfl | exact inc_eq _ (by omega) | (refine sl_eq ?_; simp; done) | exact inc_eq _ (by have h9 := (rd_len (xs := (x.pieces[k]?.getD default).kids) (by assumption)).2; omega), by first | exact trivial | simp [SV.ok]⟩, ?_⟩)
              · exact ⟨rfl, trivial⟩
              · (have hje : j = (x.pieces[k]?.getD default).kids.length := (by omega); subst hje; rw [List.take_length] at hb; exact ⟨by omega, allK_step ha (piece_yes (by omega) (by omega) hb)⟩)
              · omega
      ·
        simp at q14
        refine VCsplit.intro (fun q22 => ?_) (fun q22 => ?_)
        ·
          simp at q22
          refine VCsplit.intro (fun q23 => ?_) (fun q23 => ?_)
          ·
            simp at q23
            exact ⟨[], ⟨by rw [pathOk_no (k := k) (by omega) (piece_f fun e => by (have := piece_iff.1 e; omega))], rfl⟩, (.le fun a => by (try simp only [setR, List.cons_append, List.nil_append]); simp [List.count_cons, Blk.ent, idOf]; try omega)⟩
          ·
            simp at q23
            refine VCsplit.intro (fun q24 => ?_) (fun q24 => ?_)
            ·
              simp at q24
              exact ⟨[], ⟨by rw [pathOk_no (k := k) (by omega) (piece_f fun e => by (have := piece_iff.1 e; omega))], rfl⟩, (.le fun a => by (try simp only [setR, List.cons_append, List.nil_append]); simp [List.count_cons, Blk.ent, idOf]; try omega)⟩
            ·
              simp at q24
              apply loop_mod (α := (Nat)) G_ok [59, 60, 61, 64, 65, 66, 67, 68, 69, 70, 71, 72, 2, 62, 63, 6] (fun z => [(6, .v (.int .i64 z))]) (fun z => [{ id := x0, cs := [Value.slice b0p x.pieces.length c0p], ty := (269 : Nat) }, { id := x4, cs := [Value.int IntKind.i64 (x.pieces[k]?.getD default).op, Value.int IntKind.u8 (↑(x.pieces[k]?.getD default).label.toNat : Int), Value.slice b2x3 (x.pieces[k]?.getD default).kids.length c2x3], ty := (417 : Nat) }]) (fun z => [H]) (fun z => (x.pieces[k]?.getD default).kids.length - z) (fun z => z ≤ (x.pieces[k]?.getD default).kids.length ∧ kidsOk ((x.pieces[k]?.getD default).kids.take z) k = true) (0)
              · repeat' (first | exact trivial | refine ⟨⟨_, rfl, by first | rfl | exact inc_eq _ (by omega) | (refine sl_eq ?_; simp; done) | exact inc_eq _ (by have h9 := (rd_len (xs := (x.pieces[k]?.getD default).kids) (by assumption)).2; omega), by first | exact trivial | simp [SV.ok]⟩, ?_⟩)
              · exact ⟨rfl, rfl, trivial⟩
              · exact ⟨by omega, rfl⟩
              · exact .refl _
              rintro j hI
              obtain ⟨hj, hb⟩ : j ≤ (x.pieces[k]?.getD default).kids.length ∧ kidsOk ((x.pieces[k]?.getD default).kids.take j) k = true := hI
              try dsimp only
              refine VCsplit.intro (fun q25 => ?_) (fun q25 => ?_)
              ·
                simp at q25
                refine idx_rd h2x3 ?_ ?_ fun b26 o26 hb26 => ?_
                · omega
                · omega
                refine load_allN 0 (j) rfl h2x3 ?_ ?_ hb26 rfl (mem_at 0 rfl) fun l27 hl27 => ?_
                · omega
                · omega
                obtain ⟨rfl, hw27⟩ := hl27; simp only [flStr, flInt, okI] at hw27
                refine call_val (l01In_ct _ _ _) trivial ?_
                rintro _ rfl
                refine VCsplit.intro (fun q29 => ?_) (fun q29 => ?_)
                ·
                  simp at q29
                  simp (disch := omega) only [wrap_of] at q29
                  have iq29 := mt inR_iff.2 (Bool.eq_false_iff.1 q29)
                  exact ⟨[], ⟨by rw [pathOk_no (k := k) (by omega) (piece_badkid (k := j) (by omega) (by omega) (by omega))], rfl⟩, (.le fun a => by (try simp only [setR, List.cons_append, List.nil_append]); simp [List.count_cons, Blk.ent, idOf]; try omega)⟩
                ·
                  simp at q29
                  simp (disch := omega) only [wrap_of] at q29
                  have iq29 := inR_iff.1 q29
                  apply loop_stepA (j + 1)
                  · exact .refl _
                  · repeat' (first | exact trivial | refine ⟨⟨_, rfl, by first | rfl | exact inc_eq _ (by omega) | (refine sl_eq ?_; simp; done) | exact inc_eq _ (by have h9 := (rd_len (xs := (x.pieces[k]?.getD default).kids) (by assumption)).2; omega), by first | exact trivial | simp [SV.ok]⟩, ?_⟩)
                  · exact ⟨rfl, rfl, trivial⟩
                  · exact ⟨by omega, kidsOk_step (by omega) hb (by omega)⟩
                  · omega
              ·
                simp at q25
                apply loop_stepA (k + 1)
                · exact .refl _
                · repeat' (first | exact trivial | refine ⟨⟨_, rfl, by first | rfl | exact inc_eq _ (by omega) | (refine sl_eq ?_; simp; done) | exact inc_eq _ (by have h9 := (rd_len (xs := (x.pieces[k]?.getD default).kids) (by assumption)).2; omega), by first | exact trivial | simp [SV.ok]⟩, ?_⟩)
                · exact ⟨rfl, trivial⟩
                · (have hje : j = (x.pieces[k]?.getD default).kids.length := (by omega); subst hje; rw [List.take_length] at hb; exact ⟨by omega, allK_step ha (piece_yes (by omega) (by omega) hb)⟩)
                · omega
        ·
          simp at q22
          refine VCsplit.intro (fun q30 => ?_) (fun q30 => ?_)
          ·
            simp at q30
            refine VCsplit.intro (fun q31 => ?_) (fun q31 => ?_)
            ·
              simp at q31
              exact ⟨[], ⟨by rw [pathOk_no (k := k) (by omega) (piece_f fun e => by (have := piece_iff.1 e; omega))], rfl⟩, (.le fun a => by (try simp only [setR, List.cons_append, List.nil_append]); simp [List.count_cons, Blk.ent, idOf]; try omega)⟩
            ·
              simp at q31
              refine VCsplit.intro (fun q32 => ?_) (fun q32 => ?_)
              ·
                simp at q32
                exact ⟨[], ⟨by rw [pathOk_no (k := k) (by omega) (piece_f fun e => by (have := piece_iff.1 e; omega))], rfl⟩, (.le fun a => by (try simp only [setR, List.cons_append, List.nil_append]); simp [List.count_cons, Blk.ent, idOf]; try omega)⟩
              ·
                simp at q32
                apply loop_mod (α := (Nat)) G_ok [59, 60, 61, 64, 65, 66, 67, 68, 69, 70, 71, 72, 2, 62, 63, 6] (fun z => [(6, .v (.int .i64 z))]) (fun z => [{ id := x0, cs := [Value.slice b0p x.pieces.length c0p], ty := (269 : Nat) }, { id := x4, cs := [Value.int IntKind.i64 (x.pieces[k]?.getD default).op, Value.int IntKind.u8 (↑(x.pieces[k]?.getD default).label.toNat : Int), Value.slice b2x3 (x.pieces[k]?.getD default).kids.length c2x3], ty := (417 : Nat) }]) (fun z => [H]) (fun z => (x.pieces[k]?.getD default).kids.length - z) (fun z => z ≤ (x.pieces[k]?.getD default).kids.length ∧ kidsOk ((x.pieces[k]?.getD default).kids.take z) k = true) (0)
                · repeat' (first | exact trivial | refine ⟨⟨_, rfl, by first | rfl | exact inc_eq _ (by omega) | (refine sl_eq ?_; simp; done) | exact inc_eq _ (by have h9 := (rd_len (xs := (x.pieces[k]?.getD default).kids) (by assumption)).2; omega), by first | exact trivial | simp [SV.ok]⟩, ?_⟩)
                · exact ⟨rfl, rfl, trivial⟩
                · exact ⟨by omega, rfl⟩
                · exact .refl _
                rintro j hI
                obtain ⟨hj, hb⟩ : j ≤ (x.pieces[k]?.getD default).kids.length ∧ kidsOk ((x.pieces[k]?.getD default).kids.take j) k = true := hI
                try dsimp only
                refine VCsplit.intro (fun q33 => ?_) (fun q33 => ?_)
                ·
                  simp at q33
                  refine idx_rd h2x3 ?_ ?_ fun b34 o34 hb34 => ?_
                  · omega
                  · omega
                  refine load_allN 0 (j) rfl h2x3 ?_ ?_ hb34 rfl (mem_at 0 rfl) fun l35 hl35 => ?_
                  · omega
                  · omega
                  obtain ⟨rfl, hw35⟩ := hl35; simp only [flStr, flInt, okI] at hw35
                  refine call_val (l01In_ct _ _ _) trivial ?_
                  rintro _ rfl
                  refine VCsplit.intro (fun q37 => ?_) (fun q37 => ?_)
                  ·
                    simp at q37
                    simp (disch := omega) only [wrap_of] at q37
                    have iq37 := mt inR_iff.2 (Bool.eq_false_iff.1 q37)
                    exact ⟨[], ⟨by rw [pathOk_no (k := k) (by omega) (piece_badkid (k := j) (by omega) (by omega) (by omega))], rfl⟩, (.le fun a => by (try simp only [setR, List.cons_append, List.nil_append]); simp [List.count_cons, Blk.ent, idOf]; try omega)⟩
                  ·
                    simp at q37
                    simp (disch := omega) only [wrap_of] at q37
                    have iq37 := inR_iff.1 q37
                    apply loop_stepA (j + 1)
                    · exact .refl _
                    · repeat' (first | exact trivial | refine ⟨⟨_, rfl, by first | rfl | exact inc_eq _ (by omega) | (refine sl_eq ?_; simp; done) | exact inc_eq _ (by have h9 := (rd_len (xs := (x.pieces[k]?.getD default).kids) (by assumption)).2; omega), by first | exact trivial | simp [SV.ok]⟩, ?_⟩)
                    · exact ⟨rfl, rfl, trivial⟩
                    · exact ⟨by omega, kidsOk_step (by omega) hb (by omega)⟩
                    · omega
                ·
                  simp at q33
                  apply loop_stepA (k + 1)
                  · exact .refl _
                  · repeat' (first | exact trivial | refine ⟨⟨_, rfl, by first | rfl | exact inc_eq _ (by omega) | (refine sl_eq ?_; simp; done) | exact inc_eq _ (by have h9 := (rd_len (xs := (x.pieces[k]?.getD default).kids) (by assumption)).2; omega), by first | exact trivial | simp [SV.ok]⟩, ?_⟩)
                  · exact ⟨rfl, trivial⟩
                  · (have hje : j = (x.pieces[k]?.getD default).kids.length := (by omega); subst hje; rw [List.take_length] at hb; exact ⟨by omega, allK_step ha (piece_yes (by omega) (by omega) hb)⟩)
                  · omega
          ·
            simp at q30
            refine VCsplit.intro (fun q38 => ?_) (fun q38 => ?_)
            ·
              simp at q38
              refine VCsplit.intro (fun q39 => ?_) (fun q39 => ?_)
              ·
                simp at q39
                exact ⟨[], ⟨by rw [pathOk_no (k := k) (by omega) (piece_f fun e => by (have := piece_iff.1 e; omega))], rfl⟩, (.le fun a => by (try simp only [setR, List.cons_append, List.nil_append]); simp [List.count_cons, Blk.ent, idOf]; try omega)⟩
              ·
                simp at q39
                refine VCsplit.intro (fun q40 => ?_) (fun q40 => ?_)
                ·
                  simp at q40
                  exact ⟨[], ⟨by rw [pathOk_no (k := k) (by omega) (piece_f fun e => by (have := piece_iff.1 e; omega))], rfl⟩, (.le fun a => by (try simp only [setR, List.cons_append, List.nil_append]); simp [List.count_cons, Blk.ent, idOf]; try omega)⟩
                ·
                  simp at q40
                  apply loop_mod (α := (Nat)) G_ok [59, 60, 61, 64, 65, 66, 67, 68, 69, 70, 71, 72, 2, 62, 63, 6] (fun z => [(6, .v (.int .i64 z))]) (fun z => [{ id := x0, cs := [Value.slice b0p x.pieces.length c0p], ty := (269 : Nat) }, { id := x4, cs := [Value.int IntKind.i64 (x.pieces[k]?.getD default).op, Value.int IntKind.u8 (↑(x.pieces[k]?.getD default).label.toNat : Int), Value.slice b2x3 (x.pieces[k]?.getD default).kids.length c2x3], ty := (417 : Nat) }]) (fun z => [H]) (fun z => (x.pieces[k]?.getD default).kids.length - z) (fun z => z ≤ (x.pieces[k]?.getD default).kids.length ∧ kidsOk ((x.pieces[k]?.getD default).kids.take z) k = true) (0)
                  · repeat' (first | exact trivial | refine ⟨⟨_, rfl, by first | rfl | exact inc_eq _ (by omega) | (refine sl_eq ?_; simp; done) | exact inc_eq _ (by have h9 := (rd_len (xs := (x.pieces[k]?.getD default).kids) (by assumption)).2; omega), by first | exact trivial | simp [SV.ok]⟩, ?_⟩)
                  · exact ⟨rfl, rfl, trivial⟩
                  · exact ⟨by omega, rfl⟩
                  · exact .refl _
                  rintro j hI
                  obtain ⟨hj, hb⟩ : j ≤ (x.pieces[k]?.getD default).kids.length ∧ kidsOk ((x.pieces[k]?.getD default).kids.take j) k = true := hI
                  try dsimp only
                  refine VCsplit.intro (fun q41 => ?_) (fun q41 => ?_)
                  ·
                    simp at q41
                    refine idx_rd h2x3 ?_ ?_ fun b42 o42 hb42 => ?_
                    · omega
                    · omega
                    refine load_allN 0 (j) rfl h2x3 ?_ ?_ hb42 rfl (mem_at 0 rfl) fun l43 hl43 => ?_
                    · omega
                    · omega
                    obtain ⟨rfl, hw43⟩ := hl43; simp only [flStr, flInt, okI] at hw43
                    refine call_val (l01In_ct _ _ _) trivial ?_
                    rintro _ rfl
                    refine VCsplit.intro (fun q45 => ?_) (fun q45 => ?_)
                    ·
                      simp at q45
                      simp (disch := omega) only [wrap_of] at q45
                      have iq45 := mt inR_iff.2 (Bool.eq_false_iff.1 q45)
                      exact ⟨[], ⟨by rw [pathOk_no (k := k) (by omega) (piece_badkid (k := j) (by omega) (by omega) (by omega))], rfl⟩, (.le fun a => by (try simp only [setR, List.cons_append, List.nil_append]); simp [List.count_cons, Blk.ent, idOf]; try omega)⟩
                    ·
                      simp at q45
                      simp (disch := omega) only [wrap_of] at q45
                      have iq45 := inR_iff.1 q45
                      apply loop_stepA (j + 1)
                      · exact .refl _
                      · repeat' (first | exact trivial | refine ⟨⟨_, rfl, by first | rfl | exact inc_eq _ (by omega) | (refine sl_eq ?_; simp; done) | exact inc_eq _ (by have h9 := (rd_len (xs := (x.pieces[k]?.getD default).kids) (by assumption)).2; omega), by first | exact trivial | simp [SV.ok]⟩, ?_⟩)
                      · exact ⟨rfl, rfl, trivial⟩
                      · exact ⟨by omega, kidsOk_step (by omega) hb (by omega)⟩
                      · omega
                  ·
                    simp at q41
                    apply loop_stepA (k + 1)
                    · exact .refl _
                    · repeat' (first | exact trivial | refine ⟨⟨_, rfl, by first | rfl | exact inc_eq _ (by omega) | (refine sl_eq ?_; simp; done) | exact inc_eq _ (by have h9 := (rd_len (xs := (x.pieces[k]?.getD default).kids) (by assumption)).2; omega), by first | exact trivial | simp [SV.ok]⟩, ?_⟩)
                    · exact ⟨rfl, trivial⟩
                    · (have hje : j = (x.pieces[k]?.getD default).kids.length := (by omega); subst hje; rw [List.take_length] at hb; exact ⟨by omega, allK_step ha (piece_yes (by omega) (by omega) hb)⟩)
                    · omega
            ·
              simp at q38
              refine VCsplit.intro (fun q46 => ?_) (fun q46 => ?_)
              ·
                simp at q46
                refine VCsplit.intro (fun q47 => ?_) (fun q47 => ?_)
                ·
                  simp at q47
                  exact ⟨[], ⟨by rw [pathOk_no (k := k) (by omega) (piece_f fun e => by (have := piece_iff.1 e; omega))], rfl⟩, (.le fun a => by (try simp only [setR, List.cons_append, List.nil_append]); simp [List.count_cons, Blk.ent, idOf]; try omega)⟩
                ·
                  simp at q47
                  refine VCsplit.intro (fun q48 => ?_) (fun q48 => ?_)
                  ·
                    simp at q48
                    exact ⟨[], ⟨by rw [pathOk_no (k := k) (by omega) (piece_f fun e => by (have := piece_iff.1 e; omega))], rfl⟩, (.le fun a => by (try simp only [setR, List.cons_append, List.nil_append]); simp [List.count_cons, Blk.ent, idOf]; try omega)⟩
                  ·
                    simp at q48
                    apply loop_mod (α := (Nat)) G_ok [59, 60, 61, 64, 65, 66, 67, 68, 69, 70, 71, 72, 2, 62, 63, 6] (fun z => [(6, .v (.int .i64 z))]) (fun z => [{ id := x0, cs := [Value.slice b0p x.pieces.length c0p], ty := (269 : Nat) }, { id := x4, cs := [Value.int IntKind.i64 (x.pieces[k]?.getD default).op, Value.int IntKind.u8 (↑(x.pieces[k]?.getD default).label.toNat : Int), Value.slice b2x3 (x.pieces[k]?.getD default).kids.length c2x3], ty := (417 : Nat) }]) (fun z => [H]) (fun z => (x.pieces[k]?.getD default).kids.length - z) (fun z => z ≤ (x.pieces[k]?.getD default).kids.length ∧ kidsOk ((x.pieces[k]?.getD default).kids.take z) k = true) (0)
                    · repeat' (first | exact trivial | refine ⟨⟨_, rfl, by first | rfl | exact inc_eq _ (by omega) | (refine sl_eq ?_; simp; done) | exact inc_eq _ (by have h9 := (rd_len (xs := (x.pieces[k]?.getD default).kids) (by assumption)).2; omega), by first | exact trivial | simp [SV.ok]⟩, ?_⟩)
                    · exact ⟨rfl, rfl, trivial⟩
                    · exact ⟨by omega, rfl⟩
                    · exact .refl _
                    rintro j hI
                    obtain ⟨hj, hb⟩ : j ≤ (x.pieces[k]?.getD default).kids.length ∧ kidsOk ((x.pieces[k]?.getD default).kids.take j) k = true := hI
                    try dsimp only
                    refine VCsplit.intro (fun q49 => ?_) (fun q49 => ?_)
                    ·
                      simp at q49
                      refine idx_rd h2x3 ?_ ?_ fun b50 o50 hb50 => ?_
                      · omega
                      · omega
                      refine load_allN 0 (j) rfl h2x3 ?_ ?_ hb50 rfl (mem_at 0 rfl) fun l51 hl51 => ?_
                      · omega
                      · omega
                      obtain ⟨rfl, hw51⟩ := hl51; simp only [flStr, flInt, okI] at hw51
                      refine call_val (l01In_ct _ _ _) trivial ?_
                      rintro _ rfl
                      refine VCsplit.intro (fun q53 => ?_) (fun q53 => ?_)
                      ·
                        simp at q53
                        simp (disch := omega) only [wrap_of] at q53
                        have iq53 := mt inR_iff.2 (Bool.eq_false_iff.1 q53)
                        exact ⟨[], ⟨by rw [pathOk_no (k := k) (by omega) (piece_badkid (k := j) (by omega) (by omega) (by omega))], rfl⟩, (.le fun a => by (try simp only [setR, List.cons_append, List.nil_append]); simp [List.count_cons, Blk.ent, idOf]; try omega)⟩
                      ·
                        simp at q53
                        simp (disch := omega) only [wrap_of] at q53
                        have iq53 := inR_iff.1 q53
                        apply loop_stepA (j + 1)
                        · exact .refl _
                        · repeat' (first | exact trivial | refine ⟨⟨_, rfl, by first | rfl | exact inc_eq _ (by omega) | (refine sl_eq ?_; simp; done) | exact inc_eq _ (by have h9 := (rd_len (xs := (x.pieces[k]?.getD default).kids) (by assumption)).2; omega), by first | exact trivial | simp [SV.ok]⟩, ?_⟩)
                        · exact ⟨rfl, rfl, trivial⟩
                        · exact ⟨by omega, kidsOk_step (by omega) hb (by omega)⟩
                        · omega
                    ·
                      simp at q49
                      apply loop_stepA (k + 1)
                      · exact .refl _
                      · repeat' (first | exact trivial | refine ⟨⟨_, rfl, by first | rfl | exact inc_eq _ (by omega) | (refine sl_eq ?_; simp; done) | exact inc_eq _ (by have h9 := (rd_len (xs := (x.pieces[k]?.getD default).kids) (by assumption)).2; omega), by first | exact trivial | simp [SV.ok]⟩, ?_⟩)
                      · exact ⟨rfl, trivial⟩
                      · (have hje : j = (x.pieces[k]?.getD default).kids.length := (by omega); subst hje; rw [List.take_length] at hb; exact ⟨by omega, allK_step ha (piece_yes (by omega) (by omega) hb)⟩)
                      · omega
              ·
                simp at q46
                exact ⟨[], ⟨by rw [pathOk_no (k := k) (by omega) (piece_f fun e => by (have := piece_iff.1 e; omega))], rfl⟩, (.le fun a => by (try simp only [setR, List.cons_append, List.nil_append]); simp [List.count_cons, Blk.ent, idOf]; try omega)⟩
  ·
    simp at q1
    refine call_val (l01In_ct _ _ _) trivial ?_
    rintro _ rfl
    (have hke : k = x.pieces.length := (by omega); subst hke; exact ⟨[], ⟨by rw [pathOk_end ha], rfl⟩, (.le fun a => by (try simp only [setR, List.cons_append, List.nil_append]); simp [List.count_cons, Blk.ent, idOf]; try omega)⟩)
end Go.Proofs.YtjgehblllhkdbaaGreat
