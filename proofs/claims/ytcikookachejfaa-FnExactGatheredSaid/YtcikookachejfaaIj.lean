/-
  Frames read, on both sides. Conditions: none.
-/
import Derived.Test.YtcikookachejfaaIa
namespace Go.Proofs.Ytcikookachejfaa
open Go.SX Go.Proofs
set_option linter.unusedSimpArgs false
set_option linter.unusedVariables false
set_option maxHeartbeats 4000000
attribute [local irreducible] IntKind.wrap

theorem frOk_no {t : ByteArray} {p : Nat} (h : (readVar t p).2.2 = false) : frOk t p = false := by unfold frOk; rw [h]; rfl
theorem frOk_end {t : ByteArray} {p : Nat} (h : t.size ≤ p) : frOk t p = false := frOk_no (by rw [readVar_end h])
theorem frOk_big {t : ByteArray} {p : Nat} (h : t.size < frE t p) : frOk t p = false := by unfold frOk; rw [decide_eq_false (by omega : ¬ frE t p ≤ t.size)]; simp
theorem frOk_len {t : ByteArray} {p : Nat} (h : ¬ (1 ≤ (readVar t p).1 ∧ (readVar t p).1 ≤ 9000)) : frOk t p = false := by
  unfold frOk
  by_cases h1 : 1 ≤ (readVar t p).1
  · rw [decide_eq_false (by omega : ¬ (readVar t p).1 ≤ 9000)]; simp
  · rw [decide_eq_false h1]; simp
theorem frOk_sum {t : ByteArray} {p : Nat} (h : ¬ t.extract (readVar t p).2.1 ((readVar t p).2.1 + 4) = four (sumOf (frT t p))) : frOk t p = false := by unfold frOk frSum; rw [decide_eq_false h]; simp
theorem frOk_yes {t : ByteArray} {p : Nat} (h1 : (readVar t p).2.2 = true) (h2 : 1 ≤ (readVar t p).1) (h3 : (readVar t p).1 ≤ 9000) (h4 : frE t p ≤ t.size) (h5 : t.extract (readVar t p).2.1 ((readVar t p).2.1 + 4) = four (sumOf (frT t p))) : frOk t p = true := by
  unfold frOk frSum; rw [h1, decide_eq_true h2, decide_eq_true h3, decide_eq_true h4, decide_eq_true h5]; rfl

theorem toN4 (a : Nat) : ((a : Int) + 4).toNat = a + 4 := by omega
theorem toN42 (a b : Nat) : ((a : Int) + 4 + (b : Int)).toNat = a + 4 + b := by omega
theorem tupS {a c : ByteArray} {b : Int} {d : Nat} {z : ByteArray} (h1 : a = c) (h2 : b = (d : Int)) : Value.tuple ⟨[.string a, .int .i64 b, .bool true]⟩ = .tuple #[.string (if true = true then c else z), .int .i64 (if true = true then d else 0 : Nat), .bool true] := by subst h1 h2; rfl
theorem frT_def (t : ByteArray) (p : Nat) : t.extract ((readVar t p).2.1 + 4) ((readVar t p).2.1 + 4 + (readVar t p).1) = frT t p := rfl

theorem frOk_fr {t : ByteArray} {p : Nat} (h1 : frameOk (frT t p) = false) (h2 : (frT t p).size = (readVar t p).1) : frOk t p = false := by
  unfold frameOk inR at h1
  refine frOk_len fun e => ?_
  rw [decide_eq_true (by omega), decide_eq_true (by omega)] at h1
  simp at h1
theorem frOk_fr2 {t : ByteArray} {p : Nat} (h1 : (readVar t p).2.2 = true) (h2 : frE t p ≤ t.size) (h3 : p ≤ t.size) (h4 : ¬ frame (frT t p) = t.extract p (frE t p)) : frOk t p = false := by
  rw [frame_eq h1 h2 h3] at h4
  unfold frOk; simp [h4]
theorem frOk_fr3 {t : ByteArray} {p : Nat} (h1 : (readVar t p).2.2 = true) (h2 : frE t p ≤ t.size) (h3 : p ≤ t.size) (h5 : frameOk (frT t p) = true) (h4 : frame (frT t p) = t.extract p (frE t p)) : frOk t p = true := by
  rw [frame_eq h1 h2 h3] at h4
  unfold frameOk at h5
  have h6 := inR_iff.1 h5
  have h7 := frT_size h2
  unfold frOk; rw [h1, h4, decide_eq_true (by omega), decide_eq_true (by omega), decide_eq_true h2]; rfl

attribute [local irreducible] readVar frOk sumOf frame four frameOk
--@ct impl.frameAt val frameAt_ct _ _ ?_ ?_
theorem frameAt_ct (t : ByteArray) (p : Nat) (ht : t.size ≤ 1152921504606846976) (hp : p ≤ t.size) :
    Ct Try.prog 241 [.string t, .int .i64 (p : Int)] [] (fun _ => True) (fun v A => v = .tuple #[.string (if frOk t p then frT t p else .empty), .int .i64 (if frOk t p then (frE t p : Nat) else 0 : Nat), .bool (frOk t p)] ∧ A = []) := by
  refine Ct.intro0 G_ok Try.func241 rfl rfl rfl fun E H _ => ?_
  refine call_val (implReadVar_ct _ _ ?_ ?_) trivial ?_
  · trivial
  · trivial
  rintro _ rfl
  refine VCsplit.intro (fun q1 => ?_) (fun q1 => ?_)
  ·
    simp at q1
    exact ⟨[], ⟨by rw [frOk_no (by assumption)]; rfl, rfl⟩, (.le fun a => by (try simp only [setR, List.cons_append, List.nil_append]); simp only [List.flatten_append, List.flatten_cons, List.flatten_nil, List.count_append, List.count_nil, List.append_nil, List.nil_append]; omega)⟩
  ·
    simp at q1
    have iq1 := readVar_le q1
    refine VCsplit.intro (fun q2 => ?_) (fun q2 => ?_)
    ·
      simp at q2
      exact ⟨[], ⟨by rw [frOk_len (by omega)]; rfl, rfl⟩, (.le fun a => by (try simp only [setR, List.cons_append, List.nil_append]); simp only [List.flatten_append, List.flatten_cons, List.flatten_nil, List.count_append, List.count_nil, List.append_nil, List.nil_append]; omega)⟩
    ·
      simp at q2
      refine VCsplit.intro (fun q3 => ?_) (fun q3 => ?_)
      ·
        simp at q3
        exact ⟨[], ⟨by rw [frOk_len (by omega)]; rfl, rfl⟩, (.le fun a => by (try simp only [setR, List.cons_append, List.nil_append]); simp only [List.flatten_append, List.flatten_cons, List.flatten_nil, List.count_append, List.count_nil, List.append_nil, List.nil_append]; omega)⟩
      ·
        simp at q3
        refine VCsplit.intro (fun q4 => ?_) (fun q4 => ?_)
        ·
          simp at q4
          simp (disch := omega) only [wrap_of] at q4
          exact ⟨[], ⟨by rw [frOk_big (by unfold frE; omega)]; rfl, rfl⟩, (.le fun a => by (try simp only [setR, List.cons_append, List.nil_append]); simp only [List.flatten_append, List.flatten_cons, List.flatten_nil, List.count_append, List.count_nil, List.append_nil, List.nil_append]; omega)⟩
        ·
          simp at q4
          simp (disch := omega) only [wrap_of] at q4
          refine VC.intro ?_ ?_
          · (simp (disch := omega) only [wrap_of]; omega)
          refine VC.intro ?_ ?_
          · (simp (disch := omega) only [wrap_of]; omega)
          refine draw G_ok mixed none (.q 0 (.q 1 (.q 2 (.q 3 (.q 4 (.q 5 (.f 6 (.q 7 (.nil))))))))) (by decide +kernel) ?_
          refine VC.intro ?_ ?_
          · (simp (disch := omega) only [wrap_of]; omega)
          refine VC.intro ?_ ?_
          · (simp (disch := omega) only [wrap_of]; omega)
          refine call_val (sumText_ct _ ?_) trivial ?_
          · simp; omega
          rintro _ rfl
          refine VC.intro ?_ ?_
          · exact fun _ h => h
          refine VCsplit.intro (fun q6 => ?_) (fun q6 => ?_)
          ·
            simp at q6
            simp only [str_inj, u8_inj, u8_wrap] at q6
            simp (disch := omega) only [wrap_of] at q6
            simp only [toN4, toN42, frT_def] at q6
            exact ⟨[], ⟨by rw [frOk_sum (by assumption)]; rfl, rfl⟩, (.le fun a => by (try simp only [setR, List.cons_append, List.nil_append]); simp only [List.flatten_append, List.flatten_cons, List.flatten_nil, List.count_append, List.count_nil, List.append_nil, List.nil_append]; omega)⟩
          ·
            simp at q6
            simp only [str_inj, u8_inj, u8_wrap] at q6
            simp (disch := omega) only [wrap_of] at q6
            simp only [toN4, toN42, frT_def] at q6
            exact ⟨[], ⟨by rw [frOk_yes (by assumption) (by omega) (by omega) (by unfold frE; omega) (by assumption)]; exact tupS (by simp (disch := omega) only [wrap_of, toN4, toN42, frT_def]) (by unfold frE; simp (disch := omega) only [wrap_of]; omega), rfl⟩, (.le fun a => by (try simp only [setR, List.cons_append, List.nil_append]); simp only [List.flatten_append, List.flatten_cons, List.flatten_nil, List.count_append, List.count_nil, List.append_nil, List.nil_append]; omega)⟩

--@ct impl.Unframe new implUnframe_ct _ ?_ | trivial | obtain ⟨b#, c#, rfl, o#⟩ := o#
theorem implUnframe_ct (t : ByteArray) (ht : t.size ≤ 1152921504606846976) :
    Ct Try.prog 214 [.string t] [] (fun _ => True) (fun v A => ∃ b c, v = .tuple #[.slice b (unframe t).1.length c, .int .i64 ((unframe t).2 : Nat)] ∧ (gSl 9 gS).ow [.slice b (unframe t).1.length c] (unframe t).1 A) := by
  refine Ct.intro0 G_ok Try.func214 rfl rfl rfl fun E H _ => ?_
  have hz0 := unfK_sz t
  refine VCsplit.intro (fun q0 => ?_) (fun q0 => ?_)
  ·
    simp at q0
    (rw [unframe_big (by omega)]; exact ⟨_, ⟨_, _, rfl, sl_nil _ _ _⟩, (.le fun a => by (try simp only [setR, List.cons_append, List.nil_append]); simp only [List.flatten_append, List.flatten_cons, List.flatten_nil, List.count_append, List.count_nil, List.append_nil, List.nil_append]; omega)⟩)
  ·
    simp at q0
    apply loop_mod (α := (Nat) × (Hp) × (Option Addr) × (Nat)) G_ok [13, 14, 15, 12, 16, 17, 18, 6, 7, 8, 19, 20, 21, 22, 2, 3, 23, 24, 25, 26, 4, 27, 5] (fun z => [(4, .v (.slice z.2.2.1 (unfK t z.1).1.length z.2.2.2)), (5, .v (.int .i64 ((unfK t z.1).2 : Nat)))]) (fun z => []) (fun z => [z.2.1, H]) (fun z => t.size - z.1) (fun z => z.1 ≤ (unfK t z.1).2 ∧ (gSl 9 gS).ow [.slice z.2.2.1 (unfK t z.1).1.length z.2.2.2] (unfK t z.1).1 z.2.1) ((0, [], none, 0))
    · repeat' (first | exact trivial | refine ⟨⟨_, rfl, by first | rfl | exact inc_eq _ (by omega) | (refine sl_eq ?_; simp; done) | (rw [unfK_more (by assumption)]), by first | exact trivial | simp [SV.ok]⟩, ?_⟩)
    · exact trivial
    · try dsimp only
      exact ⟨Nat.zero_le _, sl_nil _ _ _⟩
    · exact .refl _
    rintro ⟨k, A, b, c⟩ hI
    obtain ⟨hk, oA⟩ : k ≤ (unfK t k).2 ∧ (gSl 9 gS).ow [.slice b (unfK t k).1.length c] (unfK t k).1 A := hI
    try dsimp only
    have hz := hz0 k
    have hls := len_szL gS (unfK t k).1
    refine call_val (frameAt_ct _ _ ?_ ?_) trivial ?_
    · trivial
    · omega
    rintro _ rfl
    refine VCsplit.intro (fun q2 => ?_) (fun q2 => ?_)
    ·
      simp at q2
      (rw [unframe_end (k := k) (by omega) (by omega) (by assumption)]; exact ⟨_, ⟨_, _, rfl, oA⟩, (.le fun a => by (try simp only [setR, List.cons_append, List.nil_append]); simp only [List.flatten_append, List.flatten_cons, List.flatten_nil, List.count_append, List.count_nil, List.append_nil, List.nil_append]; omega)⟩)
    ·
      simp at q2
      simp only [show frOk t (unfK t k).2 = true from by assumption, if_true]
      have hfl := frOk_le ‹frOk t (unfK t k).2 = true›
      refine VCnew.intro fun x3 => ?_
      refine gappend1 (g := gS) (T := (9 : TypeId)) G_ok A [] [H] ?_ oA (gS_ow ?_) (List.mem_of_getElem? (i := 0) rfl) rfl rfl rfl rfl rfl rfl rfl rfl ?_ fun b4 c4 A4 o4 => ?_
      · exact .tl
      · omega
      · omega
      apply loop_stepA (k + 1, _, _, _)
      · exact .refl _
      · repeat' (first | exact trivial | refine ⟨⟨_, rfl, by first | rfl | exact inc_eq _ (by omega) | (refine sl_eq ?_; simp; done) | (rw [unfK_more (by assumption)]), by first | exact trivial | simp [SV.ok]⟩, ?_⟩)
      · exact trivial
      · try dsimp only
        exact ⟨by (rw [unfK_more (by assumption)]; have := frOk_le ‹frOk t (unfK t k).2 = true›; simp only; omega), by (rw [unfK_more (by assumption)]; assumption)⟩
      · try dsimp only
        omega

--@ct spec.Unframe new specUnframe_ct _ ?_ | trivial | obtain ⟨b#, c#, rfl, o#⟩ := o#
theorem specUnframe_ct (t : ByteArray) (ht : t.size ≤ 1152921504606846976) :
    Ct Try.prog 146 [.string t] [] (fun _ => True) (fun v A => ∃ b c, v = .tuple #[.slice b (unframe t).1.length c, .int .i64 ((unframe t).2 : Nat)] ∧ (gSl 9 gS).ow [.slice b (unframe t).1.length c] (unframe t).1 A) := by
  refine Ct.intro0 G_ok Try.func146 rfl rfl rfl fun E H _ => ?_
  have hz0 := unfK_sz t
  refine VCnew.intro fun x0 => ?_
  refine VCsplit.intro (fun q1 => ?_) (fun q1 => ?_)
  ·
    simp at q1
    (rw [unframe_big (by omega)]; exact ⟨_, ⟨_, _, rfl, sl_nil _ _ _⟩, (.le fun a => by (try simp only [setR, List.cons_append, List.nil_append]); simp only [List.flatten_append, List.flatten_cons, List.flatten_nil, List.count_append, List.count_nil, List.append_nil, List.nil_append]; omega)⟩)
  ·
    simp at q1
    apply loop_mod (α := (Nat) × (Hp) × (Option Addr) × (Nat)) G_ok [17, 18, 19, 20, 22, 23, 24, 21, 25, 26, 27, 6, 7, 8, 28, 29, 30, 31, 32, 33, 34, 35, 36, 37, 38, 39, 40, 2, 3, 41, 42, 43, 44, 45, 46, 47, 48, 9, 50, 51, 49, 52, 53, 10, 11, 54, 55, 56, 57, 58, 59, 60, 61, 62, 63, 64, 65, 66, 67, 68, 69, 70, 71, 72, 4, 73, 74, 75, 76, 5] (fun z => [(4, .v (.slice z.2.2.1 (unfK t z.1).1.length z.2.2.2)), (5, .v (.int .i64 ((unfK t z.1).2 : Nat)))]) (fun z => []) (fun z => [z.2.1, H]) (fun z => t.size - z.1) (fun z => z.1 ≤ (unfK t z.1).2 ∧ (gSl 9 gS).ow [.slice z.2.2.1 (unfK t z.1).1.length z.2.2.2] (unfK t z.1).1 z.2.1) ((0, [], some ⟨x0, 0, none⟩, 0))
    · repeat' (first | exact trivial | refine ⟨⟨_, rfl, by first | rfl | exact inc_eq _ (by omega) | (refine sl_eq ?_; simp; done) | (rw [unfK_more (by assumption)]; unfold frE; simp (disch := omega) only [wrap_of]; rfl) | (rw [unfK_more (by assumption)]), by first | exact trivial | simp [SV.ok]⟩, ?_⟩)
    · exact trivial
    · try dsimp only
      exact ⟨Nat.zero_le _, sl_nil _ _ _⟩
    · exact .tl
    rintro ⟨k, A, b, c⟩ hI
    obtain ⟨hk, oA⟩ : k ≤ (unfK t k).2 ∧ (gSl 9 gS).ow [.slice b (unfK t k).1.length c] (unfK t k).1 A := hI
    try dsimp only
    have hz := hz0 k
    have hls := len_szL gS (unfK t k).1
    refine VCsplit.intro (fun q2 => ?_) (fun q2 => ?_)
    ·
      simp at q2
      refine call_val (specReadVar_ct _ _ ?_ ?_) trivial ?_
      · trivial
      · omega
      rintro _ rfl
      refine VCsplit.intro (fun q4 => ?_) (fun q4 => ?_)
      ·
        simp at q4
        (rw [unframe_end (k := k) (by omega) (by omega) (by first | assumption | exact frOk_end (by omega) | exact frOk_no (by assumption) | exact frOk_big (by unfold frE; omega) | exact frOk_fr (by assumption) (by assumption) | exact frOk_fr2 (by assumption) (by unfold frE; omega) (by omega) (by unfold frE; assumption))]; exact ⟨_, ⟨_, _, rfl, oA⟩, (.le fun a => by (try simp only [setR, List.cons_append, List.nil_append]); simp only [List.flatten_append, List.flatten_cons, List.flatten_nil, List.count_append, List.count_nil, List.append_nil, List.nil_append]; omega)⟩)
      ·
        simp at q4
        have iq4 := readVar_le q4
        refine VCsplit.intro (fun q5 => ?_) (fun q5 => ?_)
        ·
          simp at q5
          simp (disch := omega) only [wrap_of] at q5
          (rw [unframe_end (k := k) (by omega) (by omega) (by first | assumption | exact frOk_end (by omega) | exact frOk_no (by assumption) | exact frOk_big (by unfold frE; omega) | exact frOk_fr (by assumption) (by assumption) | exact frOk_fr2 (by assumption) (by unfold frE; omega) (by omega) (by unfold frE; assumption))]; exact ⟨_, ⟨_, _, rfl, oA⟩, (.le fun a => by (try simp only [setR, List.cons_append, List.nil_append]); simp only [List.flatten_append, List.flatten_cons, List.flatten_nil, List.count_append, List.count_nil, List.append_nil, List.nil_append]; omega)⟩)
        ·
          simp at q5
          simp (disch := omega) only [wrap_of] at q5
          have wa : (IntKind.i64.wrap (((readVar t (unfK t k).2).2.1 : Int) + 4)).toNat = (readVar t (unfK t k).2).2.1 + 4 := by (rw [wrap_of (by omega) (by omega)]; omega)
          have wb : (IntKind.i64.wrap (IntKind.i64.wrap (((readVar t (unfK t k).2).2.1 : Int) + 4) + ((readVar t (unfK t k).2).1 : Int))).toNat = (readVar t (unfK t k).2).2.1 + 4 + (readVar t (unfK t k).2).1 := by (simp (disch := omega) only [wrap_of]; omega)
          have hts := frT_size (t := t) (p := (unfK t k).2) (by unfold frE; omega)
          refine VC.intro ?_ ?_
          · (simp (disch := omega) only [wrap_of]; omega)
          refine VC.intro ?_ ?_
          · (simp (disch := omega) only [wrap_of]; omega)
          refine call_val (specFrame_ct _ ?_) trivial ?_
          · simp; omega
          rintro _ rfl
          refine VCsplit.intro (fun q7 => ?_) (fun q7 => ?_)
          ·
            simp at q7
            simp (disch := omega) only [wrap_of] at q7
            simp only [toN4, toN42, wa, wb, frT_def] at q7
            (rw [unframe_end (k := k) (by omega) (by omega) (by first | assumption | exact frOk_end (by omega) | exact frOk_no (by assumption) | exact frOk_big (by unfold frE; omega) | exact frOk_fr (by assumption) (by assumption) | exact frOk_fr2 (by assumption) (by unfold frE; omega) (by omega) (by unfold frE; assumption))]; exact ⟨_, ⟨_, _, rfl, oA⟩, (.le fun a => by (try simp only [setR, List.cons_append, List.nil_append]); simp only [List.flatten_append, List.flatten_cons, List.flatten_nil, List.count_append, List.count_nil, List.append_nil, List.nil_append]; omega)⟩)
          ·
            simp at q7
            simp (disch := omega) only [wrap_of] at q7
            simp only [toN4, toN42, wa, wb, frT_def] at q7
            have hfk : frameOk (frT t (unfK t k).2) = true := by assumption
            refine VC.intro ?_ ?_
            · (simp (disch := omega) only [wrap_of]; omega)
            refine VC.intro ?_ ?_
            · (simp (disch := omega) only [wrap_of]; omega)
            refine VCsplit.intro (fun q8 => ?_) (fun q8 => ?_)
            ·
              simp at q8
              simp only [str_inj, u8_inj, u8_wrap] at q8
              simp (disch := omega) only [wrap_of] at q8
              simp only [toN4, toN42, wa, wb, frT_def] at q8
              simp only [hfk, if_true] at q8
              (rw [unframe_end (k := k) (by omega) (by omega) (by first | assumption | exact frOk_end (by omega) | exact frOk_no (by assumption) | exact frOk_big (by unfold frE; omega) | exact frOk_fr (by assumption) (by assumption) | exact frOk_fr2 (by assumption) (by unfold frE; omega) (by omega) (by unfold frE; assumption))]; exact ⟨_, ⟨_, _, rfl, oA⟩, (.le fun a => by (try simp only [setR, List.cons_append, List.nil_append]); simp only [List.flatten_append, List.flatten_cons, List.flatten_nil, List.count_append, List.count_nil, List.append_nil, List.nil_append]; omega)⟩)
            ·
              simp at q8
              simp only [str_inj, u8_inj, u8_wrap] at q8
              simp (disch := omega) only [wrap_of] at q8
              simp only [toN4, toN42, wa, wb, frT_def] at q8
              simp only [hfk, if_true] at q8
              have hfo : frOk t (unfK t k).2 = true := frOk_fr3 (by assumption) (by unfold frE; omega) (by omega) hfk (by unfold frE; assumption)
              have hfl := frOk_le hfo
              simp only [wa, wb, frT_def]
              refine VCnew.intro fun x9 => ?_
              refine gappend1 (g := gS) (T := (9 : TypeId)) G_ok A [] [H] ?_ oA (gS_ow ?_) (List.mem_of_getElem? (i := 0) rfl) rfl rfl rfl rfl rfl rfl rfl rfl ?_ fun b10 c10 A10 o10 => ?_
              · exact .tl
              · omega
              · omega
              apply loop_stepA (k + 1, _, _, _)
              · exact .refl _
              · repeat' (first | exact trivial | refine ⟨⟨_, rfl, by first | rfl | exact inc_eq _ (by omega) | (refine sl_eq ?_; simp; done) | (rw [unfK_more (by assumption)]; unfold frE; simp (disch := omega) only [wrap_of]; rfl) | (rw [unfK_more (by assumption)]), by first | exact trivial | simp [SV.ok]⟩, ?_⟩)
              · exact trivial
              · try dsimp only
                exact ⟨by (rw [unfK_more (by assumption)]; have := frOk_le ‹frOk t (unfK t k).2 = true›; simp only; omega), by (rw [unfK_more (by assumption)]; simpa only [wa, wb, frT_def] using ‹(gSl 9 gS).ow _ _ _›)⟩
              · try dsimp only
                omega
    ·
      simp at q2
      (rw [unframe_end (k := k) (by omega) (by omega) (by first | assumption | exact frOk_end (by omega) | exact frOk_no (by assumption) | exact frOk_big (by unfold frE; omega) | exact frOk_fr (by assumption) (by assumption) | exact frOk_fr2 (by assumption) (by unfold frE; omega) (by omega) (by unfold frE; assumption))]; exact ⟨_, ⟨_, _, rfl, oA⟩, (.le fun a => by (try simp only [setR, List.cons_append, List.nil_append]); simp only [List.flatten_append, List.flatten_cons, List.flatten_nil, List.count_append, List.count_nil, List.append_nil, List.nil_append]; omega)⟩)

end Go.Proofs.Ytcikookachejfaa
