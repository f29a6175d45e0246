/-
  New nodes, on both sides. Conditions: none.
-/
import Derived.Test.YtohafcffenoegaaGreatIb
import Derived.Test.YtohafcffenoegaaGreatIc
namespace Go.Proofs.YtohafcffenoegaaGreat
open Go.SX Go.Proofs
set_option linter.unusedSimpArgs false
set_option linter.unusedVariables false
set_option maxHeartbeats 8000000
attribute [local irreducible] IntKind.wrap

def nodeNew (id : Int) (d : Disk) (n : Int) : Node := ⟨id, true, d, (epochOf d : Nat), false, List.replicate (min n 8 + 1).toNat zLink, zWork, zAsk⟩

theorem nodeNew_ow {id : Int} {d : Disk} {e : Int} {b0 b5 : Option Addr} {k c0 c5 : Nat} {ls : List Link} {A2 A5 : Hp} (h1 : okI id) (o2 : gDisk.ow [.slice b0 d.files.length c0] d A2) (h3 : okI e)
    (o5 : (gSl 199 gLink).ow [.slice b5 k c5] ls A5) (hk : k = ls.length) :
    gNode.ow [.int .i64 id, .bool true, .slice b0 d.files.length c0, .int .i64 e, .bool false, .slice b5 k c5, .bool false, .bool false, .slice none 0 0, .slice none 0 0, .slice none 0 0, .slice none 0 0, .int .i64 0, .slice none 0 0, .int .i64 0, .bool false, .bool false, .int .i64 0, .bool false, .bool false, .bool false, .slice none 0 0, .slice none 0 0, .slice none 0 0, .slice none 0 0, .int .i64 0, .int .i64 0, .slice none 0 0, .bool false, .slice none 0 0, .bool false, .bool false, .slice none 0 0, .slice none 0 0, .slice none 0 0, .slice none 0 0, .int .i64 0, .slice none 0 0, .bool false, .slice none 0 0] ⟨id, true, d, e, false, ls, zWork, zAsk⟩ (A2 ++ A5) := by
  subst hk
  exact gNode_ow.2 ⟨_, A2, b5, c5, A5, _, [], _, [], rfl, by simp, h1, o2, h3, o5, zWork_ow, zAsk_ow⟩
theorem ep_le : ∀ (l : List ByteArray) (e : Nat), e ≤ 100000 → l.foldl epStep e ≤ 100000
  | [], e, h => h
  | r :: l, e, h => by
    refine ep_le l _ ?_
    unfold epStep; split
    · omega
    · exact h
theorem epo_ok (d : Disk) : okI ((epochOf d : Nat) : Int) := by
  have := ep_le (recordsOf d ⟨#[116, 105, 109, 101]⟩) 0 (by omega)
  unfold okI epochOf; omega
theorem nn_eq (n : Int) (h : okI n) : (if IntKind.i64.wrap ((if 8 < n then 8 else n) + 1) > 0 then IntKind.i64.wrap ((if 8 < n then 8 else n) + 1) else 0) = (((min n 8 + 1).toNat : Nat) : Int) := by
  unfold okI at h
  have : IntKind.i64.wrap ((if 8 < n then 8 else n) + 1) = (if 8 < n then 8 else n) + 1 := wrap_of (by split <;> omega) (by split <;> omega)
  rw [this]
  split <;> split at * <;> omega

--@ct impl.NodeNew new implNodeNew_ct _ _ $2 _ ?_ ?_ ?_ | %2 | obtain ⟨l#, rfl, o#⟩ := o# ;; have r# := Gt.owrd _ o# ;; obtain ⟨l2x#, b5x#, c5x#, l6x#, l7x#, rfl, w0x#, h2x#, w3x#, h5x#, h6x#, h7x#⟩ := gNode_rd.1 r# ;; obtain ⟨b0_2x#, c0_2x#, rfl, h0_2x#⟩ := gDisk_rd.1 h2x# ;; obtain ⟨l1_6x#, b2_6x#, c2_6x#, b4_6x#, c4_6x#, l11_6x#, b13_6x#, c13_6x#, rfl, h1_6x#, h2_6x#, w3_6x#, h4_6x#, w5_6x#, w8_6x#, h11_6x#, h13_6x#⟩ := gWork_rd.1 h6x# ;; obtain ⟨b1_1_6x#, c1_1_6x#, b2_1_6x#, c2_1_6x#, b3_1_6x#, c3_1_6x#, rfl, h1_1_6x#, h2_1_6x#, h3_1_6x#⟩ := gQuery_rd.1 h1_6x# ;; obtain ⟨l0_11_6x#, b1_11_6x#, c1_11_6x#, b4_11_6x#, c4_11_6x#, rfl, h0_11_6x#, h1_11_6x#, w2_11_6x#, w3_11_6x#, h4_11_6x#⟩ := gCell_rd.1 h11_6x# ;; obtain ⟨b1_0_11_6x#, c1_0_11_6x#, b2_0_11_6x#, c2_0_11_6x#, b3_0_11_6x#, c3_0_11_6x#, rfl, h1_0_11_6x#, h2_0_11_6x#, h3_0_11_6x#⟩ := gQuery_rd.1 h0_11_6x# ;; obtain ⟨l1_7x#, b2_7x#, c2_7x#, b4_7x#, c4_7x#, l6_7x#, rfl, h1_7x#, h2_7x#, w3_7x#, h4_7x#, h6_7x#⟩ := gAsk_rd.1 h7x# ;; obtain ⟨b1_1_7x#, c1_1_7x#, b2_1_7x#, c2_1_7x#, b3_1_7x#, c3_1_7x#, rfl, h1_1_7x#, h2_1_7x#, h3_1_7x#⟩ := gQuery_rd.1 h1_7x# ;; obtain ⟨b0_6_7x#, c0_6_7x#, rfl, h0_6_7x#⟩ := gBag_rd.1 h6_7x#
theorem implNodeNew_ct (id : Int) (l : List Value) (d : Disk) (n : Int) (h1 : okI id) (h2 : okI n) (hx : gDisk.sz d ≤ 1048576) :
    Ct Tryz.prog 77 [.int .i64 id, .agg ⟨l⟩, .int .i64 n] [] (fun H => gDisk.rd H l d) (fun v A => ∃ l, v = .agg ⟨l⟩ ∧ gNode.ow l (nodeNew id d n) A) := by
  refine Ct.intro0 G_ok Tryz.func77 rfl rfl rfl fun E H hp => ?_
  obtain ⟨b0p, c0p, rfl, h0p⟩ := gDisk_rd.1 hp
  have hn := nn_eq n h2
  refine VCnew.intro fun x0 => ?_
  refine VCnew.intro fun x1 => ?_
  refine draw G_ok mixed (some 8) (.q 0 (.q 1 (.q 3 (.q 5 (.hd (.alt 2 (.hd (.alt 4 (.f 6 (.q 7 (.tl 8 (.nil)))) (.alt 6 (.f 4 (.q 7 (.tl 8 (.nil)))) (.nil)))) (.alt 6 (.f 2 (.f 4 (.q 7 (.tl 8 (.nil))))) (.nil)))))))) (by decide +kernel) ?_
  refine VC.intro ?_ ?_
  ·
    refine call_new (copyDisk_ct _ (d) ?_) (Rp.mono _ (mem_at 0 rfl) hp) ?_
    · trivial
    rintro v2 A2 o2
    obtain ⟨l2, rfl, o2⟩ := o2
    have r2 := Gt.owrd _ o2
    obtain ⟨b0x2, c0x2, rfl, h0x2⟩ := gDisk_rd.1 r2
    refine VC.intro ?_ ?_
    · exact keep_new
    refine VC.intro ?_ ?_
    ·
      refine call_val (implReadEpoch_ct _ (d)) (Rp.mono _ (mem_at 1 rfl) hp) ?_
      rintro _ rfl
      refine VC.intro ?_ ?_
      · exact keep_new
      refine VCmake.intro ?_ ?_ ?_ ?_ fun x4 => ?_
      · (simp (disch := omega) only [wrap_of]; omega)
      · (simp (disch := omega) only [wrap_of]; omega)
      · (simp (disch := omega) only [wrap_of]; omega)
      · (simp (disch := omega) only [wrap_of]; omega)
      refine VC.intro ?_ ?_
      · exact keep_sub (by simp) (by simp)
      (rw [hn, Int.toNat_natCast]; exact ⟨_, ⟨_, rfl, nodeNew_ow (k := (min n 8 + 1).toNat) h1 ‹gDisk.ow _ d _› (epo_ok d) (gmake zLink_ow (Nat.le_refl _) (by omega)) (by simp)⟩, (.le fun a => by (try simp only [setR, List.cons_append, List.nil_append]); simp only [List.flatten_append, List.flatten_cons, List.flatten_nil, List.count_append, List.count_nil, List.append_nil, List.nil_append]; omega)⟩)
    ·
      refine VC.intro ?_ ?_
      ·
        refine VCmake.intro ?_ ?_ ?_ ?_ fun x5 => ?_
        · (simp (disch := omega) only [wrap_of]; omega)
        · (simp (disch := omega) only [wrap_of]; omega)
        · (simp (disch := omega) only [wrap_of]; omega)
        · (simp (disch := omega) only [wrap_of]; omega)
        refine VC.intro ?_ ?_
        · exact keep_sub (by simp) (by simp)
        refine call_val (implReadEpoch_ct _ (d)) (Rp.mono _ (mem_at 2 rfl) hp) ?_
        rintro _ rfl
        refine VC.intro ?_ ?_
        · exact keep_sub (by simp) (by simp)
        (rw [hn, Int.toNat_natCast]; exact ⟨_, ⟨_, rfl, nodeNew_ow (k := (min n 8 + 1).toNat) h1 ‹gDisk.ow _ d _› (epo_ok d) (gmake zLink_ow (Nat.le_refl _) (by omega)) (by simp)⟩, (.le fun a => by (try simp only [setR, List.cons_append, List.nil_append]); simp only [List.flatten_append, List.flatten_cons, List.flatten_nil, List.count_append, List.count_nil, List.append_nil, List.nil_append]; omega)⟩)
      ·
        exact trivial
  ·
    refine VC.intro ?_ ?_
    ·
      refine VCmake.intro ?_ ?_ ?_ ?_ fun x7 => ?_
      · (simp (disch := omega) only [wrap_of]; omega)
      · (simp (disch := omega) only [wrap_of]; omega)
      · (simp (disch := omega) only [wrap_of]; omega)
      · (simp (disch := omega) only [wrap_of]; omega)
      refine VC.intro ?_ ?_
      · exact keep_new
      refine call_new (copyDisk_ct _ (d) ?_) (Rp.mono _ (mem_at 1 rfl) hp) ?_
      · trivial
      rintro v8 A8 o8
      obtain ⟨l8, rfl, o8⟩ := o8
      have r8 := Gt.owrd _ o8
      obtain ⟨b0x8, c0x8, rfl, h0x8⟩ := gDisk_rd.1 r8
      refine VC.intro ?_ ?_
      · exact keep_sub (by simp) (by simp)
      refine call_val (implReadEpoch_ct _ (d)) (Rp.mono _ (mem_at 2 rfl) hp) ?_
      rintro _ rfl
      refine VC.intro ?_ ?_
      · exact keep_sub (by simp) (by simp)
      (rw [hn, Int.toNat_natCast]; exact ⟨_, ⟨_, rfl, nodeNew_ow (k := (min n 8 + 1).toNat) h1 ‹gDisk.ow _ d _› (epo_ok d) (gmake zLink_ow (Nat.le_refl _) (by omega)) (by simp)⟩, (.le fun a => by (try simp only [setR, List.cons_append, List.nil_append]); simp only [List.flatten_append, List.flatten_cons, List.flatten_nil, List.count_append, List.count_nil, List.append_nil, List.nil_append]; omega)⟩)
    ·
      exact trivial

--@ct spec.NodeNew new specNodeNew_ct _ _ $2 _ ?_ ?_ ?_ | %2 | obtain ⟨l#, rfl, o#⟩ := o# ;; have r# := Gt.owrd _ o# ;; obtain ⟨l2x#, b5x#, c5x#, l6x#, l7x#, rfl, w0x#, h2x#, w3x#, h5x#, h6x#, h7x#⟩ := gNode_rd.1 r# ;; obtain ⟨b0_2x#, c0_2x#, rfl, h0_2x#⟩ := gDisk_rd.1 h2x# ;; obtain ⟨l1_6x#, b2_6x#, c2_6x#, b4_6x#, c4_6x#, l11_6x#, b13_6x#, c13_6x#, rfl, h1_6x#, h2_6x#, w3_6x#, h4_6x#, w5_6x#, w8_6x#, h11_6x#, h13_6x#⟩ := gWork_rd.1 h6x# ;; obtain ⟨b1_1_6x#, c1_1_6x#, b2_1_6x#, c2_1_6x#, b3_1_6x#, c3_1_6x#, rfl, h1_1_6x#, h2_1_6x#, h3_1_6x#⟩ := gQuery_rd.1 h1_6x# ;; obtain ⟨l0_11_6x#, b1_11_6x#, c1_11_6x#, b4_11_6x#, c4_11_6x#, rfl, h0_11_6x#, h1_11_6x#, w2_11_6x#, w3_11_6x#, h4_11_6x#⟩ := gCell_rd.1 h11_6x# ;; obtain ⟨b1_0_11_6x#, c1_0_11_6x#, b2_0_11_6x#, c2_0_11_6x#, b3_0_11_6x#, c3_0_11_6x#, rfl, h1_0_11_6x#, h2_0_11_6x#, h3_0_11_6x#⟩ := gQuery_rd.1 h0_11_6x# ;; obtain ⟨l1_7x#, b2_7x#, c2_7x#, b4_7x#, c4_7x#, l6_7x#, rfl, h1_7x#, h2_7x#, w3_7x#, h4_7x#, h6_7x#⟩ := gAsk_rd.1 h7x# ;; obtain ⟨b1_1_7x#, c1_1_7x#, b2_1_7x#, c2_1_7x#, b3_1_7x#, c3_1_7x#, rfl, h1_1_7x#, h2_1_7x#, h3_1_7x#⟩ := gQuery_rd.1 h1_7x# ;; obtain ⟨b0_6_7x#, c0_6_7x#, rfl, h0_6_7x#⟩ := gBag_rd.1 h6_7x#
theorem specNodeNew_ct (id : Int) (l : List Value) (d : Disk) (n : Int) (h1 : okI id) (h2 : okI n) (hx : gDisk.sz d ≤ 1048576) :
    Ct Tryz.prog 72 [.int .i64 id, .agg ⟨l⟩, .int .i64 n] [] (fun H => gDisk.rd H l d) (fun v A => ∃ l, v = .agg ⟨l⟩ ∧ gNode.ow l (nodeNew id d n) A) := by
  refine Ct.intro0 G_ok Tryz.func72 rfl rfl rfl fun E H hp => ?_
  obtain ⟨b0p, c0p, rfl, h0p⟩ := gDisk_rd.1 hp
  have hz := gDisk_sz d
  have hls := len_szL gFile d.files
  have zl := zLink_ow
  refine VCnew.intro fun x0 => ?_
  refine VCnew.intro fun x1 => ?_
  refine draw_joinK (α := (Nat) × (Option Addr) × (Nat) × (Hp)) [9, 10, 11, 12, 13, 14, 15, 16, 17, 7] (fun z => [(4, .p 0 0), (6, .p 1 0), (7, .p 2 0)]) (fun z => [⟨x0, [.slice b0p d.files.length c0p], 82⟩, ⟨x1, [.int .i64 0, .bool false, .slice none 0 0, .int .i64 0, .bool false, .slice none 0 0, .bool false, .bool false, .slice none 0 0, .slice none 0 0, .slice none 0 0, .slice none 0 0, .int .i64 0, .slice none 0 0, .int .i64 0, .bool false, .bool false, .int .i64 0, .bool false, .bool false, .bool false, .slice none 0 0, .slice none 0 0, .slice none 0 0, .slice none 0 0, .int .i64 0, .int .i64 0, .slice none 0 0, .bool false, .slice none 0 0, .bool false, .bool false, .slice none 0 0, .slice none 0 0, .slice none 0 0, .slice none 0 0, .int .i64 0, .slice none 0 0, .bool false, .slice none 0 0], 90⟩, ⟨z.1, [.int .i64 id, .bool true, .slice z.2.1 d.files.length z.2.2.1, .int .i64 (epochOf d : Nat), .bool false, .slice none 0 0, .bool false, .bool false, .slice none 0 0, .slice none 0 0, .slice none 0 0, .slice none 0 0, .int .i64 0, .slice none 0 0, .int .i64 0, .bool false, .bool false, .int .i64 0, .bool false, .bool false, .bool false, .slice none 0 0, .slice none 0 0, .slice none 0 0, .slice none 0 0, .int .i64 0, .int .i64 0, .slice none 0 0, .bool false, .slice none 0 0, .bool false, .bool false, .slice none 0 0, .slice none 0 0, .slice none 0 0, .slice none 0 0, .int .i64 0, .slice none 0 0, .bool false, .slice none 0 0], 90⟩]) (fun z => [z.2.2.2, H]) (fun z => (gSl 217 gFile).ow [.slice z.2.1 d.files.length z.2.2.1] d.files z.2.2.2) ?_ ?_
  ·
    refine draw G_ok mixed (some 10) (.q 0 (.q 2 (.q 3 (.q 6 (.hd (.alt 1 (.hd (.alt 4 (.q 5 (.hd (.alt 7 (.q 8 (.f 9 (.tl 10 (.nil)))) (.alt 9 (.f 7 (.q 8 (.tl 10 (.nil)))) (.nil))))) (.alt 9 (.f 4 (.q 5 (.f 7 (.q 8 (.tl 10 (.nil)))))) (.nil)))) (.alt 9 (.f 1 (.f 4 (.q 5 (.f 7 (.q 8 (.tl 10 (.nil))))))) (.nil)))))))) (by decide +kernel) ?_
    refine VC.intro ?_ ?_
    ·
      refine VCnew.intro fun x2 => ?_
      refine VC.intro ?_ ?_
      · exact keep_new
      refine VC.intro ?_ ?_
      ·
        refine append_allN (g := gFile) (T := (217 : TypeId)) G_ok (by repeat (first | exact fl_plain | apply plain_iso | apply plain_pair)) [] [[(x2, Obj.cells { toList := zeros (0 : Nat) [Value.string ByteArray.empty, Value.string ByteArray.empty, Value.int IntKind.i64 (0 : Int)] } (217 : TypeId))], H] 1 ?_ (sl_nil _ _ _) rfl h0p rfl rfl rfl rfl rfl rfl rfl rfl ?_ fun b3 c3 A3 o3 => ?_
        · exact .refl _
        · simp; omega
        refine VC.intro ?_ ?_
        · exact keep_sub (by simp) (by simp)
        refine VC.intro ?_ ?_
        ·
          refine call_val (specReadEpoch_ct _ (d)) (Rp.mono _ (mem_at 2 rfl) hp) ?_
          rintro _ rfl
          refine VC.intro ?_ ?_
          · exact fun _ h => h
          refine VCnew.intro fun x5 => ?_
          refine VC.intro ?_ ?_
          · exact keep_sub (by simp) (by simp)
          apply join_stepA (_, _, _, _)
          · exact .sub (by repeat (first | exact .slnil | apply List.Sublist.cons_cons | apply List.Sublist.cons))
          · repeat' (first | exact trivial | refine ⟨⟨_, rfl, by first | rfl | exact inc_eq _ (by omega) | (refine sl_eq ?_; simp; done) | (rw [List.replicate_succ']), by first | exact trivial | simp [SV.ok]⟩, ?_⟩)
          · exact ⟨rfl, rfl, rfl, trivial⟩
          · try dsimp only
            trivial
        ·
          refine VC.intro ?_ ?_
          ·
            refine VCnew.intro fun x6 => ?_
            refine VC.intro ?_ ?_
            · exact keep_sub (by simp) (by simp)
            refine call_val (specReadEpoch_ct _ (d)) (Rp.mono _ (mem_at 2 rfl) hp) ?_
            rintro _ rfl
            refine VC.intro ?_ ?_
            · exact keep_sub (by simp) (by simp)
            apply join_stepA (_, _, _, _)
            · exact .sub (by repeat (first | exact .slnil | apply List.Sublist.cons_cons | apply List.Sublist.cons))
            · repeat' (first | exact trivial | refine ⟨⟨_, rfl, by first | rfl | exact inc_eq _ (by omega) | (refine sl_eq ?_; simp; done) | (rw [List.replicate_succ']), by first | exact trivial | simp [SV.ok]⟩, ?_⟩)
            · exact ⟨rfl, rfl, rfl, trivial⟩
            · try dsimp only
              trivial
          ·
            exact trivial
      ·
        refine VC.intro ?_ ?_
        ·
          refine VCnew.intro fun x8 => ?_
          refine VC.intro ?_ ?_
          · exact keep_sub (by simp) (by simp)
          refine append_allN (g := gFile) (T := (217 : TypeId)) G_ok (by repeat (first | exact fl_plain | apply plain_iso | apply plain_pair)) [] [[(x2, Obj.cells { toList := zeros (0 : Nat) [Value.string ByteArray.empty, Value.string ByteArray.empty, Value.int IntKind.i64 (0 : Int)] } (217 : TypeId))], H] 1 ?_ (sl_nil _ _ _) rfl h0p rfl rfl rfl rfl rfl rfl rfl rfl ?_ fun b9 c9 A9 o9 => ?_
          · exact .refl _
          · simp; omega
          refine VC.intro ?_ ?_
          · exact keep_sub (by simp) (by simp)
          refine call_val (specReadEpoch_ct _ (d)) (Rp.mono _ (mem_at 2 rfl) hp) ?_
          rintro _ rfl
          refine VC.intro ?_ ?_
          · exact fun _ h => h
          apply join_stepA (_, _, _, _)
          · exact .sub (by repeat (first | exact .slnil | apply List.Sublist.cons_cons | apply List.Sublist.cons))
          · repeat' (first | exact trivial | refine ⟨⟨_, rfl, by first | rfl | exact inc_eq _ (by omega) | (refine sl_eq ?_; simp; done) | (rw [List.replicate_succ']), by first | exact trivial | simp [SV.ok]⟩, ?_⟩)
          · exact ⟨rfl, rfl, rfl, trivial⟩
          · try dsimp only
            trivial
        ·
          exact trivial
    ·
      refine VC.intro ?_ ?_
      ·
        refine VCnew.intro fun x11 => ?_
        refine VC.intro ?_ ?_
        · exact keep_sub (by simp) (by simp)
        refine VCnew.intro fun x12 => ?_
        refine VC.intro ?_ ?_
        · exact keep_sub (by simp) (by simp)
        refine append_allN (g := gFile) (T := (217 : TypeId)) G_ok (by repeat (first | exact fl_plain | apply plain_iso | apply plain_pair)) [] [[(x12, Obj.cells { toList := zeros (0 : Nat) [Value.string ByteArray.empty, Value.string ByteArray.empty, Value.int IntKind.i64 (0 : Int)] } (217 : TypeId))], H] 1 ?_ (sl_nil _ _ _) rfl h0p rfl rfl rfl rfl rfl rfl rfl rfl ?_ fun b13 c13 A13 o13 => ?_
        · exact .refl _
        · simp; omega
        refine VC.intro ?_ ?_
        · exact keep_sub (by simp) (by simp)
        refine call_val (specReadEpoch_ct _ (d)) (Rp.mono _ (mem_at 2 rfl) hp) ?_
        rintro _ rfl
        refine VC.intro ?_ ?_
        · exact fun _ h => h
        apply join_stepA (_, _, _, _)
        · exact .sub (by repeat (first | exact .slnil | apply List.Sublist.cons_cons | apply List.Sublist.cons))
        · repeat' (first | exact trivial | refine ⟨⟨_, rfl, by first | rfl | exact inc_eq _ (by omega) | (refine sl_eq ?_; simp; done) | (rw [List.replicate_succ']), by first | exact trivial | simp [SV.ok]⟩, ?_⟩)
        · exact ⟨rfl, rfl, rfl, trivial⟩
        · try dsimp only
          trivial
      ·
        exact trivial
  rintro ⟨y, bf, cf, A⟩ hI
  obtain oA : (gSl 217 gFile).ow [.slice bf d.files.length cf] d.files A := hI
  try dsimp only
  apply loop_mod (α := (Nat) × (Option Addr) × (Nat) × (Hp)) G_ok [18, 19, 20, 21, 22, 23, 24, 27, 28, 29, 30, 31, 32, 25, 26, 8] (fun z => [(8, .v (.int .i64 z.1))]) (fun z => [⟨x0, [.slice b0p d.files.length c0p], 82⟩, ⟨x1, [.int .i64 0, .bool false, .slice none 0 0, .int .i64 0, .bool false, .slice none 0 0, .bool false, .bool false, .slice none 0 0, .slice none 0 0, .slice none 0 0, .slice none 0 0, .int .i64 0, .slice none 0 0, .int .i64 0, .bool false, .bool false, .int .i64 0, .bool false, .bool false, .bool false, .slice none 0 0, .slice none 0 0, .slice none 0 0, .slice none 0 0, .int .i64 0, .int .i64 0, .slice none 0 0, .bool false, .slice none 0 0, .bool false, .bool false, .slice none 0 0, .slice none 0 0, .slice none 0 0, .slice none 0 0, .int .i64 0, .slice none 0 0, .bool false, .slice none 0 0], 90⟩, ⟨y, [.int .i64 id, .bool true, .slice bf d.files.length cf, .int .i64 (epochOf d : Nat), .bool false, .slice z.2.1 (List.replicate z.1 zLink).length z.2.2.1, .bool false, .bool false, .slice none 0 0, .slice none 0 0, .slice none 0 0, .slice none 0 0, .int .i64 0, .slice none 0 0, .int .i64 0, .bool false, .bool false, .int .i64 0, .bool false, .bool false, .bool false, .slice none 0 0, .slice none 0 0, .slice none 0 0, .slice none 0 0, .int .i64 0, .int .i64 0, .slice none 0 0, .bool false, .slice none 0 0, .bool false, .bool false, .slice none 0 0, .slice none 0 0, .slice none 0 0, .slice none 0 0, .int .i64 0, .slice none 0 0, .bool false, .slice none 0 0], 90⟩]) (fun z => [A, z.2.2.2, H]) (fun z => 9 - z.1) (fun z => z.1 ≤ 9 ∧ (z.1 = 0 ∨ (z.1 : Int) ≤ n + 1) ∧ (gSl 199 gLink).ow [.slice z.2.1 (List.replicate z.1 zLink).length z.2.2.1] (List.replicate z.1 zLink) z.2.2.2) ((0, none, 0, []))
  · repeat' (first | exact trivial | refine ⟨⟨_, rfl, by first | rfl | exact inc_eq _ (by omega) | (refine sl_eq ?_; simp; done) | (rw [List.replicate_succ']), by first | exact trivial | simp [SV.ok]⟩, ?_⟩)
  · exact ⟨rfl, rfl, rfl, trivial⟩
  · try dsimp only
    exact ⟨by omega, .inl rfl, sl_nil _ _ _⟩
  · exact .refl _
  rintro ⟨k, b, c, B⟩ hI
  obtain ⟨hk, hn, oB⟩ : k ≤ 9 ∧ (k = 0 ∨ (k : Int) ≤ n + 1) ∧ (gSl 199 gLink).ow [.slice b (List.replicate k zLink).length c] (List.replicate k zLink) B := hI
  try dsimp only
  refine VCsplit.intro (fun q15 => ?_) (fun q15 => ?_)
  ·
    simp at q15
    refine VCsplit.intro (fun q16 => ?_) (fun q16 => ?_)
    ·
      simp at q16
      refine VCnew.intro fun x17 => ?_
      refine gappend1 (g := gLink) (T := (199 : TypeId)) G_ok B _ [A, H] ?_ oB (zLink_ow) (List.mem_of_getElem? (i := 0) rfl) rfl rfl rfl rfl rfl rfl rfl rfl ?_ fun b18 c18 A18 o18 => ?_
      · exact .le fun a => by (try simp only [setR, List.cons_append, List.nil_append]); simp only [List.flatten_append, List.flatten_cons, List.flatten_nil, List.count_append, List.count_nil, List.append_nil, List.nil_append]; omega
      · simp; omega
      apply loop_stepI (k + 1, _, _, _)
      · repeat' (first | exact trivial | refine ⟨⟨_, rfl, by first | rfl | exact inc_eq _ (by omega) | (refine sl_eq ?_; simp; done) | (rw [List.replicate_succ']), by first | exact trivial | simp [SV.ok]⟩, ?_⟩)
      · ((rw [List.replicate_succ']); repeat' (first | exact trivial | refine ⟨by first | rfl | simp [Blk.ent], ?_⟩))
      · try dsimp only
        exact ⟨by omega, .inr (by omega), by (rw [List.replicate_succ']; assumption)⟩
      · exact .le fun a => by (try simp only [setR, List.cons_append, List.nil_append]); simp only [List.flatten_append, List.flatten_cons, List.flatten_nil, List.count_append, List.count_nil, List.append_nil, List.nil_append]; omega
      · try dsimp only
        omega
    ·
      simp at q16
      (have e : nodeNew id d n = ⟨id, true, d, (epochOf d : Nat), false, List.replicate k zLink, zWork, zAsk⟩ := (by unfold nodeNew; rw [show (min n 8 + 1).toNat = k by omega]); rw [e]; have oD : gDisk.ow [.slice bf d.files.length cf] d A := gDisk_ow.2 ⟨_, _, _, rfl, .refl _, hI⟩; have z := nodeNew_ow h1 oD (epo_ok d) oB rfl; exact ⟨A ++ B, ⟨_, rfl, z⟩, (.le fun a => by (try simp only [setR, List.cons_append, List.nil_append]); simp only [List.flatten_append, List.flatten_cons, List.flatten_nil, List.count_append, List.count_nil, List.append_nil, List.nil_append]; omega)⟩)
  ·
    simp at q15
    (have e : nodeNew id d n = ⟨id, true, d, (epochOf d : Nat), false, List.replicate k zLink, zWork, zAsk⟩ := (by unfold nodeNew; rw [show (min n 8 + 1).toNat = k by omega]); rw [e]; have oD : gDisk.ow [.slice bf d.files.length cf] d A := gDisk_ow.2 ⟨_, _, _, rfl, .refl _, hI⟩; have z := nodeNew_ow h1 oD (epo_ok d) oB rfl; exact ⟨A ++ B, ⟨_, rfl, z⟩, (.le fun a => by (try simp only [setR, List.cons_append, List.nil_append]); simp only [List.flatten_append, List.flatten_cons, List.flatten_nil, List.count_append, List.count_nil, List.append_nil, List.nil_append]; omega)⟩)

end Go.Proofs.YtohafcffenoegaaGreat
