/-
  The disks of a graph's parts, on both sides. Conditions: none.
-/
import Derived.Test.YtliheokappjdoaaJa
namespace Go.Proofs.Ytliheokappjdoaa
open Go.SX Go.Proofs
set_option linter.unusedSimpArgs false
set_option linter.unusedVariables false
set_option maxHeartbeats 4000000
attribute [local irreducible] IntKind.wrap

def npart : ByteArray := ⟨#[112, 97, 114, 116]⟩
theorem npart_ok : nameOk npart = true := by decide
theorem graphText_size {g : Graph} (h : graphOk g = true) : 2 ≤ (graphText g).size ∧ (graphText g).size ≤ 900 := by
  have h1 := graphOk_rng h
  have h2 : ∀ n : Int, 1 ≤ (varT n).length := fun n => by
    unfold varT varL
    split <;> simp
  have h3 : ∀ l : List Edge, (l.flatMap edgeText).length ≤ 21 * l.length := by
    intro l
    induction l with
    | nil => simp
    | cons e l ih =>
      rw [List.flatMap_cons, List.length_append, List.length_cons]
      have : (edgeText e).length ≤ 21 := by
        unfold edgeText varT
        have := varL_len 9 e.from'.toNat
        have := varL_len 9 e.to.toNat
        simp; omega
      omega
  have h4 : (graphText g).size = (graphBytes g).length := by unfold graphText; rw [← by_size, by_tx]
  have h5 := h2 g.size
  have h6 := h2 g.edges.length
  have h7 := h3 g.edges
  have h8 : (varT g.size).length ≤ 10 := varL_len 9 _
  have h9 : (varT g.edges.length).length ≤ 10 := varL_len 9 _
  rw [h4]
  unfold graphBytes
  simp only [List.length_append]
  omega
theorem frameOk_graph {g : Graph} (h : graphOk g = true) : frameOk (graphText g) = true := by
  have := graphText_size h
  exact inR_iff.2 (by omega)
def pActs (g : Graph) : List Act := recActs npart (graphText g)

--@ct impl.PartActs new implPartActs_ct _ $1 ?_ | %1 | obtain ⟨b#, c#, rfl, o#⟩ := o#
theorem implPartActs_ct (l : List Value) (g : Graph) (hg : graphOk g = true) : Ct Try.prog 166 [.agg ⟨l⟩] [] (fun H => gGraph.rd H l g) (fun v A => ∃ b c, v = .tuple #[.slice b (pActs g).length c, .bool true] ∧ (gSl 261 gAct).ow [.slice b (pActs g).length c] (pActs g) A) := by
  refine Ct.intro0 G_ok Try.func166 rfl rfl rfl fun E H hp => ?_
  obtain ⟨b1, c1, rfl, w0, h1⟩ := gGraph_rd.1 hp
  have hs := graphText_size hg
  have hf := frameOk_graph hg
  have hgt := implGraphText_ct [.int .i64 g.size, .slice b1 g.edges.length c1] g
  rw [hg, if_pos rfl] at hgt
  refine VCnew.intro fun x0 => ?_
  refine call_val (hgt) (Rp.mono _ (mem_at 0 rfl) hp) ?_
  rintro _ rfl
  refine VCsplit.intro (fun q2 => ?_) (fun q2 => ?_)
  ·
    simp at q2
  ·
    simp at q2
    refine call_new (storeActs_ct _ _ ?_ ?_ ?_) trivial ?_
    · trivial
    · omega
    · trivial
    rintro v3 A3 o3
    obtain ⟨b3, c3, rfl, o3⟩ := o3
    exact ⟨_, ⟨_, _, rfl, by assumption⟩, (.le fun a => by (try simp only [setR, List.cons_append, List.nil_append]); simp [List.count_cons, Blk.ent, idOf]; try omega)⟩
--@ct spec.PartActs new specPartActs_ct _ $1 ?_ | %1 | obtain ⟨b#, c#, rfl, o#⟩ := o#
theorem specPartActs_ct (l : List Value) (g : Graph) (hg : graphOk g = true) : Ct Try.prog 159 [.agg ⟨l⟩] [] (fun H => gGraph.rd H l g) (fun v A => ∃ b c, v = .tuple #[.slice b (pActs g).length c, .bool true] ∧ (gSl 261 gAct).ow [.slice b (pActs g).length c] (pActs g) A) := by
  refine Ct.intro0 G_ok Try.func159 rfl rfl rfl fun E H hp => ?_
  obtain ⟨b1, c1, rfl, w0, h1⟩ := gGraph_rd.1 hp
  have hs := graphText_size hg
  have hf := frameOk_graph hg
  have hgt := specGraphText_ct [.int .i64 g.size, .slice b1 g.edges.length c1] g
  rw [hg, if_pos rfl] at hgt
  have hfr := specFrame_ct (graphText g) (by omega)
  rw [hf, if_pos rfl] at hfr
  refine VCnew.intro fun x0 => ?_
  refine call_val (hgt) (Rp.mono _ (mem_at 0 rfl) hp) ?_
  rintro _ rfl
  refine call_val (hfr) trivial ?_
  rintro _ rfl
  refine VCsplit.intro (fun q3 => ?_) (fun q3 => ?_)
  ·
    simp at q3
  ·
    simp at q3
    refine VCsplit.intro (fun q4 => ?_) (fun q4 => ?_)
    ·
      simp at q4
    ·
      simp at q4
      refine VCnew.intro fun x5 => ?_
      try dsimp only
      exact ⟨_, ⟨_, _, rfl, recActs_ow (name := npart) (by decide) (by omega)⟩, .tl⟩

--@ct impl.DoActs new implDoActs_ct _ _ _ _ _ ?_ ?_ | %2 | obtain ⟨b#, c#, rfl, o#⟩ := o#
theorem implDoActs_ct (b : Option Addr) (c : Nat) (name rec : ByteArray) (hn : nameOk name = true) (hf : frameOk rec = true) : Ct Try.prog 167 [.agg ⟨[.slice none 0 0]⟩, .slice b 2 c] [] (fun H => (gSl 261 gAct).rd H [.slice b 2 c] (recActs name rec)) (fun v A => ∃ b c, v = .tuple #[.agg ⟨[.slice b (dk name rec 2).files.length c]⟩, .int .i64 2] ∧ (gSl 211 gFile).ow [.slice b (dk name rec 2).files.length c] (dk name rec 2).files A) := by
  refine Ct.intro0 G_ok Try.func167 rfl rfl rfl fun E H hp => ?_
  have hd0 : gDisk.rd H [.slice none 0 0] ⟨[]⟩ := gDisk_rd.2 ⟨none, 0, rfl, Gt.owrd _ (Gt.owp _ (sl_nil _ _ _) (.refl _)) |> Rp.mono _ (fun _ h => by cases h)⟩
  refine VCnew.intro fun x0 => ?_
  refine VCnew.intro fun x1 => ?_
  refine call_new (copyDisk_ct _ ({ files := [] }) ?_) (Rp.mono _ (mem_at 0 rfl) hd0) ?_
  · trivial
  rintro v2 A2 o2
  obtain ⟨l2, rfl, o2⟩ := o2
  obtain ⟨b0x2, c0x2, rfl, o2⟩ := gDisk_sl o2
  refine VCnew.intro fun x3 => ?_
  apply loop_mod (α := (Nat) × (Option Addr) × (Nat) × (Hp)) G_ok [16, 17, 18, 19, 8, 7, 21, 22, 23, 20, 24, 25, 9, 10, 26, 27, 28, 29, 5, 30, 31, 15] (fun z => [(15, .v (.int .i64 z.1)), (5, .v (.int .i64 0))]) (fun z => [⟨x0, [Value.slice none (0 : Nat) (0 : Nat)], (122 : Nat)⟩, ⟨x1, [Value.slice none (0 : Nat) (0 : Nat)], (122 : Nat)⟩, ⟨x3, [.slice z.2.1 (dk name rec z.1).files.length z.2.2.1], (122 : Nat)⟩]) (fun z => [z.2.2.2, H]) (fun z => 2 - z.1) (fun z => z.1 ≤ 2 ∧ (gSl 211 gFile).ow [.slice z.2.1 (dk name rec z.1).files.length z.2.2.1] (dk name rec z.1).files z.2.2.2) ((0, _, _, _))
  · repeat' (first | exact trivial | refine ⟨⟨_, rfl, by first | rfl | exact inc_eq _ (by omega) | (refine sl_eq ?_; simp; done), by first | exact trivial | simp [SV.ok]⟩, ?_⟩)
  · exact ⟨rfl, rfl, rfl, trivial⟩
  · try dsimp only
    exact ⟨by omega, by assumption⟩
  · exact .refl _
  rintro ⟨k, b, c, A⟩ hI
  obtain ⟨hk, oA⟩ : k ≤ 2 ∧ (gSl 211 gFile).ow [.slice b (dk name rec k).files.length c] (dk name rec k).files A := hI
  try dsimp only
  refine VCsplit.intro (fun q4 => ?_) (fun q4 => ?_)
  ·
    simp at q4
    refine idx_rd hp ?_ ?_ fun b5 o5 hb5 => ?_
    · omega
    · trivial
    refine load_allN default (k) rfl hp ?_ ?_ hb5 rfl (mem_at 1 rfl) fun l6 hl6 => ?_
    · omega
    · trivial
    obtain ⟨rfl, w0x6, w1x6, w2x6, w3x6⟩ := gAct_rd.1 hl6
    refine VCnew.intro fun x7 => ?_
    refine call_new (implDoAct_ct _ _ name rec k hn hf ?_) ⟨gDisk_rd.2 ⟨_, _, rfl, Rp.mono _ (mem_at 0 rfl) (Gt.owrd _ oA)⟩, ?_⟩ ?_
    · omega
    · (rw [← recActs_at name rec k (by omega)]; exact Rp.mono _ (mem_at 1 rfl) ‹gAct.rd _ _ _›)
    rintro v8 A8 o8
    obtain ⟨b8, c8, rfl, o8⟩ := o8
    refine VCnew.intro fun x9 => ?_
    refine VCsplit.intro (fun q10 => ?_) (fun q10 => ?_)
    ·
      simp at q10
    ·
      simp at q10
      apply loop_stepA (k + 1, _, _, _)
      · exact .sub (by repeat (first | exact .slnil | apply List.Sublist.cons_cons | apply List.Sublist.cons))
      · repeat' (first | exact trivial | refine ⟨⟨_, rfl, by first | rfl | exact inc_eq _ (by omega) | (refine sl_eq ?_; simp; done), by first | exact trivial | simp [SV.ok]⟩, ?_⟩)
      · exact ⟨rfl, rfl, rfl, trivial⟩
      · try dsimp only
        exact ⟨by omega, by assumption⟩
      · try dsimp only
        omega
  ·
    simp at q4
    (have hk2 : k = 2 := (by omega); subst hk2; exact ⟨_, ⟨_, _, rfl, by assumption⟩, (.le fun a => by (try simp only [setR, List.cons_append, List.nil_append]); simp [List.count_cons, Blk.ent, idOf]; try omega)⟩)

--@ct spec.DoActs new specDoActs_ct _ _ _ _ ?_ ?_ | %2 | obtain ⟨b#, c#, rfl, o#⟩ := o#
theorem specDoActs_ct (b : Option Addr) (c : Nat) (name rec : ByteArray) (hn : nameOk name = true) (hf : frameOk rec = true) : Ct Try.prog 160 [.agg ⟨[.slice none 0 0]⟩, .slice b 2 c] [] (fun H => (gSl 261 gAct).rd H [.slice b 2 c] (recActs name rec)) (fun v A => ∃ b c, v = .tuple #[.agg ⟨[.slice b (dk name rec 2).files.length c]⟩, .int .i64 2] ∧ (gSl 211 gFile).ow [.slice b (dk name rec 2).files.length c] (dk name rec 2).files A) := by
  refine Ct.intro0 G_ok Try.func160 rfl rfl rfl fun E H hp => ?_
  have hd0 : (gSl 211 gFile).rd H [.slice none 0 0] [] := Rp.mono _ (fun _ h => by cases h) (Gt.owrd _ (sl_nil _ _ _))
  refine VCnew.intro fun x0 => ?_
  refine VCnew.intro fun x1 => ?_
  refine VCnew.intro fun x2 => ?_
  refine append_allN (g := gFile) (T := (211 : TypeId)) G_ok (by repeat (first | exact fl_plain | apply plain_iso | apply plain_pair)) [] [[(x2, Obj.cells { toList := zeros (0 : Nat) [Value.string ByteArray.empty, Value.string ByteArray.empty, Value.int IntKind.i64 (0 : Int)] } (211 : TypeId))], H] 1 ?_ (sl_nil _ _ _) rfl hd0 rfl rfl rfl rfl rfl rfl rfl rfl ?_ fun b3 c3 A3 o3 => ?_
  · exact .refl _
  · trivial
  refine VCnew.intro fun x4 => ?_
  apply loop_mod (α := (Nat) × (Option Addr) × (Nat) × (Hp)) G_ok [15, 16, 17, 18, 22, 23, 24, 25, 26, 27, 21, 28, 29, 8, 9, 30, 31, 32, 33, 5, 34, 19, 20, 7] (fun z => [(7, .v (.int .i64 z.1))]) (fun z => [⟨x0, [Value.slice none (0 : Nat) (0 : Nat)], (122 : Nat)⟩, ⟨x1, [Value.slice none (0 : Nat) (0 : Nat)], (122 : Nat)⟩, ⟨x4, [.slice z.2.1 (dk name rec z.1).files.length z.2.2.1], (122 : Nat)⟩]) (fun z => [z.2.2.2, H]) (fun z => 2 - z.1) (fun z => z.1 ≤ 2 ∧ (gSl 211 gFile).ow [.slice z.2.1 (dk name rec z.1).files.length z.2.2.1] (dk name rec z.1).files z.2.2.2) ((0, _, _, _))
  · repeat' (first | exact trivial | refine ⟨⟨_, rfl, by first | rfl | exact inc_eq _ (by omega) | (refine sl_eq ?_; simp; done), by first | exact trivial | simp [SV.ok]⟩, ?_⟩)
  · exact ⟨rfl, rfl, rfl, trivial⟩
  · try dsimp only
    exact ⟨by omega, by assumption⟩
  · exact .le fun a => by (try simp only [setR, List.cons_append, List.nil_append]); simp only [List.flatten_append, List.flatten_cons, List.flatten_nil, List.count_append, List.count_nil, List.append_nil, List.nil_append]; omega
  rintro ⟨k, b, c, A⟩ hI
  obtain ⟨hk, oA⟩ : k ≤ 2 ∧ (gSl 211 gFile).ow [.slice b (dk name rec k).files.length c] (dk name rec k).files A := hI
  try dsimp only
  refine VCsplit.intro (fun q5 => ?_) (fun q5 => ?_)
  ·
    simp at q5
    refine draw G_ok mixed (some 10) (.q 0 (.q 1 (.q 2 (.q 3 (.q 4 (.hd (.alt 5 (.q 6 (.q 7 (.q 8 (.f 9 (.tl 10 (.f 11 (.nil))))))) (.alt 9 (.f 5 (.q 6 (.q 7 (.q 8 (.tl 10 (.f 11 (.nil))))))) (.nil))))))))) (by decide +kernel) ?_
    refine idx_rd hp ?_ ?_ fun b6 o6 hb6 => ?_
    · omega
    · trivial
    refine load_allN default (k) rfl hp ?_ ?_ hb6 rfl (mem_at 1 rfl) fun l7 hl7 => ?_
    · omega
    · trivial
    obtain ⟨rfl, w0x7, w1x7, w2x7, w3x7⟩ := gAct_rd.1 hl7
    refine VC.intro ?_ ?_
    ·
      refine call_new (specDoAct_ct _ _ name rec k hn hf ?_) ⟨gDisk_rd.2 ⟨_, _, rfl, Rp.mono _ (mem_at 0 rfl) (Gt.owrd _ oA)⟩, ?_⟩ ?_
      · omega
      · (rw [← recActs_at name rec k (by omega)]; exact Rp.mono _ (mem_at 1 rfl) ‹gAct.rd _ _ _›)
      rintro v8 A8 o8
      obtain ⟨b8, c8, rfl, o8⟩ := o8
      refine VC.intro ?_ ?_
      · exact keep_new
      refine VCnew.intro fun x9 => ?_
      refine VC.intro ?_ ?_
      · exact keep_sub (by simp) (by simp)
      refine VCsplit.intro (fun q10 => ?_) (fun q10 => ?_)
      ·
        simp at q10
      ·
        simp at q10
        apply loop_stepA (k + 1, _, _, _)
        · exact .sub (by repeat (first | exact .slnil | apply List.Sublist.cons_cons | apply List.Sublist.cons))
        · repeat' (first | exact trivial | refine ⟨⟨_, rfl, by first | rfl | exact inc_eq _ (by omega) | (refine sl_eq ?_; simp; done), by first | exact trivial | simp [SV.ok]⟩, ?_⟩)
        · exact ⟨rfl, rfl, rfl, trivial⟩
        · try dsimp only
          exact ⟨by omega, by assumption⟩
        · try dsimp only
          omega
    ·
      refine VC.intro ?_ ?_
      ·
        refine VCnew.intro fun x11 => ?_
        refine VC.intro ?_ ?_
        · exact keep_sub (by simp) (by simp)
        refine call_new (specDoAct_ct _ _ name rec k hn hf ?_) ⟨gDisk_rd.2 ⟨_, _, rfl, Rp.mono _ (mem_at 0 rfl) (Gt.owrd _ oA)⟩, ?_⟩ ?_
        · omega
        · (rw [← recActs_at name rec k (by omega)]; exact Rp.mono _ (mem_at 1 rfl) ‹gAct.rd _ _ _›)
        rintro v12 A12 o12
        obtain ⟨b12, c12, rfl, o12⟩ := o12
        refine VC.intro ?_ ?_
        · exact keep_sub (by simp) (by simp)
        refine VCsplit.intro (fun q13 => ?_) (fun q13 => ?_)
        ·
          simp at q13
        ·
          simp at q13
          apply loop_stepA (k + 1, _, _, _)
          · exact .sub (by repeat (first | exact .slnil | apply List.Sublist.cons_cons | apply List.Sublist.cons))
          · repeat' (first | exact trivial | refine ⟨⟨_, rfl, by first | rfl | exact inc_eq _ (by omega) | (refine sl_eq ?_; simp; done), by first | exact trivial | simp [SV.ok]⟩, ?_⟩)
          · exact ⟨rfl, rfl, rfl, trivial⟩
          · try dsimp only
            exact ⟨by omega, by assumption⟩
          · try dsimp only
            omega
      ·
        exact trivial
  ·
    simp at q5
    (have hk2 : k = 2 := (by omega); subst hk2; exact ⟨_, ⟨_, _, rfl, by assumption⟩, (.le fun a => by (try simp only [setR, List.cons_append, List.nil_append]); simp [List.count_cons, Blk.ent, idOf]; try omega)⟩)

def freshDisk (g : Graph) : Disk := dk npart (graphText g) 2
theorem freshDisk_ow {b : Option Addr} {c : Nat} {g : Graph} {A : Hp} (h : (gSl 211 gFile).ow [.slice b (dk npart (graphText g) 2).files.length c] (dk npart (graphText g) 2).files A) : gDisk.ow [.slice b (dk npart (graphText g) 2).files.length c] (freshDisk g) A := gDisk_ow.2 ⟨_, _, _, rfl, .refl _, h⟩
--@ct impl.FreshDisk new implFreshDisk_ct _ $1 ?_ | %1 | obtain ⟨b#, c#, rfl, o#⟩ := o#
theorem implFreshDisk_ct (l : List Value) (g : Graph) (hg : graphOk g = true) : Ct Try.prog 80 [.agg ⟨l⟩] [] (fun H => gGraph.rd H l g) (fun v A => ∃ b c, v = .tuple #[.agg ⟨[.slice b (freshDisk g).files.length c]⟩, .bool true] ∧ gDisk.ow [.slice b (freshDisk g).files.length c] (freshDisk g) A) := by
  refine Ct.intro0 G_ok Try.func80 rfl rfl rfl fun E H hp => ?_
  obtain ⟨b1, c1, rfl, w0, h1⟩ := gGraph_rd.1 hp
  have hf := frameOk_graph hg
  refine VCnew.intro fun x0 => ?_
  refine VCnew.intro fun x1 => ?_
  refine call_new (implPartActs_ct _ (g) ?_) (Rp.mono _ (mem_at 0 rfl) hp) ?_
  · trivial
  rintro v2 A2 o2
  obtain ⟨b2, c2, rfl, o2⟩ := o2
  refine VCsplit.intro (fun q3 => ?_) (fun q3 => ?_)
  ·
    simp at q3
  ·
    simp at q3
    refine call_new (implDoActs_ct _ _ npart (graphText g) npart_ok hf) (Rp.mono _ (mem_at 0 rfl) (Gt.owrd _ o2)) ?_
    rintro v4 A4 o4
    obtain ⟨b4, c4, rfl, o4⟩ := o4
    refine VCnew.intro fun x5 => ?_
    refine VCsplit.intro (fun q6 => ?_) (fun q6 => ?_)
    ·
      simp at q6
      exact absurd (show (2 : Int) = ((pActs g).length : Nat) from rfl) q6
    ·
      simp at q6
      exact ⟨_, ⟨_, _, rfl, freshDisk_ow (by assumption)⟩, (.le fun a => by (try simp only [setR, List.cons_append, List.nil_append]); simp [List.count_cons, Blk.ent, idOf]; try omega)⟩
--@ct spec.FreshDisk new specFreshDisk_ct _ $1 ?_ | %1 | obtain ⟨b#, c#, rfl, o#⟩ := o#
theorem specFreshDisk_ct (l : List Value) (g : Graph) (hg : graphOk g = true) : Ct Try.prog 75 [.agg ⟨l⟩] [] (fun H => gGraph.rd H l g) (fun v A => ∃ b c, v = .tuple #[.agg ⟨[.slice b (freshDisk g).files.length c]⟩, .bool true] ∧ gDisk.ow [.slice b (freshDisk g).files.length c] (freshDisk g) A) := by
  refine Ct.intro0 G_ok Try.func75 rfl rfl rfl fun E H hp => ?_
  obtain ⟨b1, c1, rfl, w0, h1⟩ := gGraph_rd.1 hp
  have hf := frameOk_graph hg
  refine VCnew.intro fun x0 => ?_
  refine VCnew.intro fun x1 => ?_
  refine call_new (specPartActs_ct _ (g) ?_) (Rp.mono _ (mem_at 0 rfl) hp) ?_
  · trivial
  rintro v2 A2 o2
  obtain ⟨b2, c2, rfl, o2⟩ := o2
  refine VCsplit.intro (fun q3 => ?_) (fun q3 => ?_)
  ·
    simp at q3
  ·
    simp at q3
    refine call_new (specDoActs_ct _ _ npart (graphText g) npart_ok hf) (Rp.mono _ (mem_at 0 rfl) (Gt.owrd _ o2)) ?_
    rintro v4 A4 o4
    obtain ⟨b4, c4, rfl, o4⟩ := o4
    refine VCnew.intro fun x5 => ?_
    exact ⟨_, ⟨_, _, rfl, freshDisk_ow (by assumption)⟩, (.le fun a => by (try simp only [setR, List.cons_append, List.nil_append]); simp [List.count_cons, Blk.ent, idOf]; try omega)⟩

/-! the disks of all workers -/
def disksK (g : Graph) (n : Int) : Nat → List Disk
  | 0 => []
  | k + 1 => disksK g n k ++ [freshDisk (partOf g k n)]
theorem disksK_len (g : Graph) (n : Int) : ∀ k, (disksK g n k).length = k
  | 0 => rfl
  | k + 1 => by rw [disksK, List.length_append, disksK_len g n k]; rfl
def disksIf (g : Graph) (n : Int) : Bool := graphOk g && inR 1 8 n
def disksOf (g : Graph) (n : Int) : List Disk := if disksIf g n then disksK g n n.toNat else []
theorem disks_no {g : Graph} {n : Int} (h : disksIf g n = true → False) : disksIf g n = false ∧ disksOf g n = [] := by
  have : disksIf g n = false := by cases e : disksIf g n with
    | false => rfl
    | true => exact (h e).elim
  exact ⟨this, by unfold disksOf; rw [this]; rfl⟩
theorem disksIf_iff {g : Graph} {n : Int} : disksIf g n = true ↔ graphOk g = true ∧ 1 ≤ n ∧ n ≤ 8 := by unfold disksIf; rw [Bool.and_eq_true, inR_iff]
theorem disks_yes {g : Graph} {n : Int} (h : disksIf g n = true) : disksOf g n = disksK g n n.toNat := by unfold disksOf; rw [h]; rfl
theorem partOf_ok {g : Graph} (w n : Int) (h : graphOk g = true) : graphOk (partOf g w n) = true := by rw [partOf_yes h]; exact graphOk_filter _ h

--@ct impl.DisksOf new implDisksOf_ct _ $1 _ ?_ | %1 | obtain ⟨b#, c#, rfl, o#⟩ := o#
theorem implDisksOf_ct (l : List Value) (g : Graph) (n : Int) (hn : okI n) : Ct Try.prog 27 [.agg ⟨l⟩, .int .i64 n] [] (fun H => gGraph.rd H l g) (fun v A => ∃ b c, v = .tuple #[.slice b (disksOf g n).length c, .bool (disksIf g n)] ∧ (gSl 122 gDisk).ow [.slice b (disksOf g n).length c] (disksOf g n) A) := by
  refine Ct.intro0 G_ok Try.func27 rfl rfl rfl fun E H hp => ?_
  obtain ⟨b1, c1, rfl, w0, h1⟩ := gGraph_rd.1 hp
  refine VCnew.intro fun x0 => ?_
  refine call_val (implGraphOk_ct _ (g)) (Rp.mono _ (mem_at 0 rfl) hp) ?_
  rintro _ rfl
  refine VCsplit.intro (fun q2 => ?_) (fun q2 => ?_)
  ·
    simp at q2
    (obtain ⟨e1, e2⟩ := disks_no (g := g) (n := n) (fun e => by (obtain ⟨a1, a2, a3⟩ := disksIf_iff.1 e; first | omega | exact absurd (a1.symm.trans ‹graphOk g = false›) (by decide))); rw [e1, e2]; exact ⟨[], ⟨_, _, rfl, sl_nil _ _ _⟩, (.le fun a => by (try simp only [setR, List.cons_append, List.nil_append]); simp [List.count_cons, Blk.ent, idOf]; try omega)⟩)
  ·
    simp at q2
    refine call_val (isWorkers_ct _) trivial ?_
    rintro _ rfl
    refine VCsplit.intro (fun q4 => ?_) (fun q4 => ?_)
    ·
      simp at q4
      have iq4 := mt inR_iff.2 (Bool.eq_false_iff.1 q4)
      (obtain ⟨e1, e2⟩ := disks_no (g := g) (n := n) (fun e => by (obtain ⟨a1, a2, a3⟩ := disksIf_iff.1 e; first | omega | exact absurd (a1.symm.trans ‹graphOk g = false›) (by decide))); rw [e1, e2]; exact ⟨[], ⟨_, _, rfl, sl_nil _ _ _⟩, (.le fun a => by (try simp only [setR, List.cons_append, List.nil_append]); simp [List.count_cons, Blk.ent, idOf]; try omega)⟩)
    ·
      simp at q4
      have iq4 := inR_iff.1 q4
      apply loop_mod (α := (Nat) × (Hp) × (Option Addr) × (Nat)) G_ok [20, 21, 7, 23, 24, 25, 26, 27, 22, 28, 29, 8, 9, 30, 31, 4, 5, 32, 33, 34, 35, 6, 36, 19] (fun z => [(19, .v (.int .i64 z.1)), (6, .v (.slice z.2.2.1 (disksK g n z.1).length z.2.2.2))]) (fun z => [{ id := x0, cs := [Value.int IntKind.i64 g.size, Value.slice b1 g.edges.length c1], ty := (55 : Nat) }]) (fun z => [z.2.1, H]) (fun z => n.toNat - z.1) (fun z => (z.1 : Int) ≤ n ∧ (gSl 122 gDisk).ow [.slice z.2.2.1 (disksK g n z.1).length z.2.2.2] (disksK g n z.1) z.2.1) ((0, [], none, 0))
      · repeat' (first | exact trivial | refine ⟨⟨_, rfl, by first | rfl | exact inc_eq _ (by omega) | (refine sl_eq ?_; simp; done), by first | exact trivial | simp [SV.ok]⟩, ?_⟩)
      · exact ⟨rfl, trivial⟩
      · try dsimp only
        exact ⟨by omega, sl_nil _ _ _⟩
      · exact .refl _
      rintro ⟨k, A, lb, lc⟩ hI
      obtain ⟨hk, oA⟩ : (k : Int) ≤ n ∧ (gSl 122 gDisk).ow [.slice lb (disksK g n k).length lc] (disksK g n k) A := hI
      try dsimp only
      refine VCsplit.intro (fun q5 => ?_) (fun q5 => ?_)
      ·
        simp at q5
        refine call_new (implPartOf_ct _ (g) _ _) (Rp.mono _ (mem_at 1 rfl) hp) ?_
        rintro v6 A6 o6
        obtain ⟨l6, rfl, o6⟩ := o6
        have r6 := Gt.owrd _ o6
        obtain ⟨b16, c16, rfl, w06, h16⟩ := gGraph_rd.1 r6
        refine call_new (implFreshDisk_ct _ (partOf g (↑k : Int) n) ?_) (Rp.mono _ (mem_at 0 rfl) r6) ?_
        · exact partOf_ok _ _ ‹graphOk _ = true›
        rintro v7 A7 o7
        obtain ⟨b7, c7, rfl, o7⟩ := o7
        refine VCnew.intro fun x8 => ?_
        refine VCsplit.intro (fun q9 => ?_) (fun q9 => ?_)
        ·
          simp at q9
        ·
          simp at q9
          refine VCnew.intro fun x10 => ?_
          refine gappend1 (g := gDisk) (T := (122 : TypeId)) G_ok A _ [A6, H] ?_ oA (‹gDisk.ow _ _ _›) (List.mem_of_getElem? (i := 0) rfl) rfl rfl rfl rfl rfl rfl rfl rfl ?_ fun b11 c11 A11 o11 => ?_
          · exact .le fun a => by (try simp only [setR, List.cons_append, List.nil_append]); simp only [List.flatten_append, List.flatten_cons, List.flatten_nil, List.count_append, List.count_nil, List.append_nil, List.nil_append]; omega
          · (rw [disksK_len]; omega)
          apply loop_stepA (k + 1, _, _, _)
          · exact .sub (by repeat (first | exact .slnil | apply List.Sublist.cons_cons | apply List.Sublist.cons))
          · repeat' (first | exact trivial | refine ⟨⟨_, rfl, by first | rfl | exact inc_eq _ (by omega) | (refine sl_eq ?_; simp; done), by first | exact trivial | simp [SV.ok]⟩, ?_⟩)
          · exact ⟨rfl, trivial⟩
          · try dsimp only
            exact ⟨by omega, by assumption⟩
          · try dsimp only
            omega
      ·
        simp at q5
        (have hi : disksIf g n = true := disksIf_iff.2 ⟨‹_›, by omega, by omega⟩; have hkn : n.toNat = k := (by omega); rw [hi, disks_yes hi, hkn]; exact ⟨_, ⟨_, _, rfl, by assumption⟩, (.le fun a => by (try simp only [setR, List.cons_append, List.nil_append]); simp [List.count_cons, Blk.ent, idOf]; try omega)⟩)
--@ct spec.DisksOf new specDisksOf_ct _ $1 _ ?_ | %1 | obtain ⟨b#, c#, rfl, o#⟩ := o#
theorem specDisksOf_ct (l : List Value) (g : Graph) (n : Int) (hn : okI n) : Ct Try.prog 25 [.agg ⟨l⟩, .int .i64 n] [] (fun H => gGraph.rd H l g) (fun v A => ∃ b c, v = .tuple #[.slice b (disksOf g n).length c, .bool (disksIf g n)] ∧ (gSl 122 gDisk).ow [.slice b (disksOf g n).length c] (disksOf g n) A) := by
  refine Ct.intro0 G_ok Try.func25 rfl rfl rfl fun E H hp => ?_
  obtain ⟨b1, c1, rfl, w0, h1⟩ := gGraph_rd.1 hp
  refine VCnew.intro fun x0 => ?_
  refine VCnew.intro fun x1 => ?_
  refine call_val (specGraphOk_ct _ (g)) (Rp.mono _ (mem_at 1 rfl) hp) ?_
  rintro _ rfl
  refine VCsplit.intro (fun q3 => ?_) (fun q3 => ?_)
  ·
    simp at q3
    (obtain ⟨e1, e2⟩ := disks_no (g := g) (n := n) (fun e => by (obtain ⟨a1, a2, a3⟩ := disksIf_iff.1 e; first | omega | exact absurd (a1.symm.trans ‹graphOk g = false›) (by decide))); rw [e1, e2]; exact ⟨[], ⟨_, _, rfl, sl_nil _ _ _⟩, (.le fun a => by (try simp only [setR, List.cons_append, List.nil_append]); simp [List.count_cons, Blk.ent, idOf]; try omega)⟩)
  ·
    simp at q3
    refine call_val (l01In_ct _ _ _) trivial ?_
    rintro _ rfl
    refine VCsplit.intro (fun q5 => ?_) (fun q5 => ?_)
    ·
      simp at q5
      have iq5 := mt inR_iff.2 (Bool.eq_false_iff.1 q5)
      (obtain ⟨e1, e2⟩ := disks_no (g := g) (n := n) (fun e => by (obtain ⟨a1, a2, a3⟩ := disksIf_iff.1 e; first | omega | exact absurd (a1.symm.trans ‹graphOk g = false›) (by decide))); rw [e1, e2]; exact ⟨[], ⟨_, _, rfl, sl_nil _ _ _⟩, (.le fun a => by (try simp only [setR, List.cons_append, List.nil_append]); simp [List.count_cons, Blk.ent, idOf]; try omega)⟩)
    ·
      simp at q5
      have iq5 := inR_iff.1 q5
      apply loop_mod (α := (Nat) × (Hp) × (Option Addr) × (Nat)) G_ok [20, 21, 22, 26, 27, 28, 29, 30, 25, 31, 32, 8, 9, 33, 34, 35, 36, 6, 23, 24, 7] (fun z => [(7, .v (.int .i64 z.1)), (6, .v (.slice z.2.2.1 (disksK g n z.1).length z.2.2.2))]) (fun z => [{ id := x0, cs := [Value.int IntKind.i64 g.size, Value.slice b1 g.edges.length c1], ty := (55 : Nat) }]) (fun z => [z.2.1, [(x1, Obj.cells { toList := zeros (0 : Nat) [Value.slice none (0 : Nat) (0 : Nat)] } (122 : TypeId))], H]) (fun z => n.toNat - z.1) (fun z => (z.1 : Int) ≤ n ∧ (gSl 122 gDisk).ow [.slice z.2.2.1 (disksK g n z.1).length z.2.2.2] (disksK g n z.1) z.2.1) ((0, [], _, 0))
      · repeat' (first | exact trivial | refine ⟨⟨_, rfl, by first | rfl | exact inc_eq _ (by omega) | (refine sl_eq ?_; simp; done), by first | exact trivial | simp [SV.ok]⟩, ?_⟩)
      · exact ⟨rfl, trivial⟩
      · try dsimp only
        exact ⟨by omega, sl_nil _ _ _⟩
      · exact .refl _
      rintro ⟨k, A, lb, lc⟩ hI
      obtain ⟨hk, oA⟩ : (k : Int) ≤ n ∧ (gSl 122 gDisk).ow [.slice lb (disksK g n k).length lc] (disksK g n k) A := hI
      try dsimp only
      refine VCsplit.intro (fun q6 => ?_) (fun q6 => ?_)
      ·
        simp at q6
        refine call_new (specPartOf_ct _ (g) _ _) (Rp.mono _ (mem_at 2 rfl) hp) ?_
        rintro v7 A7 o7
        obtain ⟨l7, rfl, o7⟩ := o7
        have r7 := Gt.owrd _ o7
        obtain ⟨b17, c17, rfl, w07, h17⟩ := gGraph_rd.1 r7
        refine call_new (specFreshDisk_ct _ (partOf g (↑k : Int) n) ?_) (Rp.mono _ (mem_at 0 rfl) r7) ?_
        · exact partOf_ok _ _ ‹graphOk _ = true›
        rintro v8 A8 o8
        obtain ⟨b8, c8, rfl, o8⟩ := o8
        refine VCnew.intro fun x9 => ?_
        refine VCnew.intro fun x10 => ?_
        refine gappend1 (g := gDisk) (T := (122 : TypeId)) G_ok A _ [A7, [(x1, Obj.cells { toList := zeros (0 : Nat) [Value.slice none (0 : Nat) (0 : Nat)] } (122 : TypeId))], H] ?_ oA (‹gDisk.ow _ _ _›) (List.mem_of_getElem? (i := 0) rfl) rfl rfl rfl rfl rfl rfl rfl rfl ?_ fun b11 c11 A11 o11 => ?_
        · exact .le fun a => by (try simp only [setR, List.cons_append, List.nil_append]); simp only [List.flatten_append, List.flatten_cons, List.flatten_nil, List.count_append, List.count_nil, List.append_nil, List.nil_append]; omega
        · (rw [disksK_len]; omega)
        apply loop_stepA (k + 1, _, _, _)
        · exact .sub (by repeat (first | exact .slnil | apply List.Sublist.cons_cons | apply List.Sublist.cons))
        · repeat' (first | exact trivial | refine ⟨⟨_, rfl, by first | rfl | exact inc_eq _ (by omega) | (refine sl_eq ?_; simp; done), by first | exact trivial | simp [SV.ok]⟩, ?_⟩)
        · exact ⟨rfl, trivial⟩
        · try dsimp only
          exact ⟨by omega, by assumption⟩
        · try dsimp only
          omega
      ·
        simp at q6
        (have hi : disksIf g n = true := disksIf_iff.2 ⟨‹_›, by omega, by omega⟩; have hkn : n.toNat = k := (by omega); rw [hi, disks_yes hi, hkn]; exact ⟨_, ⟨_, _, rfl, by assumption⟩, (.le fun a => by (try simp only [setR, List.cons_append, List.nil_append]); simp [List.count_cons, Blk.ent, idOf]; try omega)⟩)

end Go.Proofs.Ytliheokappjdoaa
