/-
  The disks of a graph's parts, on both sides. Numbers that are written are read. What is gathered of a graph's disks is the graph. Plain. The drawing of numbers out of bytes: what is drawn lies in its range. Drawn graphs are right graphs. Disks on which epochs are kept, the reference's side: the part stays in its place. Raw rows picked and put together. Drawn disks. Two edges compared by the language. Graphs gathered from the disks of their parts: the law walked. Conditions: none.
-/
import Derived.Test.YtjgehblllhkdbaaGreatZg3

namespace Go.Proofs.YtjgehblllhkdbaaGreat
open Go.SX Go.Proofs
set_option linter.unusedSimpArgs false
set_option linter.unusedVariables false
set_option maxHeartbeats 4000000
attribute [local irreducible] IntKind.wrap
def npart : ByteArray := ⟨#[112, 97, 114, 116]⟩
theorem npart_ok : nameOk npart = true := by decide
theorem graphText_size {g : Graph} (h : graphOk g = true) : 2 ≤ (graphText g).size ∧ (graphText g).size ≤ 900 := by
  have h1 := graphOk_rng h
  have h2 : ∀ n : Int, 1 ≤ (varT n).length := fun n => by
    unfold varT varL
    split <;> simp
  have h3 : ∀ l : List Edge, (l.flatMap edgeText).length ≤ 21 * l.length := by
    intro l
    induction l with
    | nil => simp
    | cons e l ih =>
      rw [List.flatMap_cons, List.length_append, List.length_cons]
      have : (edgeText e).length ≤ 21 := by
        unfold edgeText varT
        have := varL_len 9 e.from'.toNat
        have := varL_len 9 e.to.toNat
        simp; omega
      omega
  have h4 : (graphText g).size = (graphBytes g).length := by unfold graphText; rw [← by_size, by_tx]
  have h5 := h2 g.size
  have h6 := h2 g.edges.length
  have h7 := h3 g.edges
  have h8 : (varT g.size).length ≤ 10 := varL_len 9 _
  have h9 : (varT g.edges.length).length ≤ 10 := varL_len 9 _
  rw [h4]
  unfold graphBytes
  simp only [List.length_append]
  omega
theorem frameOk_graph {g : Graph} (h : graphOk g = true) : frameOk (graphText g) = true := by
  have := graphText_size h
  exact inR_iff.2 (by omega)
def pActs (g : Graph) : List Act := recActs npart (graphText g)
--@ct impl.PartActs new implPartActs_ct _ $1 ?_ | %1 | obtain ⟨b#, c#, rfl, o#⟩ := o#
theorem implPartActs_ct (l : List Value) (g : Graph) (hg : graphOk g = true) : Ct Tryz.prog 238 [.agg ⟨l⟩] [] (fun H => gGraph.rd H l g) (fun v A => ∃ b c, v = .tuple #[.slice b (pActs g).length c, .bool true] ∧ (gSl 382 gAct).ow [.slice b (pActs g).length c] (pActs g) A) := by
  refine Ct.intro0 G_ok Tryz.func238 rfl rfl rfl fun E H hp => ?_
  obtain ⟨b1, c1, rfl, w0, h1⟩ := gGraph_rd.1 hp
  have hs := graphText_size hg
  have hf := frameOk_graph hg
  have hgt := implGraphText_ct [.int .i64 g.size, .slice b1 g.edges.length c1] g
  rw [hg, if_pos rfl] at hgt
  refine VCnew.intro fun x0 => ?_
  refine call_val (hgt) (Rp.mono _ (mem_at 0 rfl) hp) ?_
  rintro _ rfl
  refine VCsplit.intro (fun q2 => ?_) (fun q2 => ?_)
  ·
    simp at q2
  ·
    simp at q2
    refine call_new (storeActs_ct _ _ ?_ ?_ ?_) trivial ?_
    · trivial
    · omega
    · trivial
    rintro v3 A3 o3
    obtain ⟨b3, c3, rfl, o3⟩ := o3
    exact ⟨_, ⟨_, _, rfl, by assumption⟩, (.le fun a => by (try simp only [setR, List.cons_append, List.nil_append]); simp [List.count_cons, Blk.ent, idOf]; try omega)⟩
--@ct spec.PartActs new specPartActs_ct _ $1 ?_ | %1 | obtain ⟨b#, c#, rfl, o#⟩ := o#
theorem specPartActs_ct (l : List Value) (g : Graph) (hg : graphOk g = true) : Ct Tryz.prog 320 [.agg ⟨l⟩] [] (fun H => gGraph.rd H l g) (fun v A => ∃ b c, v = .tuple #[.slice b (pActs g).length c, .bool true] ∧ (gSl 382 gAct).ow [.slice b (pActs g).length c] (pActs g) A) := by
  refine Ct.intro0 G_ok Tryz.func320 rfl rfl rfl fun E H hp => ?_
  obtain ⟨b1, c1, rfl, w0, h1⟩ := gGraph_rd.1 hp
  have hs := graphText_size hg
  have hf := frameOk_graph hg
  have hgt := specGraphText_ct [.int .i64 g.size, .slice b1 g.edges.length c1] g
  rw [hg, if_pos rfl] at hgt
  have hfr := specFrame_ct (graphText g) (by omega)
  rw [hf, if_pos rfl] at hfr
  refine VCnew.intro fun x0 => ?_
  refine call_val (hgt) (Rp.mono _ (mem_at 0 rfl) hp) ?_
  rintro _ rfl
  refine call_val (hfr) trivial ?_
  rintro _ rfl
  refine VCsplit.intro (fun q3 => ?_) (fun q3 => ?_)
  ·
    simp at q3
  ·
    simp at q3
    refine VCsplit.intro (fun q4 => ?_) (fun q4 => ?_)
    ·
      simp at q4
    ·
      simp at q4
      refine VCnew.intro fun x5 => ?_
      try dsimp only
      exact ⟨_, ⟨_, _, rfl, recActs_ow (name := npart) (by decide) (by omega)⟩, .tl⟩
--@ct impl.DoActs new implDoActs_ct _ _ _ _ _ ?_ ?_ | %2 | obtain ⟨b#, c#, rfl, o#⟩ := o#
theorem implDoActs_ct (b : Option Addr) (c : Nat) (name rec : ByteArray) (hn : nameOk name = true) (hf : frameOk rec = true) : Ct Tryz.prog 239 [.agg ⟨[.slice none 0 0]⟩, .slice b 2 c] [] (fun H => (gSl 382 gAct).rd H [.slice b 2 c] (recActs name rec)) (fun v A => ∃ b c, v = .tuple #[.agg ⟨[.slice b (dk name rec 2).files.length c]⟩, .int .i64 2] ∧ (gSl 323 gFile).ow [.slice b (dk name rec 2).files.length c] (dk name rec 2).files A) := by
  refine Ct.intro0 G_ok Tryz.func239 rfl rfl rfl fun E H hp => ?_
  have hd0 : gDisk.rd H [.slice none 0 0] ⟨[]⟩ := gDisk_rd.2 ⟨none, 0, rfl, Gt.owrd _ (Gt.owp _ (sl_nil _ _ _) (.refl _)) |> Rp.mono _ (fun _ h => by cases h)⟩
  refine VCnew.intro fun x0 => ?_
  refine VCnew.intro fun x1 => ?_
  refine call_new (copyDisk_ct _ ({ files := [] }) ?_) (Rp.mono _ (mem_at 0 rfl) hd0) ?_
  · trivial
  rintro v2 A2 o2
  obtain ⟨l2, rfl, o2⟩ := o2
  obtain ⟨b0x2, c0x2, rfl, o2⟩ := gDisk_sl o2
  refine VCnew.intro fun x3 => ?_
  apply loop_mod (α := (Nat) × (Option Addr) × (Nat) × (Hp)) G_ok [16, 17, 18, 19, 8, 7, 21, 22, 23, 20, 24, 25, 9, 10, 26, 27, 28, 29, 5, 30, 31, 15] (fun z => [(15, .v (.int .i64 z.1)), (5, .v (.int .i64 0))]) (fun z => [⟨x0, [Value.slice none (0 : Nat) (0 : Nat)], (153 : Nat)⟩, ⟨x1, [Value.slice none (0 : Nat) (0 : Nat)], (153 : Nat)⟩, ⟨x3, [.slice z.2.1 (dk name rec z.1).files.length z.2.2.1], (153 : Nat)⟩]) (fun z => [z.2.2.2, H]) (fun z => 2 - z.1) (fun z => z.1 ≤ 2 ∧ (gSl 323 gFile).ow [.slice z.2.1 (dk name rec z.1).files.length z.2.2.1] (dk name rec z.1).files z.2.2.2) ((0, _, _, _))
  · repeat' (first | exact trivial | refine ⟨⟨_, rfl, by first | rfl | exact inc_eq _ (by omega) | (refine sl_eq ?_; simp; done), by first | exact trivial | simp [SV.ok]⟩, ?_⟩)
  · exact ⟨rfl, rfl, rfl, trivial⟩
  · try dsimp only
    exact ⟨by omega, by assumption⟩
  · exact .refl _
  rintro ⟨k, b, c, A⟩ hI
  obtain ⟨hk, oA⟩ : k ≤ 2 ∧ (gSl 323 gFile).ow [.slice b (dk name rec k).files.length c] (dk name rec k).files A := hI
  try dsimp only
  refine VCsplit.intro (fun q4 => ?_) (fun q4 => ?_)
  ·
    simp at q4
    refine idx_rd hp ?_ ?_ fun b5 o5 hb5 => ?_
    · omega
    · trivial
    refine load_allN default (k) rfl hp ?_ ?_ hb5 rfl (mem_at 1 rfl) fun l6 hl6 => ?_
    · omega
    · trivial
    obtain ⟨rfl, w0x6, w1x6, w2x6, w3x6⟩ := gAct_rd.1 hl6
    refine VCnew.intro fun x7 => ?_
    refine call_new (implDoAct_ct _ _ name rec k hn hf ?_) ⟨gDisk_rd.2 ⟨_, _, rfl, Rp.mono _ (mem_at 0 rfl) (Gt.owrd _ oA)⟩, ?_⟩ ?_
    · omega
    · (rw [← recActs_at name rec k (by omega)]; exact Rp.mono _ (mem_at 1 rfl) ‹gAct.rd _ _ _›)
    rintro v8 A8 o8
    obtain ⟨b8, c8, rfl, o8⟩ := o8
    refine VCnew.intro fun x9 => ?_
    refine VCsplit.intro (fun q10 => ?_) (fun q10 => ?_)
    ·
      simp at q10
    ·
      simp at q10
      apply loop_stepA (k + 1, _, _, _)
      · exact .sub (by repeat (first | exact .slnil | apply List.Sublist.cons_cons | apply List.Sublist.cons))
      · repeat' (first | exact trivial | refine ⟨⟨_, rfl, by first | rfl | exact inc_eq _ (by omega) | (refine sl_eq ?_; simp; done), by first | exact trivial | simp [SV.ok]⟩, ?_⟩)
      · exact ⟨rfl, rfl, rfl, trivial⟩
      · try dsimp only
        exact ⟨by omega, by assumption⟩
      try dsimp only
      omega
  ·
    simp at q4
    (have hk2 : k = 2 := (by omega); subst hk2; exact ⟨_, ⟨_, _, rfl, by assumption⟩, (.le fun a => by (try simp only [setR, List.cons_append, List.nil_append]); simp [List.count_cons, Blk.ent, idOf]; try omega)⟩)
--@ct spec.DoActs new specDoActs_ct _ _ _ _ ?_ ?_ | %2 | obtain ⟨b#, c#, rfl, o#⟩ := o#
theorem specDoActs_ct (b : Option Addr) (c : Nat) (name rec : ByteArray) (hn : nameOk name = true) (hf : frameOk rec = true) : Ct Tryz.prog 321 [.agg ⟨[.slice none 0 0]⟩, .slice b 2 c] [] (fun H => (gSl 382 gAct).rd H [.slice b 2 c] (recActs name rec)) (fun v A => ∃ b c, v = .tuple #[.agg ⟨[.slice b (dk name rec 2).files.length c]⟩, .int .i64 2] ∧ (gSl 323 gFile).ow [.slice b (dk name rec 2).files.length c] (dk name rec 2).files A) := by
  refine Ct.intro0 G_ok Tryz.func321 rfl rfl rfl fun E H hp => ?_
  have hd0 : (gSl 323 gFile).rd H [.slice none 0 0] [] := Rp.mono _ (fun _ h => by cases h) (Gt.owrd _ (sl_nil _ _ _))
  refine VCnew.intro fun x0 => ?_
  refine VCnew.intro fun x1 => ?_
  refine VCnew.intro fun x2 => ?_
  refine append_allN (g := gFile) (T := (323 : TypeId)) G_ok (by repeat (first | exact fl_plain | apply plain_iso | apply plain_pair)) [] [[(x2, Obj.cells { toList := zeros (0 : Nat) [Value.string ByteArray.empty, Value.string ByteArray.empty, Value.int IntKind.i64 (0 : Int)] } (323 : TypeId))], H] 1 ?_ (sl_nil _ _ _) rfl hd0 rfl rfl rfl rfl rfl rfl rfl rfl ?_ fun b3 c3 A3 o3 => ?_
  · exact .refl _
  · trivial
  refine VCnew.intro fun x4 => ?_
  apply loop_mod (α := (Nat) × (Option Addr) × (Nat) × (Hp)) G_ok [15, 16, 17, 18, 22, 23, 24, 25, 26, 27, 21, 28, 29, 8, 9, 30, 31, 32, 33, 5, 34, 19, 20, 7] (fun z => [(7, .v (.int .i64 z.1))]) (fun z => [⟨x0, [Value.slice none (0 : Nat) (0 : Nat)], (153 : Nat)⟩, ⟨x1, [Value.slice none (0 : Nat) (0 : Nat)], (153 : Nat)⟩, ⟨x4, [.slice z.2.1 (dk name rec z.1).files.length z.2.2.1], (153 : Nat)⟩]) (fun z => [z.2.2.2, H]) (fun z => 2 - z.1) (fun z => z.1 ≤ 2 ∧ (gSl 323 gFile).ow [.slice z.2.1 (dk name rec z.1).files.length z.2.2.1] (dk name rec z.1).files z.2.2.2) ((0, _, _, _))
  · repeat' (first | exact trivial | refine ⟨⟨_, rfl, by first | rfl | exact inc_eq _ (by omega) | (refine sl_eq ?_; simp; done), by first | exact trivial | simp [SV.ok]⟩, ?_⟩)
  · exact ⟨rfl, rfl, rfl, trivial⟩
  · try dsimp only
    exact ⟨by omega, by assumption⟩
  · exact .le fun a => by (try simp only [setR, List.cons_append, List.nil_append]); simp only [List.flatten_append, List.flatten_cons, List.flatten_nil, List.count_append, List.count_nil, List.append_nil, List.nil_append]; omega
  rintro ⟨k, b, c, A⟩ hI
  obtain ⟨hk, oA⟩ : k ≤ 2 ∧ (gSl 323 gFile).ow [.slice b (dk name rec k).files.length c] (dk name rec k).files A := hI
  try dsimp only
  refine VCsplit.intro (fun q5 => ?_) (fun q5 => ?_)
  ·
    simp at q5
    refine draw G_ok mixed (some 10) (.q 0 (.q 1 (.q 2 (.q 3 (.q 4 (.hd (.alt 5 (.q 6 (.q 7 (.q 8 (.f 9 (.tl 10 (.f 11 (.nil))))))) (.alt 9 (.f 5 (.q 6 (.q 7 (.q 8 (.tl 10 (.f 11 (.nil))))))) (.nil))))))))) (by decide +kernel) ?_
    refine idx_rd hp ?_ ?_ fun b6 o6 hb6 => ?_
    · omega
    · trivial
    refine load_allN default (k) rfl hp ?_ ?_ hb6 rfl (mem_at 1 rfl) fun l7 hl7 => ?_
    · omega
    · trivial
    obtain ⟨rfl, w0x7, w1x7, w2x7, w3x7⟩ := gAct_rd.1 hl7
    refine VC.intro ?_ ?_
    ·
      refine call_new (specDoAct_ct _ _ name rec k hn hf ?_) ⟨gDisk_rd.2 ⟨_, _, rfl, Rp.mono _ (mem_at 0 rfl) (Gt.owrd _ oA)⟩, ?_⟩ ?_
      · omega
      · (rw [← recActs_at name rec k (by omega)]; exact Rp.mono _ (mem_at 1 rfl) ‹gAct.rd _ _ _›)
      rintro v8 A8 o8
      obtain ⟨b8, c8, rfl, o8⟩ := o8
      refine VC.intro ?_ ?_
      · exact keep_new
      refine VCnew.intro fun x9 => ?_
      refine VC.intro ?_ ?_
      · exact keep_sub (by simp) (by simp)
      refine VCsplit.intro (fun q10 => ?_) (fun q10 => ?_)
      ·
        simp at q10
      ·
        simp at q10
        apply loop_stepA (k + 1, _, _, _)
        · exact .sub (by repeat (first | exact .slnil | apply List.Sublist.cons_cons | apply List.Sublist.cons))
        · repeat' (first | exact trivial | refine ⟨⟨_, rfl, by first | rfl | exact inc_eq _ (by omega) | (refine sl_eq ?_; simp; done), by first | exact trivial | simp [SV.ok]⟩, ?_⟩)
        · exact ⟨rfl, rfl, rfl, trivial⟩
        · try dsimp only
          exact ⟨by omega, by assumption⟩
        try dsimp only
        omega
    ·
      refine VC.intro ?_ ?_
      ·
        refine VCnew.intro fun x11 => ?_
        refine VC.intro ?_ ?_
        · exact keep_sub (by simp) (by simp)
        refine call_new (specDoAct_ct _ _ name rec k hn hf ?_) ⟨gDisk_rd.2 ⟨_, _, rfl, Rp.mono _ (mem_at 0 rfl) (Gt.owrd _ oA)⟩, ?_⟩ ?_
        · omega
        · (rw [← recActs_at name rec k (by omega)]; exact Rp.mono _ (mem_at 1 rfl) ‹gAct.rd _ _ _›)
        rintro v12 A12 o12
        obtain ⟨b12, c12, rfl, o12⟩ := o12
        refine VC.intro ?_ ?_
        · exact keep_sub (by simp) (by simp)
        refine VCsplit.intro (fun q13 => ?_) (fun q13 => ?_)
        ·
          simp at q13
        ·
          simp at q13
          apply loop_stepA (k + 1, _, _, _)
          · exact .sub (by repeat (first | exact .slnil | apply List.Sublist.cons_cons | apply List.Sublist.cons))
          · repeat' (first | exact trivial | refine ⟨⟨_, rfl, by first | rfl | exact inc_eq _ (by omega) | (refine sl_eq ?_; simp; done), by first | exact trivial | simp [SV.ok]⟩, ?_⟩)
          · exact ⟨rfl, rfl, rfl, trivial⟩
          · try dsimp only
            exact ⟨by omega, by assumption⟩
          try dsimp only
          omega
      ·
        exact trivial
  ·
    simp at q5
    (have hk2 : k = 2 := (by omega); subst hk2; exact ⟨_, ⟨_, _, rfl, by assumption⟩, (.le fun a => by (try simp only [setR, List.cons_append, List.nil_append]); simp [List.count_cons, Blk.ent, idOf]; try omega)⟩)
def freshDisk (g : Graph) : Disk := dk npart (graphText g) 2
theorem freshDisk_ow {b : Option Addr} {c : Nat} {g : Graph} {A : Hp} (h : (gSl 323 gFile).ow [.slice b (dk npart (graphText g) 2).files.length c] (dk npart (graphText g) 2).files A) : gDisk.ow [.slice b (dk npart (graphText g) 2).files.length c] (freshDisk g) A := gDisk_ow.2 ⟨_, _, _, rfl, .refl _, h⟩
--@ct impl.FreshDisk new implFreshDisk_ct _ $1 ?_ | %1 | obtain ⟨b#, c#, rfl, o#⟩ := o#
theorem implFreshDisk_ct (l : List Value) (g : Graph) (hg : graphOk g = true) : Ct Tryz.prog 141 [.agg ⟨l⟩] [] (fun H => gGraph.rd H l g) (fun v A => ∃ b c, v = .tuple #[.agg ⟨[.slice b (freshDisk g).files.length c]⟩, .bool true] ∧ gDisk.ow [.slice b (freshDisk g).files.length c] (freshDisk g) A) := by
  refine Ct.intro0 G_ok Tryz.func141 rfl rfl rfl fun E H hp => ?_
  obtain ⟨b1, c1, rfl, w0, h1⟩ := gGraph_rd.1 hp
  have hf := frameOk_graph hg
  refine VCnew.intro fun x0 => ?_
  refine VCnew.intro fun x1 => ?_
  refine call_new (implPartActs_ct _ (g) ?_) (Rp.mono _ (mem_at 0 rfl) hp) ?_
  · trivial
  rintro v2 A2 o2
  obtain ⟨b2, c2, rfl, o2⟩ := o2
  refine VCsplit.intro (fun q3 => ?_) (fun q3 => ?_)
  ·
    simp at q3
  ·
    simp at q3
    refine call_new (implDoActs_ct _ _ npart (graphText g) npart_ok hf) (Rp.mono _ (mem_at 0 rfl) (Gt.owrd _ o2)) ?_
    rintro v4 A4 o4
    obtain ⟨b4, c4, rfl, o4⟩ := o4
    refine VCnew.intro fun x5 => ?_
    refine VCsplit.intro (fun q6 => ?_) (fun q6 => ?_)
    ·
      simp at q6
      exact absurd (show (2 : Int) = ((pActs g).length : Nat) from rfl) q6
    ·
      simp at q6
      exact ⟨_, ⟨_, _, rfl, freshDisk_ow (by assumption)⟩, (.le fun a => by (try simp only [setR, List.cons_append, List.nil_append]); simp [List.count_cons, Blk.ent, idOf]; try omega)⟩
--@ct spec.FreshDisk new specFreshDisk_ct _ $1 ?_ | %1 | obtain ⟨b#, c#, rfl, o#⟩ := o#
theorem specFreshDisk_ct (l : List Value) (g : Graph) (hg : graphOk g = true) : Ct Tryz.prog 243 [.agg ⟨l⟩] [] (fun H => gGraph.rd H l g) (fun v A => ∃ b c, v = .tuple #[.agg ⟨[.slice b (freshDisk g).files.length c]⟩, .bool true] ∧ gDisk.ow [.slice b (freshDisk g).files.length c] (freshDisk g) A) := by
  refine Ct.intro0 G_ok Tryz.func243 rfl rfl rfl fun E H hp => ?_
  obtain ⟨b1, c1, rfl, w0, h1⟩ := gGraph_rd.1 hp
  have hf := frameOk_graph hg
  refine VCnew.intro fun x0 => ?_
  refine VCnew.intro fun x1 => ?_
  refine call_new (specPartActs_ct _ (g) ?_) (Rp.mono _ (mem_at 0 rfl) hp) ?_
  · trivial
  rintro v2 A2 o2
  obtain ⟨b2, c2, rfl, o2⟩ := o2
  refine VCsplit.intro (fun q3 => ?_) (fun q3 => ?_)
  ·
    simp at q3
  ·
    simp at q3
    refine call_new (specDoActs_ct _ _ npart (graphText g) npart_ok hf) (Rp.mono _ (mem_at 0 rfl) (Gt.owrd _ o2)) ?_
    rintro v4 A4 o4
    obtain ⟨b4, c4, rfl, o4⟩ := o4
    refine VCnew.intro fun x5 => ?_
    exact ⟨_, ⟨_, _, rfl, freshDisk_ow (by assumption)⟩, (.le fun a => by (try simp only [setR, List.cons_append, List.nil_append]); simp [List.count_cons, Blk.ent, idOf]; try omega)⟩
/-! the disks of all workers -/
def disksK (g : Graph) (n : Int) : Nat → List Disk
  | 0 => []
  | k + 1 => disksK g n k ++ [freshDisk (partOf g k n)]
theorem disksK_len (g : Graph) (n : Int) : ∀ k, (disksK g n k).length = k
  | 0 => rfl
  | k + 1 => by rw [disksK, List.length_append, disksK_len g n k]; rfl
def disksIf (g : Graph) (n : Int) : Bool := graphOk g && inR 1 8 n
def disksOf (g : Graph) (n : Int) : List Disk := if disksIf g n then disksK g n n.toNat else []
theorem disks_no {g : Graph} {n : Int} (h : disksIf g n = true → False) : disksIf g n = false ∧ disksOf g n = [] := by
  have : disksIf g n = false := by cases e : disksIf g n with
    | false => rfl
    | true => exact (h e).elim
  exact ⟨this, by unfold disksOf; rw [this]; rfl⟩
theorem disksIf_iff {g : Graph} {n : Int} : disksIf g n = true ↔ graphOk g = true ∧ 1 ≤ n ∧ n ≤ 8 := by unfold disksIf; rw [Bool.and_eq_true, inR_iff]
theorem disks_yes {g : Graph} {n : Int} (h : disksIf g n = true) : disksOf g n = disksK g n n.toNat := by unfold disksOf; rw [h]; rfl
theorem partOf_ok {g : Graph} (w n : Int) (h : graphOk g = true) : graphOk (partOf g w n) = true := by rw [partOf_yes h]; exact graphOk_filter _ h
--@ct impl.DisksOf new implDisksOf_ct _ $1 _ ?_ | %1 | obtain ⟨b#, c#, rfl, o#⟩ := o#
theorem implDisksOf_ct (l : List Value) (g : Graph) (n : Int) (hn : okI n) : Ct Tryz.prog 51 [.agg ⟨l⟩, .int .i64 n] [] (fun H => gGraph.rd H l g) (fun v A => ∃ b c, v = .tuple #[.slice b (disksOf g n).length c, .bool (disksIf g n)] ∧ (gSl 153 gDisk).ow [.slice b (disksOf g n).length c] (disksOf g n) A) := by
  refine Ct.intro0 G_ok Tryz.func51 rfl rfl rfl fun E H hp => ?_
  obtain ⟨b1, c1, rfl, w0, h1⟩ := gGraph_rd.1 hp
  refine VCnew.intro fun x0 => ?_
  refine call_val (implGraphOk_ct _ (g)) (Rp.mono _ (mem_at 0 rfl) hp) ?_
  rintro _ rfl
  refine VCsplit.intro (fun q2 => ?_) (fun q2 => ?_)
  ·
    simp at q2
    (obtain ⟨e1, e2⟩ := disks_no (g := g) (n := n) (fun e => by (obtain ⟨a1, a2, a3⟩ := disksIf_iff.1 e; first | omega | exact absurd (a1.symm.trans ‹graphOk g = false›) (by decide))); rw [e1, e2]; exact ⟨[], ⟨_, _, rfl, sl_nil _ _ _⟩, (.le fun a => by (try simp only [setR, List.cons_append, List.nil_append]); simp [List.count_cons, Blk.ent, idOf]; try omega)⟩)
  ·
    simp at q2
    refine call_val (isWorkers_ct _) trivial ?_
    rintro _ rfl
    refine VCsplit.intro (fun q4 => ?_) (fun q4 => ?_)
    ·
      simp at q4
      have iq4 := mt inR_iff.2 (Bool.eq_false_iff.1 q4)
      (obtain ⟨e1, e2⟩ := disks_no (g := g) (n := n) (fun e => by (obtain ⟨a1, a2, a3⟩ := disksIf_iff.1 e; first | omega | exact absurd (a1.symm.trans ‹graphOk g = false›) (by decide))); rw [e1, e2]; exact ⟨[], ⟨_, _, rfl, sl_nil _ _ _⟩, (.le fun a => by (try simp only [setR, List.cons_append, List.nil_append]); simp [List.count_cons, Blk.ent, idOf]; try omega)⟩)
    ·
      simp at q4
      have iq4 := inR_iff.1 q4
      apply loop_mod (α := (Nat) × (Hp) × (Option Addr) × (Nat)) G_ok [20, 21, 7, 23, 24, 25, 26, 27, 22, 28, 29, 8, 9, 30, 31, 4, 5, 32, 33, 34, 35, 6, 36, 19] (fun z => [(19, .v (.int .i64 z.1)), (6, .v (.slice z.2.2.1 (disksK g n z.1).length z.2.2.2))]) (fun z => [{ id := x0, cs := [Value.int IntKind.i64 g.size, Value.slice b1 g.edges.length c1], ty := (88 : Nat) }]) (fun z => [z.2.1, H]) (fun z => n.toNat - z.1) (fun z => (z.1 : Int) ≤ n ∧ (gSl 153 gDisk).ow [.slice z.2.2.1 (disksK g n z.1).length z.2.2.2] (disksK g n z.1) z.2.1) ((0, [], none, 0))
      · repeat' (first | exact trivial | refine ⟨⟨_, rfl, by first | rfl | exact inc_eq _ (by omega) | (refine sl_eq ?_; simp; done), by first | exact trivial | simp [SV.ok]⟩, ?_⟩)
      · exact ⟨rfl, trivial⟩
      · try dsimp only
        exact ⟨by omega, sl_nil _ _ _⟩
      · exact .refl _
      rintro ⟨k, A, lb, lc⟩ hI
      obtain ⟨hk, oA⟩ : (k : Int) ≤ n ∧ (gSl 153 gDisk).ow [.slice lb (disksK g n k).length lc] (disksK g n k) A := hI
      try dsimp only
      refine VCsplit.intro (fun q5 => ?_) (fun q5 => ?_)
      ·
        simp at q5
        refine call_new (implPartOf_ct _ (g) _ _) (Rp.mono _ (mem_at 1 rfl) hp) ?_
        rintro v6 A6 o6
        obtain ⟨l6, rfl, o6⟩ := o6
        have r6 := Gt.owrd _ o6
        obtain ⟨b16, c16, rfl, w06, h16⟩ := gGraph_rd.1 r6
        refine call_new (implFreshDisk_ct _ (partOf g (↑k : Int) n) ?_) (Rp.mono _ (mem_at 0 rfl) r6) ?_
        · exact partOf_ok _ _ ‹graphOk _ = true›
        rintro v7 A7 o7
        obtain ⟨b7, c7, rfl, o7⟩ := o7
        refine VCnew.intro fun x8 => ?_
        refine VCsplit.intro (fun q9 => ?_) (fun q9 => ?_)
        ·
          simp at q9
        ·
          simp at q9
          refine VCnew.intro fun x10 => ?_
          refine gappend1 (g := gDisk) (T := (153 : TypeId)) G_ok A _ [A6, H] ?_ oA (‹gDisk.ow _ _ _›) (List.mem_of_getElem? (i := 0) rfl) rfl rfl rfl rfl rfl rfl rfl rfl ?_ fun b11 c11 A11 o11 => ?_
          · exact .le fun a => by (try simp only [setR, List.cons_append, List.nil_append]); simp only [List.flatten_append, List.flatten_cons, List.flatten_nil, List.count_append, List.count_nil, List.append_nil, List.nil_append]; omega
          · (rw [disksK_len]; omega)
          apply loop_stepA (k + 1, _, _, _)
          · exact .sub (by repeat (first | exact .slnil | apply List.Sublist.cons_cons | apply List.Sublist.cons))
          · repeat' (first | exact trivial | refine ⟨⟨_, rfl, by first | rfl | exact inc_eq _ (by omega) | (refine sl_eq ?_; simp; done), by first | exact trivial | simp [SV.ok]⟩, ?_⟩)
          · exact ⟨rfl, trivial⟩
          · try dsimp only
            exact ⟨by omega, by assumption⟩
          try dsimp only
          omega
      ·
        simp at q5
        (have hi : disksIf g n = true := disksIf_iff.2 ⟨‹_›, by omega, by omega⟩; have hkn : n.toNat = k := (by omega); rw [hi, disks_yes hi, hkn]; exact ⟨_, ⟨_, _, rfl, by assumption⟩, (.le fun a => by (try simp only [setR, List.cons_append, List.nil_append]); simp [List.count_cons, Blk.ent, idOf]; try omega)⟩)
--@ct spec.DisksOf new specDisksOf_ct _ $1 _ ?_ | %1 | obtain ⟨b#, c#, rfl, o#⟩ := o#
theorem specDisksOf_ct (l : List Value) (g : Graph) (n : Int) (hn : okI n) : Ct Tryz.prog 145 [.agg ⟨l⟩, .int .i64 n] [] (fun H => gGraph.rd H l g) (fun v A => ∃ b c, v = .tuple #[.slice b (disksOf g n).length c, .bool (disksIf g n)] ∧ (gSl 153 gDisk).ow [.slice b (disksOf g n).length c] (disksOf g n) A) := by
  refine Ct.intro0 G_ok Tryz.func145 rfl rfl rfl fun E H hp => ?_
  obtain ⟨b1, c1, rfl, w0, h1⟩ := gGraph_rd.1 hp
  refine VCnew.intro fun x0 => ?_
  refine VCnew.intro fun x1 => ?_
  refine call_val (specGraphOk_ct _ (g)) (Rp.mono _ (mem_at 1 rfl) hp) ?_
  rintro _ rfl
  refine VCsplit.intro (fun q3 => ?_) (fun q3 => ?_)
  ·
    simp at q3
    (obtain ⟨e1, e2⟩ := disks_no (g := g) (n := n) (fun e => by (obtain ⟨a1, a2, a3⟩ := disksIf_iff.1 e; first | omega | exact absurd (a1.symm.trans ‹graphOk g = false›) (by decide))); rw [e1, e2]; exact ⟨[], ⟨_, _, rfl, sl_nil _ _ _⟩, (.le fun a => by (try simp only [setR, List.cons_append, List.nil_append]); simp [List.count_cons, Blk.ent, idOf]; try omega)⟩)
  ·
    simp at q3
    refine call_val (l01In_ct _ _ _) trivial ?_
    rintro _ rfl
    refine VCsplit.intro (fun q5 => ?_) (fun q5 => ?_)
    ·
      simp at q5
      have iq5 := mt inR_iff.2 (Bool.eq_false_iff.1 q5)
      (obtain ⟨e1, e2⟩ := disks_no (g := g) (n := n) (fun e => by (obtain ⟨a1, a2, a3⟩ := disksIf_iff.1 e; first | omega | exact absurd (a1.symm.trans ‹graphOk g = false›) (by decide))); rw [e1, e2]; exact ⟨[], ⟨_, _, rfl, sl_nil _ _ _⟩, (.le fun a => by (try simp only [setR, List.cons_append, List.nil_append]); simp [List.count_cons, Blk.ent, idOf]; try omega)⟩)
    ·
      simp at q5
      have iq5 := inR_iff.1 q5
      apply loop_mod (α := (Nat) × (Hp) × (Option Addr) × (Nat)) G_ok [20, 21, 22, 26, 27, 28, 29, 30, 25, 31, 32, 8, 9, 33, 34, 35, 36, 6, 23, 24, 7] (fun z => [(7, .v (.int .i64 z.1)), (6, .v (.slice z.2.2.1 (disksK g n z.1).length z.2.2.2))]) (fun z => [{ id := x0, cs := [Value.int IntKind.i64 g.size, Value.slice b1 g.edges.length c1], ty := (88 : Nat) }]) (fun z => [z.2.1, [(x1, Obj.cells { toList := zeros (0 : Nat) [Value.slice none (0 : Nat) (0 : Nat)] } (153 : TypeId))], H]) (fun z => n.toNat - z.1) (fun z => (z.1 : Int) ≤ n ∧ (gSl 153 gDisk).ow [.slice z.2.2.1 (disksK g n z.1).length z.2.2.2] (disksK g n z.1) z.2.1) ((0, [], _, 0))
      · repeat' (first | exact trivial | refine ⟨⟨_, rfl, by first | rfl | exact inc_eq _ (by omega) | (refine sl_eq ?_; simp; done), by first | exact trivial | simp [SV.ok]⟩, ?_⟩)
      · exact ⟨rfl, trivial⟩
      · try dsimp only
        exact ⟨by omega, sl_nil _ _ _⟩
      · exact .refl _
      rintro ⟨k, A, lb, lc⟩ hI
      obtain ⟨hk, oA⟩ : (k : Int) ≤ n ∧ (gSl 153 gDisk).ow [.slice lb (disksK g n k).length lc] (disksK g n k) A := hI
      try dsimp only
      refine VCsplit.intro (fun q6 => ?_) (fun q6 => ?_)
      ·
        simp at q6
        refine call_new (specPartOf_ct _ (g) _ _) (Rp.mono _ (mem_at 2 rfl) hp) ?_
        rintro v7 A7 o7
        obtain ⟨l7, rfl, o7⟩ := o7
        have r7 := Gt.owrd _ o7
        obtain ⟨b17, c17, rfl, w07, h17⟩ := gGraph_rd.1 r7
        refine call_new (specFreshDisk_ct _ (partOf g (↑k : Int) n) ?_) (Rp.mono _ (mem_at 0 rfl) r7) ?_
        · exact partOf_ok _ _ ‹graphOk _ = true›
        rintro v8 A8 o8
        obtain ⟨b8, c8, rfl, o8⟩ := o8
        refine VCnew.intro fun x9 => ?_
        refine VCnew.intro fun x10 => ?_
        refine gappend1 (g := gDisk) (T := (153 : TypeId)) G_ok A _ [A7, [(x1, Obj.cells { toList := zeros (0 : Nat) [Value.slice none (0 : Nat) (0 : Nat)] } (153 : TypeId))], H] ?_ oA (‹gDisk.ow _ _ _›) (List.mem_of_getElem? (i := 0) rfl) rfl rfl rfl rfl rfl rfl rfl rfl ?_ fun b11 c11 A11 o11 => ?_
        · exact .le fun a => by (try simp only [setR, List.cons_append, List.nil_append]); simp only [List.flatten_append, List.flatten_cons, List.flatten_nil, List.count_append, List.count_nil, List.append_nil, List.nil_append]; omega
        · (rw [disksK_len]; omega)
        apply loop_stepA (k + 1, _, _, _)
        · exact .sub (by repeat (first | exact .slnil | apply List.Sublist.cons_cons | apply List.Sublist.cons))
        · repeat' (first | exact trivial | refine ⟨⟨_, rfl, by first | rfl | exact inc_eq _ (by omega) | (refine sl_eq ?_; simp; done), by first | exact trivial | simp [SV.ok]⟩, ?_⟩)
        · exact ⟨rfl, trivial⟩
        · try dsimp only
          exact ⟨by omega, by assumption⟩
        try dsimp only
        omega
      ·
        simp at q6
        (have hi : disksIf g n = true := disksIf_iff.2 ⟨‹_›, by omega, by omega⟩; have hkn : n.toNat = k := (by omega); rw [hi, disks_yes hi, hkn]; exact ⟨_, ⟨_, _, rfl, by assumption⟩, (.le fun a => by (try simp only [setR, List.cons_append, List.nil_append]); simp [List.count_cons, Blk.ent, idOf]; try omega)⟩)
end Go.Proofs.YtjgehblllhkdbaaGreat

namespace Go.Proofs.YtjgehblllhkdbaaGreat
open Go.SX Go.Proofs
set_option maxHeartbeats 1000000
theorem byteAt_drop {t : ByteArray} {p : Nat} {b : UInt8} {r : List UInt8} (h : (by' t).drop p = b :: r) : p < t.size ∧ byteAt t p = b ∧ (by' t).drop (p + 1) = r := by
  have h1 : p < (by' t).length := by
    rcases Nat.lt_or_ge p (by' t).length with h1 | h1
    · exact h1
    rw [List.drop_eq_nil_of_le h1] at h; cases h
  rw [List.drop_eq_getElem_cons h1] at h
  obtain ⟨h2, h3⟩ := List.cons.inj h
  rw [by_size] at h1
  refine ⟨h1, ?_, h3⟩
  unfold byteAt
  rw [by_get, List.getElem?_eq_getElem (by rw [by_size]; exact h1)]
  exact h2
theorem rvGo_enc (t : ByteArray) (p : Nat) : ∀ k i n u f m rest, 0 < k → (by' t).drop (p + i) = varL f m ++ rest → m < 128 ^ k → k ≤ f + 1 → (i = 0 ∨ 0 < m) → n + m * u ≤ 1000000000 → rvGo t p k i n u = (n + m * u, p + i + (varL f m).length, true)
  | 0, _, _, _, _, _, _, h0, _, _, _, _, _ => absurd h0 (by omega)
  | k + 1, i, n, u, f, m, rest, _, h, hm, hf, hi, hb => by
    by_cases h7 : 127 < m
    · cases f with
      | zero =>
        have : k = 0 := by omega
        subst this
        simp at hm; omega
      | succ f =>
        have e : varL (f + 1) m = UInt8.ofNat (128 + m % 128) :: varL f (m / 128) := by conv => lhs; unfold varL; rw [if_pos h7]
        rw [e, List.cons_append] at h
        obtain ⟨h1, h2, h3⟩ := byteAt_drop h
        have h4 : (byteAt t (p + i)).toNat = 128 + m % 128 := by rw [h2, UInt8.toNat_ofNat']; omega
        have hk0 : 0 < k := by
          rcases Nat.eq_zero_or_pos k with rfl | hk0
          · simp at hm; omega
          exact hk0
        rw [rvGo_on h1 (by omega), h4, rvGo_enc t p k (i + 1) _ _ f (m / 128) rest hk0 (by rw [← h3, Nat.add_assoc]) (by rw [Nat.pow_succ] at hm; omega) (by omega) (.inr (by omega)) ?_, e, List.length_cons]
        · have e2 : n + (128 + m % 128) % 128 * u + m / 128 * (u * 128) = n + m * u := by
            have : m * u = (m % 128 + 128 * (m / 128)) * u := by rw [Nat.mod_add_div]
            rw [this, Nat.add_mul, show (128 + m % 128) % 128 = m % 128 by omega, Nat.mul_comm u 128, ← Nat.mul_assoc, Nat.mul_comm (m / 128) 128]; omega
          rw [e2]
          refine Prod.ext rfl (Prod.ext ?_ rfl)
          show p + (i + 1) + (varL f (m / 128)).length = p + i + ((varL f (m / 128)).length + 1)
          omega
        have e2 : n + (128 + m % 128) % 128 * u + m / 128 * (u * 128) = n + m * u := by
          have : m * u = (m % 128 + 128 * (m / 128)) * u := by rw [Nat.mod_add_div]
          rw [this, Nat.add_mul, show (128 + m % 128) % 128 = m % 128 by omega, Nat.mul_comm u 128, ← Nat.mul_assoc, Nat.mul_comm (m / 128) 128]; omega
        omega
    rw [varL_low f m (by omega)] at h ⊢
    obtain ⟨h1, h2, h3⟩ := byteAt_drop h
    have h4 : (byteAt t (p + i)).toNat = m := by rw [h2, UInt8.toNat_ofNat']; omega
    have e3 : m % 128 = m := by omega
    rw [rvGo_ok h1 (by omega) (by rw [h4, e3]; omega), h4, e3]; rfl
/-- a number that stands in a text is read there -/
theorem readVar_enc {t : ByteArray} {p m : Nat} {rest : List UInt8} (h : (by' t).drop p = varT m ++ rest) (hm : m ≤ 1000000000) : readVar t p = (m, p + (varT m).length, true) := by
  unfold readVar varT at *
  rw [rvGo_enc t p 5 0 0 1 9 m rest (by omega) (by simpa using h) (by omega) (by omega) (.inl rfl) (by omega)]
  simp
end Go.Proofs.YtjgehblllhkdbaaGreat

namespace Go.Proofs.YtjgehblllhkdbaaGreat
open Go.SX Go.Proofs
set_option maxHeartbeats 1000000
/-! a graph's text is read -/
theorem varT_nn {n : Int} : varT n = varT (n.toNat : Nat) := by unfold varT; rw [Int.toNat_natCast]
theorem num_enc {t : ByteArray} {P rest : List UInt8} {n : Int} (h : by' t = P ++ (varT n ++ rest)) (h1 : n ≤ 1000000000) : scNum t (P.length, false) = (n.toNat, (P.length + (varT n).length, false)) := by
  have h2 := readVar_enc (t := t) (p := P.length) (m := n.toNat) (rest := rest) (by rw [h, List.drop_left, ← varT_nn]) (by omega)
  rw [← varT_nn] at h2
  rw [scNum_yes (s := (P.length, false)) (by rw [h2]) rfl, h2]
theorem byte_enc {t : ByteArray} {P rest : List UInt8} {x : UInt8} (h : by' t = P ++ (x :: rest)) : scByte t (P.length, false) = (x, (P.length + 1, false)) := by
  have h1 : P.length < t.size := by rw [← by_size, h, List.length_append, List.length_cons]; omega
  have h2 : byteAt t P.length = x := by unfold byteAt; rw [by_get, h, List.getElem?_append_right (Nat.le_refl _), Nat.sub_self]; rfl
  unfold scByte
  rw [if_pos (by simp [h1])]
  show (byteAt t P.length, _) = _
  rw [h2]
theorem edge_enc {t : ByteArray} {P rest : List UInt8} {e : Edge} (h : by' t = P ++ (edgeText e ++ rest)) (h0 : 0 ≤ e.from' ∧ e.from' ≤ 11) (h1 : 0 ≤ e.to ∧ e.to ≤ 11) : scEdge t (P.length, false) = (e, ((P ++ edgeText e).length, false)) := by
  unfold edgeText at h
  have a1 := num_enc (t := t) (P := P) (n := e.from') (rest := [e.label] ++ (varT e.to ++ rest)) (by rw [h]; simp only [List.append_assoc]) (by omega)
  have a2 := byte_enc (t := t) (P := P ++ varT e.from') (x := e.label) (rest := varT e.to ++ rest) (by rw [h]; simp only [List.append_assoc, List.cons_append, List.nil_append])
  have a3 := num_enc (t := t) (P := P ++ varT e.from' ++ [e.label]) (n := e.to) (rest := rest) (by rw [h]; simp only [List.append_assoc]) (by omega)
  rw [List.length_append] at a2
  rw [List.length_append, List.length_append, List.length_singleton] at a3
  have hl : (P ++ edgeText e).length = P.length + (varT e.from').length + 1 + (varT e.to).length := by
    unfold edgeText; simp only [List.length_append, List.length_singleton]; omega
  rw [hl]
  unfold scEdge
  rw [a1]; dsimp only; rw [a2]; dsimp only; rw [a3]
  obtain ⟨f, lb, to'⟩ := e
  dsimp only at h0 h1 ⊢
  rw [Int.toNat_of_nonneg h0.1, Int.toNat_of_nonneg h1.1]
theorem edges_enc {t : ByteArray} {P : List UInt8} {es : List Edge} (h : by' t = P ++ es.flatMap edgeText) (he : ∀ e ∈ es, (0 ≤ e.from' ∧ e.from' ≤ 11) ∧ 0 ≤ e.to ∧ e.to ≤ 11) : ∀ k, k ≤ es.length → scEdges t (P.length, false) k = (es.take k, ((P ++ (es.take k).flatMap edgeText).length, false))
  | 0, _ => by simp [scEdges]
  | k + 1, hk => by
    have ih := edges_enc h he k (by omega)
    have hk' : k < es.length := hk
    have hs : es = es.take k ++ (es[k] :: es.drop (k + 1)) := by rw [List.getElem_cons_drop, List.take_append_drop]
    have hm := he es[k] (List.getElem_mem _)
    have h1 := edge_enc (t := t) (P := P ++ (es.take k).flatMap edgeText) (rest := (es.drop (k + 1)).flatMap edgeText) (e := es[k]) (by
      rw [h]
      have h2 : es.flatMap edgeText = (es.take k ++ (es[k] :: es.drop (k + 1))).flatMap edgeText := by rw [← hs]
      rw [h2, List.flatMap_append, List.flatMap_cons, List.append_assoc]) hm.1 hm.2
    rw [scEdges_more (by rw [ih]), ih]
    dsimp only
    rw [h1, ← List.take_append_getElem hk', List.flatMap_append, List.append_assoc]
    dsimp only
    rw [List.flatMap_cons, List.flatMap_nil, List.append_nil]
theorem edge_rng9 {g : Graph} (h : graphOk g = true) {e : Edge} (he : e ∈ g.edges) : (0 ≤ e.from' ∧ e.from' ≤ 11) ∧ 0 ≤ e.to ∧ e.to ≤ 11 := by
  obtain ⟨h1, _, h3, _⟩ := graphOk_iff.1 h
  have h4 := h3 e he
  unfold eOk at h4
  rw [Bool.and_eq_true, Bool.and_eq_true, inR_iff, inR_iff] at h4
  omega
theorem readGraph_enc {g : Graph} (h : graphOk g = true) : readGraph (graphText g) = some g := by
  obtain ⟨h1, h2, h3, h4⟩ := graphOk_iff.1 h
  have hb : by' (graphText g) = varT g.size ++ (varT g.edges.length ++ g.edges.flatMap edgeText) := by unfold graphText graphBytes; rw [by_tx]
  have a1 : rgS (graphText g) = (g.size.toNat, ((varT g.size).length, false)) := by
    have h5 := num_enc (t := graphText g) (P := []) (n := g.size) (rest := varT g.edges.length ++ g.edges.flatMap edgeText) (by rw [hb]; rfl) (by omega)
    rw [List.length_nil, Nat.zero_add] at h5
    exact h5
  have a2 : rgC (graphText g) = (g.edges.length, ((varT g.size ++ varT g.edges.length).length, false)) := by
    unfold rgC; rw [a1]
    have h5 := num_enc (t := graphText g) (P := varT g.size) (n := ((g.edges.length : Nat) : Int)) (rest := g.edges.flatMap edgeText) hb (by omega)
    rw [Int.toNat_natCast, ← List.length_append] at h5
    exact h5
  have a3 : rgE (graphText g) g.edges.length = (g.edges, ((graphText g).size, false)) := by
    unfold rgE; rw [a2]
    have h5 := edges_enc (t := graphText g) (P := varT g.size ++ varT g.edges.length) (es := g.edges) (by rw [hb, List.append_assoc]) (fun e he => edge_rng9 h he) g.edges.length (Nat.le_refl _)
    rw [List.take_length] at h5
    show scEdges (graphText g) ((varT g.size ++ varT g.edges.length).length, false) g.edges.length = _
    rw [h5, ← by_size, hb, List.append_assoc]
  have a4 : rgN (graphText g) = g.edges.length := by unfold rgN; rw [a2]; show min g.edges.length 41 = _; omega
  have a5 : rgG (graphText g) g.edges.length = g := by
    unfold rgG; rw [a1, a3]
    obtain ⟨s, es⟩ := g
    dsimp only at h1 ⊢
    rw [Int.toNat_of_nonneg (by omega)]
  rw [rg_yes, a4, a5]
  unfold rgOk; rw [a4, a3, a2, a5, h]; simp
/-! a frame is read -/
theorem unframe_enc {r : ByteArray} (h : frameOk r = true) : unframe (frame r) = ([r], (frame r).size) := by
  have h1 := inR_iff.1 h
  have hb : by' (frame r) = varT (r.size : Nat) ++ (by' (four (sumOf r)) ++ by' r) := by unfold frame; rw [by_app, by_app, List.append_assoc]; unfold varText; rw [by_tx]
  have h2 := readVar_enc (t := frame r) (p := 0) (m := r.size) (rest := by' (four (sumOf r)) ++ by' r) (by rw [List.drop_zero, hb]) (by omega)
  rw [Nat.zero_add] at h2
  have hf : (by' (four (sumOf r))).length = 4 := by rw [by_size, four_size]
  have hs : (frame r).size = (varT (r.size : Nat)).length + 4 + r.size := by rw [← by_size, hb, List.length_append, List.length_append, hf, by_size]; omega
  have hE : frE (frame r) 0 = (frame r).size := by unfold frE; rw [h2, hs]
  have hT : frT (frame r) 0 = r := by
    unfold frT; rw [hE, h2]; dsimp only
    rw [← by_inj, by_extract, hb, ← List.append_assoc, show (varT (r.size : Nat)).length + 4 = (varT (r.size : Nat) ++ by' (four (sumOf r))).length by rw [List.length_append, hf], List.drop_left, List.take_of_length_le]
    rw [by_size, hs, List.length_append, hf]; omega
  have hS : (frame r).extract (readVar (frame r) 0).2.1 ((readVar (frame r) 0).2.1 + 4) = four (sumOf (frT (frame r) 0)) := by
    rw [hT, h2]; dsimp only
    rw [← by_inj, by_extract, hb, List.drop_left, show (varT (r.size : Nat)).length + 4 - (varT (r.size : Nat)).length = (by' (four (sumOf r))).length by rw [hf]; omega, List.take_left]
  have hO : frOk (frame r) 0 = true := frOk_yes (by rw [h2]) (by rw [h2]; dsimp only; omega) (by rw [h2]; dsimp only; omega) (by rw [hE]; exact Nat.le_refl _) hS
  have hK : unfK (frame r) 1 = ([r], (frame r).size) := by
    rw [unfK_more (k := 0) hO]
    show ([] ++ [frT (frame r) 0], frE (frame r) 0) = _
    rw [hT, hE]; rfl
  have hz := frame_size r
  rw [unframe_end (k := 1) (by omega) (by omega) (by rw [hK]; exact frOk_end (Nat.le_refl _)), hK]
/-! a part is read from a fresh disk -/
theorem recs_fresh {g : Graph} (h : graphOk g = true) : recordsOf (freshDisk g) npart = [graphText g] := by
  have hf := frameOk_graph h
  have hz := frame_size (graphText g)
  have hg := graphText_size h
  show recordsOf ⟨[⟨npart, frame (graphText g), ((frame (graphText g)).size : Nat)⟩]⟩ npart = _
  have hd : diskOk ⟨[⟨npart, frame (graphText g), ((frame (graphText g)).size : Nat)⟩]⟩ = true := diskOk_one npart_ok (by show (frame (graphText g)).size ≤ _; omega) (Int.natCast_nonneg _) (Int.le_refl _)
  have ha : at14 ⟨[⟨npart, frame (graphText g), ((frame (graphText g)).size : Nat)⟩]⟩ npart = 0 := at14_one ⟨npart, frame (graphText g), ((frame (graphText g)).size : Nat)⟩
  rw [recordsOf_yes npart hd]
  unfold fileText
  rw [ha, if_neg (by decide)]
  show (unframe (frame (graphText g))).1 = _
  rw [unframe_enc hf]
theorem readPart_fresh {g : Graph} (h : graphOk g = true) : readPart (freshDisk g) = some g := by
  rw [rp_def, show ByteArray.mk #[112, 97, 114, 116] = npart from rfl, recs_fresh h]
  unfold lastG
  rw [List.filterMap_cons, readGraph_enc h]; rfl
/-! the parts together -/
theorem mem_putE {l : List Edge} {e x : Edge} : x ∈ putE l e ↔ x = e ∨ x ∈ l := by
  refine ⟨putE_mem, ?_⟩
  unfold putE
  simp only [List.mem_append, List.mem_filter, List.mem_singleton]
  rintro (rfl | h)
  · exact .inr (.inl rfl)
  cases h1 : edgeLess x e with
  | true => exact .inl ⟨h, rfl⟩
  | false => cases h2 : edgeLess e x with
    | true => exact .inr (.inr ⟨h, rfl⟩)
    | false => exact .inr (.inl (edgeLess_total h1 h2))
theorem mem_putAll : ∀ (l : List Edge) {es : List Edge} {x : Edge}, x ∈ putAll es l ↔ x ∈ es ∨ x ∈ l
  | [], es, x => by simp [putAll]
  | e :: l, es, x => by
    show x ∈ putAll (putE es e) l ↔ _
    rw [mem_putAll l, mem_putE, List.mem_cons]
    constructor
    · rintro ((h | h) | h)
      · exact .inr (.inl h)
      · exact .inl h
      exact .inr (.inr h)
    rintro (h | h | h)
    · exact .inl (.inr h)
    · exact .inl (.inl h)
    exact .inr h
theorem mem_tog : ∀ (l : List Graph) {es : List Edge} {x : Edge}, x ∈ l.foldl (fun es g => putAll es g.edges) es ↔ x ∈ es ∨ ∃ g ∈ l, x ∈ g.edges
  | [], es, x => by simp
  | g :: l, es, x => by
    rw [List.foldl_cons, mem_tog l, mem_putAll]
    constructor
    · rintro ((h | h) | ⟨y, hy, h⟩)
      · exact .inl h
      · exact .inr ⟨g, List.mem_cons_self, h⟩
      exact .inr ⟨y, List.mem_cons_of_mem _ hy, h⟩
    rintro (h | ⟨y, hy, h⟩)
    · exact .inl (.inl h)
    rcases List.mem_cons.1 hy with rfl | hy
    · exact .inl (.inr h)
    exact .inr ⟨y, hy, h⟩
theorem sorted_eq : ∀ {a b : List Edge}, sortedE a → sortedE b → (∀ x, x ∈ a ↔ x ∈ b) → a = b
  | [], [], _, _, _ => rfl
  | [], y :: b, _, _, h => absurd ((h y).2 List.mem_cons_self) (by simp)
  | x :: a, [], _, _, h => absurd ((h x).1 List.mem_cons_self) (by simp)
  | x :: a, y :: b, ha, hb, h => by
    have ha1 := (List.pairwise_cons.1 ha).1
    have hb1 := (List.pairwise_cons.1 hb).1
    have e : x = y := by
      rcases List.mem_cons.1 ((h x).1 List.mem_cons_self) with e | h1
      · exact e
      rcases List.mem_cons.1 ((h y).2 List.mem_cons_self) with e | h2
      · exact e.symm
      have h3 := hb1 x h1
      have h4 := ha1 y h2
      rw [edgeLess_asym h3] at h4; cases h4
    subst e
    congr 1
    refine sorted_eq (List.pairwise_cons.1 ha).2 (List.pairwise_cons.1 hb).2 fun z => ⟨fun hz => ?_, fun hz => ?_⟩
    · rcases List.mem_cons.1 ((h z).1 (List.mem_cons_of_mem _ hz)) with e | h1
      · rw [e] at hz
        have h2 := ha1 x hz
        rw [edgeLess_irr] at h2; cases h2
      exact h1
    rcases List.mem_cons.1 ((h z).2 (List.mem_cons_of_mem _ hz)) with e | h1
    · rw [e] at hz
      have h2 := hb1 x hz
      rw [edgeLess_irr] at h2; cases h2
    exact h1
theorem owner_rng {v n : Int} (h1 : 1 ≤ n) : 0 ≤ ownerOf v n ∧ ownerOf v n < n := by
  unfold ownerOf
  split
  · exact ⟨Int.emod_nonneg _ (by omega), Int.emod_lt_of_pos _ (by omega)⟩
  omega
theorem parts_disks {g : Graph} {n : Int} (h : graphOk g = true) : ∀ k : Nat, partsOf (disksK g n k) = (List.range k).map fun j => partOf g ((j : Nat) : Int) n
  | 0 => rfl
  | k + 1 => by
    have ih := parts_disks (n := n) h k
    have h1 := readPart_fresh (partOf_ok ((k : Nat) : Int) n h)
    rw [disksK, List.range_succ, List.map_append, ← ih]
    unfold partsOf
    rw [List.map_append]
    show _ ++ [rpR (freshDisk (partOf g ((k : Nat) : Int) n))] = _ ++ [partOf g ((k : Nat) : Int) n]
    rw [(rp_some h1).1]
theorem have_disks {g : Graph} {n : Int} (h : graphOk g = true) : ∀ k : Nat, haveAll (disksK g n k) = true
  | 0 => rfl
  | k + 1 => by
    have ih := have_disks (n := n) h k
    have h1 := readPart_fresh (partOf_ok ((k : Nat) : Int) n h)
    unfold haveAll at ih ⊢
    rw [disksK, List.all_append, ih]
    show (true && ((readPart (freshDisk (partOf g ((k : Nat) : Int) n))).isSome && true)) = true
    rw [h1]; rfl
theorem gathered_disks {g : Graph} {n : Int} (hg : graphOk g = true) (h1 : 1 ≤ n) (h8 : n ≤ 8) : gathered (disksOf g n) = some g := by
  have hi : disksIf g n = true := disksIf_iff.2 ⟨hg, h1, h8⟩
  rw [disks_yes hi]
  unfold gathered
  rw [have_disks hg, if_pos rfl, parts_disks hg]
  obtain ⟨g1, g2, g3, g4⟩ := graphOk_iff.1 hg
  obtain ⟨m, hm⟩ : ∃ m : Nat, n.toNat = m + 1 := ⟨n.toNat - 1, by omega⟩
  rw [hm]
  have hne : ((List.range (m + 1)).map fun j : Nat => partOf g ((j : Nat) : Int) n) ≠ [] := by
    rw [List.range_succ, List.map_append]; simp
  have hps : ∀ j : Int, (partOf g j n).size = g.size := fun j => by rw [partOf_yes hg]
  have h0 : ((((List.range (m + 1)).map fun j : Nat => partOf g ((j : Nat) : Int) n)[0]?).getD default).size = g.size := by
    rw [List.getElem?_map, List.getElem?_range (by omega)]
    exact hps _
  have ht : togOk g.size ((List.range (m + 1)).map fun j : Nat => partOf g ((j : Nat) : Int) n) = true := by
    unfold togOk
    rw [List.all_eq_true]
    intro x hx
    obtain ⟨j, _, rfl⟩ := List.mem_map.1 hx
    rw [partOf_ok _ _ hg, hps, decide_eq_true rfl]; rfl
  have hE : togE ((List.range (m + 1)).map fun j : Nat => partOf g ((j : Nat) : Int) n) = g.edges := by
    have h2 := (tog_ok _ (gOk_nil g.size) ht).1
    refine sorted_eq h2.2 g4 fun x => ?_
    unfold togE
    rw [mem_tog]
    constructor
    · rintro (h | ⟨y, hy, h⟩)
      · cases h
      obtain ⟨j, _, rfl⟩ := List.mem_map.1 hy
      rw [partOf_yes hg] at h
      exact (List.mem_filter.1 h).1
    intro hx
    have ho := owner_rng (v := x.from') h1
    refine .inr ⟨_, List.mem_map.2 ⟨(ownerOf x.from' n).toNat, List.mem_range.2 (by omega), rfl⟩, ?_⟩
    rw [partOf_yes hg]
    refine List.mem_filter.2 ⟨hx, ?_⟩
    rw [Int.toNat_of_nonneg ho.1]; simp
  have e := tog_good hne (by rw [h0]; exact ht) (by rw [h0, hE]; exact hg)
  rw [e, h0, hE]
end Go.Proofs.YtjgehblllhkdbaaGreat

namespace Go.Proofs.YtjgehblllhkdbaaGreat
open Go.SX Go.Proofs
set_option linter.unusedSimpArgs false
set_option linter.unusedVariables false
set_option maxHeartbeats 4000000
theorem and255 (x : Int) : ∃ z : Int, IntKind.i64.wrap (BitVec.ofInt IntKind.i64.bits x &&& BitVec.ofInt IntKind.i64.bits 255).toNat = z ∧ 0 ≤ z ∧ z ≤ 255 := by
  have h1 : (BitVec.ofInt IntKind.i64.bits x &&& BitVec.ofInt IntKind.i64.bits 255).toNat ≤ 255 := by
    rw [BitVec.toNat_and]
    exact Nat.and_le_right
  refine ⟨((BitVec.ofInt IntKind.i64.bits x &&& BitVec.ofInt IntKind.i64.bits 255).toNat : Nat), ?_, by omega, by omega⟩
  exact wrap_ok (by unfold okI; omega)
theorem and255b (x : Int) : 0 ≤ IntKind.i64.wrap (BitVec.ofInt IntKind.i64.bits x &&& BitVec.ofInt IntKind.i64.bits 255).toNat ∧ IntKind.i64.wrap (BitVec.ofInt IntKind.i64.bits x &&& BitVec.ofInt IntKind.i64.bits 255).toNat ≤ 255 := by
  obtain ⟨z, h1, h2, h3⟩ := and255 x
  rw [h1]; exact ⟨h2, h3⟩
theorem below4 (x y z w : Int) (hx : 0 ≤ x) (hx' : x ≤ 255) (hy : 0 ≤ y) (hy' : y ≤ 255) (hz : 0 ≤ z) (hz' : z ≤ 255) (hw : 0 ≤ w) (hw' : w ≤ 255) :
    0 ≤ IntKind.i64.wrap (IntKind.i64.wrap (IntKind.i64.wrap (IntKind.i64.wrap (x * 16777216) + IntKind.i64.wrap (y * 65536)) + IntKind.i64.wrap (z * 256)) + w) := by
  have e1 : IntKind.i64.wrap (x * 16777216) = x * 16777216 := wrap_ok (by unfold okI; omega)
  have e2 : IntKind.i64.wrap (y * 65536) = y * 65536 := wrap_ok (by unfold okI; omega)
  have e3 : IntKind.i64.wrap (z * 256) = z * 256 := wrap_ok (by unfold okI; omega)
  rw [e1, e2, e3]
  have e4 : IntKind.i64.wrap (x * 16777216 + y * 65536) = x * 16777216 + y * 65536 := wrap_ok (by unfold okI; omega)
  rw [e4]
  have e5 : IntKind.i64.wrap (x * 16777216 + y * 65536 + z * 256) = x * 16777216 + y * 65536 + z * 256 := wrap_ok (by unfold okI; omega)
  rw [e5]
  rw [wrap_ok (by unfold okI; omega)]
  omega
def curHp (bb : Nat) (b : Option Addr) (m c : Nat) (i h : Int) : Hp := [(bb, Obj.cells ⟨[.slice b m c, .int .i64 i, .int .i64 h]⟩ 314)]
--@ct spec.l01New raw refine call_new (l01New_ct _ _ _ _) %1 ?_ | | rintro _ A# ⟨bb#, h#, rfl, rfl⟩
theorem l01New_ct (b : Option Addr) (m c : Nat) (xs : List UInt8) :
    Ct Tryz.prog 137 [.slice b m c] [] (fun H => (rpSl flByte.rp).rd H [.slice b m c] xs)
      (fun v A => ∃ bb h, v = .pointer (some ⟨bb, 0, none⟩) ∧ A = curHp bb b m c 0 h) := by
  refine Ct.intro0 G_ok Tryz.func137 rfl rfl rfl fun E H hp => ?_
  obtain ⟨rfl, hl⟩ := rd_len hp
  apply loop_mod (α := (Nat) × (Int)) G_ok [8, 9, 10, 11, 12, 13, 14, 15, 18, 19, 20, 21, 22, 23, 24, 25, 26, 27, 3, 16, 17, 4] (fun z => [(4, .v (.int .i64 z.1)), (3, .v (.int .i64 z.2))]) (fun z => []) (fun z => [H]) (fun z => 4000 - z.1) (fun z => z.1 ≤ 4000) ((0, IntKind.i64.wrap (35501 + (xs.length : Int))))
  · repeat' (first | exact trivial | refine ⟨⟨_, rfl, by first | rfl | exact inc_eq _ (by omega) | (refine sl_eq ?_; simp; done), by first | exact trivial | simp [SV.ok]⟩, ?_⟩)
  · exact trivial
  · try dsimp only
    trivial
  · exact .refl _
  rintro ⟨k, h⟩ hI
  obtain hk : k ≤ 4000 := hI
  try dsimp only
  refine VCsplit.intro (fun q0 => ?_) (fun q0 => ?_)
  ·
    simp at q0
    refine VCsplit.intro (fun q1 => ?_) (fun q1 => ?_)
    ·
      simp at q1
      refine idx_rd hp ?_ ?_ fun b2 o2 hb2 => ?_
      · omega
      · omega
      refine load_allN 0 (k) rfl hp ?_ ?_ hb2 rfl (mem_at 0 rfl) fun l3 hl3 => ?_
      · omega
      · omega
      obtain ⟨rfl, hw3⟩ := hl3
      apply loop_stepA (k + 1, _)
      · exact .refl _
      · repeat' (first | exact trivial | refine ⟨⟨_, rfl, by first | rfl | exact inc_eq _ (by omega) | (refine sl_eq ?_; simp; done), by first | exact trivial | simp [SV.ok]⟩, ?_⟩)
      · exact trivial
      · try dsimp only
        omega
      try dsimp only
      omega
    ·
      simp at q1
      refine VCnew.intro fun x4 => ?_
      exact ⟨_, ⟨_, _, rfl, rfl⟩, .refl _⟩
  ·
    simp at q0
    refine VCnew.intro fun x5 => ?_
    exact ⟨_, ⟨_, _, rfl, rfl⟩, .refl _⟩
--@ct spec.l01Byte raw refine callR_at @1 rfl (l01Byte_ct _ _ _ _ _ _ _ (by omega) (by omega) (by omega)) %byte ?_ | | rintro _ A# ⟨dx#, ci#, ch#, rfl, hd#, he#, hi#, hj#, rfl⟩
theorem l01Byte_ct (bb : Nat) (b : Option Addr) (m c : Nat) (xs : List UInt8) (i h : Int) (h0 : 0 ≤ i) (h1 : i ≤ m) (h2 : m ≤ 9223372036854775807) :
    CtR Tryz.prog 138 [.pointer (some ⟨bb, 0, none⟩)] (curHp bb b m c i h) (fun H => (rpSl flByte.rp).rd H [.slice b m c] xs)
      (fun v A => ∃ x i' h' : Int, v = .int .i64 x ∧ 0 ≤ x ∧ x ≤ 255 ∧ 0 ≤ i' ∧ i' ≤ m ∧ A = curHp bb b m c i' h') := by
  refine CtR.introB G_ok [.p 0 0] [⟨bb, [.slice b m c, .int .i64 i, .int .i64 h], 314⟩] [] Tryz.func138 rfl rfl rfl rfl (by simp [SV.ok]) (by simp [curHp, Blk.ent]) fun E H hp => ?_
  obtain ⟨rfl, hl⟩ := rd_len hp
  refine draw G_ok mixed none (.q 0 (.q 1 (.q 2 (.q 3 (.q 4 (.q 5 (.q 6 (.q 7 (.q 8 (.q 9 (.q 10 (.q 11 (.q 12 (.nil)))))))))))))) (by decide +kernel) ?_
  refine VC.intro ?_ ?_
  · trivial
  refine VC.intro ?_ ?_
  · trivial
  refine draw G_ok mixed none (.q 0 (.q 1 (.q 2 (.q 3 (.q 4 (.q 5 (.q 6 (.q 7 (.q 8 (.q 9 (.nil))))))))))) (by decide +kernel) ?_
  refine VCsplit.intro (fun q0 => ?_) (fun q0 => ?_)
  ·
    simp at q0
    refine draw G_ok mixed none (.q 0 (.q 1 (.q 2 (.q 3 (.q 4 (.q 5 (.q 6 (.q 7 (.q 8 (.q 9 (.q 10 (.q 11 (.q 12 (.q 13 (.q 14 (.nil)))))))))))))))) (by decide +kernel) ?_
    refine idx_rd hp ?_ ?_ fun b1 o1 hb1 => ?_
    · trivial
    · trivial
    refine load_all 0 hp ?_ ?_ hb1 rfl (mem_at 0 rfl) fun l2 hl2 => ?_
    · trivial
    · trivial
    obtain ⟨rfl, hw2⟩ := hl2
    exact ⟨_, ⟨_, _, _, rfl, (and255b _).1, (and255b _).2, by rw [wrap_ok (by unfold okI; omega)]; omega, by rw [wrap_ok (by unfold okI; omega)]; omega, rfl⟩, .refl _⟩
  ·
    simp at q0
    exact ⟨_, ⟨_, _, _, rfl, (and255b _).1, (and255b _).2, h0, h1, rfl⟩, .refl _⟩
--@ct spec.l01Below raw refine callR_at @1 rfl (l01Below_ct _ _ _ _ _ _ _ _ (by omega) (by omega) (by omega)) %byte ?_ | | rintro _ A# ⟨dx#, ci#, ch#, rfl, hd#, he#, hi#, hj#, rfl⟩
theorem l01Below_ct (bb : Nat) (b : Option Addr) (m c : Nat) (xs : List UInt8) (i h : Int) (n : Int) (h0 : 0 ≤ i) (h1 : i ≤ m) (h2 : m ≤ 9223372036854775807) :
    CtR Tryz.prog 139 [.pointer (some ⟨bb, 0, none⟩), .int .i64 n] (curHp bb b m c i h) (fun H => (rpSl flByte.rp).rd H [.slice b m c] xs)
      (fun v A => ∃ x i' h' : Int, v = .int .i64 x ∧ 0 ≤ x ∧ (x = 0 ∨ x < n) ∧ 0 ≤ i' ∧ i' ≤ m ∧ A = curHp bb b m c i' h') := by
  refine CtR.intro G_ok [curHp bb b m c i h] Tryz.func139 rfl rfl rfl (by simp) fun E H hp => ?_
  refine VCsplit.intro (fun q0 => ?_) (fun q0 => ?_)
  ·
    simp at q0
    exact ⟨_, ⟨0, i, h, rfl, by omega, by omega, h0, h1, rfl⟩, .refl _⟩
  ·
    simp at q0
    refine VCsplit.intro (fun q1 => ?_) (fun q1 => ?_)
    ·
      simp at q1
      refine callR_at 0 rfl (l01Byte_ct _ _ _ _ _ _ _ (by omega) (by omega) (by omega)) (Rp.mono _ (mem_at 1 rfl) hp) ?_
      rintro _ A2 ⟨dx2, ci2, ch2, rfl, hd2, he2, hi2, hj2, rfl⟩
      refine VC.intro ?_ ?_
      · omega
      exact ⟨_, ⟨_, _, _, rfl, Int.tmod_nonneg _ (by omega), .inr (Int.tmod_lt_of_pos _ (by omega)), by omega, by omega, rfl⟩, .refl _⟩
    ·
      simp at q1
      refine callR_at 0 rfl (l01Byte_ct _ _ _ _ _ _ _ (by omega) (by omega) (by omega)) (Rp.mono _ (mem_at 1 rfl) hp) ?_
      rintro _ A3 ⟨dx3, ci3, ch3, rfl, hd3, he3, hi3, hj3, rfl⟩
      refine callR_at 0 rfl (l01Byte_ct _ _ _ _ _ _ _ (by omega) (by omega) (by omega)) (Rp.mono _ (mem_at 1 rfl) hp) ?_
      rintro _ A4 ⟨dx4, ci4, ch4, rfl, hd4, he4, hi4, hj4, rfl⟩
      refine callR_at 0 rfl (l01Byte_ct _ _ _ _ _ _ _ (by omega) (by omega) (by omega)) (Rp.mono _ (mem_at 1 rfl) hp) ?_
      rintro _ A5 ⟨dx5, ci5, ch5, rfl, hd5, he5, hi5, hj5, rfl⟩
      refine callR_at 0 rfl (l01Byte_ct _ _ _ _ _ _ _ (by omega) (by omega) (by omega)) (Rp.mono _ (mem_at 1 rfl) hp) ?_
      rintro _ A6 ⟨dx6, ci6, ch6, rfl, hd6, he6, hi6, hj6, rfl⟩
      refine VC.intro ?_ ?_
      · omega
      exact ⟨_, ⟨_, _, _, rfl, Int.tmod_nonneg _ (below4 _ _ _ _ (by omega) (by omega) (by omega) (by omega) (by omega) (by omega) (by omega) (by omega)), .inr (Int.tmod_lt_of_pos _ (by omega)), by omega, by omega, rfl⟩, .refl _⟩
--@ct spec.DrawPlaces new DrawPlaces_ct _ _ _ _ | %1 | obtain ⟨ps#, pb#, pc#, rfl, ⟨hpl#, hps#⟩, op#⟩ := o#
theorem DrawPlaces_ct (b : Option Addr) (m c : Nat) (xs : List UInt8) :
    Ct Tryz.prog 50 [.slice b m c] [] (fun H => (rpSl flByte.rp).rd H [.slice b m c] xs)
      (fun v A => ∃ (ps : List Int) (b' : Option Addr) (c' : Nat), v = .slice b' ps.length c' ∧ (ps.length = 12 ∧ ∀ x ∈ ps, 0 ≤ x ∧ x < 10000) ∧ (gSl 3 gI).ow [.slice b' ps.length c'] ps A) := by
  refine Ct.intro0 G_ok Tryz.func50 rfl rfl rfl fun E H hp => ?_
  obtain ⟨rfl, hl⟩ := rd_len hp
  refine call_new (l01New_ct _ _ _ _) (Rp.mono _ (mem_at 0 rfl) hp) ?_
  rintro _ A0 ⟨bb0, h0, rfl, rfl⟩
  refine callR_at 0 rfl (l01Byte_ct _ _ _ _ _ _ _ (by omega) (by omega) (by omega)) (Rp.mono _ (mem_at 1 rfl) hp) ?_
  rintro _ A1 ⟨dx1, ci1, ch1, rfl, hd1, he1, hi1, hj1, rfl⟩
  refine VCnew.intro fun x2 => ?_
  apply loop_mod (α := (Nat) × (List Int) × (Option Addr) × (Nat) × (Hp) × (Int) × (Int)) G_ok [11, 12, 15, 16, 17, 18, 19, 4, 13, 14, 5] (fun z => [(5, .v (.int .i64 z.1)), (4, .v (.slice z.2.2.1 z.2.1.length z.2.2.2.1))]) (fun z => []) (fun z => [z.2.2.2.2.1, curHp bb0 b xs.length c z.2.2.2.2.2.1 z.2.2.2.2.2.2, H]) (fun z => 12 - z.1) (fun z => (z.1 ≤ 12 ∧ 0 ≤ z.2.2.2.2.2.1 ∧ z.2.2.2.2.2.1 ≤ xs.length) ∧ (∀ x ∈ z.2.1, 0 ≤ x ∧ x < 10000) ∧ z.2.1.length = z.1 ∧ (gSl 3 gI).ow [.slice z.2.2.1 z.2.1.length z.2.2.2.1] z.2.1 z.2.2.2.2.1) ((0, [], some ⟨x2, 0, none⟩, 0, [], ci1, ch1))
  · repeat' (first | exact trivial | refine ⟨⟨_, rfl, by first | rfl | exact inc_eq _ (by omega) | (refine sl_eq ?_; simp; done), by first | exact trivial | simp [SV.ok]⟩, ?_⟩)
  · exact trivial
  · try dsimp only
    exact ⟨by omega, by simp, rfl, sl_nil _ _ _⟩
  · exact .tl
  rintro ⟨k, ps, sb, sc, A, ci, ch⟩ hI
  obtain ⟨⟨hk, hc0, hc1⟩, hps, hlen, oA⟩ : (k ≤ 12 ∧ 0 ≤ ci ∧ ci ≤ xs.length) ∧ (∀ x ∈ ps, 0 ≤ x ∧ x < 10000) ∧ ps.length = k ∧ (gSl 3 gI).ow [.slice sb ps.length sc] ps A := hI
  try dsimp only
  refine VCsplit.intro (fun q3 => ?_) (fun q3 => ?_)
  ·
    simp at q3
    refine callR_at 1 rfl (l01Below_ct _ _ _ _ _ _ _ _ (by omega) (by omega) (by omega)) (Rp.mono _ (mem_at 2 rfl) hp) ?_
    rintro _ A4 ⟨dx4, ci4, ch4, rfl, hd4, he4, hi4, hj4, rfl⟩
    refine VCnew.intro fun x5 => ?_
    refine gappend1 (g := gI) (T := (3 : TypeId)) G_ok A [] [curHp bb0 b xs.length c ci4 ch4, H] ?_ oA (gI_ow ?_) (List.mem_of_getElem? (i := 0) rfl) rfl rfl rfl rfl rfl rfl rfl rfl ?_ fun b6 c6 A6 o6 => ?_
    · exact .tl
    · unfold okI; omega
    · omega
    apply loop_stepA (k + 1, ps ++ [_], _, _, _, _, _)
    · exact .refl _
    · repeat' (first | exact trivial | refine ⟨⟨_, rfl, by first | rfl | exact inc_eq _ (by omega) | (refine sl_eq ?_; simp; done), by first | exact trivial | simp [SV.ok]⟩, ?_⟩)
    · exact trivial
    · try dsimp only
      exact ⟨by omega, by grind, by simp; omega, by assumption⟩
    try dsimp only
    omega
  ·
    simp at q3
    exact ⟨A, ⟨ps, sb, sc, rfl, ⟨by omega, hps⟩, oA⟩, .le fun a => by simp⟩
end Go.Proofs.YtjgehblllhkdbaaGreat

namespace Go.Proofs.YtjgehblllhkdbaaGreat
open Go.SX Go.Proofs
set_option linter.unusedSimpArgs false
set_option linter.unusedVariables false
set_option maxHeartbeats 4000000
attribute [local irreducible] IntKind.wrap
theorem graphOk_add {g : Graph} (e : Edge) (h : graphOk g = true) : graphOk (addG g e) = true := by
  cases h1 : graphOk (putG g e) with
  | true => rw [addG_yes h1]; exact h1
  | false => rw [addG_no h1]; exact h
theorem graphOk_none {n : Int} (h : 1 ≤ n ∧ n ≤ 12) : graphOk ⟨n, []⟩ = true := graphOk_iff.2 ⟨h, by simp, gOk_nil n⟩
--@ct spec.l04Copy new l04CopyG_ct _ $1 ?_ | %1 | obtain ⟨b#, c#, rfl, o#⟩ := o#
theorem l04CopyG_ct (l : List Value) (g : Graph) (hx : g.edges.length ≤ 1000000) :
    Ct Tryz.prog 306 [.agg ⟨l⟩] [] (fun H => gGraph.rd H l g) (fun v A => ∃ b c, v = .agg ⟨[.int .i64 g.size, .slice b g.edges.length c]⟩ ∧ (gSl 209 gEdge).ow [.slice b g.edges.length c] g.edges A) := by
  refine Ct.intro0 G_ok Tryz.func306 rfl rfl rfl fun E H hp => ?_
  obtain ⟨b1p, c1p, rfl, w0p, h1p⟩ := gGraph_rd.1 hp
  refine VCnew.intro fun x0 => ?_
  refine VCnew.intro fun x1 => ?_
  refine draw G_ok mixed (some 7) (.q 0 (.q 1 (.q 3 (.q 4 (.f 2 (.f 5 (.q 6 (.tl 7 (.nil))))))))) (by decide +kernel) ?_
  refine VCnew.intro fun x2 => ?_
  refine VC.intro ?_ ?_
  · exact keep_new
  refine append_allN (g := gEdge) (T := (209 : TypeId)) G_ok (by repeat (first | exact fl_plain | apply plain_iso | apply plain_pair)) [] [[(x2, Obj.cells { toList := zeros (0 : Nat) [Value.int IntKind.i64 (0 : Int), Value.int IntKind.u8 (0 : Int), Value.int IntKind.i64 (0 : Int)] } (209 : TypeId))], H] 1 ?_ (sl_nil _ _ _) rfl h1p rfl rfl rfl rfl rfl rfl rfl rfl ?_ fun b3 c3 A3 o3 => ?_
  · exact .refl _
  · simp; omega
  refine VC.intro ?_ ?_
  · exact keep_sub (by simp) (by simp)
  exact ⟨_, ⟨_, _, rfl, by assumption⟩, (.le fun a => by (try simp only [setR, List.cons_append, List.nil_append]); simp [List.count_cons, Blk.ent, idOf]; try omega)⟩
--@ct spec.GraphAdd new specGraphAdd_ct _ _ $1 $2 ?_ | ⟨%1, %2⟩ | obtain ⟨b#, c#, rfl, o#⟩ := o#
theorem specGraphAdd_ct (l l2 : List Value) (g : Graph) (e : Edge) (hg : graphOk g = true) :
    Ct Tryz.prog 236 [.agg ⟨l⟩, .agg ⟨l2⟩] [] (fun H => gGraph.rd H l g ∧ gEdge.rd H l2 e) (fun v A => ∃ b c, v = .tuple #[.agg ⟨[.int .i64 (addG g e).size, .slice b (addG g e).edges.length c]⟩, .bool (graphOk (putG g e))] ∧ (gSl 209 gEdge).ow [.slice b (addG g e).edges.length c] (addG g e).edges A) := by
  refine Ct.intro0 G_ok Tryz.func236 rfl rfl rfl fun E H hp => ?_
  obtain ⟨hp, hp2⟩ := hp
  obtain ⟨b1p, c1p, rfl, w0p, h1p⟩ := gGraph_rd.1 hp
  obtain ⟨rfl, w0f, w2f⟩ := gEdge_rd.1 hp2
  have hr := graphOk_rng hg
  have hpost : ∀ (b : Option Addr) (c : Nat) (A : Hp), (gSl 209 gEdge).ow [.slice b (putE g.edges e).length c] (putE g.edges e) A → gGraph.rd A [.int .i64 g.size, .slice b (putE g.edges e).length c] (putG g e) := fun b c A h => gGraph_rd.2 ⟨b, c, rfl, w0p, Gt.owrd _ h⟩
  refine VCnew.intro fun x0 => ?_
  refine VCnew.intro fun x1 => ?_
  refine VCnew.intro fun x2 => ?_
  refine draw G_ok mixed (some 8) (.q 0 (.q 1 (.q 2 (.q 3 (.q 4 (.hd (.alt 5 (.q 6 (.f 7 (.tl 8 (.nil)))) (.alt 7 (.f 5 (.q 6 (.tl 8 (.nil)))) (.nil))))))))) (by decide +kernel) ?_
  refine VC.intro ?_ ?_
  ·
    refine call_new (l04Put_ct _ _ _ _ (g.edges) (e) ?_) ⟨(Rp.mono _ (mem_at 0 rfl) h1p), (Rp.mono _ (mem_at 0 rfl) hp2)⟩ ?_
    · omega
    rintro v3 A3 o3
    obtain ⟨b3, c3, rfl, o3⟩ := o3
    refine VC.intro ?_ ?_
    · exact keep_new
    refine VCnew.intro fun x4 => ?_
    refine VC.intro ?_ ?_
    · exact keep_sub (by simp) (by simp)
    refine call_val (specGraphOk_ct _ _) (by (try exact Rp.mono _ (mem_at 0 rfl) hp); (try exact Rp.mono _ (mem_at 1 rfl) hp); (try exact Rp.mono _ (mem_at 0 rfl) (hpost _ _ _ (by assumption))); (try exact Rp.mono _ (mem_at 1 rfl) (hpost _ _ _ (by assumption)))) ?_
    rintro _ rfl
    refine VCsplit.intro (fun q6 => ?_) (fun q6 => ?_)
    ·
      simp at q6
      exact absurd (hg.symm.trans q6) (by decide)
    ·
      simp at q6
      refine call_val (specGraphOk_ct _ _) (by (try exact Rp.mono _ (mem_at 0 rfl) hp); (try exact Rp.mono _ (mem_at 1 rfl) hp); (try exact Rp.mono _ (mem_at 0 rfl) (hpost _ _ _ (by assumption))); (try exact Rp.mono _ (mem_at 1 rfl) (hpost _ _ _ (by assumption)))) ?_
      rintro _ rfl
      refine VCsplit.intro (fun q8 => ?_) (fun q8 => ?_)
      ·
        simp at q8
        refine call_new (l04CopyG_ct _ (g) ?_) (Rp.mono _ (mem_at 1 rfl) hp) ?_
        · omega
        rintro v9 A9 o9
        obtain ⟨b9, c9, rfl, o9⟩ := o9
        (have e2 : graphOk (putG g e) = false := (by assumption); rw [addG_no e2, e2]; exact ⟨_, ⟨_, _, rfl, by assumption⟩, (.le fun a => by (try simp only [setR, List.cons_append, List.nil_append]); simp [List.count_cons, Blk.ent, idOf]; try omega)⟩)
      ·
        simp at q8
        (have e2 : graphOk (putG g e) = true := (by assumption); rw [addG_yes e2, e2]; exact ⟨_, ⟨_, _, rfl, by assumption⟩, (.le fun a => by (try simp only [setR, List.cons_append, List.nil_append]); simp [List.count_cons, Blk.ent, idOf]; try omega)⟩)
  ·
    refine VC.intro ?_ ?_
    ·
      refine VCnew.intro fun x10 => ?_
      refine VC.intro ?_ ?_
      · exact keep_sub (by simp) (by simp)
      refine call_new (l04Put_ct _ _ _ _ (g.edges) (e) ?_) ⟨(Rp.mono _ (mem_at 0 rfl) h1p), (Rp.mono _ (mem_at 0 rfl) hp2)⟩ ?_
      · omega
      rintro v11 A11 o11
      obtain ⟨b11, c11, rfl, o11⟩ := o11
      refine VC.intro ?_ ?_
      · exact keep_sub (by simp) (by simp)
      refine call_val (specGraphOk_ct _ _) (by (try exact Rp.mono _ (mem_at 0 rfl) hp); (try exact Rp.mono _ (mem_at 1 rfl) hp); (try exact Rp.mono _ (mem_at 0 rfl) (hpost _ _ _ (by assumption))); (try exact Rp.mono _ (mem_at 1 rfl) (hpost _ _ _ (by assumption)))) ?_
      rintro _ rfl
      refine VCsplit.intro (fun q13 => ?_) (fun q13 => ?_)
      ·
        simp at q13
        exact absurd (hg.symm.trans q13) (by decide)
      ·
        simp at q13
        refine call_val (specGraphOk_ct _ _) (by (try exact Rp.mono _ (mem_at 0 rfl) hp); (try exact Rp.mono _ (mem_at 1 rfl) hp); (try exact Rp.mono _ (mem_at 0 rfl) (hpost _ _ _ (by assumption))); (try exact Rp.mono _ (mem_at 1 rfl) (hpost _ _ _ (by assumption)))) ?_
        rintro _ rfl
        refine VCsplit.intro (fun q15 => ?_) (fun q15 => ?_)
        ·
          simp at q15
          refine call_new (l04CopyG_ct _ (g) ?_) (Rp.mono _ (mem_at 1 rfl) hp) ?_
          · omega
          rintro v16 A16 o16
          obtain ⟨b16, c16, rfl, o16⟩ := o16
          (have e2 : graphOk (putG g e) = false := (by assumption); rw [addG_no e2, e2]; exact ⟨_, ⟨_, _, rfl, by assumption⟩, (.le fun a => by (try simp only [setR, List.cons_append, List.nil_append]); simp [List.count_cons, Blk.ent, idOf]; try omega)⟩)
        ·
          simp at q15
          (have e2 : graphOk (putG g e) = true := (by assumption); rw [addG_yes e2, e2]; exact ⟨_, ⟨_, _, rfl, by assumption⟩, (.le fun a => by (try simp only [setR, List.cons_append, List.nil_append]); simp [List.count_cons, Blk.ent, idOf]; try omega)⟩)
    ·
      exact trivial
theorem edge_drawn {n x y z : Int} (hn : 1 ≤ n ∧ n ≤ 12) (h1 : 0 ≤ x) (h2 : x = 0 ∨ x < n) (h3 : 0 ≤ z) (h4 : z = 0 ∨ z < n) (h5 : 0 ≤ y) (h6 : y = 0 ∨ y < 3) : eOk n ⟨x, UInt8.ofNat (97 + y.toNat), z⟩ = true := by
  have hy : y.toNat ≤ 2 := by omega
  have hl : (UInt8.ofNat (97 + y.toNat)).toNat = 97 + y.toNat := by rw [UInt8.toNat_ofNat']; omega
  unfold eOk
  rw [Bool.and_eq_true, Bool.and_eq_true, inR_iff, inR_iff]
  refine ⟨by dsimp only; omega, by dsimp only; omega, ?_⟩
  unfold labelOk
  dsimp only
  rw [hl]; simp; omega
theorem label_drawn {y : Int} (h5 : 0 ≤ y) (h6 : y = 0 ∨ y < 3) : IntKind.u8.wrap (IntKind.i64.wrap (97 + y)) = ((UInt8.ofNat (97 + y.toNat)).toNat : Nat) := by
  have hl : (UInt8.ofNat (97 + y.toNat)).toNat = 97 + y.toNat := by rw [UInt8.toNat_ofNat']; omega
  rw [hl, wrap_of (x := 97 + y) (by omega) (by omega), u8_wrap]; omega
theorem edge_rd9 {n : Int} {e : Edge} {H : Hp} (hn : 1 ≤ n ∧ n ≤ 12) (h : eOk n e = true) : gEdge.rd H [.int .i64 e.from', .int .u8 e.label.toNat, .int .i64 e.to] e := by
  unfold eOk at h
  rw [Bool.and_eq_true, Bool.and_eq_true, inR_iff, inR_iff] at h
  exact gEdge_rd.2 ⟨rfl, by unfold okI; omega, by unfold okI; omega⟩
--@ct spec.l04Edge raw refine callR_at @1 rfl (l04Edge_ct _ _ _ _ _ _ _ _ (by omega) (by omega) (by omega) (by omega)) %byte ?_ | | rintro _ A# ⟨ee#, ci#, ch#, rfl, ⟨he#, re#⟩, hi#, hj#, rfl⟩
theorem l04Edge_ct (bb : Nat) (b : Option Addr) (m c : Nat) (xs : List UInt8) (i h : Int) (n : Int) (h0 : 0 ≤ i) (h1 : i ≤ m) (h2 : m ≤ 9223372036854775807) (hn : 1 ≤ n ∧ n ≤ 12) :
    CtR Tryz.prog 237 [.pointer (some ⟨bb, 0, none⟩), .int .i64 n] (curHp bb b m c i h) (fun H => (rpSl flByte.rp).rd H [.slice b m c] xs)
      (fun v A => ∃ (e : Edge) (i' h' : Int), v = .agg ⟨[.int .i64 e.from', .int .u8 e.label.toNat, .int .i64 e.to]⟩ ∧ (eOk n e = true ∧ gEdge.rd [] [.int .i64 e.from', .int .u8 e.label.toNat, .int .i64 e.to] e) ∧ 0 ≤ i' ∧ i' ≤ m ∧ A = curHp bb b m c i' h') := by
  refine CtR.intro G_ok [curHp bb b m c i h] Tryz.func237 rfl rfl rfl (by simp) fun E H hp => ?_
  refine VCnew.intro fun x0 => ?_
  refine callR_at 0 rfl (l01Below_ct _ _ _ _ _ _ _ _ (by omega) (by omega) (by omega)) (Rp.mono _ (mem_at 1 rfl) hp) ?_
  rintro _ A1 ⟨dx1, ci1, ch1, rfl, hd1, he1, hi1, hj1, rfl⟩
  refine callR_at 0 rfl (l01Below_ct _ _ _ _ _ _ _ _ (by omega) (by omega) (by omega)) (Rp.mono _ (mem_at 1 rfl) hp) ?_
  rintro _ A2 ⟨dx2, ci2, ch2, rfl, hd2, he2, hi2, hj2, rfl⟩
  refine callR_at 0 rfl (l01Below_ct _ _ _ _ _ _ _ _ (by omega) (by omega) (by omega)) (Rp.mono _ (mem_at 1 rfl) hp) ?_
  rintro _ A3 ⟨dx3, ci3, ch3, rfl, hd3, he3, hi3, hj3, rfl⟩
  exact ⟨_, ⟨⟨dx1, UInt8.ofNat (97 + dx2.toNat), dx3⟩, _, _, by rw [label_drawn (by assumption) (by assumption)], ⟨edge_drawn hn (by assumption) (by assumption) (by assumption) (by assumption) (by assumption) (by assumption), edge_rd9 hn (edge_drawn hn (by assumption) (by assumption) (by assumption) (by assumption) (by assumption) (by assumption))⟩, by assumption, by assumption, rfl⟩, rle_pick [0] 1 rfl rfl (by decide)⟩
--@ct spec.l04Graph part1 l04Graph_ct _ _ _ _ _ _ _ (by omega) (by omega) (by omega) | %byte | rintro _ A# ⟨gg#, gb#, gc#, ci#, ch#, T#, rfl, hg#, hi#, hj#, hP#, ot#⟩ ;; refine ⟨[curHp _ _ _ _ ci# ch#, T#], by simpa using hP#, ?_⟩ ;; have wg# := graph_ow (graphOk_okI hg#) ot#
theorem graphOk_okI {g : Graph} (h : graphOk g = true) : okI g.size := by have := graphOk_rng h; unfold okI; omega
theorem l04Graph_ct (bb : Nat) (b : Option Addr) (m c : Nat) (xs : List UInt8) (i h : Int) (h0 : 0 ≤ i) (h1 : i ≤ m) (h2 : m ≤ 9223372036854775807) :
    CtR Tryz.prog 136 [.pointer (some ⟨bb, 0, none⟩)] (curHp bb b m c i h) (fun H => (rpSl flByte.rp).rd H [.slice b m c] xs)
      (fun v A => ∃ (g : Graph) (gb : Option Addr) (gc : Nat) (i' h' : Int) (T : Hp), v = .agg ⟨[.int .i64 g.size, .slice gb g.edges.length gc]⟩ ∧ graphOk g = true ∧ 0 ≤ i' ∧ i' ≤ m ∧ A.Perm (curHp bb b m c i' h' ++ T) ∧ (gSl 209 gEdge).ow [.slice gb g.edges.length gc] g.edges T) := by
  refine CtR.intro G_ok [curHp bb b m c i h] Tryz.func136 rfl rfl rfl (by simp) fun E H hp => ?_
  obtain ⟨rfl, hl⟩ := rd_len hp
  refine VCnew.intro fun x0 => ?_
  refine callR_at 0 rfl (l01Below_ct _ _ _ _ _ _ _ _ (by omega) (by omega) (by omega)) (Rp.mono _ (mem_at 1 rfl) hp) ?_
  rintro _ A1 ⟨dx1, ci1, ch1, rfl, hd1, he1, hi1, hj1, rfl⟩
  refine VCnew.intro fun x2 => ?_
  apply loop_mod (α := (Nat) × (Graph) × (Hp) × (Option Addr) × (Nat) × (Int) × (Int)) G_ok [9, 10, 11, 12, 13, 17, 18, 19, 20, 21, 22, 16, 23, 24, 14, 15, 4] (fun z => [(4, .v (.int .i64 z.1))]) (fun z => [⟨x0, [Value.int IntKind.i64 (0 : Int), Value.slice none (0 : Nat) (0 : Nat)], (88 : Nat)⟩, ⟨x2, [.int .i64 z.2.1.size, .slice z.2.2.2.1 z.2.1.edges.length z.2.2.2.2.1], (88 : Nat)⟩]) (fun z => [z.2.2.1, curHp bb b xs.length c z.2.2.2.2.2.1 z.2.2.2.2.2.2, H]) (fun z => 11 - z.1) (fun z => (z.1 ≤ 11 ∧ 0 ≤ z.2.2.2.2.2.1 ∧ z.2.2.2.2.2.1 ≤ xs.length) ∧ graphOk z.2.1 = true ∧ (gSl 209 gEdge).ow [.slice z.2.2.2.1 z.2.1.edges.length z.2.2.2.2.1] z.2.1.edges z.2.2.1) ((0, ⟨IntKind.i64.wrap (2 + dx1), []⟩, [], none, 0, ci1, ch1))
  · repeat' (first | exact trivial | refine ⟨⟨_, rfl, by first | rfl | exact inc_eq _ (by omega) | (refine sl_eq ?_; simp; done), by first | exact trivial | simp [SV.ok]⟩, ?_⟩)
  · exact ⟨rfl, rfl, trivial⟩
  · try dsimp only
    exact ⟨⟨by omega, by omega, by omega⟩, graphOk_none (by rw [wrap_of (x := 2 + dx1) (by omega) (by omega)]; omega), sl_nil _ _ _⟩
  · exact .refl _
  rintro ⟨k, g, T, gb, gc, ci, ch⟩ hI
  obtain ⟨⟨hk, hc0, hc1⟩, hg, oT⟩ : (k ≤ 11 ∧ 0 ≤ ci ∧ ci ≤ xs.length) ∧ graphOk g = true ∧ (gSl 209 gEdge).ow [.slice gb g.edges.length gc] g.edges T := hI
  try dsimp only
  refine callR_at 1 rfl (l01Below_ct _ _ _ _ _ _ _ _ (by omega) (by omega) (by omega)) (Rp.mono _ (mem_at 2 rfl) hp) ?_
  rintro _ A3 ⟨dx3, ci3, ch3, rfl, hd3, he3, hi3, hj3, rfl⟩
  refine VCsplit.intro (fun q4 => ?_) (fun q4 => ?_)
  ·
    simp at q4
    simp (disch := omega) only [wrap_of] at q4
    have wg := Gt.owrd _ (graph_ow (graphOk_okI hg) oT)
    have hr := graphOk_rng hg
    refine draw G_ok mixed none (.q 1 (.q 2 (.hd (.alt 0 (.f 3 (.f 4 (.f 5 (.q 6 (.q 7 (.q 8 (.f 9 (.nil)))))))) (.alt 3 (.hd (.alt 0 (.f 4 (.f 5 (.q 6 (.q 7 (.q 8 (.f 9 (.nil))))))) (.alt 4 (.f 0 (.f 5 (.q 6 (.q 7 (.q 8 (.f 9 (.nil))))))) (.nil)))) (.nil)))))) (by decide +kernel) ?_
    refine VC.intro ?_ ?_
    ·
      refine callR_at 1 rfl (l04Edge_ct _ _ _ _ _ _ _ _ (by omega) (by omega) (by omega) (by omega)) (Rp.mono _ (mem_at 2 rfl) hp) ?_
      rintro _ A5 ⟨ee5, ci5, ch5, rfl, ⟨he5, re5⟩, hi5, hj5, rfl⟩
      refine call_new (specGraphAdd_ct _ _ g _ hg) ⟨(Rp.mono _ (mem_at 0 rfl) wg), edge_rd9 (n := g.size) ⟨by omega, by omega⟩ (by assumption)⟩ ?_
      rintro v6 A6 o6
      obtain ⟨b6, c6, rfl, o6⟩ := o6
      apply loop_stepA (k + 1, addG g _, _, _, _, _, _)
      · exact .sub (by repeat (first | exact .slnil | apply List.Sublist.cons_cons | apply List.Sublist.cons))
      · repeat' (first | exact trivial | refine ⟨⟨_, rfl, by first | rfl | exact inc_eq _ (by omega) | (refine sl_eq ?_; simp; done), by first | exact trivial | simp [SV.ok]⟩, ?_⟩)
      · exact ⟨rfl, rfl, trivial⟩
      · try dsimp only
        exact ⟨⟨by omega, by omega, by omega⟩, graphOk_add _ hg, by assumption⟩
      try dsimp only
      omega
    ·
      refine VC.intro ?_ ?_
      ·
        refine VC.intro ?_ ?_
        ·
          refine callR_at 1 rfl (l04Edge_ct _ _ _ _ _ _ _ _ (by omega) (by omega) (by omega) (by omega)) (Rp.mono _ (mem_at 2 rfl) hp) ?_
          rintro _ A7 ⟨ee7, ci7, ch7, rfl, ⟨he7, re7⟩, hi7, hj7, rfl⟩
          refine call_new (specGraphAdd_ct _ _ g _ hg) ⟨(Rp.mono _ (mem_at 0 rfl) wg), edge_rd9 (n := g.size) ⟨by omega, by omega⟩ (by assumption)⟩ ?_
          rintro v8 A8 o8
          obtain ⟨b8, c8, rfl, o8⟩ := o8
          apply loop_stepA (k + 1, addG g _, _, _, _, _, _)
          · exact .sub (by repeat (first | exact .slnil | apply List.Sublist.cons_cons | apply List.Sublist.cons))
          · repeat' (first | exact trivial | refine ⟨⟨_, rfl, by first | rfl | exact inc_eq _ (by omega) | (refine sl_eq ?_; simp; done), by first | exact trivial | simp [SV.ok]⟩, ?_⟩)
          · exact ⟨rfl, rfl, trivial⟩
          · try dsimp only
            exact ⟨⟨by omega, by omega, by omega⟩, graphOk_add _ hg, by assumption⟩
          try dsimp only
          omega
        ·
          refine VC.intro ?_ ?_
          ·
            refine callR_at 1 rfl (l04Edge_ct _ _ _ _ _ _ _ _ (by omega) (by omega) (by omega) (by omega)) (Rp.mono _ (mem_at 2 rfl) hp) ?_
            rintro _ A9 ⟨ee9, ci9, ch9, rfl, ⟨he9, re9⟩, hi9, hj9, rfl⟩
            refine call_new (specGraphAdd_ct _ _ g _ hg) ⟨(Rp.mono _ (mem_at 0 rfl) wg), edge_rd9 (n := g.size) ⟨by omega, by omega⟩ (by assumption)⟩ ?_
            rintro v10 A10 o10
            obtain ⟨b10, c10, rfl, o10⟩ := o10
            apply loop_stepA (k + 1, addG g _, _, _, _, _, _)
            · exact .sub (by repeat (first | exact .slnil | apply List.Sublist.cons_cons | apply List.Sublist.cons))
            · repeat' (first | exact trivial | refine ⟨⟨_, rfl, by first | rfl | exact inc_eq _ (by omega) | (refine sl_eq ?_; simp; done), by first | exact trivial | simp [SV.ok]⟩, ?_⟩)
            · exact ⟨rfl, rfl, trivial⟩
            · try dsimp only
              exact ⟨⟨by omega, by omega, by omega⟩, graphOk_add _ hg, by assumption⟩
            try dsimp only
            omega
          ·
            exact trivial
      ·
        exact trivial
  ·
    simp at q4
    simp (disch := omega) only [wrap_of] at q4
    exact ⟨_, ⟨g, gb, gc, _, _, T, rfl, hg, by assumption, by assumption, List.perm_append_comm, oT⟩, rle_pick [0, 1] 2 rfl rfl (by decide)⟩
--@ct spec.DrawGraph new DrawGraph_ct _ _ _ _ | %1 | obtain ⟨g#, gb#, gc#, rfl, hg#, ot#⟩ := o# ;; have wg# := graph_ow (graphOk_okI hg#) ot#
theorem DrawGraph_ct (b : Option Addr) (m c : Nat) (xs : List UInt8) :
    Ct Tryz.prog 49 [.slice b m c] [] (fun H => (rpSl flByte.rp).rd H [.slice b m c] xs)
      (fun v A => ∃ (g : Graph) (gb : Option Addr) (gc : Nat), v = .agg ⟨[.int .i64 g.size, .slice gb g.edges.length gc]⟩ ∧ graphOk g = true ∧ (gSl 209 gEdge).ow [.slice gb g.edges.length gc] g.edges A) := by
  refine Ct.intro0 G_ok Tryz.func49 rfl rfl rfl fun E H hp => ?_
  obtain ⟨rfl, hl⟩ := rd_len hp
  refine VCnew.intro fun x0 => ?_
  refine call_new (l01New_ct _ _ _ _) (Rp.mono _ (mem_at 0 rfl) hp) ?_
  rintro _ A1 ⟨bb1, h1, rfl, rfl⟩
  refine callR_part (curHp bb1 b xs.length c (0 : Int) h1) [H] (l04Graph_ct _ _ _ _ _ _ _ (by omega) (by omega) (by omega)) ?_ (Rp.mono _ (mem_at 0 rfl) hp) ?_
  · exact .le fun a => by (try simp only [setR, List.cons_append, List.nil_append]); simp only [List.flatten_append, List.flatten_cons, List.flatten_nil, List.count_append, List.count_nil, List.append_nil, List.nil_append]; omega
  rintro _ A2 ⟨gg2, gb2, gc2, ci2, ch2, T2, rfl, hg2, hi2, hj2, hP2, ot2⟩
  refine ⟨[curHp _ _ _ _ ci2 ch2, T2], by simpa using hP2, ?_⟩
  have wg2 := graph_ow (graphOk_okI hg2) ot2
  exact ⟨_, ⟨_, _, _, rfl, by assumption, by assumption⟩, rle_pick [1] 2 rfl rfl (by decide)⟩
end Go.Proofs.YtjgehblllhkdbaaGreat

namespace Go.Proofs.YtjgehblllhkdbaaGreat
open Go.SX Go.Proofs
set_option linter.unusedSimpArgs false
set_option linter.unusedVariables false
set_option maxHeartbeats 4000000
attribute [local irreducible] IntKind.wrap
def ntime : ByteArray := ⟨#[116, 105, 109, 101]⟩
theorem part_time : lessS npart ntime = true := by decide +kernel
/-- the first file is the part -/
structure PF (d : Disk) : Prop where
  ok : diskOk d = true
  part : ∃ f fs, d.files = f :: fs ∧ f.name = npart ∧ 1 ≤ f.text.size
theorem pf_fresh {g : Graph} (h : graphOk g = true) : PF (freshDisk g) := by
  have hf := frameOk_graph h
  have hz := frame_size (graphText g)
  have hg := graphText_size h
  have hd : diskOk ⟨[⟨npart, frame (graphText g), ((frame (graphText g)).size : Nat)⟩]⟩ = true := diskOk_one npart_ok (by show (frame (graphText g)).size ≤ _; omega) (Int.natCast_nonneg _) (Int.le_refl _)
  refine ⟨hd, _, [], rfl, rfl, ?_⟩
  show 1 ≤ (frame (graphText g)).size
  unfold frame
  rw [ByteArray.size_append]; omega
theorem pf_put {d : Disk} {f : File} (h : PF d) (hn : f.name = ntime) (ho : diskOk (putF d f) = true) : PF (putF d f) := by
  obtain ⟨p, fs, e1, e2, e3⟩ := h.part
  refine ⟨ho, ?_⟩
  unfold putF
  rw [e1, hn, List.filter_cons_of_pos (by rw [e2]; exact part_time)]
  exact ⟨p, _, rfl, e2, e3⟩
theorem fileAt_name {d : Disk} {nm : ByteArray} : ∀ n, 0 ≤ fileAt d nm n → (d.files[(fileAt d nm n).toNat]?.getD default).name = nm
  | 0, h => by unfold fileAt at h; omega
  | n + 1, h => by
    unfold fileAt at h ⊢
    by_cases h1 : fileAt d nm n < 0
    · rw [if_pos h1] at h ⊢
      by_cases h2 : (d.files[n]?.getD default).name = nm
      · rw [if_pos h2]; simpa using h2
      rw [if_neg h2] at h; omega
    rw [if_neg h1]; exact fileAt_name n (by omega)
theorem at14_name {d : Disk} {nm : ByteArray} (h : 0 ≤ at14 d nm) : (d.files[(at14 d nm).toNat]?.getD default).name = nm := fileAt_name _ h
/-- an operation that keeps an epoch -/
def ga (a : Act) : Prop := a.name = ntime ∧ a.to = .empty ∧ ((a.kind = 1 ∧ a.text.size ≤ 100) ∨ (a.kind = 2 ∧ a.text = .empty))
theorem disk_text {d : Disk} (h : diskOk d = true) {k : Nat} (hk : k < d.files.length) : (d.files[k]?.getD default).text.size ≤ 20000 := by
  cases h1 : fileOk d k with
  | false => rw [diskOk_no d k hk h1] at h; cases h
  | true =>
    unfold fileOk at h1
    rw [Bool.and_eq_true, Bool.and_eq_true, decide_eq_true_iff] at h1
    exact h1.2.1
theorem disk_len {d : Disk} (h : diskOk d = true) : d.files.length ≤ 30 := by
  unfold diskOk at h
  rw [Bool.and_eq_true, decide_eq_true_iff] at h
  exact h.1
theorem disk0_ow : gDisk.ow [.slice none 0 0] ⟨[]⟩ [] := gDisk_ow.2 ⟨none, 0, [], rfl, .refl _, sl_nil _ _ _⟩
--@ct spec.DoAct new specDoActT_ct _ _ $1 $2 ?_ ?_ | ⟨%1, %2⟩ | obtain ⟨l#, d#, k#, rfl, o#, hk#⟩ := o# ;; obtain ⟨b0x#, c0x#, rfl, p#⟩ := gDisk_sl o#
theorem specDoActT_ct (l la : List Value) (d : Disk) (a : Act) (hd : PF d) (ha : ga a) : Ct Tryz.prog 384 [.agg ⟨l⟩, .agg ⟨la⟩] [] (fun H => gDisk.rd H l d ∧ gAct.rd H la a)
      (fun v A => ∃ (l : List Value) (d' : Disk) (ok : Bool), v = .tuple #[.agg ⟨l⟩, .bool ok] ∧ gDisk.ow l d' A ∧ (ok = true → PF d')) := by
  refine Ct.intro0 G_ok Tryz.func384 rfl rfl rfl fun E H hp => ?_
  obtain ⟨hp, hp2⟩ := hp
  obtain ⟨b0p, c0p, rfl, h0p⟩ := gDisk_rd.1 hp
  obtain ⟨rfl, w0, w1, w2, w3⟩ := gAct_rd.1 hp2
  obtain ⟨hn, hto, hkt⟩ := ha
  have hok := hd.ok
  have hdl := disk_len hok
  have hat := at14_rng d a.name
  refine VCnew.intro fun x0 => ?_
  refine VCnew.intro fun x1 => ?_
  refine VCnew.intro fun x2 => ?_
  refine call_val (specDiskOk_ct _ (d)) (Rp.mono _ (mem_at 0 rfl) hp) ?_
  rintro _ rfl
  refine VCsplit.intro (fun q4 => ?_) (fun q4 => ?_)
  ·
    simp at q4
    exact ⟨[], ⟨_, ⟨[]⟩, false, rfl, disk0_ow, fun h => nomatch h⟩, (.le fun a => by (try simp only [setR, List.cons_append, List.nil_append]); simp [List.count_cons, Blk.ent, idOf]; try omega)⟩
  ·
    simp at q4
    refine call_val (l14Name_ct _ ?_) trivial ?_
    · trivial
    rintro _ rfl
    refine VCsplit.intro (fun q6 => ?_) (fun q6 => ?_)
    ·
      simp at q6
      exact ⟨[], ⟨_, ⟨[]⟩, false, rfl, disk0_ow, fun h => nomatch h⟩, (.le fun a => by (try simp only [setR, List.cons_append, List.nil_append]); simp [List.count_cons, Blk.ent, idOf]; try omega)⟩
    ·
      simp at q6
      refine VCsplit.intro (fun q7 => ?_) (fun q7 => ?_)
      ·
        simp at q7
        refine VCsplit.intro (fun q8 => ?_) (fun q8 => ?_)
        ·
          simp at q8
          exact ⟨[], ⟨_, ⟨[]⟩, false, rfl, disk0_ow, fun h => nomatch h⟩, (.le fun a => by (try simp only [setR, List.cons_append, List.nil_append]); simp [List.count_cons, Blk.ent, idOf]; try omega)⟩
        ·
          simp at q8
          refine VCsplit.intro (fun q9 => ?_) (fun q9 => ?_)
          ·
            simp at q9
            refine VCsplit.intro (fun q10 => ?_) (fun q10 => ?_)
            ·
              simp at q10
              exact ⟨[], ⟨_, ⟨[]⟩, false, rfl, disk0_ow, fun h => nomatch h⟩, (.le fun a => by (try simp only [setR, List.cons_append, List.nil_append]); simp [List.count_cons, Blk.ent, idOf]; try omega)⟩
            ·
              simp at q10
              refine call_val (l14At_ct _ (d) _) (Rp.mono _ (mem_at 0 rfl) hp) ?_
              rintro _ rfl
              refine VCnew.intro fun x12 => ?_
              refine VCsplit.intro (fun q13 => ?_) (fun q13 => ?_)
              ·
                simp at q13
                refine idx_rd h0p ?_ ?_ fun b14 o14 hb14 => ?_
                · trivial
                · omega
                refine load_all default h0p ?_ ?_ hb14 rfl (mem_at 0 rfl) fun l15 hl15 => ?_
                · trivial
                · omega
                obtain ⟨rfl, w0x15, w1x15, w2x15⟩ := gFile_rd.1 hl15
                refine VCnew.intro fun x16 => ?_
                refine VCsplit.intro (fun q17 => ?_) (fun q17 => ?_)
                ·
                  simp at q17
                  exfalso; omega
                ·
                  simp at q17
                  refine VCsplit.intro (fun q18 => ?_) (fun q18 => ?_)
                  ·
                    simp at q18
                    exfalso; omega
                  ·
                    simp at q18
                    refine VCsplit.intro (fun q19 => ?_) (fun q19 => ?_)
                    ·
                      simp at q19
                      have hdt := disk_text hok (k := (at14 d a.name).toNat) (by omega)
                      have hff : gFile.rd H [.string (d.files[(at14 d a.name).toNat]?.getD default).name, .string (d.files[(at14 d a.name).toNat]?.getD default).text, .int .i64 ((d.files[(at14 d a.name).toNat]?.getD default).text.size : Nat)] ⟨(d.files[(at14 d a.name).toNat]?.getD default).name, (d.files[(at14 d a.name).toNat]?.getD default).text, ((d.files[(at14 d a.name).toNat]?.getD default).text.size : Nat)⟩ := gFile_rd.2 ⟨rfl, (by assumption), (by dsimp only; omega), (by unfold okI; dsimp only; omega)⟩
                      refine call_new (l14Put_ct _ _ (d) ({ name := (d.files[(at14 d a.name).toNat]?.getD default).name, text := (d.files[(at14 d a.name).toNat]?.getD default).text, kept := (↑(d.files[(at14 d a.name).toNat]?.getD default).text.size : Int) }) ?_) ⟨(Rp.mono _ (mem_at 0 rfl) hp), (Rp.mono _ (mem_at 0 rfl) hff)⟩ ?_
                      · omega
                      rintro v20 A20 o20
                      obtain ⟨l20, rfl, o20⟩ := o20
                      have r20 := Gt.owrd _ o20
                      obtain ⟨b0x20, c0x20, rfl, h0x20⟩ := gDisk_rd.1 r20
                      refine call_val (specDiskOk_ct _ (putF d { name := (d.files[(at14 d a.name).toNat]?.getD default).name, text := (d.files[(at14 d a.name).toNat]?.getD default).text, kept := (↑(d.files[(at14 d a.name).toNat]?.getD default).text.size : Int) })) (Rp.mono _ (mem_at 0 rfl) r20) ?_
                      rintro _ rfl
                      refine VCsplit.intro (fun q22 => ?_) (fun q22 => ?_)
                      ·
                        simp at q22
                        exact ⟨[], ⟨_, ⟨[]⟩, false, rfl, disk0_ow, fun h => nomatch h⟩, (.le fun a => by (try simp only [setR, List.cons_append, List.nil_append]); simp [List.count_cons, Blk.ent, idOf]; try omega)⟩
                      ·
                        simp at q22
                        exact ⟨_, ⟨_, _, true, rfl, by assumption, fun _ => pf_put hd (by first | exact hn | (rw [← hn]; exact at14_name (by omega))) (by assumption)⟩, (.le fun a => by (try simp only [setR, List.cons_append, List.nil_append]); simp [List.count_cons, Blk.ent, idOf]; try omega)⟩
                    ·
                      simp at q19
                      exfalso; omega
              ·
                simp at q13
                refine VCnew.intro fun x23 => ?_
                refine VCsplit.intro (fun q24 => ?_) (fun q24 => ?_)
                ·
                  simp at q24
                  exfalso; omega
                ·
                  simp at q24
                  refine VCsplit.intro (fun q25 => ?_) (fun q25 => ?_)
                  ·
                    simp at q25
                    exact ⟨[], ⟨_, ⟨[]⟩, false, rfl, disk0_ow, fun h => nomatch h⟩, (.le fun a => by (try simp only [setR, List.cons_append, List.nil_append]); simp [List.count_cons, Blk.ent, idOf]; try omega)⟩
                  ·
                    simp at q25
                    exfalso; omega
          ·
            simp at q9
            have hk1 : a.kind = 1 := (by assumption)
            have hat2 : a.text.size ≤ 100 := (by omega)
            refine call_val (l14At_ct _ (d) _) (Rp.mono _ (mem_at 0 rfl) hp) ?_
            rintro _ rfl
            refine VCnew.intro fun x27 => ?_
            refine VCsplit.intro (fun q28 => ?_) (fun q28 => ?_)
            ·
              simp at q28
              have hdt := disk_text hok (k := (at14 d a.name).toNat) (by omega)
              refine idx_rd h0p ?_ ?_ fun b29 o29 hb29 => ?_
              · trivial
              · omega
              refine load_all default h0p ?_ ?_ hb29 rfl (mem_at 0 rfl) fun l30 hl30 => ?_
              · trivial
              · omega
              obtain ⟨rfl, w0x30, w1x30, w2x30⟩ := gFile_rd.1 hl30
              refine VCnew.intro fun x31 => ?_
              refine VCsplit.intro (fun q32 => ?_) (fun q32 => ?_)
              ·
                simp at q32
                have hff : gFile.rd H [.string (d.files[(at14 d a.name).toNat]?.getD default).name, .string ((d.files[(at14 d a.name).toNat]?.getD default).text ++ a.text), .int .i64 (d.files[(at14 d a.name).toNat]?.getD default).kept] ⟨(d.files[(at14 d a.name).toNat]?.getD default).name, (d.files[(at14 d a.name).toNat]?.getD default).text ++ a.text, (d.files[(at14 d a.name).toNat]?.getD default).kept⟩ := gFile_rd.2 ⟨rfl, (by assumption), (by dsimp only; rw [ByteArray.size_append]; omega), (by assumption)⟩
                refine VC.intro ?_ ?_
                · simp; omega
                refine call_new (l14Put_ct _ _ (d) ({ name := (d.files[(at14 d a.name).toNat]?.getD default).name, text := (d.files[(at14 d a.name).toNat]?.getD default).text ++ a.text, kept := (d.files[(at14 d a.name).toNat]?.getD default).kept }) ?_) ⟨(Rp.mono _ (mem_at 0 rfl) hp), (Rp.mono _ (mem_at 0 rfl) hff)⟩ ?_
                · omega
                rintro v33 A33 o33
                obtain ⟨l33, rfl, o33⟩ := o33
                have r33 := Gt.owrd _ o33
                obtain ⟨b0x33, c0x33, rfl, h0x33⟩ := gDisk_rd.1 r33
                refine call_val (specDiskOk_ct _ (putF d { name := (d.files[(at14 d a.name).toNat]?.getD default).name, text := (d.files[(at14 d a.name).toNat]?.getD default).text ++ a.text, kept := (d.files[(at14 d a.name).toNat]?.getD default).kept })) (Rp.mono _ (mem_at 0 rfl) r33) ?_
                rintro _ rfl
                refine VCsplit.intro (fun q35 => ?_) (fun q35 => ?_)
                ·
                  simp at q35
                  exact ⟨[], ⟨_, ⟨[]⟩, false, rfl, disk0_ow, fun h => nomatch h⟩, (.le fun a => by (try simp only [setR, List.cons_append, List.nil_append]); simp [List.count_cons, Blk.ent, idOf]; try omega)⟩
                ·
                  simp at q35
                  exact ⟨_, ⟨_, _, true, rfl, by assumption, fun _ => pf_put hd (by first | exact hn | (rw [← hn]; exact at14_name (by omega))) (by assumption)⟩, (.le fun a => by (try simp only [setR, List.cons_append, List.nil_append]); simp [List.count_cons, Blk.ent, idOf]; try omega)⟩
              ·
                simp at q32
                exfalso; omega
            ·
              simp at q28
              refine VCnew.intro fun x36 => ?_
              refine VCsplit.intro (fun q37 => ?_) (fun q37 => ?_)
              ·
                simp at q37
                have hff : gFile.rd H [.string a.name, .string (ByteArray.empty ++ a.text), .int .i64 0] ⟨a.name, ByteArray.empty ++ a.text, 0⟩ := gFile_rd.2 ⟨rfl, (by assumption), (by dsimp only; rw [ByteArray.size_append, show ByteArray.empty.size = 0 from rfl]; omega), (by unfold okI; dsimp only; omega)⟩
                refine VC.intro ?_ ?_
                · simp; omega
                refine call_new (l14Put_ct _ _ (d) ({ name := a.name, text := ByteArray.empty ++ a.text, kept := (0 : Int) }) ?_) ⟨(Rp.mono _ (mem_at 0 rfl) hp), (Rp.mono _ (mem_at 0 rfl) hff)⟩ ?_
                · omega
                rintro v38 A38 o38
                obtain ⟨l38, rfl, o38⟩ := o38
                have r38 := Gt.owrd _ o38
                obtain ⟨b0x38, c0x38, rfl, h0x38⟩ := gDisk_rd.1 r38
                refine call_val (specDiskOk_ct _ (putF d { name := a.name, text := ByteArray.empty ++ a.text, kept := (0 : Int) })) (Rp.mono _ (mem_at 0 rfl) r38) ?_
                rintro _ rfl
                refine VCsplit.intro (fun q40 => ?_) (fun q40 => ?_)
                ·
                  simp at q40
                  exact ⟨[], ⟨_, ⟨[]⟩, false, rfl, disk0_ow, fun h => nomatch h⟩, (.le fun a => by (try simp only [setR, List.cons_append, List.nil_append]); simp [List.count_cons, Blk.ent, idOf]; try omega)⟩
                ·
                  simp at q40
                  exact ⟨_, ⟨_, _, true, rfl, by assumption, fun _ => pf_put hd (by first | exact hn | (rw [← hn]; exact at14_name (by omega))) (by assumption)⟩, (.le fun a => by (try simp only [setR, List.cons_append, List.nil_append]); simp [List.count_cons, Blk.ent, idOf]; try omega)⟩
              ·
                simp at q37
                exfalso; omega
      ·
        simp at q7
        exfalso; omega
theorem acts_at {acs : List Act} (ha : ∀ x ∈ acs, ga x) {k : Nat} (hk : k < acs.length) : ga (acs[k]?.getD default) := by
  rw [List.getElem?_eq_getElem hk]; exact ha _ (List.getElem_mem hk)
--@ct spec.DoActs new specDoActsT_ct _ _ _ _ $1 $2 ?_ ?_ | ⟨%1, %2⟩ | obtain ⟨b#, c#, d#, n#, rfl, o#, hk#⟩ := o#
theorem specDoActsT_ct (l : List Value) (b : Option Addr) (m c : Nat) (d : Disk) (acs : List Act) (hd : PF d) (ha : ∀ x ∈ acs, ga x) : Ct Tryz.prog 321 [.agg ⟨l⟩, .slice b m c] [] (fun H => gDisk.rd H l d ∧ (gSl 382 gAct).rd H [.slice b m c] acs)
      (fun v A => ∃ (b : Option Addr) (c : Nat) (d' : Disk) (n : Int), v = .tuple #[.agg ⟨[.slice b d'.files.length c]⟩, .int .i64 n] ∧ gDisk.ow [.slice b d'.files.length c] d' A ∧ PF d') := by
  refine Ct.intro0 G_ok Tryz.func321 rfl rfl rfl fun E H hp => ?_
  obtain ⟨hp, hq⟩ := hp
  obtain ⟨b0p, c0p, rfl, h0p⟩ := gDisk_rd.1 hp
  obtain ⟨rfl, hcl, hl⟩ := sl_len hq
  have hdl := disk_len hd.ok
  refine VCnew.intro fun x0 => ?_
  refine VCnew.intro fun x1 => ?_
  refine VCnew.intro fun x2 => ?_
  refine append_allN (g := gFile) (T := (323 : TypeId)) G_ok (by repeat (first | exact fl_plain | apply plain_iso | apply plain_pair)) [] [[(x2, Obj.cells { toList := zeros (0 : Nat) [Value.string ByteArray.empty, Value.string ByteArray.empty, Value.int IntKind.i64 (0 : Int)] } (323 : TypeId))], H] 1 ?_ (sl_nil _ _ _) rfl h0p rfl rfl rfl rfl rfl rfl rfl rfl ?_ fun b3 c3 A3 o3 => ?_
  · exact .refl _
  · simp; omega
  refine VCnew.intro fun x4 => ?_
  apply loop_mod (α := (Nat) × (Disk) × (Option Addr) × (Nat) × (Hp)) G_ok [15, 16, 17, 18, 22, 23, 24, 25, 26, 27, 21, 28, 29, 8, 9, 30, 31, 32, 33, 5, 34, 19, 20, 7] (fun z => [(7, .v (.int .i64 z.1))]) (fun z => [⟨x0, [Value.slice b0p d.files.length c0p], (153 : Nat)⟩, ⟨x1, [Value.slice none (0 : Nat) (0 : Nat)], (153 : Nat)⟩, ⟨x4, [.slice z.2.2.1 z.2.1.files.length z.2.2.2.1], (153 : Nat)⟩]) (fun z => [z.2.2.2.2, H]) (fun z => acs.length - z.1) (fun z => z.1 ≤ acs.length ∧ PF z.2.1 ∧ (gSl 323 gFile).ow [.slice z.2.2.1 z.2.1.files.length z.2.2.2.1] z.2.1.files z.2.2.2.2) ((0, d, _, _, _))
  · repeat' (first | exact trivial | refine ⟨⟨_, rfl, by first | rfl | exact inc_eq _ (by omega) | (refine sl_eq ?_; simp; done), by first | exact trivial | simp [SV.ok]⟩, ?_⟩)
  · exact ⟨rfl, rfl, rfl, trivial⟩
  · try dsimp only
    exact ⟨Nat.zero_le _, hd, by assumption⟩
  · exact .le fun a => by (try simp only [setR, List.cons_append, List.nil_append]); simp only [List.flatten_append, List.flatten_cons, List.flatten_nil, List.count_append, List.count_nil, List.append_nil, List.nil_append]; omega
  rintro ⟨k, dk, b, c, A⟩ hI
  obtain ⟨hk, hP, oA⟩ : k ≤ acs.length ∧ PF dk ∧ (gSl 323 gFile).ow [.slice b dk.files.length c] dk.files A := hI
  try dsimp only
  refine VCsplit.intro (fun q5 => ?_) (fun q5 => ?_)
  ·
    simp at q5
    refine draw G_ok mixed (some 10) (.q 0 (.q 1 (.q 2 (.q 3 (.q 4 (.hd (.alt 5 (.q 6 (.q 7 (.q 8 (.f 9 (.tl 10 (.f 11 (.nil))))))) (.alt 9 (.f 5 (.q 6 (.q 7 (.q 8 (.tl 10 (.f 11 (.nil))))))) (.nil))))))))) (by decide +kernel) ?_
    refine idx_rd hq ?_ ?_ fun b6 o6 hb6 => ?_
    · omega
    · omega
    refine load_allN default (k) rfl hq ?_ ?_ hb6 rfl (mem_at 1 rfl) fun l7 hl7 => ?_
    · omega
    · omega
    obtain ⟨rfl, w0x7, w1x7, w2x7, w3x7⟩ := gAct_rd.1 hl7
    refine VC.intro ?_ ?_
    ·
      refine call_new (specDoActT_ct _ _ dk (acs[k]?.getD default) hP (acts_at ha (by omega))) ⟨gDisk_rd.2 ⟨_, _, rfl, Rp.mono _ (mem_at 0 rfl) (Gt.owrd _ oA)⟩, (Rp.mono _ (mem_at 1 rfl) hl7)⟩ ?_
      rintro v8 A8 o8
      obtain ⟨l8, d8, k8, rfl, o8, hk8⟩ := o8
      obtain ⟨b0x8, c0x8, rfl, p8⟩ := gDisk_sl o8
      refine VC.intro ?_ ?_
      · exact keep_new
      refine VCnew.intro fun x9 => ?_
      refine VC.intro ?_ ?_
      · exact keep_sub (by simp) (by simp)
      refine VCsplit.intro (fun q10 => ?_) (fun q10 => ?_)
      ·
        simp at q10
        exact ⟨_, ⟨_, _, dk, _, rfl, gDisk_ow.2 ⟨_, _, _, rfl, .refl _, oA⟩, hP⟩, (.le fun a => by (try simp only [setR, List.cons_append, List.nil_append]); simp [List.count_cons, Blk.ent, idOf]; try omega)⟩
      ·
        simp at q10
        apply loop_stepA (k + 1, _, _, _, _)
        · exact .sub (by repeat (first | exact .slnil | apply List.Sublist.cons_cons | apply List.Sublist.cons))
        · repeat' (first | exact trivial | refine ⟨⟨_, rfl, by first | rfl | exact inc_eq _ (by omega) | (refine sl_eq ?_; simp; done), by first | exact trivial | simp [SV.ok]⟩, ?_⟩)
        · exact ⟨rfl, rfl, rfl, trivial⟩
        · try dsimp only
          grind
        try dsimp only
        omega
    ·
      refine VC.intro ?_ ?_
      ·
        refine VCnew.intro fun x11 => ?_
        refine VC.intro ?_ ?_
        · exact keep_sub (by simp) (by simp)
        refine call_new (specDoActT_ct _ _ dk (acs[k]?.getD default) hP (acts_at ha (by omega))) ⟨gDisk_rd.2 ⟨_, _, rfl, Rp.mono _ (mem_at 0 rfl) (Gt.owrd _ oA)⟩, (Rp.mono _ (mem_at 1 rfl) hl7)⟩ ?_
        rintro v12 A12 o12
        obtain ⟨l12, d12, k12, rfl, o12, hk12⟩ := o12
        obtain ⟨b0x12, c0x12, rfl, p12⟩ := gDisk_sl o12
        refine VC.intro ?_ ?_
        · exact keep_sub (by simp) (by simp)
        refine VCsplit.intro (fun q13 => ?_) (fun q13 => ?_)
        ·
          simp at q13
          exact ⟨_, ⟨_, _, dk, _, rfl, gDisk_ow.2 ⟨_, _, _, rfl, .refl _, oA⟩, hP⟩, (.le fun a => by (try simp only [setR, List.cons_append, List.nil_append]); simp [List.count_cons, Blk.ent, idOf]; try omega)⟩
        ·
          simp at q13
          apply loop_stepA (k + 1, _, _, _, _)
          · exact .sub (by repeat (first | exact .slnil | apply List.Sublist.cons_cons | apply List.Sublist.cons))
          · repeat' (first | exact trivial | refine ⟨⟨_, rfl, by first | rfl | exact inc_eq _ (by omega) | (refine sl_eq ?_; simp; done), by first | exact trivial | simp [SV.ok]⟩, ?_⟩)
          · exact ⟨rfl, rfl, rfl, trivial⟩
          · try dsimp only
            grind
          try dsimp only
          omega
      ·
        exact trivial
  ·
    simp at q5
    exact ⟨_, ⟨_, _, dk, _, rfl, gDisk_ow.2 ⟨_, _, _, rfl, .refl _, oA⟩, hP⟩, (.le fun a => by (try simp only [setR, List.cons_append, List.nil_append]); simp [List.count_cons, Blk.ent, idOf]; try omega)⟩
theorem varL_ne : ∀ f n, 1 ≤ (varL f n).length
  | 0, n => by simp [varL]
  | f + 1, n => by unfold varL; split <;> simp
theorem frameOk_var (n : Int) : frameOk (varText n) = true := by
  have h1 := varText_size n
  have h2 : 1 ≤ (varText n).size := by rw [← by_size]; unfold varText varT; rw [by_tx]; exact varL_ne 9 _
  unfold frameOk
  rw [inR_iff]; omega
theorem ga_rec (n : Int) : ∀ x ∈ recActs ntime (varText n), ga x := fun x hx => by
  have h1 := varText_size n
  have h2 := frame_size (varText n)
  unfold recActs at hx
  rcases List.mem_cons.1 hx with rfl | hx
  · exact ⟨rfl, rfl, .inl ⟨rfl, by show (frame (varText n)).size ≤ 100; omega⟩⟩
  rw [List.mem_singleton.1 hx]; exact ⟨rfl, rfl, .inr ⟨rfl, rfl⟩⟩
--@ct spec.EpochActs new specEpochActs_ct _ | trivial | obtain ⟨acs#, b#, c#, k#, rfl, o#, hk#⟩ := o#
theorem specEpochActs_ct (n : Int) : Ct Tryz.prog 322 [.int .i64 n] [] (fun _ => True) (fun v A => ∃ (acs : List Act) (b : Option Addr) (c : Nat) (ok : Bool), v = .tuple #[.slice b acs.length c, .bool ok] ∧ (gSl 382 gAct).ow [.slice b acs.length c] acs A ∧ ∀ x ∈ acs, ga x) := by
  refine Ct.intro0 G_ok Tryz.func322 rfl rfl rfl fun E H hp => ?_
  have hz := varText_size n
  have hfr := specFrame_ct (varText n) (by omega)
  rw [frameOk_var, if_pos rfl] at hfr
  refine call_val (l01In_ct _ _ _) trivial ?_
  rintro _ rfl
  refine VCsplit.intro (fun q1 => ?_) (fun q1 => ?_)
  ·
    simp at q1
    refine VCnew.intro fun x2 => ?_
    exact ⟨[], ⟨[], _, _, false, rfl, sl_nil _ _ _, fun x hx => nomatch hx⟩, (.le fun a => by (try simp only [setR, List.cons_append, List.nil_append]); simp [List.count_cons, Blk.ent, idOf]; try omega)⟩
  ·
    simp at q1
    have iq1 := inR_iff.1 q1
    refine call_val (l01Var_ct _ ?_ ?_) trivial ?_
    · omega
    · omega
    rintro _ rfl
    refine call_val (hfr) trivial ?_
    rintro _ rfl
    refine VCnew.intro fun x5 => ?_
    try dsimp only
    exact ⟨_, ⟨recActs ntime (varText n), _, _, true, rfl, recActs_ow (name := ntime) (by decide) (by omega), ga_rec n⟩, .tl⟩
end Go.Proofs.YtjgehblllhkdbaaGreat

--@dev import Derived.Test.YtjgehblllhkdbaaGreatSxWalk
namespace Go.SX
section
variable {α β : Type}
def zRaw (s : Nat) : RawC s := ⟨List.replicate s (.bool false), by simp, by
  induction s with
  | zero => rfl
  | succ s ih => rw [List.replicate_succ]; exact ih⟩
/-- elements as raw cells -/
def gRaw (s : Nat) (hs : 0 < s) : Gt (RawC s) := (flRaw s hs).gt fun _ => zRaw s
instance (s : Nat) : Inhabited (RawC s) := ⟨⟨List.replicate s (.bool false), by simp, by
  induction s with
  | zero => rfl
  | succ s ih => rw [List.replicate_succ]; exact ih⟩⟩
end
end Go.SX

namespace Go.Proofs.YtjgehblllhkdbaaGreat
open Go.SX Go.Proofs
set_option linter.unusedSimpArgs false
set_option linter.unusedVariables false
set_option maxHeartbeats 4000000
attribute [local irreducible] IntKind.wrap
theorem disk_files {b : Option Addr} {n c : Nat} {d : Disk} {T : Hp} (h : gDisk.ow [.slice b n c] d T) : (gSl 323 gFile).ow [.slice b n c] d.files T := by
  obtain ⟨_, _, e, p⟩ := gDisk_sl h
  rw [e]; exact p
theorem pf_first {d : Disk} (h : PF d) : d.files.length ≤ 30 ∧ 1 ≤ ([] ++ d.files).length ∧ ([] ++ d.files).length ≤ 30 ∧ 1 ≤ (([] ++ d.files)[0]?.getD default).text.size ∧ (([] ++ d.files)[0]?.getD default).text.size ≤ 20000 := by
  rw [List.nil_append]
  have h1 := disk_len h.ok
  have h2 := disk_text h.ok (k := 0)
  obtain ⟨f, fs, e, _, e3⟩ := h.part
  rw [e] at h1 h2 ⊢
  exact ⟨h1, by simp, h1, e3, h2 (by simp)⟩
theorem any_end {b : Option Addr} {n c : Nat} {d : Disk} {A : Hp} {bb : Nat} {b0 : Option Addr} {m c0 : Nat} {i' h' : Int} (r : gDisk.rd A [.slice b n c] d) (h0 : 0 ≤ i') (h1 : i' ≤ m) :
    ∃ (d : Disk) (db : Option Addr) (dc : Nat) (i2 h2 : Int) (T : Hp), Value.agg ⟨[.slice b n c]⟩ = .agg ⟨[.slice db d.files.length dc]⟩ ∧ 0 ≤ i2 ∧ i2 ≤ m ∧ List.Perm (A ++ curHp bb b0 m c0 i' h') (curHp bb b0 m c0 i2 h2 ++ T) ∧ gDisk.rd T [.slice db d.files.length dc] d := by
  obtain ⟨bz, cz, ez, oz⟩ := gDisk_rd.1 r
  exact ⟨d, bz, cz, i', h', A, by rw [ez], h0, h1, List.perm_append_comm, gDisk_rd.2 ⟨bz, cz, rfl, oz⟩⟩
theorem files_rd {b : Option Addr} {n c : Nat} {fs : List File} {A : Hp} (o : (gSl 323 gFile).ow [.slice b n c] fs A) : gDisk.rd A [.slice b n c] ⟨fs⟩ := by
  obtain ⟨bz, cz, ez, oz⟩ := sl_ow o
  rw [ez]; exact gDisk_rd.2 ⟨bz, cz, rfl, Gt.owrd _ oz⟩
theorem tail_rd {b : Option Addr} {n c : Nat} {fs : List File} {A : Hp} (o : (gSl 323 gFile).ow [.slice b n c] fs A) (h1 : 1 ≤ n) : gDisk.rd A [.slice (subBase c (Int.toNat 1) b ty323.size) (n - Int.toNat 1) (c - Int.toNat 1)] ⟨fs.drop 1⟩ := by
  obtain ⟨rfl, _, _⟩ := sl_len (Gt.owrd _ o)
  have h := rd_sub (r := gFile.toRp) (l := Int.toNat 1) (h := fs.length) (Gt.owrd _ o) h1 (Nat.le_refl _) (by have := rd_cap (Gt.owrd _ o); omega)
  rw [List.take_length] at h
  have e : fs.length - Int.toNat 1 = (fs.drop 1).length := by rw [List.length_drop]; rfl
  rw [e] at h ⊢
  exact gDisk_rd.2 ⟨_, _, rfl, h⟩
--@ct spec.l16Disk part1 l16Disk_ct _ _ _ _ _ _ _ (by omega) (by omega) (by omega) | %byte | rintro _ A# ⟨dd#, db#, dc#, ci#, ch#, T#, rfl, hd#, hi#, hj#, hP#, ot#⟩ ;; refine ⟨[curHp _ _ _ _ ci# ch#, T#], by simpa using hP#, ?_⟩
theorem l16Disk_ct (bb : Nat) (b : Option Addr) (m c : Nat) (xs : List UInt8) (i h : Int) (h0 : 0 ≤ i) (h1 : i ≤ m) (h2 : m ≤ 9223372036854775807) :
    CtR Tryz.prog 245 [.pointer (some ⟨bb, 0, none⟩)] (curHp bb b m c i h) (fun H => (rpSl flByte.rp).rd H [.slice b m c] xs)
      (fun v A => ∃ (d : Disk) (db : Option Addr) (dc : Nat) (i' h' : Int) (T : Hp), v = .agg ⟨[.slice db d.files.length dc]⟩ ∧ PF d ∧ 0 ≤ i' ∧ i' ≤ m ∧ A.Perm (curHp bb b m c i' h' ++ T) ∧ (gSl 323 gFile).ow [.slice db d.files.length dc] d.files T) := by
  refine CtR.intro G_ok [curHp bb b m c i h] Tryz.func245 rfl rfl rfl (by simp) fun E H hp => ?_
  obtain ⟨rfl, hl⟩ := rd_len hp
  refine VCnew.intro fun x0 => ?_
  refine callR_part (curHp bb b xs.length c i h) [H] (l04Graph_ct _ _ _ _ _ _ _ (by omega) (by omega) (by omega)) ?_ (Rp.mono _ (mem_at 0 rfl) hp) ?_
  · exact .le fun a => by (try simp only [setR, List.cons_append, List.nil_append]); simp only [List.flatten_append, List.flatten_cons, List.flatten_nil, List.count_append, List.count_nil, List.append_nil, List.nil_append]; omega
  rintro _ A1 ⟨gg1, gb1, gc1, ci1, ch1, T1, rfl, hg1, hi1, hj1, hP1, ot1⟩
  refine ⟨[curHp _ _ _ _ ci1 ch1, T1], by simpa using hP1, ?_⟩
  have wg1 := graph_ow (graphOk_okI hg1) ot1
  refine call_new (specFreshDisk_ct _ gg1 (by assumption)) (Rp.mono _ (mem_at 1 rfl) (Gt.owrd _ wg1)) ?_
  rintro v2 A2 o2
  obtain ⟨b2, c2, rfl, o2⟩ := o2
  refine VCnew.intro fun x3 => ?_
  apply loop_mod (α := (Nat) × (Int) × (Disk) × (Hp) × (Option Addr) × (Nat) × (Int) × (Int)) G_ok [15, 16, 17, 18, 21, 22, 23, 24, 25, 5, 27, 28, 26, 29, 30, 7, 8, 32, 33, 34, 31, 35, 36, 19, 20, 6] (fun z => [(6, .v (.int .i64 z.1)), (5, .v (.int .i64 z.2.1))]) (fun z => [⟨x0, [Value.slice none (0 : Nat) (0 : Nat)], (153 : Nat)⟩, ⟨x3, [.slice z.2.2.2.2.1 z.2.2.1.files.length z.2.2.2.2.2.1], (153 : Nat)⟩]) (fun z => [z.2.2.2.1, curHp bb b xs.length c z.2.2.2.2.2.2.1 z.2.2.2.2.2.2.2, H]) (fun z => 5 - z.1) (fun z => (z.1 ≤ 5 ∧ 0 ≤ z.2.2.2.2.2.2.1 ∧ z.2.2.2.2.2.2.1 ≤ xs.length) ∧ PF z.2.2.1 ∧ (gSl 323 gFile).ow [.slice z.2.2.2.2.1 z.2.2.1.files.length z.2.2.2.2.2.1] z.2.2.1.files z.2.2.2.1) ((0, 0, freshDisk gg1, A2, b2, c2, ci1, ch1))
  · repeat' (first | exact trivial | refine ⟨⟨_, rfl, by first | rfl | exact inc_eq _ (by omega) | (refine sl_eq ?_; simp; done), by first | exact trivial | simp [SV.ok]⟩, ?_⟩)
  · exact ⟨rfl, rfl, trivial⟩
  · try dsimp only
    exact ⟨⟨by omega, by omega, by omega⟩, pf_fresh (by assumption), disk_files (by assumption)⟩
  · exact .le fun a => by (try simp only [setR, List.cons_append, List.nil_append]); simp only [List.flatten_append, List.flatten_cons, List.flatten_nil, List.count_append, List.count_nil, List.append_nil, List.nil_append]; omega
  rintro ⟨k, n, d, T, db, dc, ci, ch⟩ hI
  obtain ⟨⟨hk, hc0, hc1⟩, hd, oT⟩ : (k ≤ 5 ∧ 0 ≤ ci ∧ ci ≤ xs.length) ∧ PF d ∧ (gSl 323 gFile).ow [.slice db d.files.length dc] d.files T := hI
  try dsimp only
  refine callR_at 1 rfl (l01Below_ct _ _ _ _ _ _ _ _ (by omega) (by omega) (by omega)) (Rp.mono _ (mem_at 2 rfl) hp) ?_
  rintro _ A4 ⟨dx4, ci4, ch4, rfl, hd4, he4, hi4, hj4, rfl⟩
  refine VCsplit.intro (fun q5 => ?_) (fun q5 => ?_)
  ·
    simp at q5
    have rT : gDisk.rd T [.slice db d.files.length dc] d := gDisk_rd.2 ⟨_, _, rfl, Gt.owrd _ oT⟩
    refine callR_at 1 rfl (l01Below_ct _ _ _ _ _ _ _ _ (by omega) (by omega) (by omega)) (Rp.mono _ (mem_at 2 rfl) hp) ?_
    rintro _ A6 ⟨dx6, ci6, ch6, rfl, hd6, he6, hi6, hj6, rfl⟩
    refine call_new (specEpochActs_ct _) trivial ?_
    rintro v7 A7 o7
    obtain ⟨acs7, b7, c7, k7, rfl, o7, hk7⟩ := o7
    refine call_new (specDoActsT_ct _ _ _ _ d _ hd ?_) ⟨(Rp.mono _ (mem_at 1 rfl) rT), (Rp.mono _ (mem_at 0 rfl) (Gt.owrd _ o7))⟩ ?_
    · trivial
    rintro v8 A8 o8
    obtain ⟨b8, c8, d8, n8, rfl, o8, hk8⟩ := o8
    apply loop_stepA (k + 1, _, _, _, _, _, _, _)
    · exact .sub (by repeat (first | exact .slnil | apply List.Sublist.cons_cons | apply List.Sublist.cons))
    · repeat' (first | exact trivial | refine ⟨⟨_, rfl, by first | rfl | exact inc_eq _ (by omega) | (refine sl_eq ?_; simp; done), by first | exact trivial | simp [SV.ok]⟩, ?_⟩)
    · exact ⟨rfl, rfl, trivial⟩
    · try dsimp only
      exact ⟨⟨by omega, by omega, by omega⟩, by assumption, disk_files (by assumption)⟩
    try dsimp only
    omega
  ·
    simp at q5
    exact ⟨_, ⟨d, db, dc, _, _, T, rfl, hd, by assumption, by assumption, List.perm_append_comm, oT⟩, rle_pick [0, 1] 2 rfl rfl (by decide)⟩
--@ct spec.l16Any part1 l16Any_ct _ _ _ _ _ _ _ (by omega) (by omega) (by omega) | %byte | rintro _ A# ⟨dd#, db#, dc#, ci#, ch#, T#, rfl, hi#, hj#, hP#, rt#⟩ ;; refine ⟨[curHp _ _ _ _ ci# ch#, T#], by simpa using hP#, ?_⟩
theorem l16Any_ct (bb : Nat) (b : Option Addr) (m c : Nat) (xs : List UInt8) (i h : Int) (h0 : 0 ≤ i) (h1 : i ≤ m) (h2 : m ≤ 9223372036854775807) :
    CtR Tryz.prog 146 [.pointer (some ⟨bb, 0, none⟩)] (curHp bb b m c i h) (fun H => (rpSl flByte.rp).rd H [.slice b m c] xs)
      (fun v A => ∃ (d : Disk) (db : Option Addr) (dc : Nat) (i' h' : Int) (T : Hp), v = .agg ⟨[.slice db d.files.length dc]⟩ ∧ 0 ≤ i' ∧ i' ≤ m ∧ A.Perm (curHp bb b m c i' h' ++ T) ∧ gDisk.rd T [.slice db d.files.length dc] d) := by
  refine CtR.intro G_ok [curHp bb b m c i h] Tryz.func146 rfl rfl rfl (by simp) fun E H hp => ?_
  obtain ⟨rfl, hl⟩ := rd_len hp
  have hfr := specFrame_ct ⟨#[129, 0]⟩ (by decide)
  rw [show frameOk ⟨#[129, 0]⟩ = true by decide, if_pos rfl] at hfr
  have hfz := frame_size ⟨#[129, 0]⟩
  have hfz2 : (frame ⟨#[129, 0]⟩).size ≤ 16 := hfz
  have hff : gFile.rd H [.string ⟨#[116, 105, 109, 101]⟩, .string (frame ⟨#[129, 0]⟩), .int .i64 1] ⟨⟨#[116, 105, 109, 101]⟩, frame ⟨#[129, 0]⟩, 1⟩ := gFile_rd.2 ⟨rfl, by decide, by dsimp only; omega, by unfold okI; dsimp only; omega⟩
  refine VCnew.intro fun x0 => ?_
  refine callR_at 0 rfl (l01Below_ct _ _ _ _ _ _ _ _ (by omega) (by omega) (by omega)) (Rp.mono _ (mem_at 1 rfl) hp) ?_
  rintro _ A1 ⟨dx1, ci1, ch1, rfl, hd1, he1, hi1, hj1, rfl⟩
  refine callR_at 0 rfl (l01Below_ct _ _ _ _ _ _ _ _ (by omega) (by omega) (by omega)) (Rp.mono _ (mem_at 1 rfl) hp) ?_
  rintro _ A2 ⟨dx2, ci2, ch2, rfl, hd2, he2, hi2, hj2, rfl⟩
  refine callR_part (curHp bb b xs.length c ci2 ch2) [H] (l16Disk_ct _ _ _ _ _ _ _ (by omega) (by omega) (by omega)) ?_ (Rp.mono _ (mem_at 0 rfl) hp) ?_
  · exact .le fun a => by (try simp only [setR, List.cons_append, List.nil_append]); simp only [List.flatten_append, List.flatten_cons, List.flatten_nil, List.count_append, List.count_nil, List.append_nil, List.nil_append]; omega
  rintro _ A3 ⟨dd3, db3, dc3, ci3, ch3, T3, rfl, hd3, hi3, hj3, hP3, ot3⟩
  refine ⟨[curHp _ _ _ _ ci3 ch3, T3], by simpa using hP3, ?_⟩
  obtain ⟨hz1, hz2, hz3, hz4, hz5⟩ := pf_first hd3
  refine VCnew.intro fun x4 => ?_
  refine VCnew.intro fun x5 => ?_
  refine append_allN (g := gFile) (T := (323 : TypeId)) G_ok (by repeat (first | exact fl_plain | apply plain_iso | apply plain_pair)) [] [[(x5, Obj.cells { toList := zeros (0 : Nat) [Value.string ByteArray.empty, Value.string ByteArray.empty, Value.int IntKind.i64 (0 : Int)] } (323 : TypeId))], curHp bb b xs.length c ci3 ch3, T3, H] 2 ?_ (sl_nil _ _ _) rfl (Gt.owrd _ ot3) rfl rfl rfl rfl rfl rfl rfl rfl ?_ fun b6 c6 A6 o6 => ?_
  · exact .refl _
  · simp; omega
  refine VCsplit.intro (fun q7 => ?_) (fun q7 => ?_)
  ·
    simp at q7
    refine draw G_ok mixed (some 21) (.q 0 (.q 1 (.q 2 (.q 3 (.q 4 (.q 5 (.q 6 (.q 7 (.q 8 (.q 9 (.q 10 (.q 11 (.q 12 (.q 13 (.q 14 (.q 15 (.q 16 (.q 17 (.q 18 (.q 19 (.q 20 (.tl 21 (.nil))))))))))))))))))))))) (by decide +kernel) ?_
    refine idx_rd (Gt.owrd _ o6) ?_ ?_ fun b8 o8 hb8 => ?_
    · trivial
    · omega
    refine load_partN default (0) 1 rfl (Gt.owrd _ o6) ?_ ?_ hb8 rfl (by decide) (mem_at 0 rfl) fun l9 hl9 => ?_
    · trivial
    · omega
    obtain ⟨rfl, w0x9, w1x9, w2x9⟩ := gFile_rd.1 hl9
    refine idx_rd (Gt.owrd _ o6) ?_ ?_ fun b10 o10 hb10 => ?_
    · trivial
    · omega
    refine load_partN default (0) 1 rfl (Gt.owrd _ o6) ?_ ?_ hb10 rfl (by decide) (mem_at 0 rfl) fun l11 hl11 => ?_
    · trivial
    · omega
    obtain ⟨rfl, w0x11, w1x11, w2x11⟩ := gFile_rd.1 hl11
    refine idx_rd (Gt.owrd _ o6) ?_ ?_ fun b12 o12 hb12 => ?_
    · trivial
    · omega
    refine load_partN default (0) 1 rfl (Gt.owrd _ o6) ?_ ?_ hb12 rfl (by decide) (mem_at 0 rfl) fun l13 hl13 => ?_
    · trivial
    · omega
    obtain ⟨rfl, w0x13, w1x13, w2x13⟩ := gFile_rd.1 hl13
    refine VC.intro ?_ ?_
    · omega
    refine VC.intro ?_ ?_
    · (have h9 := Int.tmod_nonneg ((([] ++ dd3.files)[0]?.getD default).text.size : Int) hd2; have h8 := Int.tmod_lt_of_pos dx2 (show (0 : Int) < ((([] ++ dd3.files)[0]?.getD default).text.size : Nat) by omega); rw [wrap_of (by omega) (by omega)]; omega)
    refine idx_rd (Gt.owrd _ o6) ?_ ?_ fun b14 o14 hb14 => ?_
    · trivial
    · omega
    refine gstoreN gFile_text default (0) 0 rfl rfl o6 ?_ ?_ hb14 rfl fl_pl _ (gS_ow ?_) fun A15 o15 => ?_
    · trivial
    · omega
    · simp_all; omega
    refine idx_rd (Gt.owrd _ o15) ?_ ?_ fun b16 o16 hb16 => ?_
    · trivial
    · simp_all; omega
    refine gstoreN gFile_kept default (0) 0 rfl rfl o15 ?_ ?_ hb16 rfl gI_pl _ (gI_ow ?_) fun A17 o17 => ?_
    · trivial
    · simp_all; omega
    · trivial
    exact ⟨_, any_end (files_rd o17) (by assumption) (by assumption), rle_pick [0, 2] 4 rfl rfl (by decide)⟩
  ·
    simp at q7
    refine VCsplit.intro (fun q18 => ?_) (fun q18 => ?_)
    ·
      simp at q18
      refine VC.intro ?_ ?_
      · omega
      exact ⟨_, any_end (tail_rd o6 (by omega)) (by assumption) (by assumption), rle_pick [0, 2] 4 rfl rfl (by decide)⟩
    ·
      simp at q18
      refine VCsplit.intro (fun q19 => ?_) (fun q19 => ?_)
      ·
        simp at q19
        refine idx_rd (Gt.owrd _ o6) ?_ ?_ fun b20 o20 hb20 => ?_
        · trivial
        · omega
        refine gstoreN gFile_kept default (0) 0 rfl rfl o6 ?_ ?_ hb20 rfl gI_pl _ (gI_ow ?_) fun A21 o21 => ?_
        · trivial
        · omega
        · trivial
        exact ⟨_, any_end (files_rd o21) (by assumption) (by assumption), rle_pick [0, 2] 4 rfl rfl (by decide)⟩
      ·
        simp at q19
        refine VCsplit.intro (fun q22 => ?_) (fun q22 => ?_)
        ·
          simp at q22
          refine call_val (hfr) trivial ?_
          rintro _ rfl
          refine VCnew.intro fun x24 => ?_
          refine gappend1 (g := gFile) (T := (323 : TypeId)) G_ok A6 [] [[(x5, Obj.cells { toList := zeros (0 : Nat) [Value.string ByteArray.empty, Value.string ByteArray.empty, Value.int IntKind.i64 (0 : Int)] } (323 : TypeId))], curHp bb b xs.length c ci3 ch3, T3, H] ?_ o6 (gFile_own ‹_›) (List.mem_of_getElem? (i := 0) rfl) rfl rfl rfl rfl rfl rfl rfl rfl ?_ fun b25 c25 A25 o25 => ?_
          · exact .tl
          · omega
          exact ⟨_, any_end (files_rd o25) (by assumption) (by assumption), rle_pick [0, 2] 4 rfl rfl (by decide)⟩
        ·
          simp at q22
          exact ⟨_, any_end (files_rd o6) (by assumption) (by assumption), rle_pick [0, 2] 4 rfl rfl (by decide)⟩
abbrev gRD : Gt (RawC gDisk.size) := gRaw gDisk.size gDisk.pos
theorem raw_appD {l : List Value} (h : l.length = gDisk.size ∧ allOne l = true) : gRD.ow l ⟨l, h⟩ [] := ⟨rfl, trivial, rfl⟩
theorem raw_all {α : Type} {g : Gt α} {T : TypeId} {b : Option Addr} {n c : Nat} {ls : List (RawC g.size)} {xs : List α} {A0 M : Hp} (ho : Ow (flRaw g.size g.pos) T (.slice b n c) ls A0) (hl : ls.length = xs.length) (hr : ∀ i (h1 : i < ls.length) (h2 : i < xs.length), g.rd M (ls[i]).1 xs[i]) (hs : ∀ p ∈ A0, p ∈ M) : (gSl T g).rd M [.slice b n c] xs := by
  obtain ⟨base, cap, e, h1, h2⟩ := ho.rd
  refine ⟨base, cap, by rw [← hl]; exact e, by rw [← hl]; exact h1, fun i hi => ?_⟩
  obtain ⟨b, o, l', h3, h4, h5⟩ := h2 i (by omega)
  have h6 : l' = (ls[i]'(by omega)).1 := h5.1
  exact ⟨b, o, l', h3, h4.mono hs, by rw [h6]; exact hr i (by omega) hi⟩
theorem raw_lists {α : Type} {g : Gt α} {ls : List (RawC g.size)} {xs : List α} {As : List Hp} {M : Hp} (h : OwL g ls xs As) (hs : ∀ p ∈ As.flatten, p ∈ M) (i : Nat) (h1 : i < ls.length) (h2 : i < xs.length) : g.rd M (ls[i]).1 xs[i] := by
  obtain ⟨e1, e2⟩ := h.len
  exact g.mono (fun p hp => hs p (List.mem_flatten.2 ⟨_, List.getElem_mem (by omega), hp⟩)) (g.owrd (h.get i h2 h1 (by omega)))
theorem raw_more {α : Type} {g : Gt α} {ls : List (RawC g.size)} {xs : List α} {As : List Hp} {M : Hp} {l : RawC g.size} {x : α} (h : OwL g ls xs As) (hs : ∀ p ∈ As.flatten, p ∈ M) (hx : g.rd M l.1 x) (i : Nat) (h1 : i < (ls ++ [l]).length) (h2 : i < (xs ++ [x]).length) : g.rd M ((ls ++ [l])[i]).1 (xs ++ [x])[i] := by
  obtain ⟨e1, e2⟩ := h.len
  rw [List.length_append, List.length_singleton] at h1 h2
  rcases (by omega : i < ls.length ∨ i = ls.length) with h3 | rfl
  · rw [List.getElem_append_left h3, List.getElem_append_left (by omega)]
    exact raw_lists h hs i h3 (by omega)
  rw [List.getElem_append_right (Nat.le_refl _), List.getElem_append_right (by omega)]
  simpa [e1] using hx
theorem disksOf_len (g : Graph) (n : Int) : (disksOf g n).length ≤ 8 := by
  unfold disksOf
  split
  · rename_i h
    rw [disksK_len]
    have := disksIf_iff.1 h
    omega
  simp
theorem drawn_fin {T : TypeId} {b : Option Addr} {c : Nat} {ls : List (RawC gDisk.size)} {l : RawC gDisk.size} {xs : List Disk} {d : Disk} {As : List Hp} {A9 T7 : Hp} (o : (gSl T gRD).ow [.slice b (ls ++ [l]).length c] (ls ++ [l]) A9) (hL : OwL gDisk ls xs As) (r : gDisk.rd T7 l.1 d) (hx : xs.length ≤ 8) :
    ∃ (ds : List Disk) (db : Option Addr) (dc : Nat), Value.slice b (ls ++ [l]).length c = .slice db ds.length dc ∧ ds.length ≤ 9 ∧ (gSl T gDisk).rd (A9 ++ (T7 ++ As.flatten)) [.slice db ds.length dc] ds := by
  have e : (ls ++ [l]).length = (xs ++ [d]).length := by rw [List.length_append, List.length_append, hL.len.1]; rfl
  refine ⟨xs ++ [d], b, c, sl_eq e, by rw [List.length_append]; show xs.length + 1 ≤ 9; omega, ?_⟩
  rw [← e]
  exact raw_all (fl_ow o) e (raw_more hL (fun p h => List.mem_append_right _ (List.mem_append_right _ h)) (gDisk.mono (fun p h => List.mem_append_right _ (List.mem_append_left _ h)) r)) fun p h => List.mem_append_left _ h
--@ct spec.DrawGathered new DrawGathered_ct _ _ _ _ | %1 | obtain ⟨ds#, db#, dc#, rfl, hl#, rd#⟩ := o#
theorem DrawGathered_ct (b : Option Addr) (m c : Nat) (xs : List UInt8) :
    Ct Tryz.prog 53 [.slice b m c] [] (fun H => (rpSl flByte.rp).rd H [.slice b m c] xs)
      (fun v A => ∃ (ds : List Disk) (db : Option Addr) (dc : Nat), v = .slice db ds.length dc ∧ ds.length ≤ 9 ∧ (gSl 153 gDisk).rd A [.slice db ds.length dc] ds) := by
  refine Ct.intro0 G_ok Tryz.func53 rfl rfl rfl fun E H hp => ?_
  obtain ⟨rfl, hl⟩ := rd_len hp
  refine call_new (l01New_ct _ _ _ _) (Rp.mono _ (mem_at 0 rfl) hp) ?_
  rintro _ A0 ⟨bb0, h0, rfl, rfl⟩
  refine callR_at 0 rfl (l01Below_ct _ _ _ _ _ _ _ _ (by omega) (by omega) (by omega)) (Rp.mono _ (mem_at 1 rfl) hp) ?_
  rintro _ A1 ⟨dx1, ci1, ch1, rfl, hd1, he1, hi1, hj1, rfl⟩
  refine callR_at 0 rfl (l01Below_ct _ _ _ _ _ _ _ _ (by omega) (by omega) (by omega)) (Rp.mono _ (mem_at 1 rfl) hp) ?_
  rintro _ A2 ⟨dx2, ci2, ch2, rfl, hd2, he2, hi2, hj2, rfl⟩
  refine callR_part (curHp bb0 b xs.length c ci2 ch2) [H] (l04Graph_ct _ _ _ _ _ _ _ (by omega) (by omega) (by omega)) ?_ (Rp.mono _ (mem_at 0 rfl) hp) ?_
  · exact .le fun a => by (try simp only [setR, List.cons_append, List.nil_append]); simp only [List.flatten_append, List.flatten_cons, List.flatten_nil, List.count_append, List.count_nil, List.append_nil, List.nil_append]; omega
  rintro _ A3 ⟨gg3, gb3, gc3, ci3, ch3, T3, rfl, hg3, hi3, hj3, hP3, ot3⟩
  refine ⟨[curHp _ _ _ _ ci3 ch3, T3], by simpa using hP3, ?_⟩
  have wg3 := graph_ow (graphOk_okI hg3) ot3
  refine call_newP (specDisksOf_ct _ (gg3) _ ?_) (Rp.mono _ (mem_at 1 rfl) (Gt.owrd _ wg3)) ?_
  · exact okI_wrap _
  rintro v4 A4 o4
  obtain ⟨b4, c4, rfl, o4⟩ := o4
  obtain ⟨v9, ls, A0, As, ev9, hoB, hpB, hLB⟩ := o4
  cases ev9
  have hLl := hLB.len
  have oW := ow_fl (mk := fun _ => zRaw _) (sz := fun _ => 0) hoB
  refine ⟨[A0, As.flatten], by simpa using hpB, ?_⟩
  refine VCsplit.intro (fun q5 => ?_) (fun q5 => ?_)
  ·
    simp at q5
    refine VC.intro ?_ ?_
    · omega
    exact ⟨[], ⟨[], _, _, rfl, by simp, ⟨_, _, rfl, ⟨Nat.zero_le _, by decide⟩, fun i hi => absurd hi (by simp)⟩⟩, (.le fun a => by (try simp only [setR, List.cons_append, List.nil_append]); simp [List.count_cons, Blk.ent, idOf]; try omega)⟩
  ·
    simp at q5
    refine VCsplit.intro (fun q6 => ?_) (fun q6 => ?_)
    ·
      simp at q6
      refine callR_part (curHp bb0 b xs.length c ci3 ch3) [A0, As.flatten, T3, H] (l16Any_ct _ _ _ _ _ _ _ (by omega) (by omega) (by omega)) ?_ (Rp.mono _ (mem_at 3 rfl) hp) ?_
      · exact .le fun a => by (try simp only [setR, List.cons_append, List.nil_append]); simp only [List.flatten_append, List.flatten_cons, List.flatten_nil, List.count_append, List.count_nil, List.append_nil, List.nil_append]; omega
      rintro _ A7 ⟨dd7, db7, dc7, ci7, ch7, T7, rfl, hi7, hj7, hP7, rt7⟩
      refine ⟨[curHp _ _ _ _ ci7 ch7, T7], by simpa using hP7, ?_⟩
      refine VCnew.intro fun x8 => ?_
      refine gappend1 (g := gRD) (T := (153 : TypeId)) G_ok A0 [] [curHp bb0 b xs.length c ci7 ch7, T7, As.flatten, T3, H] ?_ oW (raw_appD ⟨rfl, rfl⟩) (List.mem_of_getElem? (i := 0) rfl) rfl rfl rfl rfl rfl rfl rfl rfl ?_ fun b9 c9 A9 o9 => ?_
      · exact .le fun a => by (try simp only [setR, List.cons_append, List.nil_append]); simp only [List.flatten_append, List.flatten_cons, List.flatten_nil, List.count_append, List.count_nil, List.append_nil, List.nil_append]; omega
      · (have h9 := disksOf_len gg3 (IntKind.i64.wrap (1 + dx2)); omega)
      try dsimp only
      exact ⟨_, drawn_fin o9 hLB rt7 (disksOf_len _ _), rle_pick [0, 2, 3] 5 rfl rfl (by decide)⟩
    ·
      simp at q6
      exact ⟨_, ⟨disksOf _ _, _, _, rfl, Nat.le_trans (disksOf_len _ _) (by decide), raw_all hoB hLl.1 (raw_lists hLB (fun p h => List.mem_append_right _ h)) (fun p h => List.mem_append_left _ h)⟩, rle_pick [0, 1] 4 rfl rfl (by decide)⟩
end Go.Proofs.YtjgehblllhkdbaaGreat

namespace Go.Proofs.YtjgehblllhkdbaaGreat
open Go.SX Go.Proofs
set_option maxHeartbeats 1000000
theorem eqE_run (w : World) (a c a' c' : Int) (b b' : Int) : (Op.equalIn 10000 209 (.agg #[.int .i64 a, .int .u8 b, .int .i64 c]) (.agg #[.int .i64 a', .int .u8 b', .int .i64 c'])).run Tryz.prog w = .ok (a == a' && (b == b' && c == c')) w := by
  have u3 := Tryz.underlying3
  have a3 := Tryz.isAgg3
  have z3 := Tryz.sizeOf3
  have u5 := Tryz.underlying5
  have a5 := Tryz.isAgg5
  have z5 := Tryz.sizeOf5
  have hS : Tryz.prog.underlying 209 = some (.struct (Tryz.prog.fieldsOf 209)) := by kernel_rfl
  have hp : Tryz.prog.stoodInHeld 209 = false := by kernel_rfl
  rw [show (10000 : Nat) = 9999 + 1 from rfl, run_equalIn_agg w 9999 209 _ _ hS hp]
  simp only [Program.fieldsOf, Tryz.underlying209]
  go_simp
  by_cases h1 : a = a' <;> by_cases h2 : b = b' <;> by_cases h3 : c = c' <;> simp [h1, h2, h3]
end Go.Proofs.YtjgehblllhkdbaaGreat

namespace Go.Proofs.YtjgehblllhkdbaaGreat
open Go.SX Go.Proofs
set_option linter.unusedSimpArgs false
set_option linter.unusedVariables false
set_option maxHeartbeats 8000000
attribute [local irreducible] IntKind.wrap
--@ct laws.big val big_ct _ _ _ | trivial
theorem big_ct (b : Option Addr) (m c : Nat) : Ct Tryz.prog 48 [.slice b m c] [] (fun _ => True) (fun v A => v = .bool (decide ((1048576 : Int) < m)) ∧ A = []) := by
  refine Ct.intro0 G_ok Tryz.func48 rfl rfl rfl fun E H hp => ?_
  exact ⟨[], ⟨rfl, rfl⟩, .refl _⟩
theorem sg_no1 {a b : Graph} (h : ¬ a.size = b.size) : decide (a = b) = false := decide_eq_false fun e => h (by rw [e])
theorem sg_no2 {a b : Graph} (h : ¬ a.edges.length = b.edges.length) : decide (a = b) = false := decide_eq_false fun e => h (by rw [e])
theorem sg_no3 {a b : Graph} {k : Nat} (h : ¬ (a.edges[k]?.getD default) = (b.edges[k]?.getD default)) : decide (a = b) = false := decide_eq_false fun e => h (by rw [e])
theorem sg_more {a b : List Edge} {k : Nat} (ha : k < a.length) (hb : k < b.length) (h : a.take k = b.take k) (h2 : (a[k]?.getD default) = (b[k]?.getD default)) : a.take (k + 1) = b.take (k + 1) := by
  rw [← List.take_append_getElem ha, ← List.take_append_getElem hb, h]
  rw [List.getElem?_eq_getElem ha, List.getElem?_eq_getElem hb] at h2
  rw [show a[k] = b[k] from h2]
theorem sg_yes {a b : Graph} {k : Nat} (h0 : a.size = b.size) (h : a.edges.take k = b.edges.take k) (ha : a.edges.length ≤ k) (hb : b.edges.length ≤ k) : decide (a = b) = true := by
  rw [List.take_of_length_le ha, List.take_of_length_le hb] at h
  obtain ⟨s, es⟩ := a
  obtain ⟨s2, es2⟩ := b
  exact decide_eq_true (by rw [show s = s2 from h0, show es = es2 from h])
section
variable {P : Program} {E : World} {n : Nat}
theorem raw_neqE {dst : Option Nat} {x y : Operand} {ty yt : TypeId} {pos : String} {after : Array Go.Edge} {guard : Option (Nat × Bool)} {fr : Fr} {bl : List Blk} {R : List Hp} {K : St → Prop} {a b c a' b' c' : Int}
    (hx1 : getK fr x fun sv => sv = .v (.agg ⟨[.int .i64 a, .int .u8 b, .int .i64 c]⟩)) (hx2 : getK fr y fun sv => sv = .v (.agg ⟨[.int .i64 a', .int .u8 b', .int .i64 c']⟩))
    (hk : putK n fr dst (.v (.bool (!(a == a' && (b == b' && c == c'))))) fun fr => K ⟨fr, bl, R⟩) : VCraw Tryz.prog E n ⟨dst, .binOp .neq 209 x y yt, ty, pos, after, guard⟩ ⟨fr, bl, R⟩ K := by
  refine ⟨fun a w hr Q => ?_⟩
  obtain ⟨sv, g1, _, rfl⟩ := getK_sound hr hx1
  obtain ⟨sv, g2, _, rfl⟩ := getK_sound hr hx2
  refine wp_value (s := .v _) (v := .bool _) ?_ hr rfl trivial hk
  simp only [execOp, Sem.run_bind, Sem.run_pure, Result.andThen_ok]
  rw [g1, g2]
  simp only [SV.den]
  rw [run_eqGuard_agg _ _ _ _ _ _ _ (show Tryz.prog.eqGuardType Tryz.prog.depth 209 = false by kernel_rfl), Result.andThen_ok, run_neq_struct, eqE_run]
  rfl
end
theorem edge_ne {e f : Edge} (h : ¬ e.from' = f.from' ∨ ¬ e.label = f.label ∨ ¬ e.to = f.to) : ¬ e = f := fun x => by subst x; simp at h
theorem edge_eq {e f : Edge} (h : e.from' = f.from' ∧ e.label = f.label ∧ e.to = f.to) : e = f := by
  obtain ⟨a, b, c⟩ := e
  obtain ⟨a', b', c'⟩ := f
  obtain ⟨h1, h2, h3⟩ := h
  dsimp only at h1 h2 h3
  rw [h1, h2, h3]
--@ct laws.sameGraph val sameGraph_ct _ _ $1 $2 | ⟨%1, %2⟩
theorem sameGraph_ct (l l2 : List Value) (a b : Graph) : Ct Tryz.prog 55 [.agg ⟨l⟩, .agg ⟨l2⟩] [] (fun H => gGraph.rd H l a ∧ gGraph.rd H l2 b) (fun v A => v = .bool (decide (a = b)) ∧ A = []) := by
  refine Ct.intro0 G_ok Tryz.func55 rfl rfl rfl fun E H hp => ?_
  obtain ⟨hp, hq⟩ := hp
  obtain ⟨b1p, c1p, rfl, w0p, h1p⟩ := gGraph_rd.1 hp
  obtain ⟨b1q, c1q, rfl, w0q, h1q⟩ := gGraph_rd.1 hq
  have hlp := (sl_len h1p).2.2
  have hlq := (sl_len h1q).2.2
  refine VCnew.intro fun x0 => ?_
  refine VCnew.intro fun x1 => ?_
  refine VCsplit.intro (fun q2 => ?_) (fun q2 => ?_)
  ·
    simp at q2
    exact ⟨[], ⟨by rw [sg_no1 (by assumption)], rfl⟩, (.le fun a => by (try simp only [setR, List.cons_append, List.nil_append]); simp [List.count_cons, Blk.ent, idOf]; try omega)⟩
  ·
    simp at q2
    refine VCsplit.intro (fun q3 => ?_) (fun q3 => ?_)
    ·
      simp at q3
      exact ⟨[], ⟨by rw [sg_no2 (by omega)], rfl⟩, (.le fun a => by (try simp only [setR, List.cons_append, List.nil_append]); simp [List.count_cons, Blk.ent, idOf]; try omega)⟩
    ·
      simp at q3
      apply loop_mod (α := (Nat)) G_ok [20, 21, 22, 23, 24, 27, 28, 29, 30, 31, 32, 33, 34, 35, 36, 37, 4, 25, 26, 5] (fun z => [(5, .v (.int .i64 z))]) (fun z => [{ id := x0, cs := [Value.int IntKind.i64 a.size, Value.slice b1p a.edges.length c1p], ty := (88 : Nat) }, { id := x1, cs := [Value.int IntKind.i64 b.size, Value.slice b1q b.edges.length c1q], ty := (88 : Nat) }]) (fun z => [H]) (fun z => a.edges.length - z) (fun z => z ≤ a.edges.length ∧ a.edges.take z = b.edges.take z) ((0))
      · repeat' (first | exact trivial | refine ⟨⟨_, rfl, by first | rfl | exact inc_eq _ (by omega) | (refine sl_eq ?_; simp; done), by first | exact trivial | simp [SV.ok]⟩, ?_⟩)
      · exact ⟨rfl, rfl, trivial⟩
      · exact ⟨Nat.zero_le _, rfl⟩
      · exact .refl _
      rintro k hI
      obtain ⟨hk, he⟩ : k ≤ a.edges.length ∧ a.edges.take k = b.edges.take k := hI
      try dsimp only
      refine VCsplit.intro (fun q4 => ?_) (fun q4 => ?_)
      ·
        simp at q4
        refine draw G_ok mixed (some 10) (.q 0 (.q 1 (.q 2 (.q 3 (.q 4 (.q 5 (.q 6 (.q 7 (.q 8 (.q 9 (.tl 10 (.nil)))))))))))) (by decide +kernel) ?_
        refine idx_rd h1p ?_ ?_ fun b5 o5 hb5 => ?_
        · omega
        · omega
        refine load_allN default (k) rfl h1p ?_ ?_ hb5 rfl (mem_at 0 rfl) fun l6 hl6 => ?_
        · omega
        · omega
        obtain ⟨rfl, w0x6, w2x6⟩ := gEdge_rd.1 hl6
        refine idx_rd h1q ?_ ?_ fun b7 o7 hb7 => ?_
        · omega
        · omega
        refine load_allN default (k) rfl h1q ?_ ?_ hb7 rfl (mem_at 0 rfl) fun l8 hl8 => ?_
        · omega
        · omega
        obtain ⟨rfl, w0x8, w2x8⟩ := gEdge_rd.1 hl8
        refine raw_neqE (by rfl) (by rfl) ?_
        refine VCsplit.intro (fun q9 => ?_) (fun q9 => ?_)
        ·
          simp at q9
          simp only [str_inj, u8_inj, u8_wrap] at q9
          exact ⟨[], ⟨by rw [sg_no3 (k := k) (edge_ne (by assumption))], rfl⟩, (.le fun a => by (try simp only [setR, List.cons_append, List.nil_append]); simp [List.count_cons, Blk.ent, idOf]; try omega)⟩
        ·
          simp at q9
          simp only [str_inj, u8_inj, u8_wrap] at q9
          apply loop_stepA (k + 1)
          · exact .refl _
          · repeat' (first | exact trivial | refine ⟨⟨_, rfl, by first | rfl | exact inc_eq _ (by omega) | (refine sl_eq ?_; simp; done), by first | exact trivial | simp [SV.ok]⟩, ?_⟩)
          · exact ⟨rfl, rfl, trivial⟩
          · exact ⟨by omega, sg_more (by omega) (by omega) he (edge_eq (by assumption))⟩
          omega
      ·
        simp at q4
        exact ⟨[], ⟨by rw [sg_yes (k := k) (by assumption) he (by omega) (by omega)], rfl⟩, (.le fun a => by (try simp only [setR, List.cons_append, List.nil_append]); simp [List.count_cons, Blk.ent, idOf]; try omega)⟩
theorem gathers_facts {g : Graph} {ps : List Int} (hg : graphOk g = true) (hl : ps.length = 12) (hps : ∀ x ∈ ps, 0 ≤ x ∧ x < 10000) :
    disksIf g (IntKind.i64.wrap (1 + (ps[0]?.getD 0).tmod 8)) = true ∧ ((disksOf g (IntKind.i64.wrap (1 + (ps[0]?.getD 0).tmod 8))).length : Int) = IntKind.i64.wrap (1 + (ps[0]?.getD 0).tmod 8) ∧ gathered (disksOf g (IntKind.i64.wrap (1 + (ps[0]?.getD 0).tmod 8))) = some g ∧ gaR (disksOf g (IntKind.i64.wrap (1 + (ps[0]?.getD 0).tmod 8))) = g ∧ disksIf g 0 = false := by
  have h1 := hps (ps[0]?.getD 0) (by rw [List.getElem?_eq_getElem (by omega)]; exact List.getElem_mem _)
  have h2 := Int.tmod_nonneg 8 h1.1
  have h3 := Int.tmod_lt_of_pos (ps[0]?.getD 0) (show (0 : Int) < 8 by decide)
  generalize (ps[0]?.getD 0).tmod 8 = d at *
  rw [show IntKind.i64.wrap (1 + d) = 1 + d from wrap_of (by omega) (by omega)]
  have hi : disksIf g (1 + d) = true := disksIf_iff.2 ⟨hg, by omega, by omega⟩
  have hG := gathered_disks hg (n := 1 + d) (by omega) (by omega)
  refine ⟨hi, ?_, hG, ?_, ?_⟩
  · rw [disks_yes hi, disksK_len]; omega
  · unfold gaR; rw [hG]; rfl
  unfold disksIf; rw [show inR 1 8 0 = false by decide]; simp
theorem fnGathers_ct (v : Value) :
    Ct Tryz.prog 8 [v] [] (fun H => ∃ xs, rdV false (rpSl flByte.rp) H v xs) (fun v A => v = .bool true ∧ A = []) := by
  refine Ct.intro0 G_ok Tryz.func8 rfl rfl rfl fun E H hp => ?_
  obtain ⟨xs, hp⟩ := hp
  obtain ⟨b, c, e, hl1, hl2⟩ := id hp
  cases e
  have hp : (rpSl flByte.rp).rd H [.slice b xs.length c] xs := hp
  refine call_val (big_ct _ _ _) trivial ?_
  rintro _ rfl
  refine VCsplit.intro (fun q1 => ?_) (fun q1 => ?_)
  ·
    simp at q1
    exact ⟨[], ⟨rfl, rfl⟩, (.le fun a => by (try simp only [setR, List.cons_append, List.nil_append]); simp only [List.flatten_append, List.flatten_cons, List.flatten_nil, List.count_append, List.count_nil, List.append_nil, List.nil_append]; omega)⟩
  ·
    simp at q1
    refine call_new (DrawGraph_ct _ _ _ _) (Rp.mono _ (mem_at 0 rfl) hp) ?_
    rintro v2 A2 o2
    obtain ⟨g2, gb2, gc2, rfl, hg2, ot2⟩ := o2
    have wg2 := graph_ow (graphOk_okI hg2) ot2
    refine VCnew.intro fun x3 => ?_
    refine call_new (DrawPlaces_ct _ _ _ _) (Rp.mono _ (mem_at 1 rfl) hp) ?_
    rintro v4 A4 o4
    obtain ⟨ps4, pb4, pc4, rfl, ⟨hpl4, hps4⟩, op4⟩ := o4
    refine idx_rd (Gt.owrd _ op4) ?_ ?_ fun b5 o5 hb5 => ?_
    · trivial
    · omega
    refine load_allN 0 (0) rfl (Gt.owrd _ op4) ?_ ?_ hb5 rfl (mem_at 0 rfl) fun l6 hl6 => ?_
    · trivial
    · omega
    obtain ⟨rfl, hw6⟩ := hl6; simp only [flStr, flInt, okI] at hw6
    refine VC.intro ?_ ?_
    · trivial
    refine call_new (implDisksOf_ct _ (g2) _ ?_) (Rp.mono _ (mem_at 1 rfl) (Gt.owrd _ wg2)) ?_
    · exact okI_wrap _
    rintro v7 A7 o7
    obtain ⟨b7, c7, rfl, o7⟩ := o7
    refine call_new (implGathered_ct _ _ _ (disksOf g2 (IntKind.i64.wrap ((1 : Int) + (ps4[(0 : Nat)]?.getD (0 : Int)).tmod (8 : Int)))) ?_) (Rp.mono _ (mem_at 0 rfl) (Gt.owrd _ o7)) ?_
    · exact Nat.le_trans (disksOf_len _ _) (by decide)
    rintro v8 A8 o8
    obtain ⟨b8, c8, rfl, o8⟩ := o8
    have p8 := graph_ow (ga_okI _) o8
    have r8 := Gt.owrd _ p8
    refine VCnew.intro fun x9 => ?_
    refine call_new (implDisksOf_ct _ (g2) _ ?_) (Rp.mono _ (mem_at 3 rfl) (Gt.owrd _ wg2)) ?_
    · trivial
    rintro v10 A10 o10
    obtain ⟨b10, c10, rfl, o10⟩ := o10
    refine call_new (DrawGathered_ct _ _ _ _) (Rp.mono _ (mem_at 5 rfl) hp) ?_
    rintro v11 A11 o11
    obtain ⟨ds11, db11, dc11, rfl, hl11, rd11⟩ := o11
    refine call_new (implGathered_ct _ _ _ (ds11) ?_) (Rp.mono _ (mem_at 0 rfl) rd11) ?_
    · omega
    rintro v12 A12 o12
    obtain ⟨b12, c12, rfl, o12⟩ := o12
    have p12 := graph_ow (ga_okI _) o12
    have r12 := Gt.owrd _ p12
    refine VCnew.intro fun x13 => ?_
    refine call_new (specGathered_ct _ _ _ (ds11) ?_) (Rp.mono _ (mem_at 1 rfl) rd11) ?_
    · omega
    rintro v14 A14 o14
    obtain ⟨b14, c14, rfl, o14⟩ := o14
    have p14 := graph_ow (ga_okI _) o14
    have r14 := Gt.owrd _ p14
    refine VCnew.intro fun x15 => ?_
    refine VCsplit.intro (fun q16 => ?_) (fun q16 => ?_)
    ·
      refine VCsplit.intro (fun q17 => ?_) (fun q17 => ?_)
      ·
        simp at q17
        refine VCsplit.intro (fun q18 => ?_) (fun q18 => ?_)
        ·
          refine call_val (sameGraph_ct _ _ (gaR (disksOf g2 (IntKind.i64.wrap ((1 : Int) + (ps4[(0 : Nat)]?.getD (0 : Int)).tmod (8 : Int))))) (g2)) ⟨(Rp.mono _ (mem_at 4 rfl) r8), (Rp.mono _ (mem_at 7 rfl) (Gt.owrd _ wg2))⟩ ?_
          rintro _ rfl
          refine VCsplit.intro (fun q20 => ?_) (fun q20 => ?_)
          ·
            simp at q20
            refine VCsplit.intro (fun q21 => ?_) (fun q21 => ?_)
            ·
              simp at q21
              refine VCsplit.intro (fun q22 => ?_) (fun q22 => ?_)
              ·
                simp at q22
                refine call_val (sameGraph_ct _ _ (gaR ds11) (gaR ds11)) ⟨(Rp.mono _ (mem_at 1 rfl) r12), (Rp.mono _ (mem_at 0 rfl) r14)⟩ ?_
                rintro _ rfl
                exact ⟨[], ⟨congrArg Value.bool (decide_eq_true rfl), rfl⟩, (.le fun a => by (try simp only [setR, List.cons_append, List.nil_append]); simp only [List.flatten_append, List.flatten_cons, List.flatten_nil, List.count_append, List.count_nil, List.append_nil, List.nil_append]; omega)⟩
              ·
                simp at q22
            ·
              simp at q21
              exact absurd ((gathers_facts hg2 hpl4 hps4).2.2.2.2.symm.trans ‹disksIf g2 0 = true›) (by decide)
          ·
            simp at q20
            exact absurd (gathers_facts hg2 hpl4 hps4).2.2.2.1 (by assumption)
        ·
          simp at q18
          exact absurd ((gathers_facts hg2 hpl4 hps4).2.2.1.symm.trans (by assumption)) (by simp)
      ·
        simp at q17
        exact absurd (gathers_facts hg2 hpl4 hps4).2.1 (by assumption)
    ·
      exact absurd ((gathers_facts hg2 hpl4 hps4).1.symm.trans (by assumption)) (by decide)
end Go.Proofs.YtjgehblllhkdbaaGreat
