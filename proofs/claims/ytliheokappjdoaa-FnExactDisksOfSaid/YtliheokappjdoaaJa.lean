/-
  A record stored on an empty disk; the disk of a part, on both sides. Conditions: none.
-/
import Derived.Test.YtliheokappjdoaaIb
import Derived.Test.YtliheokappjdoaaIc
import Derived.Test.YtliheokappjdoaaHg
import Derived.Test.YtliheokappjdoaaJb
import Derived.Test.YtliheokappjdoaaJl
namespace Go.Proofs.Ytliheokappjdoaa
open Go.SX Go.Proofs
set_option linter.unusedSimpArgs false
set_option linter.unusedVariables false
set_option maxHeartbeats 4000000
attribute [local irreducible] IntKind.wrap

theorem perm1 {α : Type} {e : α} {A : List α} : (e :: A).Perm (e :: [A].flatten) := by simp
theorem okI_lit' {n : Int} (h : -9223372036854775808 ≤ n) (h2 : n ≤ 9223372036854775807) : okI n := ⟨h, h2⟩
theorem lessS_irr (a : ByteArray) : lessS a a = false := bytesLess_irr _
theorem bytesLess_gt : ∀ x y : List UInt8, Op.bytesLess y x = (!Op.bytesLess x y && !(x == y))
  | [], [] => rfl
  | [], b :: y => rfl
  | a :: x, [] => rfl
  | a :: x, b :: y => by
    have ih := bytesLess_gt x y
    show (decide (b < a) || (b == a && Op.bytesLess y x)) = (!(decide (a < b) || (a == b && Op.bytesLess x y)) && !(a == b && x == y))
    rw [ih]
    by_cases h1 : a = b
    · subst h1
      have h2 : ¬ a < a := by rw [UInt8.lt_iff_toNat_lt]; omega
      simp [h2]
    · have h3 : (a == b) = false := by simpa using h1
      have h4 : (b == a) = false := by simpa using fun h => h1 h.symm
      have h5 : ¬ a.toNat = b.toNat := fun h => h1 (UInt8.toNat_inj.1 h)
      rw [h3, h4]
      simp only [Bool.false_and, Bool.or_false, Bool.not_false, Bool.and_true]
      by_cases h6 : b < a
      · have h7 : ¬ a < b := by rw [UInt8.lt_iff_toNat_lt] at *; omega
        simp [h6, h7]
      · have h7 : a < b := by rw [UInt8.lt_iff_toNat_lt] at *; omega
        simp [h6, h7]
theorem lessS_gt {a b : ByteArray} (h : lessS a b = false ∧ ¬ a = b) : lessS b a = true := by
  unfold lessS at *
  rw [bytesLess_gt, h.1, beq_str, decide_eq_false h.2]; rfl
theorem lessS_le {a b : ByteArray} (h : lessS a b = false → a = b) : lessS b a = false := by
  unfold lessS at *
  rw [bytesLess_gt, beq_str]
  cases e : Op.bytesLess a.toList b.toList with
  | true => rfl
  | false => rw [decide_eq_true (h e)]; rfl
theorem gDisk_sl {l : List Value} {d : Disk} {A : Hp} (h : gDisk.ow l d A) : ∃ b c, l = [.slice b d.files.length c] ∧ (gSl 211 gFile).ow [.slice b d.files.length c] d.files A := by
  obtain ⟨b, c, A0, rfl, hp, ho⟩ := gDisk_ow.1 h
  exact ⟨b, c, rfl, Gt.owp _ ho hp⟩
theorem disk_one_sz (f : File) : gDisk.sz ⟨[f]⟩ = 1 + (f.name.size + (f.text.size + 0)) + 0 := rfl
def recActs (name rec : ByteArray) : List Act := [⟨1, name, frame rec, .empty⟩, ⟨2, name, .empty, .empty⟩]
theorem act_ow {k : Int} {a b c : ByteArray} (h : okI k) (h1 : a.size ≤ 9223372036854775807) (h2 : b.size ≤ 9223372036854775807) (h3 : c.size ≤ 9223372036854775807) : gAct.ow [.int .i64 k, .string a, .string b, .string c] ⟨k, a, b, c⟩ [] :=
  gAct_ow.2 ⟨rfl, by simp, h, h1, h2, h3⟩
theorem recActs_ow {name rec : ByteArray} {x : Nat} (h1 : name.size ≤ 100) (h2 : rec.size ≤ 9000) : (gSl 261 gAct).ow [.slice (some ⟨x, 0, none⟩) 2 2] (recActs name rec) [(x, Obj.cells ⟨[.int .i64 1, .string name, .string (frame rec), .string .empty, .int .i64 2, .string name, .string .empty, .string .empty]⟩ 261)] := by
  have := frame_size rec
  exact glit2 (act_ow (okI_lit' (by decide) (by decide)) (by omega) (by omega) (by decide)) (act_ow (okI_lit' (by decide) (by decide)) (by omega) (by decide) (by decide))

--@ct impl.storeActs new storeActs_ct _ _ ?_ ?_ ?_ | trivial | obtain ⟨b#, c#, rfl, o#⟩ := o#
theorem storeActs_ct (name rec : ByteArray) (h1 : name.size ≤ 100) (h2 : rec.size ≤ 9000) (h3 : frameOk rec = true) : Ct Try.prog 235 [.string name, .string rec] [] (fun _ => True) (fun v A => ∃ b c, v = .tuple #[.slice b (recActs name rec).length c, .bool true] ∧ (gSl 261 gAct).ow [.slice b (recActs name rec).length c] (recActs name rec) A) := by
  refine Ct.intro0 G_ok Try.func235 rfl rfl rfl fun E H hp => ?_
  have hf := frame_size rec
  refine call_val (implFrame_ct _ ?_) trivial ?_
  · omega
  rintro _ rfl
  refine VCsplit.intro (fun q1 => ?_) (fun q1 => ?_)
  ·
    simp at q1
    exact absurd (h3.symm.trans q1) (by decide)
  ·
    simp at q1
    refine VCnew.intro fun x2 => ?_
    try dsimp only
    (simp only [h3, if_true]; exact ⟨_, ⟨_, _, rfl, recActs_ow h1 h2⟩, .tl⟩)

/-! the operations on an empty disk -/
def dk (name rec : ByteArray) (k : Nat) : Disk := if k = 0 then ⟨[]⟩ else if k = 1 then ⟨[⟨name, frame rec, 0⟩]⟩ else ⟨[⟨name, frame rec, (frame rec).size⟩]⟩
def ak (name rec : ByteArray) (k : Nat) : Act := if k = 0 then ⟨1, name, frame rec, .empty⟩ else ⟨2, name, .empty, .empty⟩
theorem recActs_at (name rec : ByteArray) (k : Nat) (h : k < 2) : (recActs name rec)[k]?.getD default = ak name rec k := by
  rcases (show k = 0 ∨ k = 1 by omega) with rfl | rfl <;> rfl
theorem dk_len (name rec : ByteArray) (k : Nat) : (dk name rec k).files.length ≤ 1 := by
  unfold dk; split
  · decide
  · split <;> exact Nat.le_refl 1
theorem nameOk_sz {s : ByteArray} (h : nameOk s = true) : 1 ≤ s.size ∧ s.size ≤ 8 := by
  have := inR_iff.1 h; omega
theorem diskOk_one {f : File} (h1 : nameOk f.name = true) (h2 : f.text.size ≤ 20000) (h3 : 0 ≤ f.kept) (h4 : f.kept ≤ f.text.size) : diskOk ⟨[f]⟩ = true := by
  have : fileOk ⟨[f]⟩ 0 = true := fileOk_iff.2 ⟨h1, h2, h3, h4, .inl rfl⟩
  unfold diskOk
  show (true && (true && fileOk ⟨[f]⟩ 0)) = true
  rw [this]; rfl
theorem at14_one (f : File) : at14 ⟨[f]⟩ f.name = 0 := by
  show (if (-1 : Int) < 0 then (if f.name = f.name then ((0 : Nat) : Int) else -1) else -1) = 0
  rw [if_pos (by decide), if_pos rfl]; rfl

def putF (d : Disk) (f : File) : Disk := ⟨d.files.filter (fun x => lessS x.name f.name) ++ ([f] ++ d.files.filter (fun x => lessS f.name x.name))⟩
theorem putF_nil (f : File) : putF ⟨[]⟩ f = ⟨[f]⟩ := rfl
theorem putF_one (f f' : File) (h : f'.name = f.name) : putF ⟨[f]⟩ f' = ⟨[f']⟩ := by
  unfold putF
  simp [h, lessS_irr]

--@ct impl.actFits val actFits_ct _ $1 _ _ ?_ ?_ | %1
theorem actFits_ct (l : List Value) (a : Act) (name rec : ByteArray) (hn : nameOk name = true) (ha : a = ak name rec 0 ∨ a = ak name rec 1) : Ct Try.prog 275 [.agg ⟨l⟩] [] (fun H => gAct.rd H l a) (fun v A => v = .bool true ∧ A = []) := by
  refine Ct.intro0 G_ok Try.func275 rfl rfl rfl fun E H hp => ?_
  have hz := nameOk_sz hn
  have hfs := frame_size rec
  rcases ha with rfl | rfl
  · obtain ⟨rfl, w0, w1, w2, w3⟩ := gAct_rd.1 hp
    simp only [ak, if_true, show ¬ (1 : Nat) = 0 by decide, if_false] at *
    refine VCnew.intro fun x0 => ?_
    refine VCsplit.intro (fun q1 => ?_) (fun q1 => ?_)
    ·
      simp at q1
    ·
      simp at q1
      refine VCsplit.intro (fun q2 => ?_) (fun q2 => ?_)
      ·
        simp at q2
      ·
        simp at q2
        refine call_val (isFileName_ct _ ?_) trivial ?_
        · trivial
        rintro _ rfl
        refine VCsplit.intro (fun q4 => ?_) (fun q4 => ?_)
        ·
          simp at q4
          exact absurd (hn.symm.trans q4) (by decide)
        ·
          simp at q4
          refine VCsplit.intro (fun q5 => ?_) (fun q5 => ?_)
          ·
            simp at q5
          ·
            simp at q5
            refine VCsplit.intro (fun q6 => ?_) (fun q6 => ?_)
            ·
              simp at q6
              exact ⟨[], ⟨by (rw [beq_str, decide_eq_true (show ByteArray.empty = (⟨#[]⟩ : ByteArray) from rfl)]), rfl⟩, (.le fun a => by (try simp only [setR, List.cons_append, List.nil_append]); simp only [List.flatten_append, List.flatten_cons, List.flatten_nil, List.count_append, List.count_nil, List.append_nil, List.nil_append]; omega)⟩
            ·
              simp at q6
  · obtain ⟨rfl, w0, w1, w2, w3⟩ := gAct_rd.1 hp
    simp only [ak, if_true, show ¬ (1 : Nat) = 0 by decide, if_false] at *
    refine VCnew.intro fun x0 => ?_
    refine VCsplit.intro (fun q1 => ?_) (fun q1 => ?_)
    ·
      simp at q1
    ·
      simp at q1
      refine VCsplit.intro (fun q2 => ?_) (fun q2 => ?_)
      ·
        simp at q2
      ·
        simp at q2
        refine call_val (isFileName_ct _ ?_) trivial ?_
        · trivial
        rintro _ rfl
        refine VCsplit.intro (fun q4 => ?_) (fun q4 => ?_)
        ·
          simp at q4
          exact absurd (hn.symm.trans q4) (by decide)
        ·
          simp at q4
          refine VCsplit.intro (fun q5 => ?_) (fun q5 => ?_)
          ·
            simp at q5
            refine VCsplit.intro (fun q6 => ?_) (fun q6 => ?_)
            ·
              simp at q6
            ·
              simp at q6
              refine VCsplit.intro (fun q7 => ?_) (fun q7 => ?_)
              ·
                simp at q7
                exact ⟨[], ⟨by (rw [beq_str, decide_eq_true (show ByteArray.empty = (⟨#[]⟩ : ByteArray) from rfl)]), rfl⟩, (.le fun a => by (try simp only [setR, List.cons_append, List.nil_append]); simp only [List.flatten_append, List.flatten_cons, List.flatten_nil, List.count_append, List.count_nil, List.append_nil, List.nil_append]; omega)⟩
              ·
                simp at q7
          ·
            simp at q5

--@ct slices.Insert[[]impl.File,impl.File] raw refine callR_at &1 rfl (insFile_ct _ _ _ _ _ ~1) (Rp.mono _ (mem_at @3 rfl) (Gt.owrd _ (glit1 (gFile_own ‹gFile.rd _ _ _›)))) ?_ | | rintro _ A# ⟨b#, c#, rfl, o#⟩
theorem insFile_ct (b : Option Addr) (c x : Nat) (f : File) (A : Hp) (hA : (gSl 211 gFile).ow [.slice b 0 c] [] A) :
    CtR Try.prog 288 [.slice b 0 c, .int .i64 0, .slice (some ⟨x, 0, none⟩) 1 1] A (fun H => (gSl 211 gFile).rd H [.slice (some ⟨x, 0, none⟩) 1 1] [f]) (fun v A => ∃ b c, v = .slice b [f].length c ∧ (gSl 211 gFile).ow [.slice b [f].length c] [f] A) := by
  refine CtR.intro G_ok [A] Try.func288 rfl rfl rfl (by simp) fun E H hp => ?_
  refine VC.intro ?_ ?_
  · trivial
  refine VCsplit.intro (fun q0 => ?_) (fun q0 => ?_)
  ·
    simp at q0
  ·
    simp at q0
    refine VCsplit.intro (fun q1 => ?_) (fun q1 => ?_)
    ·
      simp at q1
      refine append_allN (g := gFile) (T := (211 : TypeId)) G_ok (by repeat (first | exact fl_plain | apply plain_iso | apply plain_pair)) A [H] 0 ?_ hA rfl hp rfl rfl rfl rfl rfl rfl rfl rfl ?_ fun b2 c2 A2 o2 => ?_
      · exact .refl _
      · simp_all
      exact ⟨_, ⟨_, _, rfl, by assumption⟩, (.le fun a => by (try simp only [setR, List.cons_append, List.nil_append]); simp only [List.flatten_append, List.flatten_cons, List.flatten_nil, List.count_append, List.count_nil, List.append_nil, List.nil_append]; omega)⟩
    ·
      simp at q1

--@ct (*impl.Disk).insertFile blk0s insertFile_ct _ _ _ _ _ $2 !o | %2 | rintro _ A# ⟨b#, c#, Ax#, rfl, rfl, o#⟩ ;; refine ⟨_, _, [Ax#], rfl, perm1, ?_⟩
theorem insertFile_ct (q : Nat) (b : Option Addr) (c : Nat) (A : Hp) (l : List Value) (f : File) (hA : (gSl 211 gFile).ow [.slice b 0 c] [] A) :
    CtR Try.prog 276 [.pointer (some ⟨q, 0, none⟩), .agg ⟨l⟩] ((q, Obj.cells ⟨[.slice b 0 c]⟩ 122) :: A) (fun H => gFile.rd H l f) (fun v B => ∃ b c A', v = .tuple #[] ∧ B = (q, Obj.cells ⟨[.slice b [f].length c]⟩ 122) :: A' ∧ (gSl 211 gFile).ow [.slice b [f].length c] [f] A') := by
  refine CtR.introB G_ok [.p 0 0, .v (.agg ⟨l⟩)] [⟨q, [.slice b 0 c], 122⟩] [A] Try.func276 rfl rfl rfl rfl (by simp [SV.ok]) (by simp [Blk.ent]) fun E H hp => ?_
  obtain ⟨rfl, w0p, w1p, w2p⟩ := gFile_rd.1 hp
  refine VCnew.intro fun x0 => ?_
  apply loop_mod (α := (Nat)) G_ok [5, 6, 7, 8, 9, 10, 11, 12, 13, 14, 15, 16, 17, 18, 19, 20, 21, 22, 23, 24, 25, 26, 4] (fun z => [(4, .v (.int .i64 0))]) (fun z => [{ id := q, cs := [Value.slice b (0 : Nat) c], ty := (122 : TypeId) }, { id := x0, cs := [Value.string f.name, Value.string f.text, Value.int IntKind.i64 f.kept], ty := (211 : Nat) }]) (fun z => [A] ++ [H]) (fun z => 0) (fun z => z = 0) (0)
  · repeat' (first | exact trivial | refine ⟨⟨_, rfl, by first | rfl | exact inc_eq _ (by omega) | (refine sl_eq ?_; simp; done), by first | exact trivial | simp [SV.ok]⟩, ?_⟩)
  · exact ⟨rfl, rfl, trivial⟩
  · dsimp only
  · exact .refl _
  rintro u hI
  obtain hu : u = 0 := hI
  try dsimp only
  refine draw G_ok mixed none (.q 0 (.q 1 (.q 2 (.q 3 (.q 4 (.q 5 (.q 6 (.q 7 (.q 8 (.q 9 (.q 10 (.q 11 (.q 12 (.q 13 (.q 14 (.q 15 (.q 16 (.q 17 (.q 18 (.q 19 (.nil))))))))))))))))))))) (by decide +kernel) ?_
  refine VCsplit.intro (fun q1 => ?_) (fun q1 => ?_)
  ·
    simp at q1
  ·
    simp at q1
    refine draw G_ok mixed none (.q 0 (.q 1 (.q 2 (.q 3 (.q 4 (.q 5 (.q 6 (.q 7 (.q 8 (.q 9 (.q 10 (.q 11 (.q 12 (.q 13 (.q 14 (.q 15 (.q 16 (.q 17 (.q 18 (.q 19 (.nil))))))))))))))))))))) (by decide +kernel) ?_
    refine VCsplit.intro (fun q2 => ?_) (fun q2 => ?_)
    ·
      simp at q2
    ·
      simp at q2
      refine draw G_ok mixed (some 8) (.q 0 (.q 1 (.q 2 (.q 3 (.q 4 (.q 5 (.q 6 (.f 7 (.tl 8 (.f 9 (.f 10 (.f 11 (.nil))))))))))))) (by decide +kernel) ?_
      refine VCnew.intro fun x3 => ?_
      refine VC.intro ?_ ?_
      · exact keep_new
      refine callR_at 1 rfl (insFile_ct _ _ _ _ _ hA) (Rp.mono _ (mem_at 0 rfl) (Gt.owrd _ (glit1 (gFile_own ‹gFile.rd _ _ _›)))) ?_
      rintro _ A4 ⟨b4, c4, rfl, o4⟩
      try dsimp only
      exact ⟨_, ⟨_, _, _, rfl, rfl, by assumption⟩, (.le fun a => by (try simp only [setR, List.cons_append, List.nil_append]); simp [List.count_cons, Blk.ent, idOf]; try omega)⟩

--@ct spec.l14Put new l14Put_ct _ _ $1 $2 ?_ | ⟨%1, %2⟩ | obtain ⟨l#, rfl, o#⟩ := o# ;; have r# := Gt.owrd _ o# ;; @open{Disk r# x#}
theorem l14Put_ct (l l2 : List Value) (d : Disk) (f : File) (hx : d.files.length ≤ 1000000) : Ct Try.prog 266 [.agg ⟨l⟩, .agg ⟨l2⟩] [] (fun H => gDisk.rd H l d ∧ gFile.rd H l2 f) (fun v A => ∃ l, v = .agg ⟨l⟩ ∧ gDisk.ow l (putF d f) A) := by
  refine Ct.intro0 G_ok Try.func266 rfl rfl rfl fun E H hp => ?_
  obtain ⟨hp, hp2⟩ := hp
  obtain ⟨b0p, c0p, rfl, h0p⟩ := gDisk_rd.1 hp
  obtain ⟨rfl, w0f, w1f, w2f⟩ := gFile_rd.1 hp2
  refine VCnew.intro fun x0 => ?_
  refine VCnew.intro fun x1 => ?_
  refine VCnew.intro fun x2 => ?_
  refine VCnew.intro fun x3 => ?_
  apply loop_mod (α := (Nat) × (List File) × (Hp) × (Option Addr) × (Nat)) G_ok [9, 10, 11, 12, 13, 16, 17, 18, 19, 20, 21, 22, 23, 24, 25, 26, 27, 28, 29, 30, 31, 32, 33, 34, 14, 15, 6] (fun z => [(6, .v (.int .i64 z.1))]) (fun z => [⟨x0, [Value.slice b0p d.files.length c0p], (122 : Nat)⟩, ⟨x1, [Value.string f.name, Value.string f.text, Value.int IntKind.i64 f.kept], (211 : Nat)⟩, ⟨x2, [Value.slice none (0 : Nat) (0 : Nat)], (122 : Nat)⟩, ⟨x3, [.slice z.2.2.2.1 z.2.1.length z.2.2.2.2], (122 : Nat)⟩]) (fun z => [z.2.2.1, H]) (fun z => d.files.length - z.1) (fun z => z.1 ≤ d.files.length ∧ z.2.1 = (d.files.take z.1).filter (fun x => lessS x.name f.name) ∧ (gSl 211 gFile).ow [.slice z.2.2.2.1 z.2.1.length z.2.2.2.2] z.2.1 z.2.2.1) ((0, [], [], none, 0))
  · repeat' (first | exact trivial | refine ⟨⟨_, rfl, by first | rfl | exact inc_eq _ (by omega) | (refine sl_eq ?_; simp; done), by first | exact trivial | simp [SV.ok]⟩, ?_⟩)
  · exact ⟨rfl, rfl, rfl, rfl, trivial⟩
  · try dsimp only
    exact ⟨by omega, rfl, sl_nil _ _ _⟩
  · exact .refl _
  rintro ⟨k, o, A, b, c⟩ hI
  obtain ⟨hk, ho, oA⟩ : k ≤ d.files.length ∧ o = (d.files.take k).filter (fun x => lessS x.name f.name) ∧ (gSl 211 gFile).ow [.slice b o.length c] o A := hI
  try dsimp only
  refine VCsplit.intro (fun q4 => ?_) (fun q4 => ?_)
  ·
    simp at q4
    have hol : o.length ≤ k := by rw [ho]; exact Nat.le_trans (List.length_filter_le _ _) (by rw [List.length_take]; omega)
    refine draw G_ok mixed none (.q 0 (.q 1 (.q 2 (.q 3 (.q 4 (.q 5 (.q 6 (.q 7 (.q 8 (.nil)))))))))) (by decide +kernel) ?_
    refine idx_rd h0p ?_ ?_ fun b5 o5 hb5 => ?_
    · omega
    · omega
    refine load_partN default (k) 0 rfl h0p ?_ ?_ hb5 rfl (by decide) (mem_at 1 rfl) fun l6 hl6 => ?_
    · omega
    · omega
    obtain ⟨rfl, w0x6, w1x6, w2x6⟩ := gFile_rd.1 hl6
    refine VCsplit.intro (fun q7 => ?_) (fun q7 => ?_)
    ·
      refine draw G_ok mixed (some 8) (.q 0 (.q 1 (.q 2 (.q 3 (.q 4 (.q 5 (.q 6 (.f 7 (.tl 8 (.f 9 (.f 10 (.nil)))))))))))) (by decide +kernel) ?_
      refine idx_rd h0p ?_ ?_ fun b8 o8 hb8 => ?_
      · omega
      · omega
      refine load_allN default (k) rfl h0p ?_ ?_ hb8 rfl (mem_at 1 rfl) fun l9 hl9 => ?_
      · omega
      · omega
      obtain ⟨rfl, w0x9, w1x9, w2x9⟩ := gFile_rd.1 hl9
      refine VCnew.intro fun x10 => ?_
      refine VC.intro ?_ ?_
      · exact keep_new
      refine gappend1 (g := gFile) (T := (211 : TypeId)) G_ok A _ [H] ?_ oA (gFile_own ‹_›) (List.mem_of_getElem? (i := 0) rfl) rfl rfl rfl rfl rfl rfl rfl rfl ?_ fun b11 c11 A11 o11 => ?_
      · exact .tl
      · omega
      apply loop_stepA (k + 1, _, _, _, _)
      · exact .refl _
      · repeat' (first | exact trivial | refine ⟨⟨_, rfl, by first | rfl | exact inc_eq _ (by omega) | (refine sl_eq ?_; simp; done), by first | exact trivial | simp [SV.ok]⟩, ?_⟩)
      · exact ⟨rfl, rfl, rfl, rfl, trivial⟩
      · try dsimp only
        exact ⟨by omega, by rw [ho, filter_yes default (by omega) (by exact ‹Op.bytesLess _ _ = true›)], ‹_›⟩
      · try dsimp only
        omega
    ·
      apply loop_stepA (k + 1, _, _, _, _)
      · exact .refl _
      · repeat' (first | exact trivial | refine ⟨⟨_, rfl, by first | rfl | exact inc_eq _ (by omega) | (refine sl_eq ?_; simp; done), by first | exact trivial | simp [SV.ok]⟩, ?_⟩)
      · exact ⟨rfl, rfl, rfl, rfl, trivial⟩
      · try dsimp only
        exact ⟨by omega, by rw [ho, filter_no default (by omega) (by exact ‹Op.bytesLess _ _ = false›)], ‹_›⟩
      · try dsimp only
        omega
  ·
    simp at q4
    obtain rfl : k = d.files.length := by omega
    rw [List.take_length] at ho
    have hol : o.length ≤ d.files.length := by rw [ho]; exact List.length_filter_le _ _
    refine VCnew.intro fun x12 => ?_
    refine gappend1 (g := gFile) (T := (211 : TypeId)) G_ok A _ [H] ?_ oA (gFile_own ‹_›) (List.mem_of_getElem? (i := 0) rfl) rfl rfl rfl rfl rfl rfl rfl rfl ?_ fun b13 c13 A13 o13 => ?_
    · exact .tl
    · omega
    apply loop_mod (α := (Nat) × (List File) × (Hp) × (Option Addr) × (Nat)) G_ok [41, 42, 43, 44, 45, 48, 49, 50, 51, 52, 53, 54, 55, 56, 57, 58, 59, 60, 61, 62, 63, 64, 65, 66, 46, 47, 7] (fun z => [(7, .v (.int .i64 z.1))]) (fun z => [⟨x0, [Value.slice b0p d.files.length c0p], (122 : Nat)⟩, ⟨x1, [Value.string f.name, Value.string f.text, Value.int IntKind.i64 f.kept], (211 : Nat)⟩, ⟨x2, [Value.slice none (0 : Nat) (0 : Nat)], (122 : Nat)⟩, ⟨x3, [.slice z.2.2.2.1 z.2.1.length z.2.2.2.2], (122 : Nat)⟩]) (fun z => [z.2.2.1, H]) (fun z => d.files.length - z.1) (fun z => z.1 ≤ d.files.length ∧ z.2.1 = d.files.filter (fun x => lessS x.name f.name) ++ ([f] ++ (d.files.take z.1).filter (fun x => lessS f.name x.name)) ∧ (gSl 211 gFile).ow [.slice z.2.2.2.1 z.2.1.length z.2.2.2.2] z.2.1 z.2.2.1) ((0, _, _, _, _))
    · repeat' (first | exact trivial | refine ⟨⟨_, rfl, by first | rfl | exact inc_eq _ (by omega) | (refine sl_eq ?_; simp; done), by first | exact trivial | simp [SV.ok]⟩, ?_⟩)
    · exact ⟨rfl, rfl, rfl, rfl, trivial⟩
    · try dsimp only
      exact ⟨by omega, by rw [ho]; simp, ‹_›⟩
    · exact .refl _
    rintro ⟨k, o, A, b, c⟩ hI
    obtain ⟨hk, ho, oA⟩ : k ≤ d.files.length ∧ o = d.files.filter (fun x => lessS x.name f.name) ++ ([f] ++ (d.files.take k).filter (fun x => lessS f.name x.name)) ∧ (gSl 211 gFile).ow [.slice b o.length c] o A := hI
    try dsimp only
    refine VCsplit.intro (fun q14 => ?_) (fun q14 => ?_)
    ·
      simp at q14
      refine draw G_ok mixed none (.q 0 (.q 1 (.q 2 (.q 3 (.q 4 (.q 5 (.q 6 (.q 7 (.q 8 (.nil)))))))))) (by decide +kernel) ?_
      refine idx_rd h0p ?_ ?_ fun b15 o15 hb15 => ?_
      · omega
      · omega
      refine load_partN default (k) 0 rfl h0p ?_ ?_ hb15 rfl (by decide) (mem_at 1 rfl) fun l16 hl16 => ?_
      · omega
      · omega
      obtain ⟨rfl, w0x16, w1x16, w2x16⟩ := gFile_rd.1 hl16
      refine VCsplit.intro (fun q17 => ?_) (fun q17 => ?_)
      ·
        simp at q17
        simp only [str_inj, u8_inj, u8_wrap] at q17
        refine draw G_ok mixed (some 8) (.q 0 (.q 1 (.q 2 (.q 3 (.q 4 (.q 5 (.q 6 (.f 7 (.tl 8 (.f 9 (.f 10 (.nil)))))))))))) (by decide +kernel) ?_
        refine idx_rd h0p ?_ ?_ fun b18 o18 hb18 => ?_
        · omega
        · omega
        refine load_allN default (k) rfl h0p ?_ ?_ hb18 rfl (mem_at 1 rfl) fun l19 hl19 => ?_
        · omega
        · omega
        obtain ⟨rfl, w0x19, w1x19, w2x19⟩ := gFile_rd.1 hl19
        refine VCnew.intro fun x20 => ?_
        refine VC.intro ?_ ?_
        · exact keep_new
        refine gappend1 (g := gFile) (T := (211 : TypeId)) G_ok A _ [H] ?_ oA (gFile_own ‹_›) (List.mem_of_getElem? (i := 0) rfl) rfl rfl rfl rfl rfl rfl rfl rfl ?_ fun b21 c21 A21 o21 => ?_
        · exact .tl
        · grind
        apply loop_stepA (k + 1, _, _, _, _)
        · exact .refl _
        · repeat' (first | exact trivial | refine ⟨⟨_, rfl, by first | rfl | exact inc_eq _ (by omega) | (refine sl_eq ?_; simp; done), by first | exact trivial | simp [SV.ok]⟩, ?_⟩)
        · exact ⟨rfl, rfl, rfl, rfl, trivial⟩
        · try dsimp only
          exact ⟨by omega, by rw [ho, filter_yes default (by omega) (by exact lessS_gt ‹_ ∧ _›)]; simp, ‹_›⟩
        · try dsimp only
          omega
      ·
        simp at q17
        simp only [str_inj, u8_inj, u8_wrap] at q17
        apply loop_stepA (k + 1, _, _, _, _)
        · exact .refl _
        · repeat' (first | exact trivial | refine ⟨⟨_, rfl, by first | rfl | exact inc_eq _ (by omega) | (refine sl_eq ?_; simp; done), by first | exact trivial | simp [SV.ok]⟩, ?_⟩)
        · exact ⟨rfl, rfl, rfl, rfl, trivial⟩
        · try dsimp only
          exact ⟨by omega, by rw [ho, filter_no default (by omega) (by exact lessS_le ‹_ → _›)], ‹_›⟩
        · try dsimp only
          omega
    ·
      simp at q14
      (have hke : k = d.files.length := (by omega); subst hke; rw [List.take_length] at ho; subst ho; exact ⟨_, ⟨_, rfl, gDisk_ow.2 ⟨_, _, _, rfl, .refl _, by assumption⟩⟩, (.le fun a => by (try simp only [setR, List.cons_append, List.nil_append]); simp [List.count_cons, Blk.ent, idOf]; try omega)⟩)

/-! one operation of the two -/
theorem dk0 (name rec : ByteArray) : dk name rec 0 = ⟨[]⟩ := rfl
theorem dk1 (name rec : ByteArray) : dk name rec 1 = ⟨[⟨name, frame rec, 0⟩]⟩ := rfl
theorem dk2 (name rec : ByteArray) : dk name rec 2 = ⟨[⟨name, frame rec, (frame rec).size⟩]⟩ := rfl
theorem diskOk_nil : diskOk ⟨[]⟩ = true := rfl
theorem at14_nil (name : ByteArray) : at14 ⟨[]⟩ name = -1 := rfl

--@ct impl.DoAct new implDoAct_ct _ _ _ _ _ ?_ ?_ ?_ | ⟨?_, ?_⟩ | obtain ⟨b#, c#, rfl, o#⟩ := o#
theorem implDoAct_ct (l la : List Value) (name rec : ByteArray) (k : Nat) (hn : nameOk name = true) (hf : frameOk rec = true) (hk : k < 2) : Ct Try.prog 237 [.agg ⟨l⟩, .agg ⟨la⟩] [] (fun H => gDisk.rd H l (dk name rec k) ∧ gAct.rd H la (ak name rec k)) (fun v A => ∃ b c, v = .tuple #[.agg ⟨[.slice b (dk name rec (k + 1)).files.length c]⟩, .bool true] ∧ (gSl 211 gFile).ow [.slice b (dk name rec (k + 1)).files.length c] (dk name rec (k + 1)).files A) := by
  refine Ct.intro0 G_ok Try.func237 rfl rfl rfl fun E H hp => ?_
  obtain ⟨hp, hp2⟩ := hp
  have hz := nameOk_sz hn
  have hfs := frame_size rec
  have hr : rec.size ≤ 9000 := by have := inR_iff.1 hf; omega
  have hd1 : diskOk ⟨[⟨name, frame rec, 0⟩]⟩ = true := diskOk_one hn (by show (frame rec).size ≤ _; omega) (Int.le_refl _) (Int.natCast_nonneg _)
  have hd2 : diskOk ⟨[⟨name, frame rec, (frame rec).size⟩]⟩ = true := diskOk_one hn (by show (frame rec).size ≤ _; omega) (Int.natCast_nonneg _) (Int.le_refl _)
  have ha1 : at14 ⟨[⟨name, frame rec, 0⟩]⟩ name = 0 := at14_one ⟨name, frame rec, 0⟩
  rcases (show k = 0 ∨ k = 1 by omega) with rfl | rfl
  · rw [dk0] at hp
    obtain ⟨b0, c0, rfl, h0⟩ := gDisk_rd.1 hp
    obtain ⟨rfl, w0, w1, w2, w3⟩ := gAct_rd.1 hp2
    simp only [ak, if_true] at *
    have hff : gFile.rd H [.string name, .string (ByteArray.empty ++ frame rec), .int .i64 0] ⟨name, ByteArray.empty ++ frame rec, 0⟩ := gFile_rd.2 ⟨rfl, by show name.size ≤ _; omega, by show (ByteArray.empty ++ frame rec).size ≤ _; rw [ByteArray.empty_append]; omega, okI_lit' (n := 0) (by decide) (by decide)⟩
    have hd1' : diskOk ⟨[⟨name, ByteArray.empty ++ frame rec, 0⟩]⟩ = true := by rw [ByteArray.empty_append]; exact hd1
    refine VCnew.intro fun x0 => ?_
    refine VCnew.intro fun x1 => ?_
    refine VCnew.intro fun x2 => ?_
    refine call_val (fileIndex_ct _ ({ files := [] }) _) (Rp.mono _ (mem_at 0 rfl) hp) ?_
    rintro _ rfl
    refine call_val (implDiskOk_ct _ _) (by (try exact Rp.mono _ (mem_at 0 rfl) hp); (try exact gDisk_rd.2 ⟨_, _, rfl, Rp.mono _ (mem_at 0 rfl) (Gt.owrd _ ‹(gSl _ gFile).ow _ _ _›)⟩)) ?_
    rintro _ rfl
    refine VCsplit.intro (fun q5 => ?_) (fun q5 => ?_)
    ·
      simp at q5
      exact absurd (diskOk_nil.symm.trans q5) (by decide)
    ·
      simp at q5
      refine call_val (actFits_ct _ ({ kind := (1 : Int), name := name, text := frame rec, to := ByteArray.empty }) name rec ?_ ?_) (Rp.mono _ (mem_at 0 rfl) hp2) ?_
      · trivial
      · exact .inl rfl
      rintro _ rfl
      refine VCsplit.intro (fun q7 => ?_) (fun q7 => ?_)
      ·
        simp at q7
      ·
        simp at q7
        refine VCsplit.intro (fun q8 => ?_) (fun q8 => ?_)
        ·
          simp at q8
          refine VCsplit.intro (fun q9 => ?_) (fun q9 => ?_)
          ·
            simp at q9
          ·
            simp at q9
            refine call_new (copyDisk_ct _ ({ files := [] }) ?_) (Rp.mono _ (mem_at 0 rfl) hp) ?_
            · trivial
            rintro v10 A10 o10
            obtain ⟨l10, rfl, o10⟩ := o10
            obtain ⟨b0x10, c0x10, rfl, o10⟩ := gDisk_sl o10
            refine VCnew.intro fun x11 => ?_
            refine VCsplit.intro (fun q12 => ?_) (fun q12 => ?_)
            ·
              simp at q12
              refine VCnew.intro fun x13 => ?_
              refine VCsplit.intro (fun q14 => ?_) (fun q14 => ?_)
              ·
                simp at q14
                exact absurd (show (0 : Int) ≤ -1 from q14) (by decide)
              ·
                simp at q14
                refine VC.intro ?_ ?_
                · simp; omega
                refine callR_blk 3 (A10) [H] rfl ?_ (insertFile_ct _ _ _ _ _ ({ name := name, text := ByteArray.empty ++ frame rec, kept := (0 : Int) }) o10) (Rp.mono _ (mem_at 0 rfl) hff) ?_
                · exact .refl _
                rintro _ A15 ⟨b15, c15, Ax15, rfl, rfl, o15⟩
                refine ⟨_, _, [Ax15], rfl, perm1, ?_⟩
                refine call_val (implDiskOk_ct _ _) (by (try exact Rp.mono _ (mem_at 0 rfl) hp); (try exact gDisk_rd.2 ⟨_, _, rfl, Rp.mono _ (mem_at 0 rfl) (Gt.owrd _ ‹(gSl _ gFile).ow _ _ _›)⟩)) ?_
                rintro _ rfl
                refine VCsplit.intro (fun q17 => ?_) (fun q17 => ?_)
                ·
                  simp at q17
                  exact absurd (hd1'.symm.trans q17) (by decide)
                ·
                  simp at q17
                  (rw [show dk name rec (0 + 1) = ⟨[⟨name, ByteArray.empty ++ frame rec, 0⟩]⟩ by rw [ByteArray.empty_append]; rfl]; exact ⟨_, ⟨_, _, rfl, by assumption⟩, (.le fun a => by (try simp only [setR, List.cons_append, List.nil_append]); simp [List.count_cons, Blk.ent, idOf]; try omega)⟩)
            ·
              simp at q12
        ·
          simp at q8
          exact absurd (show (0 : Int) ≤ -1 from q8) (by decide)
  · rw [dk1] at hp
    obtain ⟨b0, c0, rfl, h0⟩ := gDisk_rd.1 hp
    obtain ⟨rfl, w0, w1, w2, w3⟩ := gAct_rd.1 hp2
    simp only [ak, if_true, show ¬ (1 : Nat) = 0 by decide, if_false] at *
    have hfi := fileIndex_ct [.slice b0 [(⟨name, frame rec, 0⟩ : File)].length c0] ⟨[⟨name, frame rec, 0⟩]⟩ name
    rw [ha1] at hfi
    have hpost : ∀ (b : Option Addr) (c : Nat) (A : Hp), (gSl 211 gFile).ow [.slice b 1 c] [⟨name, frame rec, ((frame rec).size : Nat)⟩] A → gDisk.rd A [.slice b 1 c] ⟨[⟨name, frame rec, ((frame rec).size : Nat)⟩]⟩ := fun b c A h => gDisk_rd.2 ⟨b, c, rfl, Gt.owrd _ h⟩
    refine VCnew.intro fun x0 => ?_
    refine VCnew.intro fun x1 => ?_
    refine VCnew.intro fun x2 => ?_
    refine call_val (hfi) (Rp.mono _ (mem_at 0 rfl) hp) ?_
    rintro _ rfl
    refine call_val (implDiskOk_ct _ _) (by (try exact Rp.mono _ (mem_at 0 rfl) hp); (try exact Rp.mono _ (mem_at 0 rfl) (hpost _ _ _ (by assumption)))) ?_
    rintro _ rfl
    refine VCsplit.intro (fun q5 => ?_) (fun q5 => ?_)
    ·
      simp at q5
      exact absurd (hd1.symm.trans q5) (by decide)
    ·
      simp at q5
      refine call_val (actFits_ct _ ({ kind := (2 : Int), name := name, text := ByteArray.empty, to := ByteArray.empty }) name rec ?_ ?_) (Rp.mono _ (mem_at 0 rfl) hp2) ?_
      · trivial
      · exact .inr rfl
      rintro _ rfl
      refine VCsplit.intro (fun q7 => ?_) (fun q7 => ?_)
      ·
        simp at q7
      ·
        simp at q7
        refine VCsplit.intro (fun q8 => ?_) (fun q8 => ?_)
        ·
          simp at q8
        ·
          simp at q8
          refine call_new (copyDisk_ct _ ({ files := [{ name := name, text := frame rec, kept := (0 : Int) }] }) ?_) (Rp.mono _ (mem_at 0 rfl) hp) ?_
          · (rw [disk_one_sz]; show 1 + (name.size + ((frame rec).size + 0)) + 0 ≤ 1048576; omega)
          rintro v9 A9 o9
          obtain ⟨l9, rfl, o9⟩ := o9
          obtain ⟨b0x9, c0x9, rfl, o9⟩ := gDisk_sl o9
          refine VCnew.intro fun x10 => ?_
          refine VCsplit.intro (fun q11 => ?_) (fun q11 => ?_)
          ·
            simp at q11
          ·
            simp at q11
            refine VCsplit.intro (fun q12 => ?_) (fun q12 => ?_)
            ·
              simp at q12
              refine draw G_ok mixed (some 12) (.q 0 (.q 1 (.q 2 (.q 3 (.q 4 (.q 5 (.q 6 (.q 7 (.q 8 (.q 9 (.q 10 (.q 11 (.tl 12 (.nil)))))))))))))) (by decide +kernel) ?_
              refine idx_rd (Gt.owrd _ o9) ?_ ?_ fun b13 o13 hb13 => ?_
              · trivial
              · simp_all
              refine load_partN default (0) 1 rfl (Gt.owrd _ o9) ?_ ?_ hb13 rfl (by decide) (mem_at 0 rfl) fun l14 hl14 => ?_
              · trivial
              · simp_all
              dsimp only at hl14
              obtain ⟨rfl, w0x14, w1x14, w2x14⟩ := gFile_rd.1 hl14
              refine idx_rd (Gt.owrd _ o9) ?_ ?_ fun b15 o15 hb15 => ?_
              · trivial
              · simp_all
              refine gstoreN gFile_kept default (0) 0 rfl rfl o9 ?_ ?_ hb15 rfl gI_pl _ (gI_ow ?_) fun A16 o16 => ?_
              · trivial
              · simp_all
              · unfold okI; omega
              dsimp only at o16
              refine call_val (implDiskOk_ct _ _) (by (try exact Rp.mono _ (mem_at 0 rfl) hp); (try exact Rp.mono _ (mem_at 0 rfl) (hpost _ _ _ (by assumption)))) ?_
              rintro _ rfl
              refine VCsplit.intro (fun q18 => ?_) (fun q18 => ?_)
              ·
                simp at q18
                exact absurd (hd2.symm.trans q18) (by decide)
              ·
                simp at q18
                try dsimp only
                exact ⟨_, ⟨_, _, rfl, by assumption⟩, (.le fun a => by (try simp only [setR, List.cons_append, List.nil_append]); simp [List.count_cons, Blk.ent, idOf]; try omega)⟩
            ·
              simp at q12

--@ct spec.DoAct new specDoAct_ct _ _ _ _ _ ?_ ?_ ?_ | ⟨?_, ?_⟩ | obtain ⟨b#, c#, rfl, o#⟩ := o#
theorem specDoAct_ct (l la : List Value) (name rec : ByteArray) (k : Nat) (hn : nameOk name = true) (hf : frameOk rec = true) (hk : k < 2) : Ct Try.prog 231 [.agg ⟨l⟩, .agg ⟨la⟩] [] (fun H => gDisk.rd H l (dk name rec k) ∧ gAct.rd H la (ak name rec k)) (fun v A => ∃ b c, v = .tuple #[.agg ⟨[.slice b (dk name rec (k + 1)).files.length c]⟩, .bool true] ∧ (gSl 211 gFile).ow [.slice b (dk name rec (k + 1)).files.length c] (dk name rec (k + 1)).files A) := by
  refine Ct.intro0 G_ok Try.func231 rfl rfl rfl fun E H hp => ?_
  obtain ⟨hp, hp2⟩ := hp
  have hz := nameOk_sz hn
  have hfs := frame_size rec
  have hr : rec.size ≤ 9000 := by have := inR_iff.1 hf; omega
  have hd1 : diskOk ⟨[⟨name, frame rec, 0⟩]⟩ = true := diskOk_one hn (by show (frame rec).size ≤ _; omega) (Int.le_refl _) (Int.natCast_nonneg _)
  have hd2 : diskOk ⟨[⟨name, frame rec, (frame rec).size⟩]⟩ = true := diskOk_one hn (by show (frame rec).size ≤ _; omega) (Int.natCast_nonneg _) (Int.le_refl _)
  have ha1 : at14 ⟨[⟨name, frame rec, 0⟩]⟩ name = 0 := at14_one ⟨name, frame rec, 0⟩
  rcases (show k = 0 ∨ k = 1 by omega) with rfl | rfl
  · rw [dk0] at hp
    obtain ⟨b0, c0, rfl, h0⟩ := gDisk_rd.1 hp
    obtain ⟨rfl, w0, w1, w2, w3⟩ := gAct_rd.1 hp2
    simp only [ak, if_true] at *
    have hff : gFile.rd H [.string name, .string (ByteArray.empty ++ frame rec), .int .i64 0] ⟨name, ByteArray.empty ++ frame rec, 0⟩ := gFile_rd.2 ⟨rfl, by show name.size ≤ _; omega, by show (ByteArray.empty ++ frame rec).size ≤ _; rw [ByteArray.empty_append]; omega, okI_lit' (n := 0) (by decide) (by decide)⟩
    have hd1' : diskOk (putF ⟨[]⟩ ⟨name, ByteArray.empty ++ frame rec, 0⟩) = true := by rw [ByteArray.empty_append]; exact hd1
    refine VCnew.intro fun x0 => ?_
    refine VCnew.intro fun x1 => ?_
    refine VCnew.intro fun x2 => ?_
    refine call_val (specDiskOk_ct _ ({ files := [] })) (Rp.mono _ (mem_at 0 rfl) hp) ?_
    rintro _ rfl
    refine VCsplit.intro (fun q4 => ?_) (fun q4 => ?_)
    ·
      simp at q4
      exact absurd (diskOk_nil.symm.trans q4) (by decide)
    ·
      simp at q4
      refine call_val (l14Name_ct _ ?_) trivial ?_
      · trivial
      rintro _ rfl
      refine VCsplit.intro (fun q6 => ?_) (fun q6 => ?_)
      ·
        simp at q6
        exact absurd (hn.symm.trans q6) (by decide)
      ·
        simp at q6
        refine VCsplit.intro (fun q7 => ?_) (fun q7 => ?_)
        ·
          simp at q7
          refine VCsplit.intro (fun q8 => ?_) (fun q8 => ?_)
          ·
            simp at q8
          ·
            simp at q8
            refine VCsplit.intro (fun q9 => ?_) (fun q9 => ?_)
            ·
              simp at q9
            ·
              simp at q9
              refine call_val (l14At_ct _ ({ files := [] }) _) (Rp.mono _ (mem_at 0 rfl) hp) ?_
              rintro _ rfl
              refine VCnew.intro fun x11 => ?_
              refine VCsplit.intro (fun q12 => ?_) (fun q12 => ?_)
              ·
                simp at q12
                exact absurd (show (0 : Int) ≤ -1 from q12) (by decide)
              ·
                simp at q12
                refine VCnew.intro fun x13 => ?_
                refine VCsplit.intro (fun q14 => ?_) (fun q14 => ?_)
                ·
                  simp at q14
                  refine VC.intro ?_ ?_
                  · simp; omega
                  refine call_new (l14Put_ct _ _ ({ files := [] }) ({ name := name, text := ByteArray.empty ++ frame rec, kept := (0 : Int) }) ?_) ⟨(Rp.mono _ (mem_at 0 rfl) hp), (Rp.mono _ (mem_at 0 rfl) hff)⟩ ?_
                  · trivial
                  rintro v15 A15 o15
                  obtain ⟨l15, rfl, o15⟩ := o15
                  have r15 := Gt.owrd _ o15
                  obtain ⟨b0x15, c0x15, rfl, h0x15⟩ := gDisk_rd.1 r15
                  refine call_val (specDiskOk_ct _ (putF { files := [] } { name := name, text := ByteArray.empty ++ frame rec, kept := (0 : Int) })) (Rp.mono _ (mem_at 0 rfl) r15) ?_
                  rintro _ rfl
                  refine VCsplit.intro (fun q17 => ?_) (fun q17 => ?_)
                  ·
                    simp at q17
                    exact absurd (hd1'.symm.trans q17) (by decide)
                  ·
                    simp at q17
                    (rw [show dk name rec (0 + 1) = putF ⟨[]⟩ ⟨name, ByteArray.empty ++ frame rec, 0⟩ by rw [ByteArray.empty_append]; rfl]; obtain ⟨bo, co, eo, oo⟩ := gDisk_sl ‹gDisk.ow _ _ _›; rw [eo]; exact ⟨_, ⟨_, _, rfl, oo⟩, (.le fun a => by (try simp only [setR, List.cons_append, List.nil_append]); simp [List.count_cons, Blk.ent, idOf]; try omega)⟩)
                ·
                  simp at q14
        ·
          simp at q7
  · rw [dk1] at hp
    obtain ⟨b0, c0, rfl, h0⟩ := gDisk_rd.1 hp
    obtain ⟨rfl, w0, w1, w2, w3⟩ := gAct_rd.1 hp2
    simp only [ak, if_true, show ¬ (1 : Nat) = 0 by decide, if_false] at *
    have hfi := l14At_ct [.slice b0 [(⟨name, frame rec, 0⟩ : File)].length c0] ⟨[⟨name, frame rec, 0⟩]⟩ name
    rw [ha1] at hfi
    have hff : gFile.rd H [.string name, .string (frame rec), .int .i64 ((frame rec).size : Nat)] ⟨name, frame rec, ((frame rec).size : Nat)⟩ := gFile_rd.2 ⟨rfl, by show name.size ≤ _; omega, by show (frame rec).size ≤ _; omega, okI_lit' (n := ((frame rec).size : Nat)) (by omega) (by omega)⟩
    have ep : putF ⟨[⟨name, frame rec, 0⟩]⟩ ⟨name, frame rec, ((frame rec).size : Nat)⟩ = ⟨[⟨name, frame rec, ((frame rec).size : Nat)⟩]⟩ := putF_one _ _ rfl
    have hd2' : diskOk (putF ⟨[⟨name, frame rec, 0⟩]⟩ ⟨name, frame rec, ((frame rec).size : Nat)⟩) = true := by rw [ep]; exact hd2
    refine VCnew.intro fun x0 => ?_
    refine VCnew.intro fun x1 => ?_
    refine VCnew.intro fun x2 => ?_
    refine call_val (specDiskOk_ct _ ({ files := [{ name := name, text := frame rec, kept := (0 : Int) }] })) (Rp.mono _ (mem_at 0 rfl) hp) ?_
    rintro _ rfl
    refine VCsplit.intro (fun q4 => ?_) (fun q4 => ?_)
    ·
      simp at q4
      exact absurd (hd1.symm.trans q4) (by decide)
    ·
      simp at q4
      refine call_val (l14Name_ct _ ?_) trivial ?_
      · trivial
      rintro _ rfl
      refine VCsplit.intro (fun q6 => ?_) (fun q6 => ?_)
      ·
        simp at q6
        exact absurd (hn.symm.trans q6) (by decide)
      ·
        simp at q6
        refine VCsplit.intro (fun q7 => ?_) (fun q7 => ?_)
        ·
          simp at q7
          refine VCsplit.intro (fun q8 => ?_) (fun q8 => ?_)
          ·
            simp at q8
          ·
            simp at q8
            refine VCsplit.intro (fun q9 => ?_) (fun q9 => ?_)
            ·
              simp at q9
              refine VCsplit.intro (fun q10 => ?_) (fun q10 => ?_)
              ·
                simp at q10
              ·
                simp at q10
                refine call_val (hfi) (Rp.mono _ (mem_at 0 rfl) hp) ?_
                rintro _ rfl
                refine VCnew.intro fun x12 => ?_
                refine VCsplit.intro (fun q13 => ?_) (fun q13 => ?_)
                ·
                  simp at q13
                  refine idx_rd h0 ?_ ?_ fun b14 o14 hb14 => ?_
                  · trivial
                  · simp_all
                  refine load_allN default (0) rfl h0 ?_ ?_ hb14 rfl (mem_at 0 rfl) fun l15 hl15 => ?_
                  · trivial
                  · simp_all
                  obtain ⟨rfl, w0x15, w1x15, w2x15⟩ := gFile_rd.1 hl15
                  refine VCnew.intro fun x16 => ?_
                  refine VCsplit.intro (fun q17 => ?_) (fun q17 => ?_)
                  ·
                    simp at q17
                  ·
                    simp at q17
                    refine VCsplit.intro (fun q18 => ?_) (fun q18 => ?_)
                    ·
                      simp at q18
                    ·
                      simp at q18
                      refine VCsplit.intro (fun q19 => ?_) (fun q19 => ?_)
                      ·
                        simp at q19
                        refine call_new (l14Put_ct _ _ ({ files := [{ name := name, text := frame rec, kept := (0 : Int) }] }) ({ name := name, text := frame rec, kept := (↑(frame rec).size : Int) }) ?_) ⟨(Rp.mono _ (mem_at 0 rfl) hp), (Rp.mono _ (mem_at 0 rfl) hff)⟩ ?_
                        · simp_all
                        rintro v20 A20 o20
                        obtain ⟨l20, rfl, o20⟩ := o20
                        have r20 := Gt.owrd _ o20
                        obtain ⟨b0x20, c0x20, rfl, h0x20⟩ := gDisk_rd.1 r20
                        refine call_val (specDiskOk_ct _ (putF { files := [{ name := name, text := frame rec, kept := (0 : Int) }] } { name := name, text := frame rec, kept := (↑(frame rec).size : Int) })) (Rp.mono _ (mem_at 0 rfl) r20) ?_
                        rintro _ rfl
                        refine VCsplit.intro (fun q22 => ?_) (fun q22 => ?_)
                        ·
                          simp at q22
                          exact absurd (hd2'.symm.trans q22) (by decide)
                        ·
                          simp at q22
                          (rw [show dk name rec (1 + 1) = putF ⟨[⟨name, frame rec, 0⟩]⟩ ⟨name, frame rec, ((frame rec).size : Nat)⟩ by rw [ep]; rfl]; obtain ⟨bo, co, eo, oo⟩ := gDisk_sl ‹gDisk.ow _ _ _›; rw [eo]; exact ⟨_, ⟨_, _, rfl, oo⟩, (.le fun a => by (try simp only [setR, List.cons_append, List.nil_append]); simp [List.count_cons, Blk.ent, idOf]; try omega)⟩)
                      ·
                        simp at q19
                ·
                  simp at q13
            ·
              simp at q9
        ·
          simp at q7

end Go.Proofs.Ytliheokappjdoaa
