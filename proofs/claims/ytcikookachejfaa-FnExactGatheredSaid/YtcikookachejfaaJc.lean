/-
  Texts read one thing after another; graphs read, on both sides. Conditions: none.
-/
import Derived.Test.YtcikookachejfaaIb
import Derived.Test.YtcikookachejfaaHg
namespace Go.Proofs.Ytcikookachejfaa
open Go.SX Go.Proofs
set_option linter.unusedSimpArgs false
set_option linter.unusedVariables false
set_option maxHeartbeats 4000000
attribute [local irreducible] IntKind.wrap

/-! where a reader stands: the place, and whether it has failed -/
def scNum (t : ByteArray) (s : Nat × Bool) : Nat × (Nat × Bool) :=
  if (readVar t s.1).2.2 && !s.2 then ((readVar t s.1).1, ((readVar t s.1).2.1, false)) else (0, (s.1, true))
def scByte (t : ByteArray) (s : Nat × Bool) : UInt8 × (Nat × Bool) :=
  if !s.2 && decide (s.1 < t.size) then (byteAt t s.1, (s.1 + 1, false)) else (0, (s.1, true))
theorem scNum_bad {t : ByteArray} {s : Nat × Bool} (h : s.2 = true) : (scNum t s).2.2 = true := by unfold scNum; rw [h]; simp
theorem scByte_bad {t : ByteArray} {s : Nat × Bool} (h : s.2 = true) : (scByte t s).2.2 = true := by unfold scByte; rw [h]; simp
theorem scNum_le {t : ByteArray} {s : Nat × Bool} (h : s.1 ≤ t.size) : (scNum t s).2.1 ≤ t.size ∧ (scNum t s).1 ≤ 1000000000 := by
  unfold scNum; split
  · rename_i h1; rw [Bool.and_eq_true] at h1
    have := readVar_le h1.1
    exact ⟨this.2.1, this.2.2⟩
  · exact ⟨h, by omega⟩
theorem scByte_le {t : ByteArray} {s : Nat × Bool} (h : s.1 ≤ t.size) : (scByte t s).2.1 ≤ t.size := by
  unfold scByte; split
  · rename_i h1; rw [Bool.and_eq_true, decide_eq_true_iff] at h1
    show s.1 + 1 ≤ t.size; omega
  · exact h
/-- what was read stands in the text -/
theorem scNum_txt {t : ByteArray} {s : Nat × Bool} (hs : s.1 ≤ t.size) (h : (scNum t s).2.2 = false) : s.2 = false ∧ t.extract 0 (scNum t s).2.1 = t.extract 0 s.1 ++ varText (scNum t s).1 := by
  unfold scNum at h ⊢
  split at h
  · rename_i h1
    have h1' := h1
    rw [Bool.and_eq_true, Bool.not_eq_true'] at h1
    rw [if_pos h1']
    have h2 := readVar_le h1.1
    refine ⟨h1.2, ?_⟩
    show t.extract 0 (readVar t s.1).2.1 = t.extract 0 s.1 ++ varText (readVar t s.1).1
    rw [readVar_canon hs h1.1, ← ext_join t (by omega) (by omega)]
  · cases h
theorem ext_one {t : ByteArray} {k : Nat} (h : k < t.size) : t.extract k (k + 1) = tx [byteAt t k] := by
  rw [← by_inj, by_extract, by_tx, show k + 1 - k = 1 by omega]
  have h1 : k < (by' t).length := by rw [by_size]; exact h
  rw [List.drop_eq_getElem_cons h1]
  unfold byteAt
  rw [by_get, List.getElem?_eq_getElem h1]; rfl
theorem scByte_txt {t : ByteArray} {s : Nat × Bool} (h : (scByte t s).2.2 = false) : s.2 = false ∧ t.extract 0 (scByte t s).2.1 = t.extract 0 s.1 ++ tx [(scByte t s).1] := by
  unfold scByte at h ⊢
  split at h
  · rename_i h1
    rw [if_pos h1]
    rw [Bool.and_eq_true, Bool.not_eq_true', decide_eq_true_iff] at h1
    refine ⟨h1.1, ?_⟩
    show t.extract 0 (s.1 + 1) = t.extract 0 s.1 ++ tx [byteAt t s.1]
    rw [← ext_one h1.2, ← ext_join t (by omega) (by omega)]
  · cases h

/-! edges -/
def scEdge (t : ByteArray) (s : Nat × Bool) : Edge × (Nat × Bool) :=
  (⟨(scNum t s).1, (scByte t (scNum t s).2).1, (scNum t (scByte t (scNum t s).2).2).1⟩, (scNum t (scByte t (scNum t s).2).2).2)
def scEdges (t : ByteArray) (s : Nat × Bool) : Nat → List Edge × (Nat × Bool)
  | 0 => ([], s)
  | k + 1 => if (scEdges t s k).2.2 then scEdges t s k else ((scEdges t s k).1 ++ [(scEdge t (scEdges t s k).2).1], (scEdge t (scEdges t s k).2).2)
theorem scEdges_more {t : ByteArray} {s : Nat × Bool} {k : Nat} (h : (scEdges t s k).2.2 = false) : scEdges t s (k + 1) = ((scEdges t s k).1 ++ [(scEdge t (scEdges t s k).2).1], (scEdge t (scEdges t s k).2).2) := by
  conv => lhs; unfold scEdges
  rw [h]; rfl
theorem scEdges_stop {t : ByteArray} {s : Nat × Bool} {k : Nat} (h : (scEdges t s k).2.2 = true) : ∀ m, scEdges t s (k + m) = scEdges t s k
  | 0 => rfl
  | m + 1 => by
    have ih := scEdges_stop h m
    rw [show k + (m + 1) = (k + m) + 1 by omega]
    show (if (scEdges t s (k + m)).2.2 = true then scEdges t s (k + m) else _) = scEdges t s k
    rw [ih, if_pos h]
theorem scEdges_le {t : ByteArray} {s : Nat × Bool} (h : s.1 ≤ t.size) : ∀ k, (scEdges t s k).2.1 ≤ t.size ∧ (scEdges t s k).1.length ≤ k
  | 0 => ⟨h, Nat.le_refl _⟩
  | k + 1 => by
    have ih := scEdges_le h k
    unfold scEdges
    split
    · omega
    · refine ⟨?_, ?_⟩
      · exact (scNum_le (scByte_le (scNum_le ih.1).1)).1
      · show ((scEdges t s k).1 ++ _).length ≤ k + 1
        rw [List.length_append]; simp; omega
theorem scEdges_len {t : ByteArray} {s : Nat × Bool} : ∀ k, (scEdges t s k).2.2 = false → (scEdges t s k).1.length = k
  | 0, _ => rfl
  | k + 1, h => by
    unfold scEdges at h ⊢
    split at h
    · rename_i h1; rw [h1] at h; cases h
    · rename_i h1
      rw [if_neg h1]
      show ((scEdges t s k).1 ++ _).length = k + 1
      rw [List.length_append, scEdges_len k (by simpa using h1)]; rfl
theorem scEdge_txt {t : ByteArray} {s : Nat × Bool} (hs : s.1 ≤ t.size) (h : (scEdge t s).2.2 = false) : s.2 = false ∧ t.extract 0 (scEdge t s).2.1 = t.extract 0 s.1 ++ tx (edgeText (scEdge t s).1) := by
  have h1 := scNum_le hs
  have h2 := scByte_le h1.1
  obtain ⟨h3, h4⟩ := scNum_txt h2 h
  obtain ⟨h5, h6⟩ := scByte_txt h3
  obtain ⟨h7, h8⟩ := scNum_txt hs h5
  refine ⟨h7, ?_⟩
  show t.extract 0 (scNum t (scByte t (scNum t s).2).2).2.1 = _
  rw [h4, h6, h8]
  unfold scEdge edgeText varText
  simp only [tx_app, ByteArray.append_assoc]
theorem scEdges_txt {t : ByteArray} {s : Nat × Bool} (hs : s.1 ≤ t.size) : ∀ k, (scEdges t s k).2.2 = false → s.2 = false ∧ t.extract 0 (scEdges t s k).2.1 = t.extract 0 s.1 ++ tx ((scEdges t s k).1.flatMap edgeText)
  | 0, h => ⟨h, by
    show t.extract 0 s.1 = t.extract 0 s.1 ++ tx []
    rw [show tx [] = ByteArray.empty from rfl, ByteArray.append_empty]⟩
  | k + 1, h => by
    unfold scEdges at h ⊢
    split at h
    · rename_i h1; rw [h1] at h; cases h
    · rename_i h1
      rw [if_neg h1]
      have h1' : (scEdges t s k).2.2 = false := by simpa using h1
      obtain ⟨h2, h3⟩ := scEdges_txt hs k h1'
      obtain ⟨h4, h5⟩ := scEdge_txt (scEdges_le hs k).1 h
      refine ⟨h2, ?_⟩
      show t.extract 0 (scEdge t (scEdges t s k).2).2.1 = t.extract 0 s.1 ++ tx (((scEdges t s k).1 ++ [(scEdge t (scEdges t s k).2).1]).flatMap edgeText)
      rw [h5, h3, List.flatMap_append, tx_app, ByteArray.append_assoc]
      simp

/-- what ReadGraph answers: the graph's parts as far as read, and whether it is one -/
def rgS (t : ByteArray) : Nat × (Nat × Bool) := scNum t (0, false)
def rgC (t : ByteArray) : Nat × (Nat × Bool) := scNum t (rgS t).2
def rgE (t : ByteArray) (n : Nat) : List Edge × (Nat × Bool) := scEdges t (rgC t).2 n
def rgG (t : ByteArray) (n : Nat) : Graph := ⟨(rgS t).1, (rgE t n).1⟩
def rgOk (t : ByteArray) (n : Nat) : Bool := !(rgE t n).2.2 && (decide ((rgE t n).2.1 = t.size) && (decide ((rgE t n).1.length = (rgC t).1) && graphOk (rgG t n)))
def rgN (t : ByteArray) : Nat := min (rgC t).1 41
def readGraph (t : ByteArray) : Option Graph := if rgOk t (rgN t) then some (rgG t (rgN t)) else none
theorem rg_txt {t : ByteArray} {n : Nat} (h : (rgE t n).2.2 = false) : t.extract 0 (rgE t n).2.1 = varText (rgS t).1 ++ (varText (rgC t).1 ++ tx ((rgE t n).1.flatMap edgeText)) := by
  have h0 : (0 : Nat) ≤ t.size := Nat.zero_le _
  have h1 := scNum_le (t := t) (s := (0, false)) h0
  have h2 := scNum_le (t := t) (s := (rgS t).2) h1.1
  obtain ⟨h3, h4⟩ := scEdges_txt (t := t) (s := (rgC t).2) h2.1 n h
  obtain ⟨h5, h6⟩ := scNum_txt (t := t) (s := (rgS t).2) h1.1 h3
  obtain ⟨h7, h8⟩ := scNum_txt (t := t) (s := (0, false)) h0 h5
  unfold rgE
  rw [h4]
  show t.extract 0 (scNum t (rgS t).2).2.1 ++ _ = _
  rw [h6]
  show t.extract 0 (scNum t (0, false)).2.1 ++ _ ++ _ = _
  rw [h8]
  have : t.extract 0 0 = ByteArray.empty := by rw [← by_inj, by_extract]; simp; rfl
  rw [this, ByteArray.empty_append, ByteArray.append_assoc]; rfl
theorem rg_back {t : ByteArray} {n : Nat} (h : (rgE t n).2.2 = false) (hl : (rgE t n).1.length = (rgC t).1) : graphText (rgG t n) = t ↔ (rgE t n).2.1 = t.size := by
  have h1 := rg_txt h
  have h2 : graphText (rgG t n) = t.extract 0 (rgE t n).2.1 := by
    rw [h1]
    unfold graphText graphBytes rgG
    simp only [tx_app, hl]; rfl
  have h3 : (rgE t n).2.1 ≤ t.size := (scEdges_le (scNum_le (scNum_le (Nat.zero_le _)).1).1 n).1
  rw [h2]
  constructor
  · intro e
    have := congrArg ByteArray.size e
    rw [ByteArray.size_extract] at this; omega
  · intro e
    rw [e, ← by_inj, by_extract, List.drop_zero, Nat.sub_zero, ← by_size, List.take_length]
theorem rg_same {t : ByteArray} (hb : (rgE t (min (rgC t).1 50)).2.2 = false) (hg : graphOk (rgG t (min (rgC t).1 50)) = true) : min (rgC t).1 50 = (rgC t).1 ∧ rgN t = (rgC t).1 := by
  have h1 := scEdges_len (t := t) (s := (rgC t).2) _ hb
  have h2 := graphOk_rng hg
  have h3 : (scEdges t (rgC t).2 (min (rgC t).1 50)).1.length ≤ 40 := h2.2.2
  unfold rgN; omega
/-- the reference's answer is the program's -/
theorem rg_spec (t : ByteArray) : readGraph t = if (rgE t (min (rgC t).1 50)).2.2 = false ∧ graphOk (rgG t (min (rgC t).1 50)) = true ∧ graphText (rgG t (min (rgC t).1 50)) = t then some (rgG t (min (rgC t).1 50)) else none := by
  unfold readGraph
  split
  · rename_i h
    unfold rgOk at h
    simp only [Bool.and_eq_true, Bool.not_eq_true', decide_eq_true_iff] at h
    obtain ⟨h1, h2, h3, h4⟩ := h
    have h5 : (rgE t (rgN t)).1.length ≤ 40 := (graphOk_rng h4).2.2
    have h6 : rgN t = (rgC t).1 := by unfold rgN at *; omega
    have h7 : min (rgC t).1 50 = rgN t := by omega
    rw [h7, if_pos ⟨h1, h4, (rg_back h1 h3).2 h2⟩]
  · rename_i h
    split
    · rename_i h1
      obtain ⟨h1, h2, h3⟩ := h1
      obtain ⟨h4, h5⟩ := rg_same h1 h2
      exfalso; apply h
      rw [h4] at h1 h2 h3
      have h6 : (rgE t (rgC t).1).1.length = (rgC t).1 := scEdges_len _ h1
      unfold rgOk
      rw [h5]
      simp only [Bool.and_eq_true, Bool.not_eq_true', decide_eq_true_iff]
      exact ⟨h1, (rg_back h1 h6).1 h3, h6, h2⟩
    · rfl

/-! the readers themselves -/
theorem scNum_yes {t : ByteArray} {s : Nat × Bool} (h1 : (readVar t s.1).2.2 = true) (h2 : s.2 = false) : scNum t s = ((readVar t s.1).1, ((readVar t s.1).2.1, false)) := by unfold scNum; rw [h1, h2]; rfl
theorem scNum_no1 {t : ByteArray} {s : Nat × Bool} (h1 : (readVar t s.1).2.2 = false) : scNum t s = (0, (s.1, true)) := by unfold scNum; rw [h1]; rfl
theorem scNum_no2 {t : ByteArray} {s : Nat × Bool} (h2 : s.2 = true) : scNum t s = (0, (s.1, true)) := by unfold scNum; rw [h2]; simp
theorem scByte_yes {t : ByteArray} {s : Nat × Bool} (h1 : s.1 < t.size) (h2 : s.2 = false) : scByte t s = (byteAt t s.1, (s.1 + 1, false)) := by unfold scByte; rw [h2, decide_eq_true h1]; rfl
theorem scByte_no1 {t : ByteArray} {s : Nat × Bool} (h1 : ¬ s.1 < t.size) : scByte t s = (0, (s.1, true)) := by unfold scByte; rw [decide_eq_false h1]; simp
theorem scByte_no2 {t : ByteArray} {s : Nat × Bool} (h2 : s.2 = true) : scByte t s = (0, (s.1, true)) := by unfold scByte; rw [h2]; rfl
def scCells (t : ByteArray) (s : Nat × Bool) : List Value := [.string t, .int .i64 (s.1 : Nat), .bool s.2]

--@ct (*impl.scanner).number blk0 scNumber_ct _ _ _ _ _ rfl ?_ ?_ |  | rintro _ A# ⟨rfl, rfl⟩ ;; refine ⟨_, _, [], rfl, perm0, ?_⟩
--@ct spec.l03Var blk0 l03Var_ct _ _ _ _ _ rfl ?_ ?_ |  | rintro _ A# ⟨rfl, rfl⟩ ;; refine ⟨_, _, [], rfl, perm0, ?_⟩
--@ct (*impl.scanner).octet blk0 scOctet_ct _ _ _ _ _ rfl ?_ ?_ |  | rintro _ A# ⟨rfl, rfl⟩ ;; refine ⟨_, _, [], rfl, perm0, ?_⟩
--@ct spec.l03Byte blk0 l03Byte_ct _ _ _ _ _ rfl ?_ ?_ |  | rintro _ A# ⟨rfl, rfl⟩ ;; refine ⟨_, _, [], rfl, perm0, ?_⟩
theorem scNumber_ct (q : Nat) (t : ByteArray) (ai : Int) (a : Nat) (bd : Bool) (hai : ai = (a : Int)) (ht : t.size ≤ 1152921504606846976) (ha : a ≤ t.size) :
    CtR Try.prog 195 [.pointer (some ⟨q, 0, none⟩)] [(q, Obj.cells ⟨[.string t, .int .i64 ai, .bool bd]⟩ 227)] (fun _ => True) (fun v A => v = .int .i64 ((scNum t (a, bd)).1 : Nat) ∧ A = [(q, Obj.cells ⟨[.string t, .int .i64 ((scNum t (a, bd)).2.1 : Nat), .bool (scNum t (a, bd)).2.2]⟩ 227)]) := by
  subst hai
  have h0 : (0 : Int) ≤ (a : Int) := Int.natCast_nonneg _
  refine CtR.introB G_ok [.p 0 0] [⟨q, [.string t, .int .i64 (a : Int), .bool bd], 227⟩] [] Try.func195 rfl rfl rfl rfl (by simp [SV.ok]) (by simp [Blk.ent]) fun E H hp => ?_
  refine draw G_ok mixed none (.q 0 (.q 1 (.q 2 (.q 3 (.q 4 (.q 5 (.q 6 (.q 7 (.f 8 (.q 9 (.q 10 (.q 11 (.q 12 (.q 13 (.q 14 (.q 15 (.nil))))))))))))))))) (by decide +kernel) ?_
  refine call_val (implReadVar_ct _ _ ?_ ?_) trivial ?_
  · trivial
  · trivial
  rintro _ rfl
  refine VC.intro ?_ ?_
  · exact fun _ h => h
  refine VCsplit.intro (fun q1 => ?_) (fun q1 => ?_)
  ·
    simp at q1
    (rw [scNum_no1 (s := (a, bd)) ‹_›]; exact ⟨_, ⟨rfl, rfl⟩, (.le fun a => by (try simp only [setR, List.cons_append, List.nil_append]); simp [List.count_cons, Blk.ent, idOf]; try omega)⟩)
  ·
    simp at q1
    refine VCsplit.intro (fun q2 => ?_) (fun q2 => ?_)
    ·
      (rw [scNum_no2 (s := (a, bd)) ‹_›]; exact ⟨_, ⟨rfl, rfl⟩, (.le fun a => by (try simp only [setR, List.cons_append, List.nil_append]); simp [List.count_cons, Blk.ent, idOf]; try omega)⟩)
    ·
      (have hb0 : bd = false := ‹_›; subst hb0; rw [scNum_yes (s := (a, false)) ‹_› rfl]; exact ⟨_, ⟨rfl, rfl⟩, (.le fun a => by (try simp only [setR, List.cons_append, List.nil_append]); simp [List.count_cons, Blk.ent, idOf]; try omega)⟩)

theorem l03Var_ct (q : Nat) (t : ByteArray) (ai : Int) (a : Nat) (bd : Bool) (hai : ai = (a : Int)) (ht : t.size ≤ 1152921504606846976) (ha : a ≤ t.size) :
    CtR Try.prog 202 [.pointer (some ⟨q, 0, none⟩)] [(q, Obj.cells ⟨[.string t, .int .i64 ai, .bool bd]⟩ 234)] (fun _ => True) (fun v A => v = .int .i64 ((scNum t (a, bd)).1 : Nat) ∧ A = [(q, Obj.cells ⟨[.string t, .int .i64 ((scNum t (a, bd)).2.1 : Nat), .bool (scNum t (a, bd)).2.2]⟩ 234)]) := by
  subst hai
  have h0 : (0 : Int) ≤ (a : Int) := Int.natCast_nonneg _
  refine CtR.introB G_ok [.p 0 0] [⟨q, [.string t, .int .i64 (a : Int), .bool bd], 234⟩] [] Try.func202 rfl rfl rfl rfl (by simp [SV.ok]) (by simp [Blk.ent]) fun E H hp => ?_
  refine draw G_ok mixed none (.q 0 (.q 1 (.q 2 (.q 3 (.q 4 (.q 5 (.q 6 (.q 7 (.f 8 (.q 9 (.q 10 (.q 11 (.q 12 (.q 13 (.q 14 (.q 15 (.nil))))))))))))))))) (by decide +kernel) ?_
  refine call_val (specReadVar_ct _ _ ?_ ?_) trivial ?_
  · trivial
  · trivial
  rintro _ rfl
  refine VC.intro ?_ ?_
  · exact fun _ h => h
  refine VCsplit.intro (fun q1 => ?_) (fun q1 => ?_)
  ·
    (rw [scNum_no2 (s := (a, bd)) ‹_›]; exact ⟨_, ⟨rfl, rfl⟩, (.le fun a => by (try simp only [setR, List.cons_append, List.nil_append]); simp [List.count_cons, Blk.ent, idOf]; try omega)⟩)
  ·
    refine VCsplit.intro (fun q2 => ?_) (fun q2 => ?_)
    ·
      simp at q2
      (rw [scNum_no1 (s := (a, bd)) ‹_›]; exact ⟨_, ⟨rfl, rfl⟩, (.le fun a => by (try simp only [setR, List.cons_append, List.nil_append]); simp [List.count_cons, Blk.ent, idOf]; try omega)⟩)
    ·
      simp at q2
      (have hb0 : bd = false := ‹_›; subst hb0; rw [scNum_yes (s := (a, false)) ‹_› rfl]; exact ⟨_, ⟨rfl, rfl⟩, (.le fun a => by (try simp only [setR, List.cons_append, List.nil_append]); simp [List.count_cons, Blk.ent, idOf]; try omega)⟩)

theorem scOctet_ct (q : Nat) (t : ByteArray) (ai : Int) (a : Nat) (bd : Bool) (hai : ai = (a : Int)) (ht : t.size ≤ 1152921504606846976) (ha : a ≤ t.size) :
    CtR Try.prog 196 [.pointer (some ⟨q, 0, none⟩)] [(q, Obj.cells ⟨[.string t, .int .i64 ai, .bool bd]⟩ 227)] (fun _ => True) (fun v A => v = .int .u8 ((scByte t (a, bd)).1.toNat : Nat) ∧ A = [(q, Obj.cells ⟨[.string t, .int .i64 ((scByte t (a, bd)).2.1 : Nat), .bool (scByte t (a, bd)).2.2]⟩ 227)]) := by
  subst hai
  refine CtR.introB G_ok [.p 0 0] [⟨q, [.string t, .int .i64 (a : Int), .bool bd], 227⟩] [] Try.func196 rfl rfl rfl rfl (by simp [SV.ok]) (by simp [Blk.ent]) fun E H hp => ?_
  refine draw G_ok mixed none (.q 0 (.q 1 (.q 2 (.q 3 (.q 4 (.q 5 (.q 6 (.q 7 (.q 8 (.q 9 (.q 10 (.q 11 (.q 12 (.q 13 (.q 14 (.q 15 (.nil))))))))))))))))) (by decide +kernel) ?_
  refine VCsplit.intro (fun q0 => ?_) (fun q0 => ?_)
  ·
    (rw [scByte_no2 (s := (a, bd)) ‹_›]; exact ⟨_, ⟨rfl, rfl⟩, (.le fun a => by (try simp only [setR, List.cons_append, List.nil_append]); simp [List.count_cons, Blk.ent, idOf]; try omega)⟩)
  ·
    refine VCsplit.intro (fun q1 => ?_) (fun q1 => ?_)
    ·
      simp at q1
      (rw [scByte_no1 (s := (a, bd)) (by show ¬ a < t.size; omega)]; exact ⟨_, ⟨rfl, rfl⟩, (.le fun a => by (try simp only [setR, List.cons_append, List.nil_append]); simp [List.count_cons, Blk.ent, idOf]; try omega)⟩)
    ·
      simp at q1
      refine draw G_ok mixed none (.q 0 (.q 1 (.q 2 (.q 3 (.q 4 (.q 5 (.q 6 (.q 7 (.q 8 (.q 9 (.q 10 (.nil)))))))))))) (by decide +kernel) ?_
      refine VC.intro ?_ ?_
      · (simp (disch := omega) only [wrap_of]; omega)
      (have hb0 : bd = false := ‹_›; subst hb0; have e2 : IntKind.i64.wrap ((a : Int) + 1) = ((a + 1 : Nat) : Int) := (by rw [wrap_of (by omega) (by omega)]; omega); have e1 : (IntKind.i64.wrap (((a + 1 : Nat) : Int) - 1)).toNat = a := (by rw [wrap_of (by omega) (by omega)]; omega); rw [e2]; (try rw [e1]); rw [scByte_yes (s := (a, false)) (by omega) rfl]; exact ⟨_, ⟨rfl, rfl⟩, (.le fun a => by (try simp only [setR, List.cons_append, List.nil_append]); simp [List.count_cons, Blk.ent, idOf]; try omega)⟩)

theorem l03Byte_ct (q : Nat) (t : ByteArray) (ai : Int) (a : Nat) (bd : Bool) (hai : ai = (a : Int)) (ht : t.size ≤ 1152921504606846976) (ha : a ≤ t.size) :
    CtR Try.prog 203 [.pointer (some ⟨q, 0, none⟩)] [(q, Obj.cells ⟨[.string t, .int .i64 ai, .bool bd]⟩ 234)] (fun _ => True) (fun v A => v = .int .i64 ((scByte t (a, bd)).1.toNat : Nat) ∧ A = [(q, Obj.cells ⟨[.string t, .int .i64 ((scByte t (a, bd)).2.1 : Nat), .bool (scByte t (a, bd)).2.2]⟩ 234)]) := by
  subst hai
  refine CtR.introB G_ok [.p 0 0] [⟨q, [.string t, .int .i64 (a : Int), .bool bd], 234⟩] [] Try.func203 rfl rfl rfl rfl (by simp [SV.ok]) (by simp [Blk.ent]) fun E H hp => ?_
  refine draw G_ok mixed none (.q 0 (.q 1 (.q 2 (.q 3 (.q 4 (.q 5 (.q 6 (.q 7 (.q 8 (.q 9 (.q 10 (.q 11 (.q 12 (.q 13 (.q 14 (.q 15 (.nil))))))))))))))))) (by decide +kernel) ?_
  refine VCsplit.intro (fun q0 => ?_) (fun q0 => ?_)
  ·
    (rw [scByte_no2 (s := (a, bd)) ‹_›]; exact ⟨_, ⟨rfl, rfl⟩, (.le fun a => by (try simp only [setR, List.cons_append, List.nil_append]); simp [List.count_cons, Blk.ent, idOf]; try omega)⟩)
  ·
    refine VCsplit.intro (fun q1 => ?_) (fun q1 => ?_)
    ·
      simp at q1
      (rw [scByte_no1 (s := (a, bd)) (by show ¬ a < t.size; omega)]; exact ⟨_, ⟨rfl, rfl⟩, (.le fun a => by (try simp only [setR, List.cons_append, List.nil_append]); simp [List.count_cons, Blk.ent, idOf]; try omega)⟩)
    ·
      simp at q1
      refine draw G_ok mixed none (.q 0 (.q 1 (.q 2 (.q 3 (.q 4 (.q 5 (.q 6 (.q 7 (.q 8 (.q 9 (.q 10 (.q 11 (.nil))))))))))))) (by decide +kernel) ?_
      refine VC.intro ?_ ?_
      · (simp (disch := omega) only [wrap_of]; omega)
      (have hb0 : bd = false := ‹_›; subst hb0; have e2 : IntKind.i64.wrap ((a : Int) + 1) = ((a + 1 : Nat) : Int) := (by rw [wrap_of (by omega) (by omega)]; omega); have e1 : (IntKind.i64.wrap (((a + 1 : Nat) : Int) - 1)).toNat = a := (by rw [wrap_of (by omega) (by omega)]; omega); rw [e2, e1]; rw [scByte_yes (s := (a, false)) (by omega) rfl]; exact ⟨_, ⟨by (show Value.int IntKind.i64 (IntKind.i64.wrap _) = _; rw [byte_w]; rfl), rfl⟩, (.le fun a => by (try simp only [setR, List.cons_append, List.nil_append]); simp [List.count_cons, Blk.ent, idOf]; try omega)⟩)

end Go.Proofs.Ytcikookachejfaa
