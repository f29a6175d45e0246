/-
  Texts read one thing after another, on both sides. Conditions: none.
-/
import Derived.Test.YtflfohphebmemaaGreatIj
import Derived.Test.YtflfohphebmemaaGreatSxZ
namespace Go.Proofs.YtflfohphebmemaaGreat
open Go.SX Go.Proofs
set_option linter.unusedSimpArgs false
set_option linter.unusedVariables false
set_option maxHeartbeats 4000000
attribute [local irreducible] IntKind.wrap

/-! where a reader stands: the place, and whether it has failed -/
def scNum (t : ByteArray) (s : Nat × Bool) : Nat × (Nat × Bool) :=
  if (readVar t s.1).2.2 && !s.2 then ((readVar t s.1).1, ((readVar t s.1).2.1, false)) else (0, (s.1, true))
def scByte (t : ByteArray) (s : Nat × Bool) : UInt8 × (Nat × Bool) :=
  if !s.2 && decide (s.1 < t.size) then (byteAt t s.1, (s.1 + 1, false)) else (0, (s.1, true))
theorem scNum_bad {t : ByteArray} {s : Nat × Bool} (h : s.2 = true) : (scNum t s).2.2 = true := by unfold scNum; rw [h]; simp
theorem scByte_bad {t : ByteArray} {s : Nat × Bool} (h : s.2 = true) : (scByte t s).2.2 = true := by unfold scByte; rw [h]; simp
theorem scNum_le {t : ByteArray} {s : Nat × Bool} (h : s.1 ≤ t.size) : (scNum t s).2.1 ≤ t.size ∧ (scNum t s).1 ≤ 1000000000 := by
  unfold scNum; split
  · rename_i h1; rw [Bool.and_eq_true] at h1
    have := readVar_le h1.1
    exact ⟨this.2.1, this.2.2⟩
  · exact ⟨h, by omega⟩
theorem scByte_le {t : ByteArray} {s : Nat × Bool} (h : s.1 ≤ t.size) : (scByte t s).2.1 ≤ t.size := by
  unfold scByte; split
  · rename_i h1; rw [Bool.and_eq_true, decide_eq_true_iff] at h1
    show s.1 + 1 ≤ t.size; omega
  · exact h
/-- what was read stands in the text -/
theorem scNum_txt {t : ByteArray} {s : Nat × Bool} (hs : s.1 ≤ t.size) (h : (scNum t s).2.2 = false) : s.2 = false ∧ t.extract 0 (scNum t s).2.1 = t.extract 0 s.1 ++ varText (scNum t s).1 := by
  unfold scNum at h ⊢
  split at h
  · rename_i h1
    have h1' := h1
    rw [Bool.and_eq_true, Bool.not_eq_true'] at h1
    rw [if_pos h1']
    have h2 := readVar_le h1.1
    refine ⟨h1.2, ?_⟩
    show t.extract 0 (readVar t s.1).2.1 = t.extract 0 s.1 ++ varText (readVar t s.1).1
    rw [readVar_canon hs h1.1, ← ext_join t (by omega) (by omega)]
  · cases h
theorem ext_one {t : ByteArray} {k : Nat} (h : k < t.size) : t.extract k (k + 1) = tx [byteAt t k] := by
  rw [← by_inj, by_extract, by_tx, show k + 1 - k = 1 by omega]
  have h1 : k < (by' t).length := by rw [by_size]; exact h
  rw [List.drop_eq_getElem_cons h1]
  unfold byteAt
  rw [by_get, List.getElem?_eq_getElem h1]; rfl
theorem scByte_txt {t : ByteArray} {s : Nat × Bool} (h : (scByte t s).2.2 = false) : s.2 = false ∧ t.extract 0 (scByte t s).2.1 = t.extract 0 s.1 ++ tx [(scByte t s).1] := by
  unfold scByte at h ⊢
  split at h
  · rename_i h1
    rw [if_pos h1]
    rw [Bool.and_eq_true, Bool.not_eq_true', decide_eq_true_iff] at h1
    refine ⟨h1.1, ?_⟩
    show t.extract 0 (s.1 + 1) = t.extract 0 s.1 ++ tx [byteAt t s.1]
    rw [← ext_one h1.2, ← ext_join t (by omega) (by omega)]
  · cases h

/-! the readers themselves -/
theorem scNum_yes {t : ByteArray} {s : Nat × Bool} (h1 : (readVar t s.1).2.2 = true) (h2 : s.2 = false) : scNum t s = ((readVar t s.1).1, ((readVar t s.1).2.1, false)) := by unfold scNum; rw [h1, h2]; rfl
theorem scNum_no1 {t : ByteArray} {s : Nat × Bool} (h1 : (readVar t s.1).2.2 = false) : scNum t s = (0, (s.1, true)) := by unfold scNum; rw [h1]; rfl
theorem scNum_no2 {t : ByteArray} {s : Nat × Bool} (h2 : s.2 = true) : scNum t s = (0, (s.1, true)) := by unfold scNum; rw [h2]; simp
theorem scByte_yes {t : ByteArray} {s : Nat × Bool} (h1 : s.1 < t.size) (h2 : s.2 = false) : scByte t s = (byteAt t s.1, (s.1 + 1, false)) := by unfold scByte; rw [h2, decide_eq_true h1]; rfl
theorem scByte_no1 {t : ByteArray} {s : Nat × Bool} (h1 : ¬ s.1 < t.size) : scByte t s = (0, (s.1, true)) := by unfold scByte; rw [decide_eq_false h1]; simp
theorem scByte_no2 {t : ByteArray} {s : Nat × Bool} (h2 : s.2 = true) : scByte t s = (0, (s.1, true)) := by unfold scByte; rw [h2]; rfl
def scCells (t : ByteArray) (s : Nat × Bool) : List Value := [.string t, .int .i64 (s.1 : Nat), .bool s.2]

--@ct (*impl.scanner).number blk0 scNumber_ct _ _ _ _ _ rfl ?_ ?_ |  | rintro _ A# ⟨rfl, rfl⟩ ;; refine ⟨_, _, [], rfl, perm0, ?_⟩
--@ct spec.l03Var blk0 l03Var_ct _ _ _ _ _ rfl ?_ ?_ |  | rintro _ A# ⟨rfl, rfl⟩ ;; refine ⟨_, _, [], rfl, perm0, ?_⟩
--@ct (*impl.scanner).octet blk0 scOctet_ct _ _ _ _ _ rfl ?_ ?_ |  | rintro _ A# ⟨rfl, rfl⟩ ;; refine ⟨_, _, [], rfl, perm0, ?_⟩
--@ct spec.l03Byte blk0 l03Byte_ct _ _ _ _ _ rfl ?_ ?_ |  | rintro _ A# ⟨rfl, rfl⟩ ;; refine ⟨_, _, [], rfl, perm0, ?_⟩
theorem scNumber_ct (q : Nat) (t : ByteArray) (ai : Int) (a : Nat) (bd : Bool) (hai : ai = (a : Int)) (ht : t.size ≤ 1152921504606846976) (ha : a ≤ t.size) :
    CtR Tryz.prog 296 [.pointer (some ⟨q, 0, none⟩)] [(q, Obj.cells ⟨[.string t, .int .i64 ai, .bool bd]⟩ 365)] (fun _ => True) (fun v A => v = .int .i64 ((scNum t (a, bd)).1 : Nat) ∧ A = [(q, Obj.cells ⟨[.string t, .int .i64 ((scNum t (a, bd)).2.1 : Nat), .bool (scNum t (a, bd)).2.2]⟩ 365)]) := by
  subst hai
  have h0 : (0 : Int) ≤ (a : Int) := Int.natCast_nonneg _
  refine CtR.introB G_ok [.p 0 0] [⟨q, [.string t, .int .i64 (a : Int), .bool bd], 365⟩] [] Tryz.func296 rfl rfl rfl rfl (by simp [SV.ok]) (by simp [Blk.ent]) fun E H hp => ?_
  refine draw G_ok mixed none (.q 0 (.q 1 (.q 2 (.q 3 (.q 4 (.q 5 (.q 6 (.q 7 (.f 8 (.q 9 (.q 10 (.q 11 (.q 12 (.q 13 (.q 14 (.q 15 (.nil))))))))))))))))) (by decide +kernel) ?_
  refine call_val (implReadVar_ct _ _ ?_ ?_) trivial ?_
  · trivial
  · trivial
  rintro _ rfl
  refine VC.intro ?_ ?_
  · exact fun _ h => h
  refine VCsplit.intro (fun q1 => ?_) (fun q1 => ?_)
  ·
    simp at q1
    (rw [scNum_no1 (s := (a, bd)) ‹_›]; exact ⟨_, ⟨rfl, rfl⟩, (.le fun a => by (try simp only [setR, List.cons_append, List.nil_append]); simp [List.count_cons, Blk.ent, idOf]; try omega)⟩)
  ·
    simp at q1
    refine VCsplit.intro (fun q2 => ?_) (fun q2 => ?_)
    ·
      (rw [scNum_no2 (s := (a, bd)) ‹_›]; exact ⟨_, ⟨rfl, rfl⟩, (.le fun a => by (try simp only [setR, List.cons_append, List.nil_append]); simp [List.count_cons, Blk.ent, idOf]; try omega)⟩)
    ·
      (have hb0 : bd = false := ‹_›; subst hb0; rw [scNum_yes (s := (a, false)) ‹_› rfl]; exact ⟨_, ⟨rfl, rfl⟩, (.le fun a => by (try simp only [setR, List.cons_append, List.nil_append]); simp [List.count_cons, Blk.ent, idOf]; try omega)⟩)

theorem l03Var_ct (q : Nat) (t : ByteArray) (ai : Int) (a : Nat) (bd : Bool) (hai : ai = (a : Int)) (ht : t.size ≤ 1152921504606846976) (ha : a ≤ t.size) :
    CtR Tryz.prog 271 [.pointer (some ⟨q, 0, none⟩)] [(q, Obj.cells ⟨[.string t, .int .i64 ai, .bool bd]⟩ 328)] (fun _ => True) (fun v A => v = .int .i64 ((scNum t (a, bd)).1 : Nat) ∧ A = [(q, Obj.cells ⟨[.string t, .int .i64 ((scNum t (a, bd)).2.1 : Nat), .bool (scNum t (a, bd)).2.2]⟩ 328)]) := by
  subst hai
  have h0 : (0 : Int) ≤ (a : Int) := Int.natCast_nonneg _
  refine CtR.introB G_ok [.p 0 0] [⟨q, [.string t, .int .i64 (a : Int), .bool bd], 328⟩] [] Tryz.func271 rfl rfl rfl rfl (by simp [SV.ok]) (by simp [Blk.ent]) fun E H hp => ?_
  refine draw G_ok mixed none (.q 0 (.q 1 (.q 2 (.q 3 (.q 4 (.q 5 (.q 6 (.q 7 (.f 8 (.q 9 (.q 10 (.q 11 (.q 12 (.q 13 (.q 14 (.q 15 (.nil))))))))))))))))) (by decide +kernel) ?_
  refine call_val (specReadVar_ct _ _ ?_ ?_) trivial ?_
  · trivial
  · trivial
  rintro _ rfl
  refine VC.intro ?_ ?_
  · exact fun _ h => h
  refine VCsplit.intro (fun q1 => ?_) (fun q1 => ?_)
  ·
    (rw [scNum_no2 (s := (a, bd)) ‹_›]; exact ⟨_, ⟨rfl, rfl⟩, (.le fun a => by (try simp only [setR, List.cons_append, List.nil_append]); simp [List.count_cons, Blk.ent, idOf]; try omega)⟩)
  ·
    refine VCsplit.intro (fun q2 => ?_) (fun q2 => ?_)
    ·
      simp at q2
      (rw [scNum_no1 (s := (a, bd)) ‹_›]; exact ⟨_, ⟨rfl, rfl⟩, (.le fun a => by (try simp only [setR, List.cons_append, List.nil_append]); simp [List.count_cons, Blk.ent, idOf]; try omega)⟩)
    ·
      simp at q2
      (have hb0 : bd = false := ‹_›; subst hb0; rw [scNum_yes (s := (a, false)) ‹_› rfl]; exact ⟨_, ⟨rfl, rfl⟩, (.le fun a => by (try simp only [setR, List.cons_append, List.nil_append]); simp [List.count_cons, Blk.ent, idOf]; try omega)⟩)

end Go.Proofs.YtflfohphebmemaaGreat
