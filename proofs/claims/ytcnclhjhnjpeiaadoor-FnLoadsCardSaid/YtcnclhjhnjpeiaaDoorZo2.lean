/-
  The types of the laws: how their values lie, and the laws' helpers over them (printed by gent.py). Ranges. Decimal numerals (plain). Checksums and numbers as bytes, on both sides. Decimal numerals: both sides (the program's for numbers of two digits). The library's numerals laid at this program. Decimal numerals of all numbers: the program's side. Texts parted at a byte (plain). Texts appended to bytes; builders of texts. Generic rules: copies, appends of zeros, overlaps. Numbers of variable length read, frames written and read, on both sides. Texts parted: the library's Split and TrimSuffix at one byte. Texts parted: the library's Split at one byte. The lines of a text: both sides. Texts parted, step by step (plain). The lines of a text, the parts of a line: the reference's side. The parts of a line: both sides. The parts of a line: the reference's side. Decimal numerals read: both sides. The order of rows, labels. The order of edges, valid graphs, on both sides. Valid graphs: what their edges are; edges put into their place. Plain. An element put into a list at its place. An element put into a slice at its place (slices.Insert), edges. Builders of texts. Frames, owners, parts of graphs, graphs as texts, on both sides. The middle of two places. Edges put into graphs, on both sides. Copies of values, on both sides. Edges added to graphs, on both sides. Edges added to graphs: the reference's side. Conditions: none.
-/
import Derived.Test.YtcnclhjhnjpeiaaDoorZo1

--@dev import Derived.Test.YtcnclhjhnjpeiaaDoorSxWalk
namespace Go.Proofs.YtcnclhjhnjpeiaaDoor
open Go.SX Go.Proofs
set_option maxHeartbeats 4000000
set_option linter.unusedSimpArgs false
set_option linter.unusedVariables false
structure Edge where
  from' : Int
  label : UInt8
  to : Int
deriving DecidableEq, Inhabited
def gEdge : Gt Edge := gIso (SX.gPair gI (SX.gPair gY gI)) (fun x => (x.from', (x.label, x.to))) (fun p => ⟨p.1, p.2.1, p.2.2⟩)
theorem gEdge_rd {H : Hp} {l : List Value} {x : Edge} : gEdge.rd H l x ↔ l = .int .i64 x.from' :: .int .u8 (x.label).toNat :: .int .i64 x.to :: [] ∧ okI x.from' ∧ okI x.to := by
  constructor
  · rintro ⟨m0, q0, rfl, h0, m1, q1, rfl, h1, h2⟩
    obtain ⟨rfl, w0⟩ := h0
    obtain ⟨rfl, w1⟩ := h1
    obtain ⟨rfl, w2⟩ := h2
    exact ⟨rfl, w0, w2⟩
  rintro ⟨rfl, w0, w2⟩
  exact ⟨[.int .i64 x.from'], .int .u8 (x.label).toNat :: .int .i64 x.to :: [], rfl, ⟨rfl, w0⟩, ⟨[.int .u8 (x.label).toNat], [.int .i64 x.to], rfl, ⟨rfl, trivial⟩, ⟨rfl, w2⟩⟩⟩
open Classical in
theorem gEdge_ow {A : Hp} {l : List Value} {x : Edge} : gEdge.ow l x A ↔ l = .int .i64 x.from' :: .int .u8 (x.label).toNat :: .int .i64 x.to :: [] ∧ A.Perm [] ∧ okI x.from' ∧ okI x.to := by
  constructor
  · rintro ⟨m0, q0, D0, E0, rfl, p0, h0, m1, q1, D1, E1, rfl, p1, h1, h2⟩
    obtain ⟨rfl, w0, e0⟩ := h0
    subst e0
    obtain ⟨rfl, w1, e1⟩ := h1
    subst e1
    obtain ⟨rfl, w2, e2⟩ := h2
    subst e2
    exact ⟨rfl, (perm_cnt fun a => by have e0 := p0.count_eq a; have e1 := p1.count_eq a; simp only [List.count_append, List.count_nil] at *; omega), w0, w2⟩
  rintro ⟨rfl, hp, w0, w2⟩
  exact ⟨[.int .i64 x.from'], .int .u8 (x.label).toNat :: .int .i64 x.to :: [], [], ([] ++ []), rfl, (perm_cnt fun a => by have e := hp.count_eq a; simp only [List.count_append, List.count_nil] at *; omega), ⟨rfl, w0, rfl⟩, ⟨[.int .u8 (x.label).toNat], [.int .i64 x.to], [], [], rfl, .refl _, ⟨rfl, trivial, rfl⟩, ⟨rfl, w2, rfl⟩⟩⟩
def zEdge : Edge := ⟨0, 0, 0⟩
theorem zEdge_ow : gEdge.ow [.int .i64 0, .int .u8 0, .int .i64 0] zEdge [] := gEdge_ow.2 ⟨rfl, by simp, by first | (unfold okI; decide) | decide, by first | (unfold okI; decide) | decide⟩
theorem gEdge_own {H : Hp} {l : List Value} {x : Edge} (h : gEdge.rd H l x) : gEdge.ow l x [] := by
  obtain ⟨rfl, w0, w2⟩ := gEdge_rd.1 h
  exact gEdge_ow.2 ⟨rfl, by simp, w0, w2⟩
--@gt impl.Edge | gEdge | default | obtain ⟨rfl, w0x#, w2x#⟩ := gEdge_rd.1 hl# | 0 1 pr gEdge_from ; 1 1 pr gEdge_label ; 2 1 pr gEdge_to | 3 | gEdge_own ‹_›
structure Graph where
  size : Int
  edges : List Edge
deriving DecidableEq, Inhabited
def gGraph : Gt Graph := gIso (SX.gPair gI (gSl 42 gEdge)) (fun x => (x.size, x.edges)) (fun p => ⟨p.1, p.2⟩)
theorem gGraph_rd {H : Hp} {l : List Value} {x : Graph} : gGraph.rd H l x ↔ ∃ (b1 : Option Addr) (c1 : Nat), l = .int .i64 x.size :: .slice b1 x.edges.length c1 :: [] ∧ okI x.size ∧ (gSl 42 gEdge).rd H [.slice b1 x.edges.length c1] x.edges := by
  constructor
  · rintro ⟨m0, q0, rfl, h0, h1⟩
    obtain ⟨rfl, w0⟩ := h0
    obtain ⟨b1, c1, rfl, h1⟩ := sl_rd h1
    exact ⟨b1, c1, rfl, w0, h1⟩
  rintro ⟨b1, c1, rfl, w0, h1⟩
  exact ⟨[.int .i64 x.size], [.slice b1 x.edges.length c1], rfl, ⟨rfl, w0⟩, h1⟩
open Classical in
theorem gGraph_ow {A : Hp} {l : List Value} {x : Graph} : gGraph.ow l x A ↔ ∃ (b1 : Option Addr) (c1 : Nat) (A1 : Hp), l = .int .i64 x.size :: .slice b1 x.edges.length c1 :: [] ∧ A.Perm A1 ∧ okI x.size ∧ (gSl 42 gEdge).ow [.slice b1 x.edges.length c1] x.edges A1 := by
  constructor
  · rintro ⟨m0, q0, D0, E0, rfl, p0, h0, h1⟩
    obtain ⟨rfl, w0, e0⟩ := h0
    subst e0
    obtain ⟨b1, c1, rfl, h1⟩ := sl_ow h1
    exact ⟨b1, c1, E0, rfl, (perm_cnt fun a => by have e0 := p0.count_eq a; simp only [List.count_append, List.count_nil] at *; omega), w0, h1⟩
  rintro ⟨b1, c1, A1, rfl, hp, w0, h1⟩
  exact ⟨[.int .i64 x.size], [.slice b1 x.edges.length c1], [], A1, rfl, (perm_cnt fun a => by have e := hp.count_eq a; simp only [List.count_append, List.count_nil] at *; omega), ⟨rfl, w0, rfl⟩, h1⟩
--@gt impl.Graph | gGraph | default | obtain ⟨b1x#, c1x#, rfl, w0x#, h1x#⟩ := gGraph_rd.1 hl# | 0 1 pr gGraph_size ; 1 1 sl gGraph_edges | 2 | 
--@gt []impl.Edge | (gSl 42 gEdge) | [] | | 0 1 sl fldId | 1
--@gt []impl.Graph | (gSl 29 gGraph) | [] | | 0 1 sl fldId | 1
--@gt []int | (gSl 3 gI) | [] | | 0 1 sl fldId | 1
--@gt []bool | (gSl 4 gB) | [] | | 0 1 sl fldId | 1
--@gt []uint8 | (gSl 5 gY) | [] | | 0 1 sl fldId | 1
--@gt []string | (gSl 9 gS) | [] | | 0 1 sl fldId | 1
--@gt int | gI | 0 | | 0 1 pr fldId | 1 | gI_ow ?_
--@gt bool | gB | false | | 0 1 pr fldId | 1 | gB_ow ?_
--@gt uint8 | gY | 0 | | 0 1 pr fldId | 1 | gY_owM _; gY_ow trivial
--@gt string | gS | ByteArray.empty | | 0 1 pr fldId | 1 | gS_ow ?_
end Go.Proofs.YtcnclhjhnjpeiaaDoor

namespace Go.Proofs.YtcnclhjhnjpeiaaDoor
open Go.SX Go.Proofs
set_option linter.unusedSimpArgs false
set_option linter.unusedVariables false
set_option maxHeartbeats 4000000
def inR (a b n : Int) : Bool := decide (a ≤ n) && decide (n ≤ b)
theorem inR_iff {a b n : Int} : inR a b n = true ↔ a ≤ n ∧ n ≤ b := by unfold inR; simp
--@ct spec.l01In val l01In_ct _ _ _
theorem l01In_ct (n a b : Int) : Ct Tryd.prog 39 [.int .i64 n, .int .i64 a, .int .i64 b] [] (fun _ => True) (fun v A => v = .bool (inR a b n) ∧ A = []) := by
  refine Ct.intro0 G_ok Tryd.func39 rfl rfl rfl fun E H hp => ?_
  refine VCsplit.intro (fun q0 => ?_) (fun q0 => ?_)
  ·
    simp at q0
    exact ⟨[], ⟨by unfold inR; first | rw [decide_eq_true (by omega : a ≤ n), Bool.true_and] | rw [decide_eq_false (by omega : ¬ a ≤ n), Bool.false_and], rfl⟩, (.le fun a => by (try simp only [setR, List.cons_append, List.nil_append]); simp only [List.flatten_append, List.flatten_cons, List.flatten_nil, List.count_append, List.count_nil, List.append_nil, List.nil_append]; omega)⟩
  ·
    simp at q0
    exact ⟨[], ⟨by unfold inR; first | rw [decide_eq_true (by omega : a ≤ n), Bool.true_and] | rw [decide_eq_false (by omega : ¬ a ≤ n), Bool.false_and], rfl⟩, (.le fun a => by (try simp only [setR, List.cons_append, List.nil_append]); simp only [List.flatten_append, List.flatten_cons, List.flatten_nil, List.count_append, List.count_nil, List.append_nil, List.nil_append]; omega)⟩
end Go.Proofs.YtcnclhjhnjpeiaaDoor

namespace Go.Proofs.YtcnclhjhnjpeiaaDoor
open Go.SX Go.Proofs
set_option maxHeartbeats 1000000
/-- digits s have been told of n0, m is what is left -/
def decI (n0 m : Nat) (s : List UInt8) : Prop := if m = 0 then s = Lib.decDigits n0 else Lib.decDigits n0 = Lib.decDigits m ++ s
theorem decI_init {n : Nat} (h : ¬ n = 0) : decI n n [] := by unfold decI; rw [if_neg h, List.append_nil]
theorem decI_step {n m : Nat} {s : List UInt8} (h : decI n m s) (hm : ¬ m = 0) : decI n (m / 10) (UInt8.ofNat (48 + m % 10) :: s) := by
  unfold decI at h ⊢
  rw [if_neg hm] at h
  by_cases h1 : m < 10
  · rw [if_pos (by omega), h, Lib.decDigits, dif_pos h1, Nat.mod_eq_of_lt h1]; rfl
  rw [if_neg (by omega), h]
  conv => lhs; rw [Lib.decDigits, dif_neg h1]
  rw [List.append_assoc]; rfl
theorem decI_end {n : Nat} {s : List UInt8} (h : decI n 0 s) : s = Lib.decDigits n := by unfold decI at h; rwa [if_pos rfl] at h
theorem decI_le {n m : Nat} {s : List UInt8} (h : decI n m s) : s.length ≤ (Lib.decDigits n).length := by
  unfold decI at h
  split at h
  · rw [h]; exact Nat.le_refl _
  rw [h, List.length_append]; omega
theorem dec_len : ∀ (k n : Nat), n < 10 ^ (k + 1) → (Lib.decDigits n).length ≤ k + 1
  | 0, n, h => by rw [Lib.decDigits, dif_pos (by omega)]; exact Nat.le_refl _
  | k + 1, n, h => by
    rw [Lib.decDigits]
    split
    · simp
    rw [List.length_append, List.length_singleton]
    have := dec_len k (n / 10) (by rw [Nat.div_lt_iff_lt_mul (by omega), ← Nat.pow_succ]; exact h)
    omega
theorem dec_zero : Lib.decDigits 0 = [48] := by rw [Lib.decDigits, dif_pos (by omega)]; rfl
theorem dec_i64 {n : Int} (h : 0 ≤ n ∧ n ≤ 9223372036854775807) : (Lib.decDigits n.toNat).length ≤ 19 := dec_len 18 n.toNat (by omega)
end Go.Proofs.YtcnclhjhnjpeiaaDoor

namespace Go.Proofs.YtcnclhjhnjpeiaaDoor
open Go.SX Go.Proofs
set_option linter.unusedSimpArgs false
set_option linter.unusedVariables false
set_option maxHeartbeats 4000000
/-- the bytes of a text -/
def by' (s : ByteArray) : List UInt8 := s.data.toList
def tx (l : List UInt8) : ByteArray := ⟨l.toArray⟩
theorem tx_by (s : ByteArray) : tx (by' s) = s := by unfold tx by'; rfl
theorem by_tx (l : List UInt8) : by' (tx l) = l := by unfold tx by'; simp
theorem by_inj {a b : ByteArray} : by' a = by' b ↔ a = b := ⟨fun h => by rw [← tx_by a, h, tx_by], fun h => by rw [h]⟩
theorem by_size (s : ByteArray) : (by' s).length = s.size := by unfold by'; simp
theorem by_app (a b : ByteArray) : by' (a ++ b) = by' a ++ by' b := by unfold by'; simp
theorem tx_app (a b : List UInt8) : tx (a ++ b) = tx a ++ tx b := by rw [← by_inj, by_app, by_tx, by_tx, by_tx]
theorem by_get (s : ByteArray) (i : Nat) : (s[i]?).getD 0 = ((by' s)[i]?).getD 0 := by
  by_cases h : i < s.size
  · have h2 : i < s.data.size := h
    rw [getElem?_pos s i h, List.getElem?_eq_getElem (by rw [by_size]; exact h)]
    simp [by']; rfl
  rw [getElem?_neg s i h, List.getElem?_eq_none (by rw [by_size]; omega)]
def xu (x y : Int) : Int := IntKind.u32.wrap (BitVec.ofInt IntKind.u32.bits x ^^^ BitVec.ofInt IntKind.u32.bits y).toNat
def bitStep (s : Int) : Int := if s % 2 = 1 then xu (s / 2) 3558460437 else s / 2
def bits : Nat → Int → Int
  | 0, s => s
  | n + 1, s => bitStep (bits n s)
attribute [irreducible] xu bits
attribute [local irreducible] IntKind.wrap
end Go.Proofs.YtcnclhjhnjpeiaaDoor

namespace Go.Proofs.YtcnclhjhnjpeiaaDoor
open Go.SX Go.Proofs
set_option linter.unusedSimpArgs false
set_option linter.unusedVariables false
set_option maxHeartbeats 4000000
set_option maxRecDepth 100000
attribute [local irreducible] IntKind.wrap
theorem dec_lo {n : Nat} (h : n < 10) : Lib.decDigits n = [UInt8.ofNat (48 + n)] := by rw [Lib.decDigits, dif_pos h]
theorem dec_hi {n : Nat} (h : ¬ n < 10) : Lib.decDigits n = Lib.decDigits (n / 10) ++ [UInt8.ofNat (48 + n % 10)] := by rw [Lib.decDigits, dif_neg h]
theorem dec_12 : Lib.decDigits 10 = [49, 48] ∧ Lib.decDigits 11 = [49, 49] ∧ Lib.decDigits 12 = [49, 50] := by
  refine ⟨?_, ?_, ?_⟩ <;> (rw [dec_hi (by decide), dec_lo (by decide)]; rfl)
def dcT (n : Int) : List UInt8 := Lib.decDigits n.toNat
theorem dcT_len {n : Int} (h : 0 ≤ n ∧ n ≤ 12) : (dcT n).length ≤ 2 := dec_len 1 n.toNat (by omega)
--@ct internal/strconv.small val small_ct _ ?_ | trivial
theorem small_ct (i : Int) (h : 0 ≤ i ∧ i ≤ 12) : Ct Tryd.prog 83 [.int .i64 i] [] (fun _ => True) (fun v A => v = .string (tx (dcT i)) ∧ A = []) := by
  refine Ct.intro0 G_ok Tryd.func83 rfl rfl rfl fun E H hp => ?_
  refine VCsplit.intro (fun q0 => ?_) (fun q0 => ?_)
  ·
    simp at q0
    refine VC.intro ?_ ?_
    · (rw [wrap_of (x := i + 1) (by omega) (by omega)]; exact ⟨by omega, Int.le_trans (show i + 1 ≤ 13 by omega) (by decide)⟩)
    refine VC.intro ?_ ?_
    · (simp (disch := omega) only [wrap_of]; omega)
    (rw [wrap_of (x := i + 1) (by omega) (by omega)]; have hi : i = 0 ∨ i = 1 ∨ i = 2 ∨ i = 3 ∨ i = 4 ∨ i = 5 ∨ i = 6 ∨ i = 7 ∨ i = 8 ∨ i = 9 := (by omega); rcases hi with rfl | rfl | rfl | rfl | rfl | rfl | rfl | rfl | rfl | rfl <;> exact ⟨[], ⟨by unfold dcT; rw [dec_lo (by decide)]; rfl, rfl⟩, (.le fun a => by (try simp only [setR, List.cons_append, List.nil_append]); simp only [List.flatten_append, List.flatten_cons, List.flatten_nil, List.count_append, List.count_nil, List.append_nil, List.nil_append]; omega)⟩)
  ·
    simp at q0
    refine VC.intro ?_ ?_
    · (rw [wrap_of (x := i * 2) (by omega) (by omega), wrap_of (x := i * 2 + 2) (by omega) (by omega)]; exact ⟨by omega, Int.le_trans (show i * 2 + 2 ≤ 26 by omega) (by decide)⟩)
    refine VC.intro ?_ ?_
    · (simp (disch := omega) only [wrap_of]; omega)
    (rw [wrap_of (x := i * 2) (by omega) (by omega), wrap_of (x := i * 2 + 2) (by omega) (by omega)]; have hi : i = 10 ∨ i = 11 ∨ i = 12 := (by omega); rcases hi with rfl | rfl | rfl <;> exact ⟨[], ⟨by unfold dcT; first | (rw [show Int.toNat 10 = 10 from rfl, dec_12.1]; rfl) | (rw [show Int.toNat 11 = 11 from rfl, dec_12.2.1]; rfl) | (rw [show Int.toNat 12 = 12 from rfl, dec_12.2.2]; rfl), rfl⟩, (.le fun a => by (try simp only [setR, List.cons_append, List.nil_append]); simp only [List.flatten_append, List.flatten_cons, List.flatten_nil, List.count_append, List.count_nil, List.append_nil, List.nil_append]; omega)⟩)
--@ct internal/strconv.FormatInt val formatInt_ct _ ?_ | trivial
theorem formatInt_ct (i : Int) (h : 0 ≤ i ∧ i ≤ 12) : Ct Tryd.prog 74 [.int .i64 i, .int .i64 10] [] (fun _ => True) (fun v A => v = .string (tx (dcT i)) ∧ A = []) := by
  refine Ct.intro0 G_ok Tryd.func74 rfl rfl rfl fun E H hp => ?_
  refine VCsplit.intro (fun q0 => ?_) (fun q0 => ?_)
  ·
    simp at q0
    refine VCsplit.intro (fun q1 => ?_) (fun q1 => ?_)
    ·
      simp at q1
      refine VCsplit.intro (fun q2 => ?_) (fun q2 => ?_)
      ·
        simp at q2
        refine call_val (small_ct _ ?_) trivial ?_
        · trivial
        rintro _ rfl
        exact ⟨[], ⟨rfl, rfl⟩, (.le fun a => by (try simp only [setR, List.cons_append, List.nil_append]); simp only [List.flatten_append, List.flatten_cons, List.flatten_nil, List.count_append, List.count_nil, List.append_nil, List.nil_append]; omega)⟩
      ·
        simp at q2
        exfalso; omega
    ·
      simp at q1
      exfalso; omega
  ·
    simp at q0
--@ct internal/strconv.Itoa val itoaI_ct _ ?_ | trivial
theorem itoaI_ct (i : Int) (h : 0 ≤ i ∧ i ≤ 12) : Ct Tryd.prog 63 [.int .i64 i] [] (fun _ => True) (fun v A => v = .string (tx (dcT i)) ∧ A = []) := by
  refine Ct.intro0 G_ok Tryd.func63 rfl rfl rfl fun E H hp => ?_
  refine call_val (formatInt_ct _ ?_) trivial ?_
  · trivial
  rintro _ rfl
  exact ⟨[], ⟨rfl, rfl⟩, (.le fun a => by (try simp only [setR, List.cons_append, List.nil_append]); simp only [List.flatten_append, List.flatten_cons, List.flatten_nil, List.count_append, List.count_nil, List.append_nil, List.nil_append]; omega)⟩
--@ct strconv.Itoa val itoa_ct _ ?_ | trivial
theorem itoa_ct (i : Int) (h : 0 ≤ i ∧ i ≤ 12) : Ct Tryd.prog 46 [.int .i64 i] [] (fun _ => True) (fun v A => v = .string (tx (dcT i)) ∧ A = []) := by
  refine Ct.intro0 G_ok Tryd.func46 rfl rfl rfl fun E H hp => ?_
  refine call_val (itoaI_ct _ ?_) trivial ?_
  · trivial
  rintro _ rfl
  exact ⟨[], ⟨rfl, rfl⟩, (.le fun a => by (try simp only [setR, List.cons_append, List.nil_append]); simp only [List.flatten_append, List.flatten_cons, List.flatten_nil, List.count_append, List.count_nil, List.append_nil, List.nil_append]; omega)⟩
--@ct impl.Decimal val decimal12_ct _ ?_ | trivial
theorem decimal12_ct (i : Int) (h : 0 ≤ i ∧ i ≤ 12) : Ct Tryd.prog 25 [.int .i64 i] [] (fun _ => True) (fun v A => v = .string (tx (dcT i)) ∧ A = []) := by
  refine Ct.intro0 G_ok Tryd.func25 rfl rfl rfl fun E H hp => ?_
  refine call_val (itoa_ct _ ?_) trivial ?_
  · trivial
  rintro _ rfl
  exact ⟨[], ⟨rfl, rfl⟩, (.le fun a => by (try simp only [setR, List.cons_append, List.nil_append]); simp only [List.flatten_append, List.flatten_cons, List.flatten_nil, List.count_append, List.count_nil, List.append_nil, List.nil_append]; omega)⟩
--@ct spec.l01Figure val l01Figure_ct _ ?_ | trivial
theorem l01Figure_ct (d : Int) (h : 0 ≤ d ∧ d < 10) : Ct Tryd.prog 37 [.int .i64 d] [] (fun _ => True) (fun v A => v = .int .u8 (48 + d) ∧ A = []) := by
  refine Ct.intro0 G_ok Tryd.func37 rfl rfl rfl fun E H hp => ?_
  refine VCsplit.intro (fun q0 => ?_) (fun q0 => ?_)
  ·
    simp at q0
    exact ⟨[], ⟨by rw [wrap_of (x := 48 + d) (by omega) (by omega), u8_wrap, Int.emod_eq_of_lt (by omega) (by omega)], rfl⟩, (.le fun a => by (try simp only [setR, List.cons_append, List.nil_append]); simp only [List.flatten_append, List.flatten_cons, List.flatten_nil, List.count_append, List.count_nil, List.append_nil, List.nil_append]; omega)⟩
  ·
    simp at q0
    exfalso; omega
theorem dec_mod (m : Nat) : Int.tmod (m : Int) 10 = ((m % 10 : Nat) : Int) := by rw [Int.tmod_eq_emod_of_nonneg (by omega)]; rfl
theorem dec_div (m : Nat) : Int.tdiv (m : Int) 10 = ((m / 10 : Nat) : Int) := by rw [Int.tdiv_eq_ediv_of_nonneg (by omega)]; rfl
theorem dec_cons (m : Nat) (s : List UInt8) : (⟨(([48 + Int.tmod (m : Int) 10] : List Int).map fun v => UInt8.ofNat v.toNat).toArray⟩ : ByteArray) ++ tx s = tx (UInt8.ofNat (48 + m % 10) :: s) := by
  rw [dec_mod]
  have e : (48 + ((m % 10 : Nat) : Int)).toNat = 48 + m % 10 := by omega
  have e2 : (⟨(([48 + ((m % 10 : Nat) : Int)] : List Int).map fun v => UInt8.ofNat v.toNat).toArray⟩ : ByteArray) = tx [UInt8.ofNat (48 + m % 10)] := by
    unfold tx
    rw [List.map_cons, e]; rfl
  rw [e2, ← tx_app]; rfl
--@ct spec.Decimal val specDecimal_ct _ ?_ | trivial
theorem specDecimal_ct (n : Int) (h : 0 ≤ n ∧ n ≤ 9223372036854775807) : Ct Tryd.prog 17 [.int .i64 n] [] (fun _ => True) (fun v A => v = .string (tx (dcT n)) ∧ A = []) := by
  refine Ct.intro0 G_ok Tryd.func17 rfl rfl rfl fun E H hp => ?_
  have h19 := dec_i64 h
  refine VCsplit.intro (fun q0 => ?_) (fun q0 => ?_)
  ·
    simp at q0
    (rw [‹n = 0›]; exact ⟨[], ⟨by unfold dcT; rw [show Int.toNat 0 = 0 from rfl, dec_zero]; rfl, rfl⟩, (.le fun a => by (try simp only [setR, List.cons_append, List.nil_append]); simp only [List.flatten_append, List.flatten_cons, List.flatten_nil, List.count_append, List.count_nil, List.append_nil, List.nil_append]; omega)⟩)
  ·
    simp at q0
    apply loop_mod (α := (Nat) × (List UInt8)) G_ok [10, 11, 12, 13, 5, 14, 15, 16, 17, 18, 19, 20, 21, 22, 23, 4, 24, 25, 0] (fun z => [(4, .v (.string (tx z.2))), (0, .v (.int .i64 z.1))]) (fun z => []) (fun z => [H]) (fun z => z.1) (fun z => decI n.toNat z.1 z.2 ∧ (z.1 : Int) ≤ n) ((n.toNat, []))
    · repeat' (first | exact trivial | refine ⟨⟨_, rfl, by first | rfl | exact inc_eq _ (by omega) | (refine sl_eq ?_; simp; done) | exact congrArg (fun v => SV.v (Value.int .i64 v)) (Int.toNat_of_nonneg h.1).symm | exact congrArg (fun v => Value.int .i64 v) (Int.toNat_of_nonneg h.1).symm | exact congrArg (fun v => SV.v (Value.int .i64 v)) hwd | exact congrArg (fun v => SV.v (Value.string v)) (dec_cons m s) | exact congrArg (fun v => Value.int .i64 v) hwd | exact congrArg (fun v => Value.string v) (dec_cons m s), by first | exact trivial | simp [SV.ok]⟩, ?_⟩)
    · exact trivial
    · try dsimp only
      exact ⟨decI_init (by omega), by omega⟩
    · exact .refl _
    rintro ⟨m, s⟩ hI
    obtain ⟨hI, hm⟩ : decI n.toNat m s ∧ (m : Int) ≤ n := hI
    try dsimp only
    refine VCsplit.intro (fun q1 => ?_) (fun q1 => ?_)
    ·
      simp at q1
      have htm := dec_mod m
      have htd := dec_div m
      have hwd : IntKind.i64.wrap (Int.tdiv (m : Int) 10) = ((m / 10 : Nat) : Int) := (by rw [htd, wrap_of (by omega) (by omega)])
      have hsl := decI_le hI
      have h7 : IntKind.i64.max = 9223372036854775807 := rfl
      refine VC.intro ?_ ?_
      · trivial
      refine VCsplit.intro (fun q2 => ?_) (fun q2 => ?_)
      ·
        simp at q2
        exact absurd (htm ▸ q2 : ((m % 10 : Nat) : Int) < 0) (by omega)
      ·
        simp at q2
        refine call_val (l01Figure_ct _ ?_) trivial ?_
        · omega
        rintro _ rfl
        refine VCnew.intro fun x4 => ?_
        refine conv_bs G_ok (([(48 : Int) + (↑m : Int).tmod (10 : Int)] : List Int).map fun v => UInt8.ofNat v.toNat) rfl (lit_bs [(48 : Int) + (↑m : Int).tmod (10 : Int)] (mem_at 0 rfl _ (List.mem_singleton.2 rfl)) rfl ?_ (by simp)) rfl rfl rfl ?_
        · (simp only [inU8, u8_wrap, and_true]; omega)
        refine VC.intro ?_ ?_
        · (simp only [ByteArray.size_append, tx, bsz, List.length_map, List.length_cons, List.length_nil]; omega)
        refine VC.intro ?_ ?_
        · trivial
        apply loop_stepA (m / 10, UInt8.ofNat (48 + m % 10) :: s)
        · exact .sub (by repeat (first | exact .slnil | apply List.Sublist.cons_cons | apply List.Sublist.cons))
        · repeat' (first | exact trivial | refine ⟨⟨_, rfl, by first | rfl | exact inc_eq _ (by omega) | (refine sl_eq ?_; simp; done) | exact congrArg (fun v => SV.v (Value.int .i64 v)) (Int.toNat_of_nonneg h.1).symm | exact congrArg (fun v => Value.int .i64 v) (Int.toNat_of_nonneg h.1).symm | exact congrArg (fun v => SV.v (Value.int .i64 v)) hwd | exact congrArg (fun v => SV.v (Value.string v)) (dec_cons m s) | exact congrArg (fun v => Value.int .i64 v) hwd | exact congrArg (fun v => Value.string v) (dec_cons m s), by first | exact trivial | simp [SV.ok]⟩, ?_⟩)
        · exact trivial
        · try dsimp only
          exact ⟨decI_step hI (by omega), by omega⟩
        try dsimp only
        omega
    ·
      simp at q1
      refine VCsplit.intro (fun q5 => ?_) (fun q5 => ?_)
      ·
        simp at q5
        exfalso; omega
      ·
        simp at q5
        (have hm0 : m = 0 := (by omega); subst hm0; rw [decI_end hI]; exact ⟨[], ⟨rfl, rfl⟩, (.le fun a => by (try simp only [setR, List.cons_append, List.nil_append]); simp only [List.flatten_append, List.flatten_cons, List.flatten_nil, List.count_append, List.count_nil, List.append_nil, List.nil_append]; omega)⟩)
end Go.Proofs.YtcnclhjhnjpeiaaDoor

namespace Go.Proofs.YtcnclhjhnjpeiaaDoor
open Go.Proofs Go.Shelf
def laysItoa_ren : Go.Shelf.Ren := ⟨fun | 171 => 46 | 243 => 63 | 246 => 74 | 283 => 83 | 284 => 84 | 285 => 85 | 286 => 86 | 129 => 94 | 317 => 93 | 318 => 95 | 319 => 96 | 320 => 97 | 337 => 104 | 338 => 105 | n => n, fun | 3 => 3 | 9 => 9 | 2 => 2 | 4 => 4 | 171 => 111 | 0 => 0 | 53 => 112 | 37 => 37 | 5 => 5 | 173 => 115 | 212 => 124 | 51 => 125 | 20 => 20 | 213 => 126 | 46 => 108 | 232 => 136 | 233 => 137 | n => n, fun | 17 => 0 | 18 => 4 | 19 => 5 | n => n⟩
theorem laysItoa : Go.Proofs.LaysM.n171 Tryd.prog laysItoa_ren where
  mixed := by kernel_rfl
  f129 := Tryd.func94.trans (congrArg some (by kernel_rfl))
  f171 := Tryd.func46.trans (congrArg some (by kernel_rfl))
  f243 := Tryd.func63.trans (congrArg some (by kernel_rfl))
  f246 := Tryd.func74.trans (congrArg some (by kernel_rfl))
  f283 := Tryd.func83.trans (congrArg some (by kernel_rfl))
  f284 := Tryd.func84.trans (congrArg some (by kernel_rfl))
  f285 := Tryd.func85.trans (congrArg some (by kernel_rfl))
  f286 := Tryd.func86.trans (congrArg some (by kernel_rfl))
  f317 := Tryd.func93.trans (congrArg some (by kernel_rfl))
  f318 := Tryd.func95.trans (congrArg some (by kernel_rfl))
  f319 := Tryd.func96.trans (congrArg some (by kernel_rfl))
  f320 := Tryd.func97.trans (congrArg some (by kernel_rfl))
  f337 := Tryd.func104.trans (congrArg some (by kernel_rfl))
  f338 := Tryd.func105.trans (congrArg some (by kernel_rfl))
  t0 := Tryd.underlying0
  a0 := Tryd.isAgg0
  z0 := Tryd.sizeOf0
  v0 := Tryd.zeroValue0
  t2 := Tryd.underlying2
  a2 := Tryd.isAgg2
  z2 := Tryd.sizeOf2
  v2 := Tryd.zeroValue2
  t3 := Tryd.underlying3
  a3 := Tryd.isAgg3
  z3 := Tryd.sizeOf3
  v3 := Tryd.zeroValue3
  t4 := Tryd.underlying4
  a4 := Tryd.isAgg4
  z4 := Tryd.sizeOf4
  v4 := Tryd.zeroValue4
  t5 := Tryd.underlying5
  a5 := Tryd.isAgg5
  z5 := Tryd.sizeOf5
  v5 := Tryd.zeroValue5
  t9 := Tryd.underlying9
  a9 := Tryd.isAgg9
  z9 := Tryd.sizeOf9
  v9 := Tryd.zeroValue9
  t20 := Tryd.underlying20
  a20 := Tryd.isAgg20
  z20 := Tryd.sizeOf20
  v20 := Tryd.zeroValue20
  t37 := Tryd.underlying37
  a37 := Tryd.isAgg37
  z37 := Tryd.sizeOf37
  v37 := Tryd.zeroValue37
  t46 := Tryd.underlying108
  a46 := Tryd.isAgg108
  z46 := Tryd.sizeOf108
  v46 := Tryd.zeroValue108
  t51 := Tryd.underlying125
  a51 := Tryd.isAgg125
  z51 := Tryd.sizeOf125
  v51 := Tryd.zeroValue125
  t53 := Tryd.underlying112
  a53 := Tryd.isAgg112
  z53 := Tryd.sizeOf112
  v53 := Tryd.zeroValue112
  t171 := Tryd.underlying111
  a171 := Tryd.isAgg111
  z171 := Tryd.sizeOf111
  v171 := Tryd.zeroValue111
  t173 := Tryd.underlying115
  a173 := Tryd.isAgg115
  z173 := Tryd.sizeOf115
  v173 := Tryd.zeroValue115
  t212 := Tryd.underlying124
  a212 := Tryd.isAgg124
  z212 := Tryd.sizeOf124
  v212 := Tryd.zeroValue124
  t213 := Tryd.underlying126
  a213 := Tryd.isAgg126
  z213 := Tryd.sizeOf126
  t232 := Tryd.underlying136
  a232 := Tryd.isAgg136
  z232 := Tryd.sizeOf136
  v232 := Tryd.zeroValue136
  t233 := Tryd.underlying137
  a233 := Tryd.isAgg137
  z233 := Tryd.sizeOf137
  v233 := Tryd.zeroValue137
  g17 := by kernel_rfl
  g18 := by kernel_rfl
  g19 := by kernel_rfl
  i0 := by kernel_rfl
  i2 := by kernel_rfl
  i3 := by kernel_rfl
  i4 := by kernel_rfl
  i5 := by kernel_rfl
  i9 := by kernel_rfl
  i20 := by kernel_rfl
  i37 := by kernel_rfl
  i46 := by kernel_rfl
  i51 := by kernel_rfl
  i53 := by kernel_rfl
  i171 := by kernel_rfl
  i173 := by kernel_rfl
  i212 := by kernel_rfl
  i232 := by kernel_rfl
  i233 := by kernel_rfl
  m17 := by kernel_rfl
  m18 := by kernel_rfl
  m19 := by kernel_rfl
end Go.Proofs.YtcnclhjhnjpeiaaDoor

namespace Go.Proofs.YtcnclhjhnjpeiaaDoor
open Go.SX Go.Proofs
set_option linter.unusedSimpArgs false
set_option linter.unusedVariables false
set_option maxHeartbeats 4000000
attribute [local irreducible] IntKind.wrap
/-- the library's table of the powers of ten lies in the memory -/
def tabA : Array Value := (Lib.pow10Tab.map fun z => Value.int .u64 z).toArray
def TabIn (H : Hp) : Prop := ∃ g t fz, Tryd.prog.globalNamed "internal/strconv.uint64pow10" = some g ∧ (g, Obj.cells tabA t fz) ∈ H
theorem TabIn.mono {H H' : Hp} (h : TabIn H) (hs : ∀ p ∈ H, p ∈ H') : TabIn H' := by
  obtain ⟨g, t, fz, h1, h2⟩ := h
  exact ⟨g, t, fz, h1, hs _ h2⟩
theorem tab_is {E : World} {H : Hp} {w : World} (hs : Sat E H w) (h : TabIn H) : Lib.TabIs Tryd.prog w "internal/strconv.uint64pow10" .u64 Lib.pow10Tab := by
  obtain ⟨g, t, fz, h1, h2⟩ := h
  unfold Lib.TabIs World.var?
  rw [h1, Option.bind_some, hs.mem _ _ h2]
  rfl
theorem sat_grow9 {E : World} {H : Hp} {w : World} (h : Sat E H w) (k : Nat) (os : Array Obj) : Sat E H (Sort.grow (w.drewN k) os) :=
  ⟨h.os, h.out, h.tape, fun b o hm => by
    have h1 := h.mem b o hm
    have h2 : b < w.heap.size := by
      by_cases h3 : b < w.heap.size
      · exact h3
      rw [Array.getElem?_eq_none (by omega)] at h1; cases h1
    show (w.heap ++ os)[b]? = some o
    rw [Array.getElem?_append_left h2]; exact h1, h.nodup, Nat.le_trans h.dr (Nat.le_add_right _ _)⟩
theorem itoaAll_ct (n : Int) (h : 0 ≤ n ∧ n ≤ 9223372036854775807) : Ct Tryd.prog 46 [.int .i64 n] [] TabIn (fun v A => v = .string (tx (dcT n)) ∧ A = []) := by
  refine ⟨⟨_, Tryd.func46, of_decide_eq_false (by kernel_rfl), rfl⟩, fun E H w hs hp => ?_⟩
  have hc := Any.strconv_Itoa laysItoa n (by omega) h.2 w (tab_is hs hp)
  refine hc.mono ?_
  rintro e w' ⟨rfl, k, os, rfl⟩
  refine ⟨_, [], rfl, ⟨?_, rfl⟩, sat_grow9 hs k os⟩
  unfold Lib.itoa
  rw [if_neg (by omega)]; rfl
theorem decimalAll_ct (n : Int) (h : 0 ≤ n ∧ n ≤ 9223372036854775807) : Ct Tryd.prog 25 [.int .i64 n] [] TabIn (fun v A => v = .string (tx (dcT n)) ∧ A = []) := by
  refine Ct.intro0 G_ok Tryd.func25 rfl rfl rfl fun E H hp => ?_
  refine call_val (itoaAll_ct _ h) (TabIn.mono hp (mem_at 0 rfl)) ?_
  rintro _ rfl
  exact ⟨[], ⟨rfl, rfl⟩, (.le fun a => by (try simp only [setR, List.cons_append, List.nil_append]); simp only [List.flatten_append, List.flatten_cons, List.flatten_nil, List.count_append, List.count_nil, List.append_nil, List.nil_append]; omega)⟩
end Go.Proofs.YtcnclhjhnjpeiaaDoor

namespace Go.Proofs.YtcnclhjhnjpeiaaDoor
open Go.SX Go.Proofs
set_option maxHeartbeats 1000000
/-- a text parted at each byte c -/
def splitB (c : UInt8) : List UInt8 → List (List UInt8)
  | [] => [[]]
  | x :: r => if x = c then [] :: splitB c r else match splitB c r with
    | [] => [[x]]
    | p :: ps => (x :: p) :: ps
theorem splitB_ne (c : UInt8) : ∀ l : List UInt8, splitB c l ≠ []
  | [] => by simp [splitB]
  | x :: r => by
    unfold splitB
    split
    · simp
    cases splitB c r <;> simp
theorem splitB_hit {c : UInt8} (r : List UInt8) : splitB c (c :: r) = [] :: splitB c r := by
  conv => lhs; unfold splitB
  rw [if_pos rfl]
theorem splitB_miss {c x : UInt8} (h : ¬ x = c) {r p : List UInt8} {ps : List (List UInt8)} (e : splitB c r = p :: ps) : splitB c (x :: r) = (x :: p) :: ps := by
  conv => lhs; unfold splitB
  rw [if_neg h, e]
theorem splitB_free {c : UInt8} : ∀ {p : List UInt8}, (∀ x ∈ p, ¬ x = c) → splitB c p = [p]
  | [], _ => rfl
  | x :: _, h => splitB_miss (h x List.mem_cons_self) (splitB_free fun y hy => h y (List.mem_cons_of_mem _ hy))
theorem splitB_cut {c : UInt8} (r : List UInt8) : ∀ {p : List UInt8}, (∀ x ∈ p, ¬ x = c) → splitB c (p ++ c :: r) = p :: splitB c r
  | [], _ => splitB_hit r
  | x :: _, h => splitB_miss (h x List.mem_cons_self) (splitB_cut r fun y hy => h y (List.mem_cons_of_mem _ hy))
theorem splitB_len (c : UInt8) : ∀ l : List UInt8, (splitB c l).length = l.count c + 1
  | [] => rfl
  | x :: r => by
    have ih := splitB_len c r
    by_cases h : x = c
    · subst h
      rw [splitB_hit, List.length_cons, ih, List.count_cons_self]
    obtain ⟨p, ps, e⟩ := List.exists_cons_of_ne_nil (splitB_ne c r)
    rw [splitB_miss h e, List.count_cons_of_ne (by simpa using h), ← ih, e]; rfl
theorem splitB_snoc {c : UInt8} : ∀ u : List UInt8, splitB c (u ++ [c]) = splitB c u ++ [[]]
  | [] => by show splitB c [c] = _; rw [splitB_hit]; rfl
  | x :: r => by
    have ih := splitB_snoc (c := c) r
    by_cases h : x = c
    · subst h
      show splitB x (x :: (r ++ [x])) = _
      rw [splitB_hit, splitB_hit, ih]; rfl
    obtain ⟨p, ps, e⟩ := List.exists_cons_of_ne_nil (splitB_ne c r)
    rw [e] at ih
    show splitB c (x :: (r ++ [c])) = _
    rw [splitB_miss h (p := p) (ps := ps ++ [[]]) ih, splitB_miss h e]; rfl
/-- where the first c stands -/
theorem idx_hit {c : UInt8} : ∀ {l : List UInt8}, ¬ Lib.indexByte l c = -1 → ∃ p r, l = p ++ c :: r ∧ (∀ x ∈ p, ¬ x = c) ∧ Lib.indexByte l c = p.length
  | [], h => absurd rfl h
  | x :: l, h => by
    unfold Lib.indexByte at h ⊢
    by_cases hx : x = c
    · subst hx
      refine ⟨[], l, rfl, (fun y hy => nomatch hy), ?_⟩
      rw [if_pos (by simp)]; rfl
    rw [if_neg (by simpa using hx)] at h ⊢
    by_cases h2 : Lib.indexByte l c = -1
    · rw [if_pos (by simpa using h2)] at h
      exact absurd rfl h
    rw [if_neg (by simpa using h2)]
    obtain ⟨p, r, e1, e2, e3⟩ := idx_hit h2
    refine ⟨x :: p, r, by rw [e1]; rfl, fun y hy => ?_, by rw [e3]; rfl⟩
    rcases List.mem_cons.1 hy with rfl | hy
    · exact hx
    exact e2 y hy
theorem idx_none {c : UInt8} : ∀ {l : List UInt8}, Lib.indexByte l c = -1 → ∀ x ∈ l, ¬ x = c
  | [], _, _, hx => nomatch hx
  | y :: l, h, x, hx => by
    unfold Lib.indexByte at h
    by_cases hy : y = c
    · rw [if_pos (by simpa using hy)] at h; cases h
    rw [if_neg (by simpa using hy)] at h
    by_cases h2 : Lib.indexByte l c = -1
    · rcases List.mem_cons.1 hx with rfl | hx
      · exact hy
      exact idx_none h2 x hx
    rw [if_neg (by simpa using h2)] at h
    obtain ⟨p, r, e1, e2, e3⟩ := idx_hit h2
    omega
/-- the lines of a text -/
def linesB (t : List UInt8) : List (List UInt8) := if (splitB 10 t).getLast? = some [] then (splitB 10 t).dropLast else splitB 10 t
theorem linesB_end (u : List UInt8) : linesB (u ++ [10]) = splitB 10 u := by
  unfold linesB
  rw [splitB_snoc, if_pos (by simp), List.dropLast_concat]
theorem splitB_last {c x : UInt8} (h : ¬ x = c) : ∀ u : List UInt8, ∃ p, (splitB c (u ++ [x])).getLast? = some (p ++ [x])
  | [] => ⟨[], by show (splitB c [x]).getLast? = _; rw [splitB_free (fun y hy => by rw [List.mem_singleton.1 hy]; exact h)]; rfl⟩
  | y :: r => by
    obtain ⟨p, e⟩ := splitB_last h r
    by_cases hy : y = c
    · subst hy
      refine ⟨p, ?_⟩
      show (splitB y (y :: (r ++ [x]))).getLast? = _
      rw [splitB_hit, List.getLast?_cons, e]; rfl
    obtain ⟨q, qs, e2⟩ := List.exists_cons_of_ne_nil (splitB_ne c (r ++ [x]))
    rw [e2] at e
    show ∃ p, (splitB c (y :: (r ++ [x]))).getLast? = _
    rw [splitB_miss hy e2]
    cases qs with
    | nil => exact ⟨y :: p, by rw [show q = p ++ [x] by simpa using e]; rfl⟩
    | cons a aa => exact ⟨p, by rw [List.getLast?_cons_cons] at e ⊢; exact e⟩
theorem linesB_open {u : List UInt8} {x : UInt8} (h : ¬ x = 10) : linesB (u ++ [x]) = splitB 10 (u ++ [x]) := by
  obtain ⟨p, e⟩ := splitB_last h u
  unfold linesB
  rw [if_neg]
  rw [e]; simp
end Go.Proofs.YtcnclhjhnjpeiaaDoor

namespace Go.SX
section
variable {P : Program} {E : World} {Γ : Ty} {n : Nat}
theorem run_firstS (w : World) (str : ByteArray) : (Builtin.firstCells flByte.size str.data.toList.length (.string str)).run P w = .ok ⟨str.data.toList.flatMap flByte.enc⟩ w := by
  have e1 : str.data.toList.length = str.size := by simp
  rw [e1]
  have e2 : str.extract 0 str.size = str := by simp
  simp only [Builtin.firstCells, e2, Sem.run_pure]
  congr 1
  apply Array.ext'
  simp only [Array.toList_map]
  induction str.data.toList with
  | nil => rfl
  | cons x r ih => simp only [List.map_cons, List.flatMap_cons, ih]; rfl
/-- the run of append of a text onto an owned slice of bytes -/
theorem run_appendS (hΓ : TyOk P Γ) {sT xT e ty : TypeId} {ti : TI} (hsT : P.underlying sT = some (.slice e)) (hxT : P.underlying xT = some .string) (ht : tyOf Γ e = some ti) (hsz : ti.size = flByte.size)
    (hz : ti.zero.cells.toList.length = flByte.size)
    {A B : Hp} {w : World} {base : Option Addr} {m cap : Nat} {xs : List UInt8} {str : ByteArray} (hs : Sat E (A ++ B) w) (ho : Ow flByte e (.slice base m cap) xs A) 
    (hlen : xs.length + str.data.toList.length ≤ 9223372036854775807) (hbd : (xs.length + str.data.toList.length) * ti.bytes ≤ 140737488355328) :
    ∃ base' cap' A' w', (Builtin.append_ #[sT, xT] ty #[.slice base m cap, .string str]).run P w = .ok (.slice base' (xs.length + str.data.toList.length) cap') w' ∧ (Ow flByte e (.slice base' (xs.length + str.data.toList.length) cap') (xs ++ str.data.toList) A' ∧ (xs.length + str.data.toList.length ≤ cap → base' = base ∧ cap' = cap)) ∧ Sat E (A' ++ B) w' := by
  have hrowS := fun w => run_firstS (P := P) w str
  have hsz2 : str.size = str.data.toList.length := by simp
  have hwf0 : ∀ x, flByte.wf x := fun _ => trivial
  generalize hf : flByte = f at *
  generalize hys : str.data.toList = ys at *
  obtain ⟨hw, hl, base0, cap0, e0, h2⟩ := ho
  cases e0
  have hrow := hrowS w
  have hwf : ∀ x ∈ xs ++ ys, f.wf x := fun x _ => hwf0 x
  have hlen' : (xs ++ ys).length ≤ 9223372036854775807 := by rw [List.length_append]; exact hlen
  unfold Builtin.append_
  simp only [List.getElem?_toArray, List.getElem?_cons_zero, List.getElem?_cons_succ, Sem.run_bind, run_underlying hsT, run_underlying hxT, Result.andThen_ok, ty_size hΓ ht, hsz, Sem.run_pure, Builtin.lenOf, Bool.false_eq_true, if_false, Bool.not_false, if_true]
  rw [hsz2]
  by_cases hfit : xs.length + ys.length ≤ cap
  · rw [if_pos hfit]
    simp only [Sem.run_bind, hrow, Result.andThen_ok]
    rcases h2 with ⟨rfl, rfl, rfl⟩ | ⟨b, sp, rfl, rfl, h3, h4⟩
    · have hys : ys = [] := by cases ys with
        | nil => rfl
        | cons _ _ => simp at hfit
      subst hys
      refine ⟨base, 0, [], w, ?_, ⟨Ow.nil e base, fun _ => ⟨rfl, rfl⟩⟩, hs⟩
      cases base with
      | none => rfl
      | some a => rfl
    have hsl : ys.length * f.size ≤ sp.length := by
      exact Nat.le_trans (Nat.mul_le_mul_right _ (by omega)) h4
    have hfl := flat_length f xs
    have hfly := flat_length f ys
    obtain ⟨w', h5, h6⟩ := run_storeCells_wr (P := P) (A := []) (o := xs.length * f.size) (l := ys.flatMap f.enc) hs (by
      show xs.length * f.size + (ys.flatMap f.enc).length ≤ (xs.flatMap f.enc ++ sp).length
      rw [List.length_append]; omega) (by
        have : ∀ l : List UInt8, allOne (l.flatMap f.enc) = true := by
          intro l
          induction l with
          | nil => rfl
          | cons x r ih =>
            rw [List.flatMap_cons]
            have h1 := f.one x
            revert h1
            generalize f.enc x = c
            intro h1
            induction c with
            | nil => exact ih
            | cons v c ihc => cases v <;> simp_all [allOne]
        exact this ys)
    refine ⟨some ⟨b, 0, none⟩, cap, [(b, Obj.cells ⟨setAt (xs.flatMap f.enc ++ sp) (xs.length * f.size) (ys.flatMap f.enc)⟩ e)], w', ?_, ?_, h6⟩
    · simp only [addr_add, Nat.zero_add, h5, Sem.run_bind, Result.andThen_ok, Sem.run_pure]
    refine ⟨?_, fun _ => ⟨rfl, rfl⟩⟩
    refine ⟨hwf, hlen', some ⟨b, 0, none⟩, cap, by rw [List.length_append], .inr ⟨b, sp.drop (ys.length * f.size), rfl, ?_, by rw [List.length_append]; exact hfit, ?_⟩⟩
    · show [(b, Obj.cells ⟨setAt (xs.flatMap f.enc ++ sp) (xs.length * f.size) (ys.flatMap f.enc)⟩ e)] = _
      have key : setAt (xs.flatMap f.enc ++ sp) (xs.length * f.size) (ys.flatMap f.enc) = xs.flatMap f.enc ++ ys.flatMap f.enc ++ sp.drop (ys.length * f.size) := by
        rw [setAt_eq _ _ _ (by rw [List.length_append]; omega), ← hfl, List.take_left, hfl, hfly, List.drop_append, List.drop_eq_nil_of_le (by omega), List.nil_append, hfl]
        rw [show xs.length * f.size + ys.length * f.size - xs.length * f.size = ys.length * f.size by omega]
      rw [key, List.flatMap_append]
    rw [List.length_drop, List.length_append]
    have e9 : (cap - (xs.length + ys.length)) * f.size = (cap - xs.length) * f.size - ys.length * f.size := by rw [← Nat.sub_mul]; congr 1; omega
    omega
  rw [if_neg hfit]
  obtain ⟨i, hi, hib, _, _⟩ := ty_bytes hΓ ht
  have hcap : Builtin.nextslicecap (xs.length + ys.length) cap * ti.bytes ≤ 281474976710656 := by
    have h7 := nextcap_le (xs.length + ys.length) cap (by omega)
    have h8 := Nat.mul_le_mul_right ti.bytes h7
    rw [Nat.mul_assoc] at h8
    omega
  have hold : (Builtin.firstCells f.size xs.length (.slice base xs.length cap)).run P w = .ok ⟨xs.flatMap f.enc⟩ w := by
    have h9 : (rpSl f.rp).rd A [.slice base xs.length cap] xs := Ow.rd ⟨hw, hl, base, cap, rfl, h2⟩
    exact (rd_row (f := f) h9 (P := P) hs.drop).2
  have hdrew : ∀ {H : Hp}, Sat E H w → Sat E H { w with drawn := w.drawn + 1 } := fun h => ⟨h.os, h.out, h.tape, h.mem, h.nodup, Nat.le_trans h.dr (Nat.le_succ _)⟩
  have hold' : (Builtin.firstCells f.size xs.length (.slice base xs.length cap)).run P { w with drawn := w.drawn + 1 } = .ok ⟨xs.flatMap f.enc⟩ { w with drawn := w.drawn + 1 } := by
    have h9 : (rpSl f.rp).rd A [.slice base xs.length cap] xs := Ow.rd ⟨hw, hl, base, cap, rfl, h2⟩
    exact (rd_row (f := f) h9 (P := P) (hdrew hs).drop).2
  have hrow' := hrowS { w with drawn := w.drawn + 1 }
  have hmax : IntKind.i64.max = 9223372036854775807 := rfl
  simp only [Sem.run_bind, typeInfo, run_program, Result.andThen_ok, hi, Sem.run_pure]
  rw [if_neg (by
    rw [hmax]
    rintro ⟨h10, _⟩
    omega)]
  have hif : ¬ (Builtin.nextslicecap (xs.length + ys.length) cap * ti.bytes > 2 ^ 48) := by omega
  simp only [Sem.run_bind, run_program, Result.andThen_ok, hi, Sem.run_pure, hib]
  rw [if_neg hif]
  simp only [Sem.run_bind, run_choose, Question.forced, Bool.false_eq_true, if_false, Result.andThen_ok, run_askRoom, hold', hrow', ty_zero hΓ ht, Sem.run_pure, newRow, run_newObj, run_program, hi]
  have hq : xs.length + ys.length ≤ (Question.appendCap (xs.length + ys.length) cap e).cut (w.tape w.drawn (.appendCap (xs.length + ys.length) cap e)) := by
    simp only [Question.cut]; omega
  generalize (Question.appendCap (xs.length + ys.length) cap e).cut (w.tape w.drawn (.appendCap (xs.length + ys.length) cap e)) = c at hq
  rw [zeroCells_eq]
  refine ⟨some ⟨w.heap.size, 0, none⟩, c, [(w.heap.size, Obj.cells ⟨(xs ++ ys).flatMap f.enc ++ zeros (c - (xs.length + ys.length)) ti.zero.cells.toList⟩ e)], _, rfl, ?_, ?_⟩
  · refine ⟨?_, fun h => absurd h hfit⟩
    refine ⟨hwf, hlen', some ⟨w.heap.size, 0, none⟩, c, by rw [List.length_append], .inr ⟨w.heap.size, _, rfl, rfl, by rw [List.length_append]; exact hq, ?_⟩⟩
    rw [zeros_length, hz, List.length_append]
    exact Nat.le_refl _
  have h11 := (hdrew hs).push (Obj.cells ⟨(xs ++ ys).flatMap f.enc ++ zeros (c - (xs.length + ys.length)) ti.zero.cells.toList⟩ e)
  have h12 : Sat E ((w.heap.size, Obj.cells ⟨(xs ++ ys).flatMap f.enc ++ zeros (c - (xs.length + ys.length)) ti.zero.cells.toList⟩ e) :: B ++ A) (World.alloc { w with drawn := w.drawn + 1 } (Obj.cells ⟨(xs ++ ys).flatMap f.enc ++ zeros (c - (xs.length + ys.length)) ti.zero.cells.toList⟩ e)) := by
    refine h11.perm ?_
    simp only [List.cons_append]
    exact List.Perm.cons _ List.perm_append_comm
  have h13 := h12.drop
  have e1 : ((⟨xs.flatMap f.enc⟩ : Array Value) ++ (⟨ys.flatMap f.enc⟩ : Array Value) ++ (⟨zeros (c - (xs.length + ys.length)) ti.zero.cells.toList⟩ : Array Value)) = ⟨(xs ++ ys).flatMap f.enc ++ zeros (c - (xs.length + ys.length)) ti.zero.cells.toList⟩ := by
    apply Array.ext'
    simp
  rw [e1]
  exact h13
theorem perm0 {α : Type} {x : α} : List.Perm [x] (x :: List.flatten []) := .refl _
theorem perm1 {α : Type} {x : α} {B : List α} : List.Perm (x :: B) (x :: List.flatten [B]) := by simp
def Bz (base : Option Addr) (cap : Nat) : Prop := (base = none ∧ cap = 0) ∨ cap ≠ 0
theorem ow_room {α : Type} {f : Fl α} {T : TypeId} {base : Option Addr} {k cap : Nat} {xs : List α} {A : Hp} (h : Ow f T (.slice base k cap) xs A) (hne : 0 < xs.length) : cap ≠ 0 := by
  obtain ⟨_, _, b0, c0, e, h5⟩ := h
  simp only [Value.slice.injEq] at e
  obtain ⟨_, _, e3⟩ := e
  rcases h5 with ⟨_, h7, _⟩ | ⟨_, _, _, _, h8, _⟩
  · rw [h7] at hne; simp at hne
  omega
/-- append of a text -/
theorem append_str (hΓ : TyOk P Γ) {dst : Option Nat} {s x : Operand} {sT xT T ty : TypeId} {pos : String} {after : Array Edge} {guard : Option (Nat × Bool)} {fr : Fr} {bl : List Blk} {R : List Hp} {K : St → Prop} {ti : TI}
    (i : Nat) {A : Hp} {base : Option Addr} {m cap : Nat} {xs : List UInt8} {str : ByteArray} (hi : nthR R i = some A) (ho : (gSl T gY).ow [.slice base m cap] xs A) (hz0 : Bz base cap)
    (hs1 : getK fr s fun sv => sv = .v (.slice base m cap)) (hx1 : getK fr x fun sv => sv = .v (.string str))
    (hsT : undOf Γ sT = some (.slice T)) (hxT : undOf Γ xT = some .string) (ht : tyOf Γ T = some ti) (hsz : ti.size = flByte.size) (hz : lenIs ti.zero.cells.toList flByte.size = true)
    (hby : Nat.ble ti.bytes 65536 = true) (hlen : xs.length + str.data.toList.length ≤ 1073741824)
    (hk : ∀ base' cap' A', (gSl T gY).ow [.slice base' (xs ++ str.data.toList).length cap'] (xs ++ str.data.toList) A' → Bz base' cap' → putK n fr dst (.v (.slice base' (xs ++ str.data.toList).length cap')) fun fr => K ⟨fr, bl, setR R i A'⟩) :
    VCraw P E n ⟨dst, .call ⟨.builtin .append, #[s, x], #[sT, xT]⟩, ty, pos, after, guard⟩ ⟨fr, bl, R⟩ K := by
  have ho' := fl_ow ho
  have hm : m = xs.length := (by obtain ⟨_, _, _, _, e, _⟩ := ho'; cases e; rfl)
  subst hm
  have hbd : (xs.length + str.data.toList.length) * ti.bytes ≤ 140737488355328 := by
    have h1 := Nat.le_of_ble_eq_true hby
    have h2 := Nat.mul_le_mul hlen h1
    omega
  refine ⟨fun a w hr Q => ?_⟩
  obtain ⟨sv, g1, _, rfl⟩ := getK_sound hr hs1
  obtain ⟨xv, g2, _, rfl⟩ := getK_sound hr hx1
  obtain ⟨pre, post, e1, e2'⟩ := nthR_split hi
  have perm : ∀ C : Hp, (St.hall ⟨[], bl, pre ++ C :: post⟩).Perm (C ++ St.hall ⟨[], bl, pre ++ post⟩) := by
    intro C
    simp only [St.hall, List.flatten_append, List.flatten_cons]
    have := List.perm_append_comm (l₁ := List.map Blk.ent bl ++ pre.flatten) (l₂ := C)
    have := this.append_right post.flatten
    simpa only [List.append_assoc] using this
  subst e1
  have hsat : Sat E (A ++ St.hall ⟨[], bl, pre ++ post⟩) w := hr.sat.perm (perm A)
  obtain ⟨base', cap', A', w', h1, h2, h3⟩ := run_appendS (ty := ty) hΓ (undOf_ok hΓ hsT) (undOf_ok hΓ hxT) ht hsz (lenIs_spec hz) hsat ho' (by omega) hbd
  have hr' : Rel E n ⟨fr, bl, setR (pre ++ A :: post) i A'⟩ a w' := by
    rw [e2']
    exact hr.ids rfl (h3.perm (perm A').symm)
  have hBz : Bz base' cap' := by
    by_cases hf : xs.length + str.data.toList.length ≤ cap
    · obtain ⟨rfl, rfl⟩ := h2.2 hf; exact hz0
    exact .inr (ow_room h2.1 (by rw [List.length_append]; omega))
  have e3 : (xs ++ str.data.toList).length = xs.length + str.data.toList.length := List.length_append
  rw [e3] at hk
  refine wp_value (s := .v _) (v := .slice base' (xs.length + str.data.toList.length) cap') ?_ hr' rfl trivial (hk base' cap' A' (by have := ow_fl (mk := fun k => UInt8.ofNat (k % 256).toNat) (sz := fun _ => 0) h2.1; exact this) hBz)
  simp only [execOp, resolve, invoke, builtin, Sem.run_bind, Sem.run_pure, Result.andThen_ok]
  rw [show (#[s, x] : Array Operand).map a.eval = #[a.eval s, a.eval x] from by simp, g1, g2]
  simp only [SV.den]
  rw [h1]; rfl
/-- unsafe.SliceData -/
theorem sliceData {dst : Option Nat} {x : Operand} {tys : Array TypeId} {ty : TypeId} {pos : String} {after : Array Edge} {guard : Option (Nat × Bool)} {fr : Fr} {bl : List Blk} {R : List Hp} {K : St → Prop}
    {base : Option Addr} {m cap : Nat} (hx1 : getK fr x fun sv => sv = .v (.slice base m cap)) (hz : Bz base cap)
    (hk : putK n fr dst (.v (.pointer base)) fun fr => K ⟨fr, bl, R⟩) : VCraw P E n ⟨dst, .call ⟨.builtin .unsafeSliceData, #[x], tys⟩, ty, pos, after, guard⟩ ⟨fr, bl, R⟩ K := by
  refine ⟨fun a w hr Q => ?_⟩
  obtain ⟨sv, g1, _, rfl⟩ := getK_sound hr hx1
  have key : (Builtin.unsafeSliceData_ tys ty #[.slice base m cap]).run P w = .ok (.pointer base) w := by
    cases base with
    | none => rfl
    | some ad =>
      rcases hz with ⟨h, _⟩ | h
      · cases h
      exact Lib.run_unsafeSliceData_row w tys ty ad m cap h
  refine wp_value (s := .v _) (v := .pointer base) ?_ hr rfl trivial hk
  simp only [execOp, resolve, invoke, builtin, Sem.run_bind, Sem.run_pure, Result.andThen_ok]
  rw [show (#[x] : Array Operand).map a.eval = #[a.eval x] from by simp, g1]
  simp only [SV.den]
  rw [key]; rfl
theorem Sat.dropAt {A B : Hp} {w w' : World} {g : Nat} (h : Sat E (A ++ B) w) (hg : ∀ x, (g, x) ∉ B) (ho : w'.os = w.os) (hu : w'.output = w.output) (ht : w'.tape = w.tape) (hn : ∀ i, i ≠ g → w'.heap[i]? = w.heap[i]?) (hd : w.drawn ≤ w'.drawn) : Sat E B w' := by
  refine ⟨ho.trans h.os, hu.trans h.out, ht.trans h.tape, fun b o hm => ?_, ?_, Nat.le_trans h.dr hd⟩
  · rw [hn b (fun e => hg o (e ▸ hm))]; exact h.mem b o (List.mem_append_right _ hm)
  have := h.nodup; rw [List.map_append, List.nodup_append] at this; exact this.2.1
/-- unsafe.String over what a slice of bytes owns: the bytes are given up -/
theorem unsafeStr (hΓ : TyOk P Γ) {dst : Option Nat} {x l : Operand} {pt it T ty : TypeId} {pos : String} {after : Array Edge} {guard : Option (Nat × Bool)} {fr : Fr} {bl : List Blk} {R : List Hp} {K : St → Prop}
    (i : Nat) {A : Hp} {base : Option Addr} {m cap : Nat} {xs : List UInt8} (hi : nthR R i = some A) (ho : (gSl T gY).ow [.slice base m cap] xs A)
    (hx1 : getK fr x fun sv => sv = .v (.pointer base)) (hl1 : getK fr l fun sv => sv = .v (.int .i64 m))
    (hp : undOf Γ pt = some (.pointer T)) (hc : P.cellsOf T = 1)
    (hk : putK n fr dst (.v (.string ⟨xs.toArray⟩)) fun fr => K ⟨fr, bl, setR R i []⟩) : VCraw P E n ⟨dst, .call ⟨.builtin .unsafeString, #[x, l], #[pt, it]⟩, ty, pos, after, guard⟩ ⟨fr, bl, R⟩ K := by
  have ho' := fl_ow ho
  refine ⟨fun a w hr Q => ?_⟩
  obtain ⟨sv, g1, _, rfl⟩ := getK_sound hr hx1
  obtain ⟨lv, g2, _, rfl⟩ := getK_sound hr hl1
  obtain ⟨pre, post, e1, e2'⟩ := nthR_split hi
  have perm : ∀ C : Hp, (St.hall ⟨[], bl, pre ++ C :: post⟩).Perm (C ++ St.hall ⟨[], bl, pre ++ post⟩) := by
    intro C
    simp only [St.hall, List.flatten_append, List.flatten_cons]
    have := List.perm_append_comm (l₁ := List.map Blk.ent bl ++ pre.flatten) (l₂ := C)
    have := this.append_right post.flatten
    simpa only [List.append_assoc] using this
  subst e1
  have hsat : Sat E (A ++ St.hall ⟨[], bl, pre ++ post⟩) w := hr.sat.perm (perm A)
  have key : ∃ w', (Builtin.unsafeString_ #[pt, it] ty #[.pointer base, .int .i64 m]).run P w = .ok (.string ⟨xs.toArray⟩) w' ∧ Sat E (St.hall ⟨[], bl, pre ++ post⟩) w' := by
    obtain ⟨_, hlen, base0, cap0, e0, h2⟩ := ho'
    cases e0
    cases xs with
    | nil =>
      refine ⟨w, Lib.run_unsafeString_none w pt it ty base, ?_⟩
      exact (hsat.perm List.perm_append_comm).drop
    | cons x0 r =>
      rcases h2 with ⟨_, h7, _⟩ | ⟨b, sp, rfl, rfl, h3, h4⟩
      · cases h7
      have hmem : (b, Obj.cells ⟨(x0 :: r).flatMap flByte.enc ++ sp⟩ T) ∈ ([(b, Obj.cells ⟨(x0 :: r).flatMap flByte.enc ++ sp⟩ T)] : Hp) ++ St.hall ⟨[], bl, pre ++ post⟩ := List.mem_append_left _ (List.mem_singleton.2 rfl)
      have hheap := hsat.mem _ _ hmem
      have hfl := flat_length flByte (x0 :: r)
      have e5 : flByte.size = 1 := rfl
      rw [e5, Nat.mul_one] at hfl
      refine ⟨w.freeze ⟨b, 0, none⟩ (x0 :: r).length, ?_, ?_⟩
      · refine Lib.run_unsafeString_row w pt it ty T (undOf_ok hΓ hp) hc b ((x0 :: r).flatMap flByte.enc ++ sp).length ?_ (x0 :: r) (by simp) ?_ hlen ?_
        · simp [World.shape?, hheap]
        · rw [List.length_append, hfl]; omega
        intro j x hx
        rw [addr_add, Nat.zero_add, hsat.cell hmem]
        have hj : j < (x0 :: r).length := by
          rcases Nat.lt_or_ge j (x0 :: r).length with h | h
          · exact h
          rw [List.getElem?_eq_none h] at hx; cases hx
        rw [List.getElem?_eq_getElem hj] at hx
        cases hx
        have := flat_get flByte (x0 :: r) j 0 hj (by show 0 < 1; omega)
        rw [e5, Nat.mul_one, Nat.add_zero] at this
        simp only [List.getElem?_toArray]
        rw [List.getElem?_append_left (by rw [hfl]; exact hj), this]
        rfl
      have hnd := hsat.nodup
      refine Sat.dropAt (g := b) hsat ?_ ?_ ?_ ?_ ?_ (by unfold World.freeze; split <;> exact Nat.le_refl _)
      · intro x hx
        rw [List.map_append, List.nodup_append] at hnd
        exact hnd.2.2 b (by simp) b (List.mem_map.2 ⟨_, hx, rfl⟩) rfl
      · unfold World.freeze; split <;> rfl
      · unfold World.freeze; split <;> rfl
      · unfold World.freeze; split <;> rfl
      intro i hne
      unfold World.freeze
      split
      · rfl
      simp only [Array.getElem?_modify]
      rw [if_neg (fun e => hne e.symm)]
  obtain ⟨w', h1, h2⟩ := key
  have hr' : Rel E n ⟨fr, bl, setR (pre ++ A :: post) i []⟩ a w' := by
    rw [e2']
    exact hr.ids rfl (h2.perm (perm []).symm)
  refine wp_value (s := .v _) (v := .string ⟨xs.toArray⟩) ?_ hr' rfl trivial hk
  simp only [execOp, resolve, invoke, builtin, Sem.run_bind, Sem.run_pure, Result.andThen_ok]
  rw [show (#[x, l] : Array Operand).map a.eval = #[a.eval x, a.eval l] from by simp, g1, g2]
  simp only [SV.den]
  rw [h1]; rfl
theorem chooseL {β : Type} {P : Nat → β → Prop} : ∀ (n : Nat), (∀ i, i < n → ∃ r, P i r) → ∃ rs : List β, rs.length = n ∧ ∀ i (h : i < rs.length), P i rs[i]
  | 0, _ => ⟨[], rfl, fun i h => by simp at h⟩
  | n + 1, h => by
    obtain ⟨rs, h1, h2⟩ := chooseL n (fun i hi => h i (by omega))
    obtain ⟨r, hr⟩ := h n (by omega)
    refine ⟨rs ++ [r], by simp [h1], fun i hi => ?_⟩
    by_cases hlt : i < rs.length
    · rw [List.getElem_append_left hlt]; exact h2 i hlt
    have : i = n := by simp at hi; omega
    subst this
    rw [List.getElem_append_right (by omega)]
    simp [h1, hr]
/-- elements that own nothing -/
def Plain {α : Type} (g : Gt α) : Prop := ∀ {H : Hp} {l : List Value} {x : α}, g.rd H l x → g.ow l x []
theorem fl_plain {α : Type} {f : Fl α} {mk : Int → α} {sz : α → Nat} : Plain (f.gt mk sz) := fun h => ⟨h.1, h.2, rfl⟩
theorem OwL.of {α : Type} {g : Gt α} : ∀ (ls : List (RawC g.size)) (xs : List α), ls.length = xs.length → (∀ i (h1 : i < ls.length) (h2 : i < xs.length), g.ow (ls[i]).1 xs[i] []) → OwL g ls xs (List.replicate xs.length [])
  | [], [], _, _ => .nil
  | l :: ls, x :: xs, h, hp => by
    refine .cons (hp 0 (by simp) (by simp)) (OwL.of ls xs (by simpa using h) fun i h1 h2 => ?_)
    exact hp (i + 1) (by simpa using h1) (by simpa using h2)
  | [], _ :: _, h, _ => by simp at h
  | _ :: _, [], h, _ => by simp at h
theorem rd_raws {α : Type} {g : Gt α} (hpl : Plain g) {H : Hp} {xb : Option Addr} {mx xc : Nat} {ys : List α} (hx : (rpSl g.toRp).rd H [.slice xb mx xc] ys) :
    ∃ rs : List (RawC g.size), (rpSl (flRaw g.size g.pos).rp).rd H [.slice xb mx xc] rs ∧ OwL g rs ys (List.replicate ys.length []) ∧ rs.length = ys.length := by
  obtain ⟨base, cap, e, h1, h2⟩ := hx
  cases e
  have h3 : ∀ i, i < ys.length → ∃ r : RawC g.size, (∃ b o, xb = some ⟨b, o, none⟩ ∧ RdCells H b (o + i * g.size) g.size r.1) ∧ ∃ h : i < ys.length, g.ow r.1 ys[i] [] := by
    intro i hi
    obtain ⟨b, o, l', h4, h5, h6⟩ := h2 i hi
    exact ⟨⟨l', raw_of h6⟩, ⟨b, o, h4, h5⟩, hi, hpl h6⟩
  obtain ⟨rs, h7, h8⟩ := chooseL ys.length h3
  refine ⟨rs, ⟨xb, xc, by rw [h7], ⟨by rw [h7]; exact h1.1, by rw [h7]; exact h1.2⟩, fun i hi => ?_⟩, OwL.of rs ys h7 fun i hi1 hi2 => ?_, h7⟩
  · obtain ⟨⟨b, o, h9, h10⟩, _⟩ := h8 i hi
    exact ⟨b, o, (rs[i]).1, h9, h10, rfl, trivial⟩
  obtain ⟨_, _, h11⟩ := h8 i hi1
  exact h11
/-- plain elements that lie elsewhere are appended -/
theorem append_all (hΓ : TyOk P Γ) {α : Type} {g : Gt α} (hpl : Plain g) {dst : Option Nat} {s x : Operand} {sT xT e2 T ty : TypeId} {pos : String} {after : Array Edge} {guard : Option (Nat × Bool)} {fr : Fr} {bl : List Blk} {R : List Hp} {K : St → Prop} {ti : TI}
    (A : Hp) (Rr : List Hp) {base xb : Option Addr} {m cap mx xc : Nat} {xs ys : List α} (hR : RLe R (A :: Rr)) (ho : (gSl T g).ow [.slice base m cap] xs A) (hx : (rpSl g.toRp).rd (St.hall ⟨[], bl, A :: Rr⟩) [.slice xb mx xc] ys)
    (hs1 : getK fr s fun sv => sv = .v (.slice base m cap)) (hx1 : getK fr x fun sv => sv = .v (.slice xb mx xc))
    (hsT : undOf Γ sT = some (.slice T)) (hxT : undOf Γ xT = some (.slice e2)) (ht : tyOf Γ T = some ti) (hsz : ti.size = g.size) (hz : lenIs ti.zero.cells.toList g.size = true)
    (hby : Nat.ble ti.bytes 65536 = true) (hlen : xs.length + ys.length ≤ 1073741824)
    (hk : ∀ base' cap' A', (gSl T g).ow [.slice base' (xs ++ ys).length cap'] (xs ++ ys) A' → putK n fr dst (.v (.slice base' (xs ++ ys).length cap')) fun fr => K ⟨fr, bl, A' :: Rr⟩) :
    VCraw P E n ⟨dst, .call ⟨.builtin .append, #[s, x], #[sT, xT]⟩, ty, pos, after, guard⟩ ⟨fr, bl, R⟩ K := by
  have e0 : (xs ++ ys).length = xs.length + ys.length := List.length_append
  simp only [e0] at hk
  obtain ⟨v, ls, A0, As, e, ho, hp, hl⟩ := ho
  cases e
  obtain ⟨e1, e2'⟩ := hl.len
  have hm : m = ls.length := (by obtain ⟨_, _, _, _, e, _⟩ := ho; cases e; rfl)
  subst hm
  obtain ⟨rs, hrs, hol, hrl⟩ := rd_raws hpl hx
  obtain ⟨L, hL⟩ := hR
  have hperm : R.flatten.Perm (A0 ++ (As.flatten ++ (Rr.flatten ++ L))) := by
    refine hL.trans ?_
    simp only [List.flatten_cons]
    have := hp.append_right (Rr.flatten ++ L)
    simpa only [List.append_assoc] using this
  refine VCraw.conv (R2 := [A0, As.flatten ++ (Rr.flatten ++ L)]) ⟨[], by simpa using hperm⟩ ?_
  have hsub : ∀ p ∈ St.hall ⟨[], bl, A :: Rr⟩, p ∈ St.hall ⟨[], bl, [A0, As.flatten ++ (Rr.flatten ++ L)]⟩ := by
    intro p hp'
    simp only [St.hall, List.flatten_cons, List.flatten_nil, List.append_nil] at hp' ⊢
    rcases List.mem_append.1 hp' with h | h
    · exact List.mem_append_left _ h
    refine List.mem_append_right _ ?_
    rcases List.mem_append.1 h with h | h
    · have := hp.mem_iff.1 h
      rcases List.mem_append.1 this with h2 | h2
      · exact List.mem_append_left _ h2
      exact List.mem_append_right _ (List.mem_append_left _ h2)
    exact List.mem_append_right _ (List.mem_append_right _ (List.mem_append_left _ h))
  refine append_ow (f := flRaw g.size g.pos) hΓ 0 rfl ho ((rpSl (flRaw g.size g.pos).rp).mono hsub hrs) (fun _ _ => trivial) hs1 hx1 hsT hxT ht hsz hz hby (by rw [e1, hrl]; exact hlen) ?_
  intro base' cap' A' ho' _
  have h3 : (gSl T g).ow [.slice base' (xs.length + ys.length) cap'] (xs ++ ys) (A' ++ (As ++ List.replicate ys.length []).flatten) := by
    refine ⟨_, ls ++ rs, A', As ++ List.replicate ys.length [], rfl, ?_, .refl _, hl.append hol⟩
    rw [← e1, ← hrl]; exact ho'
  have h4 := hk base' cap' _ h3
  rw [e1, hrl]
  refine putK_mono h4 fun fr' hK => ⟨_, ?_, hK⟩
  refine ⟨L, ?_⟩
  simp only [setR, List.flatten_cons, List.flatten_nil, List.append_nil, List.flatten_append]
  have : (List.replicate ys.length ([] : Hp)).flatten = [] := by simp
  rw [this]
  simp only [List.append_assoc, List.append_nil]
  exact .refl _
theorem plain_pair {α β : Type} {g : Gt α} {h : Gt β} (hg : Plain g) (hh : Plain h) : Plain (SX.gPair g h) := by
  rintro H l x ⟨l1, l2, rfl, h1, h2⟩
  exact ⟨l1, l2, [], [], rfl, .refl _, hg h1, hh h2⟩
theorem plain_iso {α β : Type} {g : Gt α} {f : β → α} {f' : α → β} (hg : Plain g) : Plain (gIso g f f') := fun h => hg h
theorem nthR_mem : ∀ {R : List Hp} {i : Nat} {A : Hp}, nthR R i = some A → ∀ p ∈ A, p ∈ R.flatten := by
  intro R i A h p hp
  obtain ⟨pre, post, rfl, -⟩ := nthR_split h
  simp only [List.flatten_append, List.flatten_cons, List.mem_append]
  exact .inr (.inl hp)
/-- the same, the elements read in heaplet i -/
theorem append_allN (hΓ : TyOk P Γ) {α : Type} {g : Gt α} (hpl : Plain g) {dst : Option Nat} {s x : Operand} {sT xT e2 T ty : TypeId} {pos : String} {after : Array Edge} {guard : Option (Nat × Bool)} {fr : Fr} {bl : List Blk} {R : List Hp} {K : St → Prop} {ti : TI}
    (A : Hp) (Rr : List Hp) (i : Nat) {H : Hp} {base xb : Option Addr} {m cap mx xc : Nat} {xs ys : List α} (hR : RLe R (A :: Rr)) (ho : (gSl T g).ow [.slice base m cap] xs A) (hi : nthR Rr i = some H) (hx : (gSl T g).rd H [.slice xb mx xc] ys)
    (hs1 : getK fr s fun sv => sv = .v (.slice base m cap)) (hx1 : getK fr x fun sv => sv = .v (.slice xb mx xc))
    (hsT : undOf Γ sT = some (.slice T)) (hxT : undOf Γ xT = some (.slice e2)) (ht : tyOf Γ T = some ti) (hsz : ti.size = g.size) (hz : lenIs ti.zero.cells.toList g.size = true)
    (hby : Nat.ble ti.bytes 65536 = true) (hlen : xs.length + ys.length ≤ 1073741824)
    (hk : ∀ base' cap' A', (gSl T g).ow [.slice base' (xs ++ ys).length cap'] (xs ++ ys) A' → putK n fr dst (.v (.slice base' (xs ++ ys).length cap')) fun fr => K ⟨fr, bl, A' :: Rr⟩) :
    VCraw P E n ⟨dst, .call ⟨.builtin .append, #[s, x], #[sT, xT]⟩, ty, pos, after, guard⟩ ⟨fr, bl, R⟩ K :=
  append_all hΓ hpl A Rr hR ho ((gSl T g).mono (fun p hp => by
    simp only [St.hall, List.flatten_cons, List.mem_append]
    have := nthR_mem hi p hp
    simp only [this, or_true]) hx) hs1 hx1 hsT hxT ht hsz hz hby hlen hk
end
end Go.SX

namespace Go.SX
section
variable {P : Program} {E : World} {Γ : Ty} {n : Nat} {α : Type} {f : Fl α}
theorem allOne_flat (f : Fl α) : ∀ l : List α, allOne (l.flatMap f.enc) = true := by
  intro l
  induction l with
  | nil => rfl
  | cons x r ih =>
    rw [List.flatMap_cons]
    exact allOne_append _ _ (f.one x) ih
theorem rd_pre {H : Hp} {b : Option Addr} {k c : Nat} {ys : List α} (h : (rpSl f.rp).rd H [.slice b k c] ys) (q : Nat) (hq : q ≤ k) : (rpSl f.rp).rd H [.slice b q c] (ys.take q) := by
  obtain ⟨b', c', e, h1, h2⟩ := h
  cases e
  refine ⟨b, c, by rw [List.length_take, Nat.min_eq_left hq], ⟨by rw [List.length_take]; omega, by rw [List.length_take]; omega⟩, fun i hi => ?_⟩
  rw [List.length_take] at hi
  obtain ⟨b', o, l', h3, h4, h5⟩ := h2 i (by omega)
  exact ⟨b', o, l', h3, h4, by rw [List.getElem_take]; exact h5⟩
theorem first_len {size q : Nat} {b : Option Addr} {k k' c c' : Nat} : Builtin.firstCells size q (.slice b k c) = Builtin.firstCells size q (.slice b k' c') := by cases b <;> rfl
/-- copy into a part of an owned slice -/
theorem copy_ow (hΓ : TyOk P Γ) {dst : Option Nat} {d s : Operand} {dT sT e ty : TypeId} {pos : String} {after : Array Edge} {guard : Option (Nat × Bool)} {fr : Fr} {bl : List Blk} {R : List Hp} {K : St → Prop} {ti : TI}
    (i : Nat) {A : Hp} {base b2 : Option Addr} {m cap l dl dc k c2 : Nat} {xs ys : List α} (hi : nthR R i = some A) (ho : Ow f e (.slice base m cap) xs A)
    (hd1 : getK fr d fun sv => sv = .v (.slice (subBase cap l base f.size) dl dc)) (hs1 : getK fr s fun sv => sv = .v (.slice b2 k c2))
    (hr2 : (rpSl f.rp).rd (St.hall ⟨[], bl, R⟩) [.slice b2 k c2] ys) (hy : ∀ y ∈ ys, f.wf y) (hl : l + dl ≤ m)
    (hsT : undOf Γ dT = some (.slice e)) (ht : tyOf Γ e = some ti) (hsz : ti.size = f.size)
    (hk : ∀ A', Ow f e (.slice base m cap) (xs.take l ++ (ys.take (min k dl) ++ xs.drop (l + min k dl))) A' → putK n fr dst (.v (.int .i64 ((min k dl : Nat) : Int))) fun fr => K ⟨fr, bl, setR R i A'⟩) :
    VCraw P E n ⟨dst, .call ⟨.builtin .copy, #[d, s], #[dT, sT]⟩, ty, pos, after, guard⟩ ⟨fr, bl, R⟩ K := by
  refine ⟨fun a w hr Q => ?_⟩
  obtain ⟨sv, g1, _, rfl⟩ := getK_sound hr hd1
  obtain ⟨sv, g2, _, rfl⟩ := getK_sound hr hs1
  obtain ⟨pre, post, e1, e2'⟩ := nthR_split hi
  have perm : ∀ C : Hp, (St.hall ⟨[], bl, pre ++ C :: post⟩).Perm (C ++ St.hall ⟨[], bl, pre ++ post⟩) := by
    intro C
    simp only [St.hall, List.flatten_append, List.flatten_cons]
    have := List.perm_append_comm (l₁ := List.map Blk.ent bl ++ pre.flatten) (l₂ := C)
    have := this.append_right post.flatten
    simpa only [List.append_assoc] using this
  have hk2 : k = ys.length := by obtain ⟨_, _, e, _⟩ := hr2; cases e; rfl
  have hpre := rd_pre hr2 (min k dl) (Nat.min_le_left _ _)
  have hrow := (rd_row (f := f) hpre (P := P) hr.sat).2
  subst e1
  have hsat : Sat E (A ++ St.hall ⟨[], bl, pre ++ post⟩) w := hr.sat.perm (perm A)
  have key : ∃ A' w', (Builtin.copy_ #[dT, sT] ty #[.slice (if cap = l then base else base.map (·.add (l * f.size))) dl dc, .slice b2 k c2]).run P w = .ok (.int .i64 ((min k dl : Nat) : Int)) w' ∧ Ow f e (.slice base m cap) (xs.take l ++ (ys.take (min k dl) ++ xs.drop (l + min k dl))) A' ∧ Sat E (A' ++ St.hall ⟨[], bl, pre ++ post⟩) w' := by
    have hu := undOf_ok hΓ hsT
    obtain ⟨hw, hlen, base0, cap0, e0, h2⟩ := ho
    cases e0
    have hwf : ∀ x ∈ xs.take l ++ (ys.take (min k dl) ++ xs.drop (l + min k dl)), f.wf x := by
      intro x hx
      rcases List.mem_append.1 hx with hx | hx
      · exact hw x (List.mem_of_mem_take hx)
      rcases List.mem_append.1 hx with hx | hx
      · exact hy x (List.mem_of_mem_take hx)
      exact hw x (List.mem_of_mem_drop hx)
    have hln : (xs.take l ++ (ys.take (min k dl) ++ xs.drop (l + min k dl))).length = xs.length := by
      simp only [List.length_append, List.length_take, List.length_drop]; omega
    unfold Builtin.copy_
    simp only [List.getElem?_toArray, List.getElem?_cons_zero, List.getElem?_cons_succ, Sem.run_bind, run_underlying hu, Result.andThen_ok, ty_size hΓ ht, hsz, Sem.run_pure, Builtin.lenOf]
    rw [show Nat.min k dl = min k dl from rfl]
    rw [first_len (k' := min k dl) (c' := c2), hrow]
    simp only [Result.andThen_ok]
    rcases h2 with ⟨rfl, rfl, rfl⟩ | ⟨b, sp, rfl, rfl, h3, h4⟩
    · have h0 : min k dl = 0 := by simp at hl; omega
      have hl0 : l = 0 := by simp at hl; omega
      refine ⟨[], w, ?_, ?_, hsat⟩
      · rw [h0, hl0]
        cases base with
        | none => rfl
        | some a => rfl
      rw [h0, hl0]
      exact ⟨fun x hx => (by simp at hx), by simp, base, 0, rfl, .inl ⟨rfl, rfl, rfl⟩⟩
    by_cases h0 : min k dl = 0
    · refine ⟨_, w, ?_, ?_, hsat⟩
      · rw [h0]
        generalize (if cap = l then some (Addr.mk b 0 none) else (some (Addr.mk b 0 none)).map (·.add (l * f.size))) = q
        cases q <;> rfl
      rw [h0]
      simp only [List.take_zero, List.nil_append, Nat.add_zero, List.take_append_drop]
      exact ⟨hw, hlen, _, _, rfl, .inr ⟨b, sp, rfl, rfl, h3, h4⟩⟩
    have hfl := flat_length f xs
    have hfy := flat_length f (ys.take (min k dl))
    rw [List.length_take, Nat.min_eq_left (show min k dl ≤ ys.length by omega)] at hfy
    have hm1 := Nat.mul_le_mul_right f.size (show l + min k dl ≤ xs.length by omega)
    have hm2 : (l + min k dl) * f.size = l * f.size + min k dl * f.size := Nat.add_mul _ _ _
    have hbound : l * f.size + ((ys.take (min k dl)).flatMap f.enc).length ≤ (xs.flatMap f.enc ++ sp).length := by
      rw [List.length_append, hfl, hfy]; omega
    obtain ⟨w', h5, h6⟩ := run_storeCells_wr (P := P) (A := []) (o := l * f.size) (l := (ys.take (min k dl)).flatMap f.enc) hsat hbound (allOne_flat f _)
    refine ⟨[(b, Obj.cells ⟨setAt (xs.flatMap f.enc ++ sp) (l * f.size) ((ys.take (min k dl)).flatMap f.enc)⟩ e)], w', ?_, ?_, h6⟩
    · rw [if_neg (by omega)]
      simp only [Option.map_some, addr_add, Nat.zero_add, Sem.run_bind, h5, Result.andThen_ok, Sem.run_pure]
      rfl
    refine ⟨hwf, by rw [hln]; exact hlen, some ⟨b, 0, none⟩, cap, by rw [hln], .inr ⟨b, sp, rfl, ?_, by rw [hln]; exact h3, by rw [hln]; exact h4⟩⟩
    have e3 : setAt (xs.flatMap f.enc ++ sp) (l * f.size) ((ys.take (min k dl)).flatMap f.enc) = (xs.take l ++ (ys.take (min k dl) ++ xs.drop (l + min k dl))).flatMap f.enc ++ sp := by
      have hx : xs = xs.take l ++ ((xs.drop l).take (min k dl) ++ xs.drop (l + min k dl)) := by
        rw [← List.drop_drop, List.take_append_drop, List.take_append_drop]
      have h7 := flat_length f (xs.take l)
      rw [List.length_take, show min l xs.length = l by omega] at h7
      have h8 := flat_length f ((xs.drop l).take (min k dl))
      rw [List.length_take, List.length_drop, show min (min k dl) (xs.length - l) = min k dl by omega] at h8
      rw [setAt_eq _ _ _ hbound, hfy]
      conv => lhs; rw [hx]
      simp only [List.flatMap_append, List.append_assoc]
      have e9 : ∀ (A B C : List Value), List.drop (A ++ B).length (A ++ (B ++ C)) = C := fun A B C => by rw [← List.append_assoc, List.drop_left]
      rw [← h7, List.take_left, ← h8, ← List.length_append, e9]
    rw [← e3]
  obtain ⟨A', w', h1, h2, h3⟩ := key
  have hr' : Rel E n ⟨fr, bl, setR (pre ++ A :: post) i A'⟩ a w' := by
    rw [e2']
    exact hr.ids rfl (h3.perm (perm A').symm)
  refine wp_value (s := .v _) (v := .int .i64 ((min k dl : Nat) : Int)) ?_ hr' rfl trivial (hk A' h2)
  simp only [execOp, resolve, invoke, builtin, Sem.run_bind, Sem.run_pure, Result.andThen_ok]
  rw [show (#[d, s] : Array Operand).map a.eval = #[a.eval d, a.eval s] from by simp, g1, g2]
  simp only [SV.den, subBase_eq]
  rw [h1]; rfl
/-- copy into the end of an owned slice, and its spare room -/
theorem copy_end (hΓ : TyOk P Γ) {dst : Option Nat} {d s : Operand} {dT sT e ty : TypeId} {pos : String} {after : Array Edge} {guard : Option (Nat × Bool)} {fr : Fr} {bl : List Blk} {R : List Hp} {K : St → Prop} {ti : TI}
    (i : Nat) {A : Hp} {base b2 : Option Addr} {m cap l dl dc k c2 q : Nat} {xs ys : List α} (hi : nthR R i = some A) (ho : Ow f e (.slice base m cap) xs A)
    (hd1 : getK fr d fun sv => sv = .v (.slice (subBase cap l base f.size) dl dc)) (hs1 : getK fr s fun sv => sv = .v (.slice b2 k c2))
    (hr2 : (rpSl f.rp).rd (St.hall ⟨[], bl, R⟩) [.slice b2 q c2] ys) (hq : q = min k dl) (hy : ∀ y ∈ ys, f.wf y) (hl : l ≤ m) (hlc : l + q ≤ cap) (hmq : m ≤ l + q) (hq0 : 0 < q) (hlen2 : l + q ≤ 9223372036854775807)
    (hsT : undOf Γ dT = some (.slice e)) (ht : tyOf Γ e = some ti) (hsz : ti.size = f.size)
    (hk : ∀ A', Ow f e (.slice base (l + q) cap) (xs.take l ++ ys) A' → putK n fr dst (.v (.int .i64 ((min k dl : Nat) : Int))) fun fr => K ⟨fr, bl, setR R i A'⟩) :
    VCraw P E n ⟨dst, .call ⟨.builtin .copy, #[d, s], #[dT, sT]⟩, ty, pos, after, guard⟩ ⟨fr, bl, R⟩ K := by
  refine ⟨fun a w hr Q => ?_⟩
  obtain ⟨sv, g1, _, rfl⟩ := getK_sound hr hd1
  obtain ⟨sv, g2, _, rfl⟩ := getK_sound hr hs1
  obtain ⟨pre, post, e1, e2'⟩ := nthR_split hi
  have perm : ∀ C : Hp, (St.hall ⟨[], bl, pre ++ C :: post⟩).Perm (C ++ St.hall ⟨[], bl, pre ++ post⟩) := by
    intro C
    simp only [St.hall, List.flatten_append, List.flatten_cons]
    have := List.perm_append_comm (l₁ := List.map Blk.ent bl ++ pre.flatten) (l₂ := C)
    have := this.append_right post.flatten
    simpa only [List.append_assoc] using this
  obtain ⟨hk2, hrow⟩ := rd_row (f := f) hr2 (P := P) hr.sat
  subst hk2
  subst e1
  have hsat : Sat E (A ++ St.hall ⟨[], bl, pre ++ post⟩) w := hr.sat.perm (perm A)
  have key : ∃ A' w', (Builtin.copy_ #[dT, sT] ty #[.slice (if cap = l then base else base.map (·.add (l * f.size))) dl dc, .slice b2 k c2]).run P w = .ok (.int .i64 ((min k dl : Nat) : Int)) w' ∧ Ow f e (.slice base (l + ys.length) cap) (xs.take l ++ ys) A' ∧ Sat E (A' ++ St.hall ⟨[], bl, pre ++ post⟩) w' := by
    have hu := undOf_ok hΓ hsT
    obtain ⟨hw, hlen, base0, cap0, e0, h2⟩ := ho
    cases e0
    have hwf : ∀ x ∈ xs.take l ++ ys, f.wf x := by
      intro x hx
      rcases List.mem_append.1 hx with hx | hx
      · exact hw x (List.mem_of_mem_take hx)
      exact hy x hx
    have hln : (xs.take l ++ ys).length = l + ys.length := by
      simp only [List.length_append, List.length_take]; omega
    unfold Builtin.copy_
    simp only [List.getElem?_toArray, List.getElem?_cons_zero, List.getElem?_cons_succ, Sem.run_bind, run_underlying hu, Result.andThen_ok, ty_size hΓ ht, hsz, Sem.run_pure, Builtin.lenOf]
    rw [show Nat.min k dl = min k dl from rfl, ← hq]
    rw [first_len (k' := ys.length) (c' := c2), hrow]
    simp only [Result.andThen_ok]
    rcases h2 with ⟨rfl, rfl, rfl⟩ | ⟨b, sp, rfl, rfl, h3, h4⟩
    · omega
    have hfl := flat_length f xs
    have hfy := flat_length f ys
    have hfx := flat_length f (xs.take l)
    rw [List.length_take, show min l xs.length = l by omega] at hfx
    have hm1 := Nat.mul_le_mul_right f.size (show l + ys.length ≤ cap by omega)
    have hm2 : (l + ys.length) * f.size = l * f.size + ys.length * f.size := Nat.add_mul _ _ _
    have hm4 : xs.length * f.size + (cap - xs.length) * f.size = cap * f.size := by rw [← Nat.add_mul]; congr 1; omega
    have hm5 := Nat.mul_le_mul_right f.size (show xs.length ≤ l + ys.length by omega)
    have hm6 := Nat.mul_le_mul_right f.size (show l ≤ xs.length by omega)
    have hbound : l * f.size + (ys.flatMap f.enc).length ≤ (xs.flatMap f.enc ++ sp).length := by
      rw [List.length_append, hfl, hfy]; omega
    obtain ⟨w', h5, h6⟩ := run_storeCells_wr (P := P) (A := []) (o := l * f.size) (l := ys.flatMap f.enc) hsat hbound (allOne_flat f _)
    refine ⟨[(b, Obj.cells ⟨setAt (xs.flatMap f.enc ++ sp) (l * f.size) (ys.flatMap f.enc)⟩ e)], w', ?_, ?_, h6⟩
    · rw [if_neg (by omega)]
      simp only [Option.map_some, addr_add, Nat.zero_add, Sem.run_bind, h5, Result.andThen_ok, Sem.run_pure]
      rfl
    refine ⟨hwf, by rw [hln]; exact hlen2, some ⟨b, 0, none⟩, cap, by rw [hln], .inr ⟨b, (xs.flatMap f.enc ++ sp).drop (l * f.size + ys.length * f.size), rfl, ?_, by rw [hln]; omega, ?_⟩⟩
    · have e3 : setAt (xs.flatMap f.enc ++ sp) (l * f.size) (ys.flatMap f.enc) = (xs.take l ++ ys).flatMap f.enc ++ (xs.flatMap f.enc ++ sp).drop (l * f.size + ys.length * f.size) := by
        rw [setAt_eq _ _ _ hbound, hfy, List.flatMap_append]
        congr 2
        have : xs.flatMap f.enc = (xs.take l).flatMap f.enc ++ (xs.drop l).flatMap f.enc := by rw [← List.flatMap_append, List.take_append_drop]
        rw [this, List.append_assoc, ← hfx, List.take_left]
      rw [← e3]
    have hm7 : (cap - (l + ys.length)) * f.size = cap * f.size - (l + ys.length) * f.size := Nat.sub_mul _ _ _
    rw [hln, List.length_drop, List.length_append, hfl]
    omega
  obtain ⟨A', w', h1, h2, h3⟩ := key
  have hr' : Rel E n ⟨fr, bl, setR (pre ++ A :: post) i A'⟩ a w' := by
    rw [e2']
    exact hr.ids rfl (h3.perm (perm A').symm)
  refine wp_value (s := .v _) (v := .int .i64 ((min k dl : Nat) : Int)) ?_ hr' rfl trivial (hk A' h2)
  simp only [execOp, resolve, invoke, builtin, Sem.run_bind, Sem.run_pure, Result.andThen_ok]
  rw [show (#[d, s] : Array Operand).map a.eval = #[a.eval d, a.eval s] from by simp, g1, g2]
  simp only [SV.den, subBase_eq]
  rw [h1]; rfl
end
end Go.SX
namespace Go.SX
section
variable {P : Program} {E : World} {Γ : Ty} {n : Nat} {α : Type} {f : Fl α}
/-- the run of append of so many zeros, where they do not fit -/
theorem run_append_zeros (hΓ : TyOk P Γ) {sT xT e ty : TypeId} {ti : TI} {kn : IntKind} (hsT : P.underlying sT = some (.slice e)) (hxT : P.underlying xT = some (.int kn)) (ht : tyOf Γ e = some ti) (hsz : ti.size = f.size)
    {z : α} (hz : ti.zero.cells.toList = f.enc z) (hzw : f.wf z)
    {H : Hp} {w : World} {base : Option Addr} {m cap k : Nat} {xs : List α} (hs : Sat E H w) (hx : (rpSl f.rp).rd H [.slice base m cap] xs) (hw : ∀ x ∈ xs, f.wf x)
    (hk : 0 < k) (hfit : cap < m + k) (hlen : m + k ≤ 1073741824) (hby : ti.bytes ≤ 65536) :
    ∃ base' cap' A' w', (Builtin.append_ #[sT, xT] ty #[.slice base m cap, .int .i64 (k : Int)]).run P w = .ok (.slice base' (xs ++ List.replicate k z).length cap') w' ∧ Ow f e (.slice base' (xs ++ List.replicate k z).length cap') (xs ++ List.replicate k z) A' ∧ Sat E (A' ++ H) w' := by
  obtain ⟨hmx, hrow⟩ := rd_row (f := f) hx (P := P) hs
  subst hmx
  obtain ⟨i, hi, hib, _, _⟩ := ty_bytes hΓ ht
  have hwr : IntKind.i64.wrap (k : Int) = (k : Int) := wrap_ok (by unfold okI; omega)
  have hkb : k * ti.bytes ≤ 1073741824 * 65536 := Nat.mul_le_mul (by omega) hby
  have hcap : Builtin.nextslicecap (xs.length + k) cap * ti.bytes ≤ 281474976710656 := by
    have h7 := nextcap_le (xs.length + k) cap (by omega)
    have h8 := Nat.mul_le_mul h7 hby
    omega
  have hdrew : ∀ {H : Hp}, Sat E H w → Sat E H { w with drawn := w.drawn + 1 } := fun h => ⟨h.os, h.out, h.tape, h.mem, h.nodup, Nat.le_trans h.dr (Nat.le_succ _)⟩
  have hrow' := (rd_row (f := f) hx (P := P) (hdrew hs)).2
  have hmax : IntKind.i64.max = 9223372036854775807 := rfl
  have hkb' : ¬ ((k : Int) * (ti.bytes : Int) > 2 ^ 48) := by
    rw [← Int.natCast_mul]; omega
  have hneg : ¬ ((k : Int) < 0) := by omega
  have hns : ¬ (k * f.size = 0) := Nat.mul_ne_zero (by omega) (by have := f.pos; omega)
  have hfit' : ¬ (xs.length + k ≤ cap) := by omega
  have hif : ¬ (Builtin.nextslicecap (xs.length + k) cap * ti.bytes > 2 ^ 48) := by omega
  unfold Builtin.append_
  simp only [List.getElem?_toArray, List.getElem?_cons_zero, List.getElem?_cons_succ, Sem.run_bind, run_underlying hsT, run_underlying hxT, Result.andThen_ok, ty_size hΓ ht, hsz, Sem.run_pure, if_true, asInt, asIntOf, hwr, hneg, if_false, typeInfo, run_program, hi, hib, hkb', Int.toNat_natCast, hfit', Bool.not_true, Bool.false_eq_true, hns]
  rw [if_neg (by rw [hmax]; rintro ⟨h10, _⟩; omega)]
  simp only [Sem.run_bind, run_program, Result.andThen_ok, hi, Sem.run_pure, hib]
  rw [if_neg hif]
  simp only [Sem.run_bind, run_program, Result.andThen_ok, hi, Sem.run_pure, run_choose, Question.forced, Bool.false_eq_true, if_false, run_askRoom, hrow', ty_zero hΓ ht, newRow, run_newObj]
  have hq : xs.length + k ≤ (Question.appendCap (xs.length + k) cap e).cut (w.tape w.drawn (.appendCap (xs.length + k) cap e)) := by
    simp only [Question.cut]; omega
  generalize (Question.appendCap (xs.length + k) cap e).cut (w.tape w.drawn (.appendCap (xs.length + k) cap e)) = c at hq
  rw [zeroCells_eq, zeroCells_eq]
  have hlenz : (xs ++ List.replicate k z).length = xs.length + k := by simp
  have hzz : ∀ j, zeros j ti.zero.cells.toList = (List.replicate j z).flatMap f.enc := by
    intro j
    induction j with
    | zero => rfl
    | succ j ih => rw [zeros, ih, List.replicate_succ, List.flatMap_cons, hz]
  refine ⟨some ⟨w.heap.size, 0, none⟩, c, [(w.heap.size, Obj.cells ⟨(xs ++ List.replicate k z).flatMap f.enc ++ zeros (c - (xs.length + k)) ti.zero.cells.toList⟩ e)], _, by rw [hlenz], ?_, ?_⟩
  · refine ⟨?_, by rw [hlenz]; omega, some ⟨w.heap.size, 0, none⟩, c, rfl, .inr ⟨w.heap.size, _, rfl, rfl, by rw [hlenz]; exact hq, ?_⟩⟩
    · intro x hx
      rcases List.mem_append.1 hx with hx | hx
      · exact hw x hx
      rw [List.eq_of_mem_replicate hx]; exact hzw
    rw [zeros_length, hz, hlenz]
    refine Nat.le_of_eq (Eq.symm ?_)
    congr 1
    have := flat_length f [z]
    simpa using this
  have h11 := (hdrew hs).push (Obj.cells ⟨(xs ++ List.replicate k z).flatMap f.enc ++ zeros (c - (xs.length + k)) ti.zero.cells.toList⟩ e)
  have e1 : ((⟨xs.flatMap f.enc⟩ : Array Value) ++ (⟨zeros k ti.zero.cells.toList⟩ : Array Value) ++ (⟨zeros (c - (xs.length + k)) ti.zero.cells.toList⟩ : Array Value)) = ⟨(xs ++ List.replicate k z).flatMap f.enc ++ zeros (c - (xs.length + k)) ti.zero.cells.toList⟩ := by
    apply Array.ext'
    simp [hzz]
  rw [e1]
  exact h11
/-- so many zeros are appended, where they do not fit: a new row -/
theorem append_zeros (hΓ : TyOk P Γ) {dst : Option Nat} {s x : Operand} {sT xT e ty : TypeId} {pos : String} {after : Array Edge} {guard : Option (Nat × Bool)} {fr : Fr} {bl : List Blk} {R : List Hp} {K : St → Prop} {ti : TI} {kn : IntKind}
    {z : α} {base : Option Addr} {m cap k : Nat} {xs : List α}
    (hs1 : getK fr s fun sv => sv = .v (.slice base m cap)) (hx1 : getK fr x fun sv => sv = .v (.int .i64 (k : Int)))
    (hr2 : (rpSl f.rp).rd (St.hall ⟨[], bl, R⟩) [.slice base m cap] xs) (hw : ∀ x ∈ xs, f.wf x)
    (hsT : undOf Γ sT = some (.slice e)) (hxT : undOf Γ xT = some (.int kn)) (ht : tyOf Γ e = some ti) (hsz : ti.size = f.size) (hz : ti.zero.cells.toList = f.enc z) (hzw : f.wf z)
    (hby : Nat.ble ti.bytes 65536 = true) (hk0 : 0 < k) (hfit : cap < m + k) (hlen : m + k ≤ 1073741824)
    (hk : ∀ base' cap' A', Ow f e (.slice base' (xs ++ List.replicate k z).length cap') (xs ++ List.replicate k z) A' → putK n fr dst (.v (.slice base' (xs ++ List.replicate k z).length cap')) fun fr => K ⟨fr, bl, A' :: R⟩) :
    VCraw P E n ⟨dst, .call ⟨.builtin .append, #[s, x], #[sT, xT]⟩, ty, pos, after, guard⟩ ⟨fr, bl, R⟩ K := by
  refine ⟨fun a w hr Q => ?_⟩
  obtain ⟨sv, g1, _, rfl⟩ := getK_sound hr hs1
  obtain ⟨sv, g2, _, rfl⟩ := getK_sound hr hx1
  obtain ⟨base', cap', A', w', h1, h2, h3⟩ := run_append_zeros (E := E) (ty := ty) hΓ (undOf_ok hΓ hsT) (undOf_ok hΓ hxT) ht hsz hz hzw hr.sat hr2 hw hk0 hfit hlen (Nat.le_of_ble_eq_true hby)
  have hr' : Rel E n ⟨fr, bl, A' :: R⟩ a w' := by
    refine hr.ids rfl (h3.perm ?_)
    simp only [St.hall, List.flatten_cons]
    rw [← List.append_assoc, ← List.append_assoc]
    exact List.perm_append_comm.append_right _
  refine wp_value (s := .v _) (v := .slice base' (xs ++ List.replicate k z).length cap') ?_ hr' rfl trivial (hk _ _ A' h2)
  simp only [execOp, resolve, invoke, builtin, Sem.run_bind, Sem.run_pure, Result.andThen_ok]
  rw [show (#[s, x] : Array Operand).map a.eval = #[a.eval s, a.eval x] from by simp, g1, g2]
  simp only [SV.den]
  rw [h1]; rfl
/-- the model's entry for slices.overlaps, at two slices of two blocks -/
theorem call_overlaps {fi : FuncId} {fn : Func} {tS tR e : TypeId} {size : Nat} {bl : List Blk} {R : List Hp} {K : Value → List Blk → List Hp → Prop}
    (hf : P.funcs[fi]? = some fn) (hname : (fn.name == "runtime.NumGoroutine") = false) (hb : fn.body.isNone = true) (hn : Extern.findNext fn = none) (he : Extern.find fn = some (Extern.SlicesOverlaps.overlaps #[tS, tS] #[tR]))
    (ht : P.underlying tS = some (.slice e)) (hz : ∀ w, (Go.sizeOf e).run P w = .ok size w) {a b : Addr} {la ca lb cb : Nat} {c1 c2 : Array Value} {t1 t2 : TypeId} {H : Hp}
    (hsp : (St.hall ⟨[], bl, R⟩).Perm ((b.block, Obj.cells c2 t2) :: H)) (m1 : (a.block, Obj.cells c1 t1) ∈ H) (h0 : c2.size ≠ 0) (hk : K (.bool false) bl R) :
    VCcall P E fi [.slice (some a) la ca, .slice (some b) lb cb] ⟨[], bl, R⟩ K := by
  refine .ext fun w hs => ⟨.bool false, w, bl, R, ?_, hs, rfl, hk⟩
  have hs2 := hs.perm hsp
  have e1 := hs2.mem _ _ (List.mem_cons_of_mem _ m1)
  have e2 := hs2.mem _ _ (List.mem_cons_self ..)
  have hne : a.block ≠ b.block := by
    have h1 := hs2.nodup
    rw [List.map_cons, List.nodup_cons] at h1
    intro e
    exact h1.1 (List.mem_map.2 ⟨_, m1, e⟩)
  rw [run_callFunc_extern hf hname hb hn he, show (⟨[.slice (some a) la ca, .slice (some b) lb cb]⟩ : Array Value) = #[.slice (some a) la ca, .slice (some b) lb cb] from rfl,
    Lib.run_overlaps_apart w tS tR e ht size hz a b la ca lb cb hne t1 t2 c1.size c2.size (by simp [World.shape?, e1]) (by simp [World.shape?, e2]) h0 (by simp [World.frozen?, e1]) (by simp [World.frozen?, e1])]
  rfl
end
end Go.SX

namespace Go.Proofs.YtcnclhjhnjpeiaaDoor
open Go.SX Go.Proofs
set_option linter.unusedSimpArgs false
set_option linter.unusedVariables false
set_option maxHeartbeats 4000000
attribute [local irreducible] IntKind.wrap
/-! numbers read -/
theorem by_extract (t : ByteArray) (i k : Nat) : by' (t.extract i k) = ((by' t).drop i).take (k - i) := by
  unfold by'
  rw [ByteArray.data_extract, Array.toList_extract, List.extract_eq_take_drop]
/-! frames -/
end Go.Proofs.YtcnclhjhnjpeiaaDoor

namespace Go.Proofs.YtcnclhjhnjpeiaaDoor
open Go.SX Go.Proofs
set_option linter.unusedSimpArgs false
set_option linter.unusedVariables false
set_option maxHeartbeats 4000000
attribute [local irreducible] IntKind.wrap
--@ct internal/bytealg.CountString raw refine countS ?_
theorem countS {E : World} {bl : List Blk} {R : List Hp} {s : ByteArray} {c : Int} {K : Value → List Blk → List Hp → Prop} (hk : K (.int .i64 (((by' s).count c.toNat.toUInt8 : Nat) : Int)) bl R) :
    VCcall Tryd.prog E 89 [.string s, .int .u8 c] ⟨[], bl, R⟩ K := by
  refine .ext fun w hs => ⟨_, w, bl, R, ?_, hs, rfl, hk⟩
  rw [run_callFunc_extern Tryd.func89 (by kernel_rfl) (by kernel_rfl) (by kernel_rfl) (e := Extern.BytealgCount.count) (by kernel_rfl), show (⟨[.string s, .int .u8 c]⟩ : Array Value) = #[.string s, .int .u8 c] from rfl, Lib.run_countString]
  rfl
--@ct internal/bytealg.IndexByteString raw refine indexS ?_
theorem indexS {E : World} {bl : List Blk} {R : List Hp} {s : ByteArray} {c : Int} {K : Value → List Blk → List Hp → Prop} (hk : K (.int .i64 (Lib.indexByte (by' s) c.toNat.toUInt8)) bl R) :
    VCcall Tryd.prog E 106 [.string s, .int .u8 c] ⟨[], bl, R⟩ K := by
  refine .ext fun w hs => ⟨_, w, bl, R, ?_, hs, rfl, hk⟩
  rw [run_callFunc_extern Tryd.func106 (by kernel_rfl) (by kernel_rfl) (by kernel_rfl) (e := Extern.BytealgIndexByte.indexByte) (by kernel_rfl), show (⟨[.string s, .int .u8 c]⟩ : Array Value) = #[.string s, .int .u8 c] from rfl, Lib.run_indexByteString]
  rfl
theorem sep_same {s : ByteArray} {c : UInt8} (h : [c] = s.toList) : by' s = [c] := by
  have e : (⟨#[c]⟩ : ByteArray).toList = [c] := by simp
  rw [← str_inj.1 (e.trans h)]; rfl
theorem c_back (c : UInt8) : ((c.toNat : Nat) : Int).toNat.toUInt8 = c := by simp
theorem sep_ne (c : UInt8) : ¬ (⟨#[c]⟩ : ByteArray) = ByteArray.empty := fun e => by
  have := congrArg ByteArray.size e
  cases this
theorem sep_one (c : UInt8) : (((⟨#[c]⟩ : ByteArray).size : Nat) : Int) = 1 := rfl
theorem idx_self (c : UInt8) : Lib.indexByte [c] c = 0 := by unfold Lib.indexByte; rw [if_pos (by simp)]
--@ct internal/stringslite.IndexByte val slIndexByte_ct _ _ | trivial
theorem slIndexByte_ct (s : ByteArray) (c : UInt8) : Ct Tryd.prog 99 [.string s, .int .u8 c.toNat] [] (fun _ => True) (fun v A => v = .int .i64 (Lib.indexByte (by' s) c) ∧ A = []) := by
  refine Ct.intro0 G_ok Tryd.func99 rfl rfl rfl fun E H hp => ?_
  refine indexS ?_
  exact ⟨[], ⟨by rw [c_back], rfl⟩, (.le fun a => by (try simp only [setR, List.cons_append, List.nil_append]); simp only [List.flatten_append, List.flatten_cons, List.flatten_nil, List.count_append, List.count_nil, List.append_nil, List.nil_append]; omega)⟩
--@ct internal/stringslite.Index val slIndex_ct _ _ | trivial
theorem slIndex_ct (s : ByteArray) (c : UInt8) : Ct Tryd.prog 90 [.string s, .string ⟨#[c]⟩] [] (fun _ => True) (fun v A => v = .int .i64 (Lib.indexByte (by' s) c) ∧ A = []) := by
  refine Ct.intro0 G_ok Tryd.func90 rfl rfl rfl fun E H hp => ?_
  refine VCsplit.intro (fun q0 => ?_) (fun q0 => ?_)
  ·
    simp at q0
    exact absurd q0 (sep_ne c)
  ·
    simp at q0
    refine VCsplit.intro (fun q1 => ?_) (fun q1 => ?_)
    ·
      simp at q1
      (rw [sep_same (by assumption), idx_self]; exact ⟨[], ⟨rfl, rfl⟩, (.le fun a => by (try simp only [setR, List.cons_append, List.nil_append]); simp only [List.flatten_append, List.flatten_cons, List.flatten_nil, List.count_append, List.count_nil, List.append_nil, List.nil_append]; omega)⟩)
    ·
      simp at q1
      refine VCsplit.intro (fun q2 => ?_) (fun q2 => ?_)
      ·
        simp at q2
        refine VC.intro ?_ ?_
        · omega
        refine call_val (slIndexByte_ct _ _) trivial ?_
        rintro _ rfl
        exact ⟨[], ⟨rfl, rfl⟩, (.le fun a => by (try simp only [setR, List.cons_append, List.nil_append]); simp only [List.flatten_append, List.flatten_cons, List.flatten_nil, List.count_append, List.count_nil, List.append_nil, List.nil_append]; omega)⟩
      ·
        simp at q2
        exact absurd (sep_one c) q2
--@ct strings.Index val sIndex_ct _ _ | trivial
theorem sIndex_ct (s : ByteArray) (c : UInt8) : Ct Tryd.prog 77 [.string s, .string ⟨#[c]⟩] [] (fun _ => True) (fun v A => v = .int .i64 (Lib.indexByte (by' s) c) ∧ A = []) := by
  refine Ct.intro0 G_ok Tryd.func77 rfl rfl rfl fun E H hp => ?_
  refine call_val (slIndex_ct _ _) trivial ?_
  rintro _ rfl
  exact ⟨[], ⟨rfl, rfl⟩, (.le fun a => by (try simp only [setR, List.cons_append, List.nil_append]); simp only [List.flatten_append, List.flatten_cons, List.flatten_nil, List.count_append, List.count_nil, List.append_nil, List.nil_append]; omega)⟩
--@ct strings.Count val sCount_ct _ _ | trivial
theorem sCount_ct (s : ByteArray) (c : UInt8) : Ct Tryd.prog 76 [.string s, .string ⟨#[c]⟩] [] (fun _ => True) (fun v A => v = .int .i64 (((by' s).count c : Nat) : Int) ∧ A = []) := by
  refine Ct.intro0 G_ok Tryd.func76 rfl rfl rfl fun E H hp => ?_
  refine VCsplit.intro (fun q0 => ?_) (fun q0 => ?_)
  ·
    simp at q0
    exact absurd q0 (sep_ne c)
  ·
    simp at q0
    refine VCsplit.intro (fun q1 => ?_) (fun q1 => ?_)
    ·
      simp at q1
      refine VC.intro ?_ ?_
      · omega
      refine countS ?_
      exact ⟨[], ⟨by rw [show ((⟨#[c]⟩ : ByteArray)[Int.toNat 0]?.getD 0) = c from rfl, c_back], rfl⟩, (.le fun a => by (try simp only [setR, List.cons_append, List.nil_append]); simp only [List.flatten_append, List.flatten_cons, List.flatten_nil, List.count_append, List.count_nil, List.append_nil, List.nil_append]; omega)⟩
    ·
      simp at q1
      exact absurd (sep_one c) q1
end Go.Proofs.YtcnclhjhnjpeiaaDoor

namespace Go.Proofs.YtcnclhjhnjpeiaaDoor
open Go.SX Go.Proofs
set_option linter.unusedSimpArgs false
set_option linter.unusedVariables false
set_option maxHeartbeats 4000000
attribute [local irreducible] IntKind.wrap
def splitT (c : UInt8) (s : ByteArray) : List ByteArray := (splitB c (by' s)).map tx
theorem splitT_len (c : UInt8) (s : ByteArray) : (splitT c s).length = (by' s).count c + 1 := by unfold splitT; rw [List.length_map, splitB_len]
/-- i pieces are told, s is left -/
def cutI (c : UInt8) (t : ByteArray) (i : Nat) (s : ByteArray) (xs : List ByteArray) : Prop := xs.length = (splitT c t).length ∧ i < (splitT c t).length ∧ splitT c t = xs.take i ++ splitT c s
theorem cutI_init (c : UInt8) (t : ByteArray) (z : ByteArray) : cutI c t 0 t (List.replicate (splitT c t).length z) := ⟨by simp, by rw [splitT_len]; omega, by simp⟩
theorem cutI_left {c : UInt8} {t s : ByteArray} {i : Nat} {xs : List ByteArray} (h : cutI c t i s xs) : (splitT c t).length = i + (splitT c s).length := by
  have h1 := congrArg List.length h.2.2
  rw [List.length_append, List.length_take, Nat.min_eq_left (by have := h.1; have := h.2.1; omega)] at h1
  exact h1
theorem cutI_step {c : UInt8} {t s : ByteArray} {i : Nat} {xs : List ByteArray} (h : cutI c t i s xs) (hm : ¬ Lib.indexByte (by' s) c = -1) : cutI c t (i + 1) (s.extract ((Lib.indexByte (by' s) c).toNat + 1) s.size) (xs.set i (s.extract 0 (Lib.indexByte (by' s) c).toNat)) := by
  obtain ⟨p, r, e1, e2, e3⟩ := idx_hit hm
  have hk := cutI_left h
  have e4 : (Lib.indexByte (by' s) c).toNat = p.length := by rw [e3]; omega
  have e5 : s.extract 0 p.length = tx p := by
    rw [← by_inj, by_extract, by_tx, e1]
    simp
  have e6 : s.extract (p.length + 1) s.size = tx r := by
    rw [← by_inj, by_extract, by_tx, e1]
    have hz : s.size = p.length + (r.length + 1) := by rw [← by_size, e1]; simp
    rw [hz]
    have : (p ++ c :: r).drop (p.length + 1) = r := by
      rw [show p ++ c :: r = (p ++ [c]) ++ r by simp, show p.length + 1 = (p ++ [c]).length by simp, List.drop_left]
    rw [this]
    exact List.take_of_length_le (by omega)
  have e7 : splitT c s = tx p :: splitT c (tx r) := by
    unfold splitT
    rw [e1, splitB_cut r e2, by_tx]; rfl
  rw [e4, e5, e6]
  rw [e7, List.length_cons] at hk
  have hp := splitT_len c (tx r)
  refine ⟨by rw [List.length_set]; exact h.1, by omega, ?_⟩
  rw [h.2.2, e7]
  have hi : i < xs.length := by have := h.1; have := h.2.1; omega
  rw [List.take_set]
  have : (xs.take (i + 1)).set i (tx p) = xs.take i ++ [tx p] := by
    rw [← List.take_append_getElem hi, List.set_append_right _ _ (by rw [List.length_take]; omega), List.length_take, Nat.min_eq_left (by omega), Nat.sub_self]; rfl
  rw [this, List.append_assoc]; rfl
theorem cutI_none {c : UInt8} {t s : ByteArray} {i : Nat} {xs : List ByteArray} (h : cutI c t i s xs) (hm : Lib.indexByte (by' s) c = -1) : i + 1 = (splitT c t).length := by
  have hk := cutI_left h
  unfold splitT at hk
  rw [List.length_map, List.length_map, splitB_free (idx_none hm)] at hk
  unfold splitT
  rw [List.length_map, hk]; rfl
theorem cutI_end {c : UInt8} {t s : ByteArray} {i : Nat} {xs : List ByteArray} (h : cutI c t i s xs) (hi : i + 1 = (splitT c t).length) : xs.set i s = splitT c t := by
  have hk := cutI_left h
  have h0 : (splitT c s).length = 1 := by omega
  have h1 : splitT c s = [s] := by
    rw [splitT_len] at h0
    have hc : (by' s).count c = 0 := by omega
    unfold splitT
    rw [splitB_free fun x hx e => by
      subst e
      exact absurd (List.count_pos_iff.2 hx) (by omega)]
    rw [List.map_singleton, tx_by]
  have hl : xs.length = i + 1 := by rw [h.1, hi]
  rw [h.2.2, h1]
  obtain ⟨q, e⟩ : ∃ q, xs = xs.take i ++ [q] := ⟨xs[i]'(by omega), by rw [List.take_append_getElem (by omega), List.take_of_length_le (by omega)]⟩
  generalize xs.take i = ys at *
  subst e
  have hy : ys.length = i := by simp at hl; omega
  rw [List.set_append_right _ _ (by omega), hy, Nat.sub_self]; rfl
theorem count_le (c : UInt8) (s : ByteArray) : (by' s).count c ≤ s.size := by rw [← by_size]; exact List.count_le_length
theorem idx_lt {s : ByteArray} {c : UInt8} (h : 0 ≤ Lib.indexByte (by' s) c) : Lib.indexByte (by' s) c + 1 ≤ s.size := by
  obtain ⟨p, r, e1, e2, e3⟩ := idx_hit (l := by' s) (c := c) (by omega)
  have : s.size = p.length + (r.length + 1) := by rw [← by_size, e1]; simp
  omega
theorem sb_zero9 (N x sz : Nat) : subBase N 0 (some ⟨x, 0, none⟩) sz = some ⟨x, 0, none⟩ := by
  rw [subBase_eq]
  split
  · rfl
  rw [Option.map_some, addr_add]; simp
theorem ext_size (s : ByteArray) (i k : Nat) : (s.extract i k).size ≤ s.size := by
  rw [← by_size, by_extract, ← by_size s, List.length_take, List.length_drop]; omega
theorem sp_leaf {c : UInt8} {t s : ByteArray} {xs : List ByteArray} {i x4 N sz : Nat} {A : Hp} (hN : N = (splitT c t).length) (hw : (IntKind.i64.wrap ((i : Int) + 1)).toNat - 0 = (splitT c t).length) (hx : xs.set i s = splitT c t) (o : (gSl 9 gS).ow [.slice (some ⟨x4, 0, none⟩) N N] (xs.set i s) A) :
    ∃ b m, Value.slice (subBase N 0 (some ⟨x4, 0, none⟩) sz) ((IntKind.i64.wrap ((i : Int) + 1)).toNat - 0) (N - 0) = .slice b (splitT c t).length m ∧ (gSl 9 gS).ow [.slice b (splitT c t).length m] (splitT c t) A := by
  subst hN
  rw [hx] at o
  rw [sb_zero9, hw]
  exact ⟨_, _, rfl, o⟩
--@ct strings.genSplit new genSplit_ct _ _ ?_ | trivial | obtain ⟨b#, c#, rfl, o#⟩ := o#
theorem genSplit_ct (t : ByteArray) (c : UInt8) (ht : t.size ≤ 1048576) : Ct Tryd.prog 66 [.string t, .string ⟨#[c]⟩, .int .i64 0, .int .i64 (-1)] [] (fun _ => True)
    (fun v A => ∃ b m, v = .slice b (splitT c t).length m ∧ (gSl 9 gS).ow [.slice b (splitT c t).length m] (splitT c t) A) := by
  refine Ct.intro0 G_ok Tryd.func66 rfl rfl rfl fun E H hp => ?_
  have hcl := count_le c t
  have hsl := splitT_len c t
  have hMM : (if IntKind.i64.wrap ((t.size : Int) + 1) < IntKind.i64.wrap (((List.count c (by' t) : Nat) : Int) + 1) then IntKind.i64.wrap ((t.size : Int) + 1) else IntKind.i64.wrap (((List.count c (by' t) : Nat) : Int) + 1)) = ((splitT c t).length : Int) := by
    rw [wrap_of (x := (t.size : Int) + 1) (by omega) (by omega), wrap_of (x := ((List.count c (by' t) : Nat) : Int) + 1) (by omega) (by omega)]
    split <;> omega
  have hMN : (if IntKind.i64.wrap ((t.size : Int) + 1) < IntKind.i64.wrap (((List.count c (by' t) : Nat) : Int) + 1) then IntKind.i64.wrap ((t.size : Int) + 1) else IntKind.i64.wrap (((List.count c (by' t) : Nat) : Int) + 1)).toNat = (splitT c t).length := by rw [hMM, Int.toNat_natCast]
  refine VCsplit.intro (fun q0 => ?_) (fun q0 => ?_)
  ·
    simp at q0
  ·
    simp at q0
    refine VCsplit.intro (fun q1 => ?_) (fun q1 => ?_)
    ·
      simp at q1
    ·
      simp at q1
      refine VCsplit.intro (fun q2 => ?_) (fun q2 => ?_)
      ·
        simp at q2
        refine call_val (sCount_ct _ _) trivial ?_
        rintro _ rfl
        refine VCmake.intro ?_ ?_ ?_ ?_ fun x4 => ?_
        · (simp (disch := omega) only [wrap_of]; omega)
        · (simp (disch := omega) only [wrap_of]; omega)
        · (simp (disch := omega) only [wrap_of]; omega)
        · (simp (disch := omega) only [wrap_of]; omega)
        apply loop_mod (α := (Nat) × (ByteArray) × (List ByteArray) × (Hp)) G_ok [34, 35, 36, 37, 38, 39, 11, 40, 41, 42, 43, 44, 45, 46, 47, 48, 49, 50, 51, 52, 53, 54, 55, 0, 56, 57, 10] (fun z => [(10, .v (.int .i64 z.1)), (0, .v (.string z.2.1))]) (fun z => []) (fun z => [z.2.2.2, H]) (fun z => (splitT c t).length - z.1) (fun z => cutI c t z.1 z.2.1 z.2.2.1 ∧ z.2.1.size ≤ 1048576 ∧ (gSl 9 gS).ow [.slice (some ⟨x4, 0, none⟩) (if IntKind.i64.wrap ((t.size : Int) + 1) < IntKind.i64.wrap (((List.count c (by' t) : Nat) : Int) + 1) then IntKind.i64.wrap ((t.size : Int) + 1) else IntKind.i64.wrap (((List.count c (by' t) : Nat) : Int) + 1)).toNat (if IntKind.i64.wrap ((t.size : Int) + 1) < IntKind.i64.wrap (((List.count c (by' t) : Nat) : Int) + 1) then IntKind.i64.wrap ((t.size : Int) + 1) else IntKind.i64.wrap (((List.count c (by' t) : Nat) : Int) + 1)).toNat] z.2.2.1 z.2.2.2) ((0, t, List.replicate (splitT c t).length ByteArray.empty, _))
        · repeat' (first | exact trivial | refine ⟨⟨_, rfl, by first | rfl | exact inc_eq _ (by omega) | (refine sl_eq ?_; simp; done) | exact congrArg (fun k => SV.v (Value.string (s.extract k s.size))) hw1 | exact congrArg (fun k => Value.string (s.extract k s.size)) hw1, by first | exact trivial | simp [SV.ok]⟩, ?_⟩)
        · exact trivial
        · try dsimp only
          exact ⟨cutI_init c t _, ht, by rw [← hMN]; exact gmake (g := gS) (T := 9) (z := ByteArray.empty) (gS_ow (x := ByteArray.empty) (by decide)) (Nat.le_refl _) (by rw [hMN]; omega)⟩
        · exact .refl _
        rintro ⟨i, s, xs, W⟩ hI
        obtain ⟨hI, hsz, oW⟩ : cutI c t i s xs ∧ s.size ≤ 1048576 ∧ (gSl 9 gS).ow [.slice (some ⟨x4, 0, none⟩) (if IntKind.i64.wrap ((t.size : Int) + 1) < IntKind.i64.wrap (((List.count c (by' t) : Nat) : Int) + 1) then IntKind.i64.wrap ((t.size : Int) + 1) else IntKind.i64.wrap (((List.count c (by' t) : Nat) : Int) + 1)).toNat (if IntKind.i64.wrap ((t.size : Int) + 1) < IntKind.i64.wrap (((List.count c (by' t) : Nat) : Int) + 1) then IntKind.i64.wrap ((t.size : Int) + 1) else IntKind.i64.wrap (((List.count c (by' t) : Nat) : Int) + 1)).toNat] xs W := hI
        try dsimp only
        refine VCsplit.intro (fun q5 => ?_) (fun q5 => ?_)
        ·
          simp at q5
          simp (disch := omega) only [wrap_of] at q5
          have hil : (i : Int) < xs.length := (by have := hI.1; have := hI.2.1; omega)
          have hs1 := sep_one c
          have hge := Lib.indexByte_ge (by' s) c
          have hsz1 := hI.1
          have hsz2 := hI.2.1
          refine call_val (sIndex_ct _ _) trivial ?_
          rintro _ rfl
          refine VCsplit.intro (fun q7 => ?_) (fun q7 => ?_)
          ·
            simp at q7
            refine idx_rd (Gt.owrd _ oW) ?_ ?_ fun b8 o8 hb8 => ?_
            · omega
            · trivial
            refine gstoreN (Fld.id _) ByteArray.empty (i) 0 rfl rfl oW ?_ ?_ hb8 rfl fl_pl _ (gS_ow ?_) fun A9 o9 => ?_
            · omega
            · trivial
            · omega
            refine VC.intro ?_ ?_
            · (simp (disch := omega) only [wrap_of]; omega)
            (have he := cutI_none hI (by omega); have hx := cutI_end hI he; have hw : (IntKind.i64.wrap ((i : Int) + 1)).toNat - 0 = (splitT c t).length := (by rw [wrap_of (by omega) (by omega)]; omega); exact ⟨A9, sp_leaf hMN hw hx o9, (.le fun a => by (try simp only [setR, List.cons_append, List.nil_append]); simp [List.count_cons, Blk.ent, idOf]; try omega)⟩)
          ·
            simp at q7
            have hix := idx_lt (s := s) (c := c) (by omega)
            have hw1 : (IntKind.i64.wrap (Lib.indexByte (by' s) c + (((⟨#[c]⟩ : ByteArray).size : Nat) : Int))).toNat = (Lib.indexByte (by' s) c).toNat + 1 := (by rw [hs1, wrap_of (by omega) (by omega)]; omega)
            have hw0 : (IntKind.i64.wrap (Lib.indexByte (by' s) c + 0)).toNat = (Lib.indexByte (by' s) c).toNat := (by rw [wrap_of (by omega) (by omega)]; omega)
            refine VC.intro ?_ ?_
            · (simp (disch := omega) only [wrap_of]; omega)
            refine idx_rd (Gt.owrd _ oW) ?_ ?_ fun b10 o10 hb10 => ?_
            · omega
            · trivial
            refine gstoreN (Fld.id _) ByteArray.empty (i) 0 rfl rfl oW ?_ ?_ hb10 rfl fl_pl _ (gS_ow ?_) fun A11 o11 => ?_
            · omega
            · trivial
            · simp; omega
            refine VC.intro ?_ ?_
            · (simp (disch := omega) only [wrap_of]; omega)
            apply loop_stepA (i + 1, s.extract ((Lib.indexByte (by' s) c).toNat + 1) s.size, xs.set i (s.extract 0 (Lib.indexByte (by' s) c).toNat), _)
            · exact .refl _
            · repeat' (first | exact trivial | refine ⟨⟨_, rfl, by first | rfl | exact inc_eq _ (by omega) | (refine sl_eq ?_; simp; done) | exact congrArg (fun k => SV.v (Value.string (s.extract k s.size))) hw1 | exact congrArg (fun k => Value.string (s.extract k s.size)) hw1, by first | exact trivial | simp [SV.ok]⟩, ?_⟩)
            · exact trivial
            · try dsimp only
              exact ⟨cutI_step hI (by omega), Nat.le_trans (ext_size _ _ _) hsz, by rw [← hw0]; assumption⟩
            try dsimp only
            omega
        ·
          simp at q5
          simp (disch := omega) only [wrap_of] at q5
          have hil : (i : Int) < xs.length := (by have := hI.1; have := hI.2.1; omega)
          have hsz1 := hI.1
          have hsz2 := hI.2.1
          refine idx_rd (Gt.owrd _ oW) ?_ ?_ fun b12 o12 hb12 => ?_
          · omega
          · trivial
          refine gstoreN (Fld.id _) ByteArray.empty (i) 0 rfl rfl oW ?_ ?_ hb12 rfl fl_pl _ (gS_ow ?_) fun A13 o13 => ?_
          · omega
          · trivial
          · omega
          refine VC.intro ?_ ?_
          · (simp (disch := omega) only [wrap_of]; omega)
          (have he : i + 1 = (splitT c t).length := (by omega); have hx := cutI_end hI he; have hw : (IntKind.i64.wrap ((i : Int) + 1)).toNat - 0 = (splitT c t).length := (by rw [wrap_of (by omega) (by omega)]; omega); exact ⟨A13, sp_leaf hMN hw hx o13, (.le fun a => by (try simp only [setR, List.cons_append, List.nil_append]); simp [List.count_cons, Blk.ent, idOf]; try omega)⟩)
      ·
        simp at q2
--@ct strings.Split new sSplit_ct _ _ ?_ | trivial | obtain ⟨b#, c#, rfl, o#⟩ := o#
theorem sSplit_ct (t : ByteArray) (c : UInt8) (ht : t.size ≤ 1048576) : Ct Tryd.prog 52 [.string t, .string ⟨#[c]⟩] [] (fun _ => True)
    (fun v A => ∃ b m, v = .slice b (splitT c t).length m ∧ (gSl 9 gS).ow [.slice b (splitT c t).length m] (splitT c t) A) := by
  refine Ct.intro0 G_ok Tryd.func52 rfl rfl rfl fun E H hp => ?_
  refine call_new (genSplit_ct _ _ ?_) trivial ?_
  · trivial
  rintro v0 A0 o0
  obtain ⟨b0, c0, rfl, o0⟩ := o0
  exact ⟨_, ⟨_, _, rfl, by assumption⟩, (.le fun a => by (try simp only [setR, List.cons_append, List.nil_append]); simp [List.count_cons, Blk.ent, idOf]; try omega)⟩
end Go.Proofs.YtcnclhjhnjpeiaaDoor

namespace Go.Proofs.YtcnclhjhnjpeiaaDoor
open Go.SX Go.Proofs
set_option linter.unusedSimpArgs false
set_option linter.unusedVariables false
set_option maxHeartbeats 4000000
attribute [local irreducible] IntKind.wrap
theorem toL_nil7 {s : ByteArray} : s.toList = [] ↔ s.size = 0 := by
  have e : (ByteArray.empty).toList = [] := by simp
  constructor
  · intro h
    have h2 : s = ByteArray.empty := str_inj.1 (h.trans e.symm)
    rw [h2]; rfl
  intro h
  have h2 := by_size s
  rw [h] at h2
  have h3 : by' s = by' ByteArray.empty := (List.length_eq_zero_iff.1 h2).trans rfl
  rw [by_inj.1 h3, e]
def endsC (c : UInt8) (t : ByteArray) : Bool := decide ((by' t).getLast? = some c)
def trimC (c : UInt8) (t : ByteArray) : ByteArray := if endsC c t = true then t.extract 0 (t.size - 1) else t
theorem last_iff {c : UInt8} {t : ByteArray} (h : 1 ≤ t.size) : (t.extract (t.size - 1) t.size).toList = [c] ↔ (by' t).getLast? = some c := by
  have e : (⟨#[c]⟩ : ByteArray).toList = [c] := by simp
  have hl : (by' t).length = t.size := by_size t
  have hne : by' t ≠ [] := fun h0 => by rw [h0] at hl; simp at hl; omega
  rw [← e, str_inj, ← by_inj, by_extract, show by' (⟨#[c]⟩ : ByteArray) = [c] from rfl]
  have hd := List.dropLast_concat_getLast hne
  rw [List.getLast?_eq_some_getLast hne]
  generalize (by' t).getLast hne = z at *
  generalize (by' t).dropLast = u at *
  rw [← hd] at hl ⊢
  have hu : u.length = t.size - 1 := by simp at hl; omega
  rw [← hu, List.drop_left, show t.size - u.length = 1 by omega]
  simp
theorem ends_val {c : UInt8} {t : ByteArray} {k : Nat} (h : 1 ≤ t.size) (hk : k = t.size - 1) : ((t.extract k t.size).toList == (⟨#[c]⟩ : ByteArray).toList) = endsC c t := by
  subst hk
  have e : (⟨#[c]⟩ : ByteArray).toList = [c] := by simp
  rw [Bool.eq_iff_iff, beq_iff_eq, e]
  unfold endsC
  rw [decide_eq_true_iff, last_iff h]
theorem ends_nil {c : UInt8} {t : ByteArray} (h : t.size = 0) : endsC c t = false := by
  have : by' t = [] := List.length_eq_zero_iff.1 (by rw [by_size]; exact h)
  unfold endsC
  rw [this]; simp
theorem ends_pos {c : UInt8} {t : ByteArray} (h : endsC c t = true) : 1 ≤ t.size := by
  by_cases h0 : t.size = 0
  · rw [ends_nil h0] at h; cases h
  omega
theorem trim_yes {c : UInt8} {t : ByteArray} (h : endsC c t = true) : trimC c t = t.extract 0 (t.size - 1) := if_pos h
theorem trim_no {c : UInt8} {t : ByteArray} (h : endsC c t = false) : trimC c t = t := if_neg (by rw [h]; decide)
theorem trim_split {t : ByteArray} (h : ¬ t.size = 0) : splitT 10 (trimC 10 t) = (linesB (by' t)).map tx := by
  have hl : (by' t).length = t.size := by_size t
  have hne : by' t ≠ [] := fun h0 => by rw [h0] at hl; simp at hl; omega
  have hd := List.dropLast_concat_getLast hne
  have hg := List.getLast?_eq_some_getLast hne
  unfold splitT
  cases he : endsC 10 t with
  | true =>
    have h1 : (by' t).getLast hne = 10 := by
      unfold endsC at he
      have := of_decide_eq_true he
      rw [hg] at this
      exact Option.some.inj this
    rw [h1] at hd
    rw [trim_yes he, by_extract, ← hd, linesB_end]
    congr 2
    have : (by' t).dropLast.length = t.size - 1 := by rw [List.length_dropLast, hl]
    simp only [List.drop_zero, Nat.sub_zero]
    rw [← this, List.take_left]
  | false =>
    have h1 : ¬ (by' t).getLast hne = 10 := fun e => by
      unfold endsC at he
      have := of_decide_eq_false he
      rw [hg, e] at this
      exact this rfl
    rw [trim_no he, ← hd, linesB_open h1, hd]
def linesT (t : ByteArray) : List ByteArray := (linesB (by' t)).map tx
theorem linesT_nil {t : ByteArray} (h : t.size = 0) : linesT t = [] := by
  have : by' t = [] := List.length_eq_zero_iff.1 (by rw [by_size]; exact h)
  unfold linesT
  rw [this]; rfl
--@ct internal/stringslite.HasSuffix val hasSuffix_ct _ _ ?_ | trivial
theorem hasSuffix_ct (t : ByteArray) (c : UInt8) (ht : t.size ≤ 1048576) : Ct Tryd.prog 78 [.string t, .string ⟨#[c]⟩] [] (fun _ => True) (fun v A => v = .bool (endsC c t) ∧ A = []) := by
  refine Ct.intro0 G_ok Tryd.func78 rfl rfl rfl fun E H hp => ?_
  have hs1 := sep_one c
  refine VCsplit.intro (fun q0 => ?_) (fun q0 => ?_)
  ·
    simp at q0
    refine VC.intro ?_ ?_
    · (simp (disch := omega) only [wrap_of]; omega)
    exact ⟨[], ⟨congrArg Value.bool (ends_val (by omega) (by rw [wrap_of (by omega) (by omega)]; omega)), rfl⟩, (.le fun a => by (try simp only [setR, List.cons_append, List.nil_append]); simp only [List.flatten_append, List.flatten_cons, List.flatten_nil, List.count_append, List.count_nil, List.append_nil, List.nil_append]; omega)⟩
  ·
    simp at q0
    exact ⟨[], ⟨by rw [ends_nil (by omega)], rfl⟩, (.le fun a => by (try simp only [setR, List.cons_append, List.nil_append]); simp only [List.flatten_append, List.flatten_cons, List.flatten_nil, List.count_append, List.count_nil, List.append_nil, List.nil_append]; omega)⟩
--@ct internal/stringslite.TrimSuffix val trimSuffix_ct _ _ ?_ | trivial
theorem trimSuffix_ct (t : ByteArray) (c : UInt8) (ht : t.size ≤ 1048576) : Ct Tryd.prog 67 [.string t, .string ⟨#[c]⟩] [] (fun _ => True) (fun v A => v = .string (trimC c t) ∧ A = []) := by
  refine Ct.intro0 G_ok Tryd.func67 rfl rfl rfl fun E H hp => ?_
  have hs1 := sep_one c
  refine call_val (hasSuffix_ct _ _ ?_) trivial ?_
  · trivial
  rintro _ rfl
  refine VCsplit.intro (fun q1 => ?_) (fun q1 => ?_)
  ·
    have he1 := ends_pos q1
    refine VC.intro ?_ ?_
    · (simp (disch := omega) only [wrap_of]; omega)
    exact ⟨[], ⟨by rw [trim_yes (by assumption), show (IntKind.i64.wrap ((t.size : Int) - (((⟨#[c]⟩ : ByteArray).size : Nat) : Int))).toNat = t.size - 1 by (rw [wrap_of (by omega) (by omega)]; omega)], rfl⟩, (.le fun a => by (try simp only [setR, List.cons_append, List.nil_append]); simp only [List.flatten_append, List.flatten_cons, List.flatten_nil, List.count_append, List.count_nil, List.append_nil, List.nil_append]; omega)⟩
  ·
    exact ⟨[], ⟨by rw [trim_no (by assumption)], rfl⟩, (.le fun a => by (try simp only [setR, List.cons_append, List.nil_append]); simp only [List.flatten_append, List.flatten_cons, List.flatten_nil, List.count_append, List.count_nil, List.append_nil, List.nil_append]; omega)⟩
--@ct strings.TrimSuffix val sTrimSuffix_ct _ _ ?_ | trivial
theorem sTrimSuffix_ct (t : ByteArray) (c : UInt8) (ht : t.size ≤ 1048576) : Ct Tryd.prog 53 [.string t, .string ⟨#[c]⟩] [] (fun _ => True) (fun v A => v = .string (trimC c t) ∧ A = []) := by
  refine Ct.intro0 G_ok Tryd.func53 rfl rfl rfl fun E H hp => ?_
  refine call_val (trimSuffix_ct _ _ ?_) trivial ?_
  · trivial
  rintro _ rfl
  exact ⟨[], ⟨rfl, rfl⟩, (.le fun a => by (try simp only [setR, List.cons_append, List.nil_append]); simp only [List.flatten_append, List.flatten_cons, List.flatten_nil, List.count_append, List.count_nil, List.append_nil, List.nil_append]; omega)⟩
theorem trim_size (c : UInt8) (t : ByteArray) : (trimC c t).size ≤ t.size := by
  unfold trimC; split
  · exact ext_size _ _ _
  exact Nat.le_refl _
theorem lines_leaf {t : ByteArray} {b : Option Addr} {m : Nat} {A : Hp} (h : ¬ t.size = 0) (o : (gSl 9 gS).ow [.slice b (splitT 10 (trimC 10 t)).length m] (splitT 10 (trimC 10 t)) A) :
    ∃ b' m', Value.slice b (splitT 10 (trimC 10 t)).length m = .slice b' (linesT t).length m' ∧ (gSl 9 gS).ow [.slice b' (linesT t).length m'] (linesT t) A := by
  rw [trim_split h] at o ⊢
  exact ⟨b, m, rfl, o⟩
--@ct impl.scriptLines new scriptLines_ct _ ?_ | trivial | obtain ⟨b#, c#, rfl, o#⟩ := o#
theorem scriptLines_ct (t : ByteArray) (ht : t.size ≤ 1048576) : Ct Tryd.prog 30 [.string t] [] (fun _ => True)
    (fun v A => ∃ b m, v = .slice b (linesT t).length m ∧ (gSl 9 gS).ow [.slice b (linesT t).length m] (linesT t) A) := by
  refine Ct.intro0 G_ok Tryd.func30 rfl rfl rfl fun E H hp => ?_
  refine VCsplit.intro (fun q0 => ?_) (fun q0 => ?_)
  ·
    simp at q0
    (have h0 : t.size = 0 := toL_nil7.1 (by assumption); exact ⟨[], ⟨none, 0, by rw [linesT_nil h0]; rfl, by rw [linesT_nil h0]; exact sl_nil _ _ _⟩, (.le fun a => by (try simp only [setR, List.cons_append, List.nil_append]); simp only [List.flatten_append, List.flatten_cons, List.flatten_nil, List.count_append, List.count_nil, List.append_nil, List.nil_append]; omega)⟩)
  ·
    simp at q0
    refine call_val (sTrimSuffix_ct _ _ ?_) trivial ?_
    · trivial
    rintro _ rfl
    refine call_new (sSplit_ct _ _ ?_) trivial ?_
    · exact Nat.le_trans (trim_size _ _) ht
    rintro v2 A2 o2
    obtain ⟨b2, c2, rfl, o2⟩ := o2
    exact ⟨_, lines_leaf (fun h0 => absurd (toL_nil7.2 h0) (by assumption)) (by assumption), (.le fun a => by (try simp only [setR, List.cons_append, List.nil_append]); simp [List.count_cons, Blk.ent, idOf]; try omega)⟩
end Go.Proofs.YtcnclhjhnjpeiaaDoor

namespace Go.Proofs.YtcnclhjhnjpeiaaDoor
open Go.SX Go.Proofs
set_option maxHeartbeats 1000000
/-- i bytes are read, the piece under way begins at b, out are the pieces before it -/
def cutS (c : UInt8) (t : List UInt8) (i b : Nat) (out : List (List UInt8)) : Prop := (b ≤ i ∧ i ≤ t.length) ∧ (∀ x ∈ (t.drop b).take (i - b), ¬ x = c) ∧ splitB c t = out ++ splitB c (t.drop b)
theorem cutS_init (c : UInt8) (t : List UInt8) : cutS c t 0 0 [] := ⟨⟨Nat.le_refl _, Nat.zero_le _⟩, by simp, rfl⟩
theorem take_more8 {t : List UInt8} {b i : Nat} (hb : b ≤ i) (hi : i < t.length) : (t.drop b).take (i + 1 - b) = (t.drop b).take (i - b) ++ [t[i]?.getD 0] := by
  have hl : i - b < (t.drop b).length := by rw [List.length_drop]; omega
  rw [show i + 1 - b = (i - b) + 1 by omega, ← List.take_append_getElem hl, List.getElem_drop]
  congr 2
  rw [List.getElem?_eq_getElem hi]
  show t[b + (i - b)] = t[i]
  congr 1; omega
theorem drop_at8 {t : List UInt8} {b i : Nat} (hb : b ≤ i) (hi : i < t.length) : t.drop b = (t.drop b).take (i - b) ++ (t[i]?.getD 0) :: t.drop (i + 1) := by
  have h1 := List.take_append_drop (i - b) (t.drop b)
  rw [List.drop_drop, show b + (i - b) = i by omega, List.drop_eq_getElem_cons hi] at h1
  rw [List.getElem?_eq_getElem hi]
  exact h1.symm
theorem cutS_miss {c : UInt8} {t : List UInt8} {i b : Nat} {out : List (List UInt8)} (h : cutS c t i b out) (hi : i < t.length) (hx : ¬ t[i]?.getD 0 = c) : cutS c t (i + 1) b out := by
  obtain ⟨⟨h1, h2⟩, h3, h4⟩ := h
  refine ⟨⟨by omega, hi⟩, fun x hm => ?_, h4⟩
  rw [take_more8 h1 hi] at hm
  rcases List.mem_append.1 hm with hm | hm
  · exact h3 x hm
  rw [List.mem_singleton.1 hm]; exact hx
theorem cutS_hit {c : UInt8} {t : List UInt8} {i b : Nat} {out : List (List UInt8)} (h : cutS c t i b out) (hi : i < t.length) (hx : t[i]?.getD 0 = c) : cutS c t (i + 1) (i + 1) (out ++ [(t.drop b).take (i - b)]) := by
  obtain ⟨⟨h1, h2⟩, h3, h4⟩ := h
  refine ⟨⟨Nat.le_refl _, hi⟩, by rw [Nat.sub_self]; simp, ?_⟩
  have hd := drop_at8 h1 hi
  rw [hx] at hd
  rw [h4]
  conv => lhs; rw [hd]
  rw [splitB_cut _ h3, List.append_assoc]; rfl
theorem cutS_end {c : UInt8} {t : List UInt8} {b : Nat} {out : List (List UInt8)} (h : cutS c t t.length b out) : splitB c t = out ++ [t.drop b] := by
  obtain ⟨⟨h1, h2⟩, h3, h4⟩ := h
  have : (t.drop b).take (t.length - b) = t.drop b := List.take_of_length_le (by rw [List.length_drop]; exact Nat.le_refl _)
  rw [this] at h3
  rw [h4, splitB_free h3]
theorem lines_last {t : List UInt8} {b : Nat} {out : List (List UInt8)} (h : cutS 10 t t.length b out) (hb : b < t.length) : linesB t = out ++ [t.drop b] := by
  have h1 := cutS_end h
  unfold linesB
  rw [h1, if_neg]
  rw [List.getLast?_concat]
  intro e
  have := congrArg List.length (Option.some.inj e)
  rw [List.length_drop] at this
  simp at this; omega
theorem lines_none {t : List UInt8} {b : Nat} {out : List (List UInt8)} (h : cutS 10 t t.length b out) (hb : ¬ b < t.length) : linesB t = out := by
  have h1 := cutS_end h
  have h2 : t.drop b = [] := List.drop_eq_nil_iff.2 (by omega)
  unfold linesB
  rw [h1, h2, if_pos (List.getLast?_concat), List.dropLast_concat]
/-- the parts of a line -/
def neB (l : List UInt8) : Bool := decide (0 < l.length)
def partsB (t : List UInt8) : List (List UInt8) := (splitB 32 t).filter neB
def inW (x : UInt8) : Bool := decide (32 ≤ x.toNat ∧ x.toNat ≤ 126)
def wordsK (t : List UInt8) (i : Nat) : Bool := (t.take i).all inW
def partsOk (t : ByteArray) : Bool := decide (t.size ≤ 600) && (wordsK (by' t) t.size && decide ((partsB (by' t)).length ≤ 10))
def partsT (t : ByteArray) : List ByteArray := (partsB (by' t)).map tx
theorem words_step {t : List UInt8} {i : Nat} (h : wordsK t i = true) (hi : i < t.length) (hx : inW (t[i]?.getD 0) = true) : wordsK t (i + 1) = true := by
  unfold wordsK at h ⊢
  rw [← List.take_append_getElem hi, List.all_append, h]
  rw [List.getElem?_eq_getElem hi] at hx
  have hx' : inW t[i] = true := hx
  simp [hx']
theorem words_no {t : List UInt8} {i n : Nat} (hi : i < t.length) (hn : i < n) (hx : inW (t[i]?.getD 0) = false) : wordsK t n = false := by
  unfold wordsK
  rw [List.all_eq_false]
  refine ⟨t[i], List.mem_take_iff_getElem.2 ⟨i, by omega, rfl⟩, ?_⟩
  rw [List.getElem?_eq_getElem hi] at hx
  have hx' : inW t[i] = false := hx
  rw [hx']; simp
theorem parts_no1 {t : ByteArray} (h : ¬ t.size ≤ 600) : partsOk t = false := by unfold partsOk; rw [decide_eq_false h]; rfl
theorem parts_no2 {t : ByteArray} {i : Nat} (hi : i < t.size) (hx : inW ((by' t)[i]?.getD 0) = false) : partsOk t = false := by
  unfold partsOk
  rw [words_no (by rw [by_size]; exact hi) hi hx]; simp
theorem parts_no3 {t : ByteArray} (h : ¬ (partsT t).length ≤ 10) : partsOk t = false := by
  unfold partsT at h
  rw [List.length_map] at h
  unfold partsOk
  rw [decide_eq_false h]; simp
theorem parts_yes {t : ByteArray} (h1 : t.size ≤ 600) (h2 : wordsK (by' t) t.size = true) (h3 : (partsT t).length ≤ 10) : partsOk t = true := by
  unfold partsT at h3
  rw [List.length_map] at h3
  unfold partsOk
  rw [decide_eq_true h1, h2, decide_eq_true h3]; rfl
theorem parts_pos {t : ByteArray} : ∀ s ∈ partsT t, 0 < s.size := fun s hs => by
  unfold partsT at hs
  obtain ⟨l, h1, rfl⟩ := List.mem_map.1 hs
  unfold partsB at h1
  have := (List.mem_filter.1 h1).2
  unfold neB at this
  have h2 := of_decide_eq_true this
  rw [← by_size, by_tx]; exact h2
end Go.Proofs.YtcnclhjhnjpeiaaDoor

namespace Go.Proofs.YtcnclhjhnjpeiaaDoor
open Go.SX Go.Proofs
set_option linter.unusedSimpArgs false
set_option linter.unusedVariables false
set_option maxHeartbeats 4000000
attribute [local irreducible] IntKind.wrap
theorem ext_tx (t : ByteArray) (b i : Nat) : t.extract b i = tx (((by' t).drop b).take (i - b)) := by rw [← by_inj, by_extract, by_tx]
theorem ext_tail (t : ByteArray) (b : Nat) : t.extract b t.size = tx ((by' t).drop b) := by
  rw [ext_tx, List.take_of_length_le (by rw [List.length_drop, by_size]; exact Nat.le_refl _)]
theorem map_tx1 (out : List (List UInt8)) (l : List UInt8) : (out ++ [l]).map tx = out.map tx ++ [tx l] := by rw [List.map_append]; rfl
theorem by_is {t : ByteArray} {i : Nat} {c : UInt8} {z : Int} (hz : z = (c.toNat : Int)) (h : (((t[i]?.getD 0).toNat : Nat) : Int) = z) : (by' t)[i]?.getD 0 = c := by
  rw [← by_get]
  apply UInt8.toNat_inj.1
  omega
theorem by_isnt {t : ByteArray} {i : Nat} {c : UInt8} {z : Int} (hz : z = (c.toNat : Int)) (h : ¬ (((t[i]?.getD 0).toNat : Nat) : Int) = z) : ¬ (by' t)[i]?.getD 0 = c := by
  rw [← by_get]
  intro e
  rw [e] at h
  exact h hz.symm
theorem lines_l1 {t : ByteArray} {b i : Nat} {out : List (List UInt8)} {lb : Option Addr} {lc : Nat} {D : Hp} (hi : i = t.size) (hC : cutS 10 (by' t) i b out) (hb : b < t.size) (o : (gSl 9 gS).ow [.slice lb (out.map tx ++ [t.extract b t.size]).length lc] (out.map tx ++ [t.extract b t.size]) D) :
    ∃ b' m', Value.slice lb (out.map tx ++ [t.extract b t.size]).length lc = .slice b' (linesT t).length m' ∧ (gSl 9 gS).ow [.slice b' (linesT t).length m'] (linesT t) D := by
  subst hi
  have e : linesT t = out.map tx ++ [t.extract b t.size] := by
    unfold linesT
    rw [lines_last (by rw [by_size]; exact hC) (by rw [by_size]; exact hb), map_tx1, ext_tail]
  rw [e]
  exact ⟨lb, lc, rfl, o⟩
theorem lines_l2 {t : ByteArray} {b i : Nat} {out : List (List UInt8)} {lb : Option Addr} {lc : Nat} {D : Hp} (hi : i = t.size) (hC : cutS 10 (by' t) i b out) (hb : t.size ≤ b) (o : (gSl 9 gS).ow [.slice lb (out.map tx).length lc] (out.map tx) D) :
    ∃ b' m', Value.slice lb (out.map tx).length lc = .slice b' (linesT t).length m' ∧ (gSl 9 gS).ow [.slice b' (linesT t).length m'] (linesT t) D := by
  subst hi
  have e : linesT t = out.map tx := by
    unfold linesT
    rw [lines_none (by rw [by_size]; exact hC) (by rw [by_size]; omega)]
  rw [e]
  exact ⟨lb, lc, rfl, o⟩
--@ct spec.l27Lines new l27Lines_ct _ ?_ | trivial | obtain ⟨b#, c#, rfl, o#⟩ := o#
theorem l27Lines_ct (t : ByteArray) (ht : t.size ≤ 1048576) : Ct Tryd.prog 29 [.string t] [] (fun _ => True)
    (fun v A => ∃ b m, v = .slice b (linesT t).length m ∧ (gSl 9 gS).ow [.slice b (linesT t).length m] (linesT t) A) := by
  refine Ct.intro0 G_ok Tryd.func29 rfl rfl rfl fun E H hp => ?_
  have hbs := by_size t
  refine VCnew.intro fun x0 => ?_
  apply loop_mod (α := (Nat) × (Nat) × (List (List UInt8)) × (Hp) × (Option Addr) × (Nat)) G_ok [7, 8, 9, 10, 13, 14, 15, 16, 17, 18, 19, 20, 21, 22, 23, 3, 24, 25, 4, 11, 12, 5] (fun z => [(5, .v (.int .i64 z.1)), (4, .v (.int .i64 z.2.1)), (3, .v (.slice z.2.2.2.2.1 (z.2.2.1.map tx).length z.2.2.2.2.2))]) (fun z => []) (fun z => [z.2.2.2.1, [(x0, Obj.cells { toList := zeros (0 : Nat) [Value.string ByteArray.empty] } (9 : TypeId))], H]) (fun z => t.size - z.1) (fun z => cutS 10 (by' t) z.1 z.2.1 z.2.2.1 ∧ z.2.2.1.length ≤ z.1 ∧ (gSl 9 gS).ow [.slice z.2.2.2.2.1 (z.2.2.1.map tx).length z.2.2.2.2.2] (z.2.2.1.map tx) z.2.2.2.1) ((0, 0, [], [], _, 0))
  · repeat' (first | exact trivial | refine ⟨⟨_, rfl, by first | rfl | exact inc_eq _ (by omega) | (refine sl_eq ?_; simp; done) | exact congrArg SV.v (sl_eq (by rw [map_tx1, List.length_append, List.length_append]; rfl)) | exact sl_eq (by rw [map_tx1, List.length_append, List.length_append]; rfl), by first | exact trivial | simp [SV.ok]⟩, ?_⟩)
  · exact trivial
  · try dsimp only
    exact ⟨cutS_init _ _, Nat.le_refl _, sl_nil _ _ _⟩
  · exact .refl _
  rintro ⟨i, b, out, D, lb, lc⟩ hI
  obtain ⟨hC, hol, oD⟩ : cutS 10 (by' t) i b out ∧ out.length ≤ i ∧ (gSl 9 gS).ow [.slice lb (out.map tx).length lc] (out.map tx) D := hI
  try dsimp only
  refine VCsplit.intro (fun q1 => ?_) (fun q1 => ?_)
  ·
    simp at q1
    have hbi := hC.1.1
    have hlm : (out.map tx).length = out.length := List.length_map ..
    refine VC.intro ?_ ?_
    · omega
    refine VCsplit.intro (fun q2 => ?_) (fun q2 => ?_)
    ·
      simp at q2
      refine VC.intro ?_ ?_
      · omega
      refine VC.intro ?_ ?_
      · omega
      refine VCnew.intro fun x3 => ?_
      refine gappend1 (g := gS) (T := (9 : TypeId)) G_ok D [] [[(x0, Obj.cells { toList := zeros (0 : Nat) [Value.string ByteArray.empty] } (9 : TypeId))], H] ?_ oD (gS_ow ?_) (List.mem_of_getElem? (i := 0) rfl) rfl rfl rfl rfl rfl rfl rfl rfl ?_ fun b4 c4 A4 o4 => ?_
      · exact .tl
      · simp; omega
      · omega
      apply loop_stepA (i + 1, i + 1, out ++ [((by' t).drop b).take (i - b)], _, _, _)
      · exact .refl _
      · repeat' (first | exact trivial | refine ⟨⟨_, rfl, by first | rfl | exact inc_eq _ (by omega) | (refine sl_eq ?_; simp; done) | exact congrArg SV.v (sl_eq (by rw [map_tx1, List.length_append, List.length_append]; rfl)) | exact sl_eq (by rw [map_tx1, List.length_append, List.length_append]; rfl), by first | exact trivial | simp [SV.ok]⟩, ?_⟩)
      · exact trivial
      · try dsimp only
        exact ⟨cutS_hit hC (by omega) (by_is rfl (by assumption)), by rw [List.length_append, List.length_singleton]; omega, by rw [map_tx1, ← ext_tx]; assumption⟩
      try dsimp only
      omega
    ·
      simp at q2
      apply loop_stepA (i + 1, b, out, D, lb, lc)
      · exact .refl _
      · repeat' (first | exact trivial | refine ⟨⟨_, rfl, by first | rfl | exact inc_eq _ (by omega) | (refine sl_eq ?_; simp; done) | exact congrArg SV.v (sl_eq (by rw [map_tx1, List.length_append, List.length_append]; rfl)) | exact sl_eq (by rw [map_tx1, List.length_append, List.length_append]; rfl), by first | exact trivial | simp [SV.ok]⟩, ?_⟩)
      · exact trivial
      · try dsimp only
        exact ⟨cutS_miss hC (by omega) (by_isnt rfl (by assumption)), by omega, oD⟩
      try dsimp only
      omega
  ·
    simp at q1
    have hbi := hC.1.1
    have hil := hC.1.2
    have hlm : (out.map tx).length = out.length := List.length_map ..
    refine VCsplit.intro (fun q5 => ?_) (fun q5 => ?_)
    ·
      simp at q5
      refine VC.intro ?_ ?_
      · omega
      refine VCnew.intro fun x6 => ?_
      refine gappend1 (g := gS) (T := (9 : TypeId)) G_ok D [] [[(x0, Obj.cells { toList := zeros (0 : Nat) [Value.string ByteArray.empty] } (9 : TypeId))], H] ?_ oD (gS_ow ?_) (List.mem_of_getElem? (i := 0) rfl) rfl rfl rfl rfl rfl rfl rfl rfl ?_ fun b7 c7 A7 o7 => ?_
      · exact .tl
      · simp; omega
      · omega
      exact ⟨_, lines_l1 (by omega) hC (by omega) (by assumption), (.le fun a => by (try simp only [setR, List.cons_append, List.nil_append]); simp [List.count_cons, Blk.ent, idOf]; try omega)⟩
    ·
      simp at q5
      exact ⟨_, lines_l2 (by omega) hC (by omega) oD, (.le fun a => by (try simp only [setR, List.cons_append, List.nil_append]); simp [List.count_cons, Blk.ent, idOf]; try omega)⟩
end Go.Proofs.YtcnclhjhnjpeiaaDoor

namespace Go.Proofs.YtcnclhjhnjpeiaaDoor
open Go.SX Go.Proofs
set_option linter.unusedSimpArgs false
set_option linter.unusedVariables false
set_option maxHeartbeats 4000000
attribute [local irreducible] IntKind.wrap
def partsV (t : ByteArray) : List ByteArray := if partsOk t = true then partsT t else []
theorem partsV_yes {t : ByteArray} (h : partsOk t = true) : partsV t = partsT t := if_pos h
theorem partsV_no {t : ByteArray} (h : partsOk t = false) : partsV t = [] := if_neg (by rw [h]; decide)
def neS (s : ByteArray) : Bool := decide (0 < s.size)
theorem parts_split (t : ByteArray) : partsT t = (splitT 32 t).filter neS := by
  unfold partsT partsB splitT
  rw [List.filter_map]
  refine congrArg (List.map tx) (List.filter_congr fun l _ => ?_)
  show neB l = neS (tx l)
  unfold neB neS
  rw [← by_size (tx l), by_tx]
theorem inW_no {t : ByteArray} {i : Nat} (h : (((t[i]?.getD 0).toNat : Nat) : Int) < 32 ∨ 126 < (((t[i]?.getD 0).toNat : Nat) : Int)) : inW ((by' t)[i]?.getD 0) = false := by
  rw [← by_get]
  unfold inW
  exact decide_eq_false (by omega)
theorem inW_yes {t : ByteArray} {i : Nat} (h1 : 32 ≤ (((t[i]?.getD 0).toNat : Nat) : Int)) (h2 : (((t[i]?.getD 0).toNat : Nat) : Int) ≤ 126) : inW ((by' t)[i]?.getD 0) = true := by
  rw [← by_get]
  unfold inW
  exact decide_eq_true (by omega)
theorem ne_yes {xs : List ByteArray} {k : Nat} (hk : k < xs.length) (h : ¬ (xs[k]?.getD ByteArray.empty).toList = []) : (xs.take (k + 1)).filter neS = (xs.take k).filter neS ++ [xs[k]?.getD ByteArray.empty] := by
  have h1 : neS xs[k] = true := by
    rw [List.getElem?_eq_getElem hk] at h
    have h2 : ¬ xs[k].size = 0 := fun e => h (toL_nil7.2 e)
    exact decide_eq_true (by omega)
  rw [← List.take_append_getElem hk, List.filter_append, List.getElem?_eq_getElem hk]
  simp [h1]
theorem ne_no {xs : List ByteArray} {k : Nat} (hk : k < xs.length) (h : (xs[k]?.getD ByteArray.empty).toList = []) : (xs.take (k + 1)).filter neS = (xs.take k).filter neS := by
  have h1 : neS xs[k] = false := by
    rw [List.getElem?_eq_getElem hk] at h
    have h2 : xs[k].size = 0 := toL_nil7.1 h
    exact decide_eq_false (by omega)
  rw [← List.take_append_getElem hk, List.filter_append]
  simp [h1]
theorem parts_end {t : ByteArray} {k : Nat} {out : List ByteArray} (ho : out = ((splitT 32 t).take k).filter neS) (hk : k = (splitT 32 t).length) : out = partsT t := by
  subst hk
  rw [ho, List.take_length, parts_split]
theorem parts_l1 {t : ByteArray} {out : List ByteArray} {lb : Option Addr} {lc : Nat} {D : Hp} (ho : out = partsT t) (h1 : t.size ≤ 600) (h2 : wordsK (by' t) t.size = true) (h3 : out.length ≤ 10) (o : (gSl 9 gS).ow [.slice lb out.length lc] out D) :
    ∃ b m, Value.tuple ⟨[.slice lb out.length lc, .bool true]⟩ = .tuple #[.slice b (partsV t).length m, .bool (partsOk t)] ∧ (gSl 9 gS).ow [.slice b (partsV t).length m] (partsV t) D := by
  subst ho
  have h := parts_yes h1 h2 h3
  rw [partsV_yes h, h]
  exact ⟨lb, lc, rfl, o⟩
--@ct impl.PartsOf new implPartsOf_ct _ | trivial | obtain ⟨b#, c#, rfl, o#⟩ := o#
theorem implPartsOf_ct (t : ByteArray) : Ct Tryd.prog 54 [.string t] [] (fun _ => True)
    (fun v A => ∃ b m, v = .tuple #[.slice b (partsV t).length m, .bool (partsOk t)] ∧ (gSl 9 gS).ow [.slice b (partsV t).length m] (partsV t) A) := by
  refine Ct.intro0 G_ok Tryd.func54 rfl rfl rfl fun E H hp => ?_
  have hbs := by_size t
  have hcl := count_le 32 t
  have hsl := splitT_len 32 t
  refine VCsplit.intro (fun q0 => ?_) (fun q0 => ?_)
  ·
    simp at q0
    (have h0 := parts_no1 (t := t) (by omega); rw [partsV_no h0, h0]; exact ⟨[], ⟨none, 0, rfl, sl_nil _ _ _⟩, (.le fun a => by (try simp only [setR, List.cons_append, List.nil_append]); simp [List.count_cons, Blk.ent, idOf]; try omega)⟩)
  ·
    simp at q0
    apply loop_mod (α := (Nat)) G_ok [11, 12, 13, 14, 17, 18, 19, 20, 21, 22, 23, 24, 25, 26, 2, 3, 15, 16, 4] (fun z => [(4, .v (.int .i64 z))]) (fun z => []) (fun z => [H]) (fun z => t.size - z) (fun z => z ≤ t.size ∧ wordsK (by' t) z = true) ((0))
    · repeat' (first | exact trivial | refine ⟨⟨_, rfl, by first | rfl | exact inc_eq _ (by omega) | (refine sl_eq ?_; simp; done), by first | exact trivial | simp [SV.ok]⟩, ?_⟩)
    · exact trivial
    · exact ⟨Nat.zero_le _, rfl⟩
    · exact .refl _
    rintro i hI
    obtain ⟨hi, hw⟩ : i ≤ t.size ∧ wordsK (by' t) i = true := hI
    try dsimp only
    refine VCsplit.intro (fun q1 => ?_) (fun q1 => ?_)
    ·
      simp at q1
      refine VC.intro ?_ ?_
      · omega
      refine VCsplit.intro (fun q2 => ?_) (fun q2 => ?_)
      ·
        simp at q2
        (have h0 := parts_no2 (t := t) (i := i) (by omega) (inW_no (by omega)); exact ⟨[], ⟨none, 0, by rw [partsV_no h0, h0]; rfl, by rw [partsV_no h0]; exact sl_nil _ _ _⟩, (.le fun a => by (try simp only [setR, List.cons_append, List.nil_append]); simp [List.count_cons, Blk.ent, idOf]; try omega)⟩)
      ·
        simp at q2
        refine VC.intro ?_ ?_
        · omega
        refine VCsplit.intro (fun q3 => ?_) (fun q3 => ?_)
        ·
          simp at q3
          (have h0 := parts_no2 (t := t) (i := i) (by omega) (inW_no (by omega)); exact ⟨[], ⟨none, 0, by rw [partsV_no h0, h0]; rfl, by rw [partsV_no h0]; exact sl_nil _ _ _⟩, (.le fun a => by (try simp only [setR, List.cons_append, List.nil_append]); simp [List.count_cons, Blk.ent, idOf]; try omega)⟩)
        ·
          simp at q3
          apply loop_stepA (i + 1)
          · exact .refl _
          · repeat' (first | exact trivial | refine ⟨⟨_, rfl, by first | rfl | exact inc_eq _ (by omega) | (refine sl_eq ?_; simp; done), by first | exact trivial | simp [SV.ok]⟩, ?_⟩)
          · exact trivial
          · exact ⟨by omega, words_step hw (by omega) (inW_yes (by omega) (by omega))⟩
          omega
    ·
      simp at q1
      have hie : i = t.size := (by omega)
      subst hie
      refine call_new (sSplit_ct _ _ ?_) trivial ?_
      · omega
      rintro v4 A4 o4
      obtain ⟨b4, c4, rfl, o4⟩ := o4
      apply loop_mod (α := (Nat) × (List ByteArray) × (Hp) × (Option Addr) × (Nat)) G_ok [31, 32, 33, 7, 34, 35, 36, 37, 38, 39, 5, 40, 30] (fun z => [(30, .v (.int .i64 z.1)), (5, .v (.slice z.2.2.2.1 z.2.1.length z.2.2.2.2))]) (fun z => []) (fun z => [z.2.2.1, A4, H]) (fun z => (splitT 32 t).length - z.1) (fun z => z.1 ≤ (splitT 32 t).length ∧ z.2.1 = ((splitT 32 t).take z.1).filter neS ∧ z.2.1.length ≤ z.1 ∧ (gSl 9 gS).ow [.slice z.2.2.2.1 z.2.1.length z.2.2.2.2] z.2.1 z.2.2.1) ((0, [], [], none, 0))
      · repeat' (first | exact trivial | refine ⟨⟨_, rfl, by first | rfl | exact inc_eq _ (by omega) | (refine sl_eq ?_; simp; done), by first | exact trivial | simp [SV.ok]⟩, ?_⟩)
      · exact trivial
      · try dsimp only
        exact ⟨Nat.zero_le _, rfl, Nat.le_refl _, sl_nil _ _ _⟩
      · exact .refl _
      rintro ⟨k, out, D, lb, lc⟩ hI
      obtain ⟨hk, ho, hol, oD⟩ : k ≤ (splitT 32 t).length ∧ out = ((splitT 32 t).take k).filter neS ∧ out.length ≤ k ∧ (gSl 9 gS).ow [.slice lb out.length lc] out D := hI
      try dsimp only
      refine VCsplit.intro (fun q5 => ?_) (fun q5 => ?_)
      ·
        simp at q5
        refine idx_rd (Gt.owrd _ o4) ?_ ?_ fun b6 o6 hb6 => ?_
        · omega
        · omega
        refine load_allN ByteArray.empty (k) rfl (Gt.owrd _ o4) ?_ ?_ hb6 rfl (mem_at 1 rfl) fun l7 hl7 => ?_
        · omega
        · omega
        obtain ⟨rfl, hw7⟩ := hl7; simp only [flStr, flInt, okI] at hw7
        refine VCsplit.intro (fun q8 => ?_) (fun q8 => ?_)
        ·
          simp at q8
          refine VCnew.intro fun x9 => ?_
          refine gappend1 (g := gS) (T := (9 : TypeId)) G_ok D [] [A4, H] ?_ oD (gS_ow ?_) (List.mem_of_getElem? (i := 0) rfl) rfl rfl rfl rfl rfl rfl rfl rfl ?_ fun b10 c10 A10 o10 => ?_
          · exact .tl
          · trivial
          · omega
          apply loop_stepA (k + 1, _, _, _, _)
          · exact .refl _
          · repeat' (first | exact trivial | refine ⟨⟨_, rfl, by first | rfl | exact inc_eq _ (by omega) | (refine sl_eq ?_; simp; done), by first | exact trivial | simp [SV.ok]⟩, ?_⟩)
          · exact trivial
          · try dsimp only
            exact ⟨by omega, by rw [ne_yes (by omega) (by assumption), ← ho], by rw [List.length_append, List.length_singleton]; omega, by assumption⟩
          try dsimp only
          omega
        ·
          simp at q8
          apply loop_stepA (k + 1, out, D, lb, lc)
          · exact .refl _
          · repeat' (first | exact trivial | refine ⟨⟨_, rfl, by first | rfl | exact inc_eq _ (by omega) | (refine sl_eq ?_; simp; done), by first | exact trivial | simp [SV.ok]⟩, ?_⟩)
          · exact trivial
          · try dsimp only
            exact ⟨by omega, by rw [ne_no (by omega) (by assumption)]; exact ho, by omega, oD⟩
          try dsimp only
          omega
      ·
        simp at q5
        have hoe := parts_end ho (by omega)
        refine VCsplit.intro (fun q11 => ?_) (fun q11 => ?_)
        ·
          simp at q11
          (have h0 := parts_no3 (t := t) (by rw [← hoe]; omega); exact ⟨[], ⟨none, 0, by rw [partsV_no h0, h0]; rfl, by rw [partsV_no h0]; exact sl_nil _ _ _⟩, (.le fun a => by (try simp only [setR, List.cons_append, List.nil_append]); simp [List.count_cons, Blk.ent, idOf]; try omega)⟩)
        ·
          simp at q11
          exact ⟨_, parts_l1 hoe (by omega) hw (by omega) oD, (.le fun a => by (try simp only [setR, List.cons_append, List.nil_append]); simp [List.count_cons, Blk.ent, idOf]; try omega)⟩
end Go.Proofs.YtcnclhjhnjpeiaaDoor

namespace Go.Proofs.YtcnclhjhnjpeiaaDoor
open Go.SX Go.Proofs
set_option linter.unusedSimpArgs false
set_option linter.unusedVariables false
set_option maxHeartbeats 4000000
attribute [local irreducible] IntKind.wrap
def partI (t : ByteArray) (i b : Nat) (ps : List (List UInt8)) : Prop := (i ≤ t.size ∧ cutS 32 (by' t) i b ps ∧ wordsK (by' t) i = true) ∨ (i = t.size + 1 ∧ ps = splitB 32 (by' t) ∧ wordsK (by' t) t.size = true)
def fltT (ps : List (List UInt8)) : List ByteArray := (ps.filter neB).map tx
theorem partI_cut {t : ByteArray} {i b : Nat} {ps : List (List UInt8)} (h : partI t i b ps) (hi : i ≤ t.size) : cutS 32 (by' t) i b ps ∧ wordsK (by' t) i = true := by
  rcases h with h | h
  · exact h.2
  omega
theorem partI_miss {t : ByteArray} {i b : Nat} {ps : List (List UInt8)} (h : partI t i b ps) (hi : i < t.size) (hx : ¬ (by' t)[i]?.getD 0 = 32) (hw : inW ((by' t)[i]?.getD 0) = true) : partI t (i + 1) b ps := by
  obtain ⟨h1, h2⟩ := partI_cut h (by omega)
  have hl := by_size t
  exact .inl ⟨hi, cutS_miss h1 (by omega) hx, words_step h2 (by omega) hw⟩
theorem partI_hit {t : ByteArray} {i b : Nat} {ps : List (List UInt8)} (h : partI t i b ps) (hi : i < t.size) (hx : (by' t)[i]?.getD 0 = 32) (hw : inW ((by' t)[i]?.getD 0) = true) : partI t (i + 1) (i + 1) (ps ++ [((by' t).drop b).take (i - b)]) := by
  obtain ⟨h1, h2⟩ := partI_cut h (by omega)
  have hl := by_size t
  exact .inl ⟨hi, cutS_hit h1 (by omega) hx, words_step h2 (by omega) hw⟩
theorem partI_end {t : ByteArray} {i b c : Nat} {ps : List (List UInt8)} (h : partI t i b ps) (hi : i = t.size) : partI t (i + 1) c (ps ++ [((by' t).drop b).take (i - b)]) := by
  subst hi
  obtain ⟨h1, h2⟩ := partI_cut h (Nat.le_refl _)
  have hl := by_size t
  refine .inr ⟨rfl, ?_, h2⟩
  rw [← hl] at h1
  rw [cutS_end h1, List.take_of_length_le (by rw [List.length_drop]; omega)]
theorem partI_b {t : ByteArray} {i b : Nat} {ps : List (List UInt8)} (h : partI t i b ps) (hi : i ≤ t.size) : b ≤ i := (partI_cut h hi).1.1.1
theorem flt_yes {t : ByteArray} {i b : Nat} {ps : List (List UInt8)} (hb : b < i) (hi : i ≤ t.size) : fltT (ps ++ [((by' t).drop b).take (i - b)]) = fltT ps ++ [t.extract b i] := by
  have hl := by_size t
  have h1 : neB (((by' t).drop b).take (i - b)) = true := decide_eq_true (by rw [List.length_take, List.length_drop]; omega)
  unfold fltT
  rw [List.filter_append, List.map_append, List.filter_cons_of_pos h1, ext_tx]; rfl
theorem flt_no {t : ByteArray} {i b : Nat} {ps : List (List UInt8)} (hb : ¬ b < i) : fltT (ps ++ [((by' t).drop b).take (i - b)]) = fltT ps := by
  have h1 : neB (((by' t).drop b).take (i - b)) = false := decide_eq_false (by rw [List.length_take]; omega)
  unfold fltT
  rw [List.filter_append, List.filter_cons_of_neg (by rw [h1]; decide)]; simp
theorem flt_end {t : ByteArray} {i b : Nat} {ps : List (List UInt8)} (h : partI t i b ps) (hi : ¬ i ≤ t.size) : fltT ps = partsT t ∧ wordsK (by' t) t.size = true := by
  rcases h with h | h
  · omega
  rw [h.2.1]; exact ⟨rfl, h.2.2⟩
--@ct spec.PartsOf new specPartsOf_ct _ | trivial | obtain ⟨b#, c#, rfl, o#⟩ := o#
theorem specPartsOf_ct (t : ByteArray) : Ct Tryd.prog 48 [.string t] [] (fun _ => True)
    (fun v A => ∃ b m, v = .tuple #[.slice b (partsV t).length m, .bool (partsOk t)] ∧ (gSl 9 gS).ow [.slice b (partsV t).length m] (partsV t) A) := by
  refine Ct.intro0 G_ok Tryd.func48 rfl rfl rfl fun E H hp => ?_
  have hbs := by_size t
  refine VCnew.intro fun x0 => ?_
  refine VCsplit.intro (fun q1 => ?_) (fun q1 => ?_)
  ·
    simp at q1
    (have h0 := parts_no1 (t := t) (by omega); exact ⟨[], ⟨_, 0, by rw [partsV_no h0, h0]; rfl, by rw [partsV_no h0]; exact sl_nil _ _ _⟩, (.le fun a => by (try simp only [setR, List.cons_append, List.nil_append]); simp [List.count_cons, Blk.ent, idOf]; try omega)⟩)
  ·
    simp at q1
    apply loop_mod (α := (Nat) × (Nat) × (List (List UInt8)) × (Hp) × (Option Addr) × (Nat)) G_ok [12, 13, 14, 15, 18, 19, 20, 21, 22, 23, 24, 25, 26, 27, 28, 29, 30, 31, 32, 33, 34, 2, 3, 35, 36, 37, 38, 39, 40, 41, 42, 43, 44, 45, 46, 47, 48, 49, 50, 51, 52, 53, 54, 4, 55, 56, 5, 16, 17, 6] (fun z => [(6, .v (.int .i64 z.1)), (5, .v (.int .i64 z.2.1)), (4, .v (.slice z.2.2.2.2.1 (fltT z.2.2.1).length z.2.2.2.2.2))]) (fun z => []) (fun z => [z.2.2.2.1, [(x0, Obj.cells { toList := zeros (0 : Nat) [Value.string ByteArray.empty] } (9 : TypeId))], H]) (fun z => t.size + 1 - z.1) (fun z => partI t z.1 z.2.1 z.2.2.1 ∧ (fltT z.2.2.1).length ≤ z.1 ∧ (gSl 9 gS).ow [.slice z.2.2.2.2.1 (fltT z.2.2.1).length z.2.2.2.2.2] (fltT z.2.2.1) z.2.2.2.1) ((0, 0, [], [], _, 0))
    · repeat' (first | exact trivial | refine ⟨⟨_, rfl, by first | rfl | exact inc_eq _ (by omega) | (refine sl_eq ?_; simp; done) | exact congrArg SV.v (sl_eq (by rw [flt_yes (by omega) (by omega)]; rfl)) | exact congrArg SV.v (sl_eq (by rw [flt_no (by omega)])) | exact sl_eq (by rw [flt_yes (by omega) (by omega)]; rfl) | exact sl_eq (by rw [flt_no (by omega)]), by first | exact trivial | simp [SV.ok]⟩, ?_⟩)
    · exact trivial
    · try dsimp only
      exact ⟨.inl ⟨Nat.zero_le _, cutS_init _ _, rfl⟩, Nat.le_refl _, sl_nil _ _ _⟩
    · exact .refl _
    rintro ⟨i, b, ps, D, lb, lc⟩ hI
    obtain ⟨hI, hol, oD⟩ : partI t i b ps ∧ (fltT ps).length ≤ i ∧ (gSl 9 gS).ow [.slice lb (fltT ps).length lc] (fltT ps) D := hI
    try dsimp only
    refine VCsplit.intro (fun q2 => ?_) (fun q2 => ?_)
    ·
      simp at q2
      have hbi := partI_b hI (by omega)
      refine VCsplit.intro (fun q3 => ?_) (fun q3 => ?_)
      ·
        simp at q3
        refine VC.intro ?_ ?_
        · omega
        refine VCsplit.intro (fun q4 => ?_) (fun q4 => ?_)
        ·
          simp at q4
          refine VCnew.intro fun x5 => ?_
          (have h0 := parts_no2 (t := t) (i := i) (by omega) (inW_no (by omega)); exact ⟨[], ⟨_, 0, by rw [partsV_no h0, h0]; rfl, by rw [partsV_no h0]; exact sl_nil _ _ _⟩, (.le fun a => by (try simp only [setR, List.cons_append, List.nil_append]); simp [List.count_cons, Blk.ent, idOf]; try omega)⟩)
        ·
          simp at q4
          refine VC.intro ?_ ?_
          · omega
          refine VCsplit.intro (fun q6 => ?_) (fun q6 => ?_)
          ·
            simp at q6
            refine VCnew.intro fun x7 => ?_
            (have h0 := parts_no2 (t := t) (i := i) (by omega) (inW_no (by omega)); exact ⟨[], ⟨_, 0, by rw [partsV_no h0, h0]; rfl, by rw [partsV_no h0]; exact sl_nil _ _ _⟩, (.le fun a => by (try simp only [setR, List.cons_append, List.nil_append]); simp [List.count_cons, Blk.ent, idOf]; try omega)⟩)
          ·
            simp at q6
            refine VCsplit.intro (fun q8 => ?_) (fun q8 => ?_)
            ·
              simp at q8
              refine VC.intro ?_ ?_
              · omega
              refine VCsplit.intro (fun q9 => ?_) (fun q9 => ?_)
              ·
                simp at q9
                apply loop_stepA (i + 1, b, ps, D, lb, lc)
                · exact .refl _
                · repeat' (first | exact trivial | refine ⟨⟨_, rfl, by first | rfl | exact inc_eq _ (by omega) | (refine sl_eq ?_; simp; done) | exact congrArg SV.v (sl_eq (by rw [flt_yes (by omega) (by omega)]; rfl)) | exact congrArg SV.v (sl_eq (by rw [flt_no (by omega)])) | exact sl_eq (by rw [flt_yes (by omega) (by omega)]; rfl) | exact sl_eq (by rw [flt_no (by omega)]), by first | exact trivial | simp [SV.ok]⟩, ?_⟩)
                · exact trivial
                · try dsimp only
                  exact ⟨partI_miss hI (by omega) (by_isnt rfl (by assumption)) (inW_yes (by omega) (by omega)), by omega, oD⟩
                try dsimp only
                omega
              ·
                simp at q9
                refine VCsplit.intro (fun q10 => ?_) (fun q10 => ?_)
                ·
                  simp at q10
                  refine VC.intro ?_ ?_
                  · omega
                  refine VC.intro ?_ ?_
                  · omega
                  refine VCnew.intro fun x11 => ?_
                  refine gappend1 (g := gS) (T := (9 : TypeId)) G_ok D [] [[(x0, Obj.cells { toList := zeros (0 : Nat) [Value.string ByteArray.empty] } (9 : TypeId))], H] ?_ oD (gS_ow ?_) (List.mem_of_getElem? (i := 0) rfl) rfl rfl rfl rfl rfl rfl rfl rfl ?_ fun b12 c12 A12 o12 => ?_
                  · exact .tl
                  · simp; omega
                  · omega
                  apply loop_stepA (i + 1, i + 1, ps ++ [((by' t).drop b).take (i - b)], _, _, _)
                  · exact .refl _
                  · repeat' (first | exact trivial | refine ⟨⟨_, rfl, by first | rfl | exact inc_eq _ (by omega) | (refine sl_eq ?_; simp; done) | exact congrArg SV.v (sl_eq (by rw [flt_yes (by omega) (by omega)]; rfl)) | exact congrArg SV.v (sl_eq (by rw [flt_no (by omega)])) | exact sl_eq (by rw [flt_yes (by omega) (by omega)]; rfl) | exact sl_eq (by rw [flt_no (by omega)]), by first | exact trivial | simp [SV.ok]⟩, ?_⟩)
                  · exact trivial
                  · try dsimp only
                    exact ⟨partI_hit hI (by omega) (by_is rfl (by assumption)) (inW_yes (by omega) (by omega)), by rw [flt_yes (by omega) (by omega), List.length_append, List.length_singleton]; omega, by rw [flt_yes (by omega) (by omega)]; assumption⟩
                  try dsimp only
                  omega
                ·
                  simp at q10
                  apply loop_stepA (i + 1, i + 1, ps ++ [((by' t).drop b).take (i - b)], D, lb, lc)
                  · exact .refl _
                  · repeat' (first | exact trivial | refine ⟨⟨_, rfl, by first | rfl | exact inc_eq _ (by omega) | (refine sl_eq ?_; simp; done) | exact congrArg SV.v (sl_eq (by rw [flt_yes (by omega) (by omega)]; rfl)) | exact congrArg SV.v (sl_eq (by rw [flt_no (by omega)])) | exact sl_eq (by rw [flt_yes (by omega) (by omega)]; rfl) | exact sl_eq (by rw [flt_no (by omega)]), by first | exact trivial | simp [SV.ok]⟩, ?_⟩)
                  · exact trivial
                  · try dsimp only
                    exact ⟨partI_hit hI (by omega) (by_is rfl (by assumption)) (inW_yes (by omega) (by omega)), by rw [flt_no (by omega)]; omega, by rw [flt_no (by omega)]; exact oD⟩
                  try dsimp only
                  omega
            ·
              simp at q8
              exfalso; omega
      ·
        simp at q3
        refine VCsplit.intro (fun q13 => ?_) (fun q13 => ?_)
        ·
          simp at q13
          exfalso; omega
        ·
          simp at q13
          refine VCsplit.intro (fun q14 => ?_) (fun q14 => ?_)
          ·
            simp at q14
            refine VC.intro ?_ ?_
            · omega
            refine VC.intro ?_ ?_
            · omega
            refine VCnew.intro fun x15 => ?_
            refine gappend1 (g := gS) (T := (9 : TypeId)) G_ok D [] [[(x0, Obj.cells { toList := zeros (0 : Nat) [Value.string ByteArray.empty] } (9 : TypeId))], H] ?_ oD (gS_ow ?_) (List.mem_of_getElem? (i := 0) rfl) rfl rfl rfl rfl rfl rfl rfl rfl ?_ fun b16 c16 A16 o16 => ?_
            · exact .tl
            · simp; omega
            · omega
            apply loop_stepA (i + 1, i + 1, ps ++ [((by' t).drop b).take (i - b)], _, _, _)
            · exact .refl _
            · repeat' (first | exact trivial | refine ⟨⟨_, rfl, by first | rfl | exact inc_eq _ (by omega) | (refine sl_eq ?_; simp; done) | exact congrArg SV.v (sl_eq (by rw [flt_yes (by omega) (by omega)]; rfl)) | exact congrArg SV.v (sl_eq (by rw [flt_no (by omega)])) | exact sl_eq (by rw [flt_yes (by omega) (by omega)]; rfl) | exact sl_eq (by rw [flt_no (by omega)]), by first | exact trivial | simp [SV.ok]⟩, ?_⟩)
            · exact trivial
            · try dsimp only
              exact ⟨partI_end hI (by omega), by rw [flt_yes (by omega) (by omega), List.length_append, List.length_singleton]; omega, by rw [flt_yes (by omega) (by omega)]; assumption⟩
            try dsimp only
            omega
          ·
            simp at q14
            apply loop_stepA (i + 1, i + 1, ps ++ [((by' t).drop b).take (i - b)], D, lb, lc)
            · exact .refl _
            · repeat' (first | exact trivial | refine ⟨⟨_, rfl, by first | rfl | exact inc_eq _ (by omega) | (refine sl_eq ?_; simp; done) | exact congrArg SV.v (sl_eq (by rw [flt_yes (by omega) (by omega)]; rfl)) | exact congrArg SV.v (sl_eq (by rw [flt_no (by omega)])) | exact sl_eq (by rw [flt_yes (by omega) (by omega)]; rfl) | exact sl_eq (by rw [flt_no (by omega)]), by first | exact trivial | simp [SV.ok]⟩, ?_⟩)
            · exact trivial
            · try dsimp only
              exact ⟨partI_end hI (by omega), by rw [flt_no (by omega)]; omega, by rw [flt_no (by omega)]; exact oD⟩
            try dsimp only
            omega
    ·
      simp at q2
      obtain ⟨he, hw⟩ := flt_end hI (by omega)
      refine VCsplit.intro (fun q17 => ?_) (fun q17 => ?_)
      ·
        simp at q17
        refine VCnew.intro fun x18 => ?_
        (have h0 := parts_no3 (t := t) (by rw [← he]; omega); exact ⟨[], ⟨_, 0, by rw [partsV_no h0, h0]; rfl, by rw [partsV_no h0]; exact sl_nil _ _ _⟩, (.le fun a => by (try simp only [setR, List.cons_append, List.nil_append]); simp [List.count_cons, Blk.ent, idOf]; try omega)⟩)
      ·
        simp at q17
        exact ⟨_, parts_l1 he (by omega) hw (by omega) oD, (.le fun a => by (try simp only [setR, List.cons_append, List.nil_append]); simp [List.count_cons, Blk.ent, idOf]; try omega)⟩
end Go.Proofs.YtcnclhjhnjpeiaaDoor

namespace Go.Proofs.YtcnclhjhnjpeiaaDoor
open Go.SX Go.Proofs
set_option linter.unusedSimpArgs false
set_option linter.unusedVariables false
set_option maxHeartbeats 4000000
attribute [local irreducible] IntKind.wrap
def digB (x : UInt8) : Bool := decide (48 ≤ x.toNat ∧ x.toNat ≤ 57)
def digsK (t : List UInt8) (i : Nat) : Bool := (t.take i).all digB
def numB (l : List UInt8) : Nat := l.foldl (fun n x => n * 10 + (x.toNat - 48)) 0
def numK (t : List UInt8) (i : Nat) : Nat := numB (t.take i)
theorem num_step {t : List UInt8} {i : Nat} (hi : i < t.length) : numK t (i + 1) = numK t i * 10 + ((t[i]?.getD 0).toNat - 48) := by
  unfold numK numB
  rw [← List.take_append_getElem hi, List.foldl_append, List.getElem?_eq_getElem hi]; rfl
theorem digs_step {t : List UInt8} {i : Nat} (h : digsK t i = true) (hi : i < t.length) (hx : digB (t[i]?.getD 0) = true) : digsK t (i + 1) = true := by
  unfold digsK at h ⊢
  rw [← List.take_append_getElem hi, List.all_append, h]
  rw [List.getElem?_eq_getElem hi] at hx
  have hx' : digB t[i] = true := hx
  simp [hx']
theorem digs_no {t : List UInt8} {i n : Nat} (hi : i < t.length) (hn : i < n) (hx : digB (t[i]?.getD 0) = false) : digsK t n = false := by
  unfold digsK
  rw [List.all_eq_false]
  refine ⟨t[i], List.mem_take_iff_getElem.2 ⟨i, by omega, rfl⟩, ?_⟩
  rw [List.getElem?_eq_getElem hi] at hx
  have hx' : digB t[i] = false := hx
  rw [hx']; simp
theorem num_lt {t : List UInt8} : ∀ i : Nat, i ≤ t.length → digsK t i = true → numK t i < 10 ^ i
  | 0, _, _ => by unfold numK; rw [List.take_zero]; decide
  | i + 1, h, hd => by
    have h0 : digsK t i = true ∧ digB (t[i]?.getD 0) = true := by
      unfold digsK at hd ⊢
      rw [← List.take_append_getElem (by omega : i < t.length), List.all_append, Bool.and_eq_true] at hd
      refine ⟨hd.1, ?_⟩
      rw [List.getElem?_eq_getElem (by omega : i < t.length)]
      have := hd.2
      simp at this
      exact this
    have h1 := num_lt i (by omega) h0.1
    have h2 := of_decide_eq_true h0.2
    rw [num_step (by omega), Nat.pow_succ]
    omega
theorem num_lt10 {t : List UInt8} {i : Nat} (h : i ≤ t.length) (hi : i ≤ 10) (hd : digsK t i = true) : numK t i < 10000000000 :=
  Nat.lt_of_lt_of_le (num_lt i h hd) (Nat.pow_le_pow_right (n := 10) (by omega) hi)
def numT (t : ByteArray) : Nat := numK (by' t) t.size
def isD (t : ByteArray) : Bool := decide (t.size ≤ 10) && (digsK (by' t) t.size && (decide (numT t ≤ 1000000000) && decide (tx (dcT (numT t : Nat)) = t)))
def readD (t : ByteArray) : Int := if isD t = true then (numT t : Nat) else 0
theorem readD_yes {t : ByteArray} (h : isD t = true) : readD t = (numT t : Nat) := if_pos h
theorem readD_no {t : ByteArray} (h : isD t = false) : readD t = 0 := if_neg (by rw [h]; decide)
theorem isD_1 {t : ByteArray} (h : ¬ t.size ≤ 10) : isD t = false := by unfold isD; rw [decide_eq_false h]; rfl
theorem isD_2 {t : ByteArray} {i : Nat} (hi : i < t.size) (hx : digB ((by' t)[i]?.getD 0) = false) : isD t = false := by
  unfold isD
  rw [digs_no (by rw [by_size]; exact hi) hi hx]; simp
theorem isD_3 {t : ByteArray} (h : ¬ numT t ≤ 1000000000) : isD t = false := by unfold isD; rw [decide_eq_false h]; simp
theorem isD_4 {t : ByteArray} (h : ¬ tx (dcT (numT t : Nat)) = t) : isD t = false := by unfold isD; rw [decide_eq_false h]; simp
theorem isD_0 {t : ByteArray} (h : t.size = 0) : isD t = false := by
  apply isD_4
  have h2 : by' t = [] := List.length_eq_zero_iff.1 (by rw [by_size]; exact h)
  have h3 : numT t = 0 := by unfold numT numK; rw [h2, h]; rfl
  rw [h3]
  intro e
  have e2 := congrArg ByteArray.size e
  rw [h] at e2
  unfold dcT at e2
  rw [show (((0 : Nat) : Int)).toNat = 0 from rfl, dec_zero] at e2
  cases e2
theorem isD_yes {t : ByteArray} (h1 : t.size ≤ 10) (h2 : digsK (by' t) t.size = true) (h3 : numT t ≤ 1000000000) (h4 : tx (dcT (numT t : Nat)) = t) : isD t = true := by
  unfold isD
  rw [decide_eq_true h1, h2, decide_eq_true h3, decide_eq_true h4]; rfl
theorem isD_l {t : ByteArray} (h : isD t = false) : Value.tuple ⟨[.int .i64 0, .bool false]⟩ = .tuple #[.int .i64 (readD t), .bool (isD t)] := by
  rw [readD_no h, h]
theorem isD_m {t : ByteArray} {m : Nat} (hm : m = numT t) (h1 : t.size ≤ 10) (h2 : digsK (by' t) t.size = true) (h3 : m ≤ 1000000000) (h4 : (tx (dcT (m : Nat))).toList = t.toList) : Value.tuple ⟨[.int .i64 (m : Nat), .bool true]⟩ = .tuple #[.int .i64 (readD t), .bool (isD t)] := by
  subst hm
  have h := isD_yes h1 h2 h3 (str_inj.1 h4)
  rw [readD_yes h, h]
theorem dig_no {t : ByteArray} {i : Nat} (h : (((t[i]?.getD 0).toNat : Nat) : Int) < 48 ∨ 57 < (((t[i]?.getD 0).toNat : Nat) : Int)) : digB ((by' t)[i]?.getD 0) = false := by
  rw [← by_get]
  unfold digB
  exact decide_eq_false (by omega)
theorem dig_yes {t : ByteArray} {i : Nat} (h1 : 48 ≤ (((t[i]?.getD 0).toNat : Nat) : Int)) (h2 : (((t[i]?.getD 0).toNat : Nat) : Int) ≤ 57) : digB ((by' t)[i]?.getD 0) = true := by
  rw [← by_get]
  unfold digB
  exact decide_eq_true (by omega)
theorem num_impl {t : ByteArray} {i : Nat} (hi : i < t.size) (h10 : t.size ≤ 10) (hd : digsK (by' t) i = true) (h1 : 48 ≤ (((t[i]?.getD 0).toNat : Nat) : Int)) (h2 : (((t[i]?.getD 0).toNat : Nat) : Int) ≤ 57) :
    IntKind.i64.wrap (IntKind.i64.wrap (((numK (by' t) i : Nat) : Int) * 10) + IntKind.i64.wrap (IntKind.u8.wrap ((((t[i]?.getD 0).toNat : Nat) : Int) - 48))) = ((numK (by' t) (i + 1) : Nat) : Int) := by
  have hl := by_size t
  have hn := num_lt10 (t := by' t) (i := i) (by omega) (by omega) hd
  rw [num_step (by omega), ← by_get]
  generalize (t[i]?.getD 0).toNat = b at *
  generalize numK (by' t) i = n at *
  rw [u8_wrap, Int.emod_eq_of_lt (by omega) (by omega), wrap_of (x := (n : Int) * 10) (by omega) (by omega), wrap_of (x := (b : Int) - 48) (by omega) (by omega), wrap_of (by omega) (by omega)]
  omega
theorem num_spec {t : ByteArray} {i : Nat} (hi : i < t.size) (h10 : t.size ≤ 10) (hd : digsK (by' t) i = true) (h1 : 48 ≤ (((t[i]?.getD 0).toNat : Nat) : Int)) (h2 : (((t[i]?.getD 0).toNat : Nat) : Int) ≤ 57) :
    IntKind.i64.wrap (IntKind.i64.wrap (IntKind.i64.wrap (10 * ((numK (by' t) i : Nat) : Int)) + IntKind.i64.wrap (((t[i]?.getD 0).toNat : Nat) : Int)) - 48) = ((numK (by' t) (i + 1) : Nat) : Int) := by
  have hl := by_size t
  have hn := num_lt10 (t := by' t) (i := i) (by omega) (by omega) hd
  rw [num_step (by omega), ← by_get]
  generalize (t[i]?.getD 0).toNat = b at *
  generalize numK (by' t) i = n at *
  rw [wrap_of (x := 10 * (n : Int)) (by omega) (by omega), wrap_of (x := (b : Int)) (by omega) (by omega), wrap_of (x := 10 * (n : Int) + (b : Int)) (by omega) (by omega), wrap_of (by omega) (by omega)]
  omega
--@ct impl.ReadDecimal val implReadDecimal_ct _ | (TabIn.mono ‹TabIn _› (mem_at 0 rfl))
theorem implReadDecimal_ct (t : ByteArray) : Ct Tryd.prog 55 [.string t] [] TabIn (fun v A => v = .tuple #[.int .i64 (readD t), .bool (isD t)] ∧ A = []) := by
  refine Ct.intro0 G_ok Tryd.func55 rfl rfl rfl fun E H hp => ?_
  have hbs := by_size t
  refine VCsplit.intro (fun q0 => ?_) (fun q0 => ?_)
  ·
    simp at q0
    (exact ⟨[], ⟨isD_l (isD_0 (by rw [‹t = ByteArray.empty›]; rfl)), rfl⟩, (.le fun a => by (try simp only [setR, List.cons_append, List.nil_append]); simp only [List.flatten_append, List.flatten_cons, List.flatten_nil, List.count_append, List.count_nil, List.append_nil, List.nil_append]; omega)⟩)
  ·
    simp at q0
    refine VCsplit.intro (fun q1 => ?_) (fun q1 => ?_)
    ·
      simp at q1
      (exact ⟨[], ⟨isD_l (isD_1 (by omega)), rfl⟩, (.le fun a => by (try simp only [setR, List.cons_append, List.nil_append]); simp only [List.flatten_append, List.flatten_cons, List.flatten_nil, List.count_append, List.count_nil, List.append_nil, List.nil_append]; omega)⟩)
    ·
      simp at q1
      apply loop_mod (α := (Nat)) G_ok [14, 15, 16, 17, 20, 21, 22, 23, 24, 25, 26, 27, 28, 29, 2, 3, 30, 31, 32, 33, 34, 35, 36, 37, 4, 18, 19, 5] (fun z => [(5, .v (.int .i64 z)), (4, .v (.int .i64 (numK (by' t) z : Nat)))]) (fun z => []) (fun z => [H]) (fun z => t.size - z) (fun z => z ≤ t.size ∧ digsK (by' t) z = true) ((0))
      · repeat' (first | exact trivial | refine ⟨⟨_, rfl, by first | rfl | exact inc_eq _ (by omega) | (refine sl_eq ?_; simp; done) | exact congrArg (fun v => SV.v (Value.int .i64 v)) (num_impl (by omega) (by omega) hd (by omega) (by omega)) | exact congrArg (fun v => Value.int .i64 v) (num_impl (by omega) (by omega) hd (by omega) (by omega)), by first | exact trivial | simp [SV.ok]⟩, ?_⟩)
      · exact trivial
      · exact ⟨Nat.zero_le _, rfl⟩
      · exact .refl _
      rintro i hI
      obtain ⟨hi, hd⟩ : i ≤ t.size ∧ digsK (by' t) i = true := hI
      try dsimp only
      refine VCsplit.intro (fun q2 => ?_) (fun q2 => ?_)
      ·
        simp at q2
        refine VC.intro ?_ ?_
        · omega
        refine VCsplit.intro (fun q3 => ?_) (fun q3 => ?_)
        ·
          simp at q3
          exact ⟨[], ⟨isD_l (isD_2 (i := i) (by omega) (dig_no (by omega))), rfl⟩, (.le fun a => by (try simp only [setR, List.cons_append, List.nil_append]); simp only [List.flatten_append, List.flatten_cons, List.flatten_nil, List.count_append, List.count_nil, List.append_nil, List.nil_append]; omega)⟩
        ·
          simp at q3
          refine VC.intro ?_ ?_
          · omega
          refine VCsplit.intro (fun q4 => ?_) (fun q4 => ?_)
          ·
            simp at q4
            exact ⟨[], ⟨isD_l (isD_2 (i := i) (by omega) (dig_no (by omega))), rfl⟩, (.le fun a => by (try simp only [setR, List.cons_append, List.nil_append]); simp only [List.flatten_append, List.flatten_cons, List.flatten_nil, List.count_append, List.count_nil, List.append_nil, List.nil_append]; omega)⟩
          ·
            simp at q4
            refine VC.intro ?_ ?_
            · omega
            apply loop_stepA (i + 1)
            · exact .refl _
            · repeat' (first | exact trivial | refine ⟨⟨_, rfl, by first | rfl | exact inc_eq _ (by omega) | (refine sl_eq ?_; simp; done) | exact congrArg (fun v => SV.v (Value.int .i64 v)) (num_impl (by omega) (by omega) hd (by omega) (by omega)) | exact congrArg (fun v => Value.int .i64 v) (num_impl (by omega) (by omega) hd (by omega) (by omega)), by first | exact trivial | simp [SV.ok]⟩, ?_⟩)
            · exact trivial
            · exact ⟨by omega, digs_step hd (by omega) (dig_yes (by omega) (by omega))⟩
            omega
      ·
        simp at q2
        obtain rfl : i = t.size := by omega
        have hn := num_lt10 (t := by' t) (i := t.size) (by omega) (by omega) hd
        have hnt : numT t = numK (by' t) t.size := rfl
        rw [← hnt] at hn
        refine VCsplit.intro (fun q5 => ?_) (fun q5 => ?_)
        ·
          simp at q5
          exact ⟨[], ⟨isD_l (isD_3 (by omega)), rfl⟩, (.le fun a => by (try simp only [setR, List.cons_append, List.nil_append]); simp only [List.flatten_append, List.flatten_cons, List.flatten_nil, List.count_append, List.count_nil, List.append_nil, List.nil_append]; omega)⟩
        ·
          simp at q5
          refine call_val (decimalAll_ct _ ?_) (TabIn.mono hp (mem_at 0 rfl)) ?_
          · omega
          rintro _ rfl
          refine VCsplit.intro (fun q7 => ?_) (fun q7 => ?_)
          ·
            simp at q7
            simp only [str_inj, u8_inj, u8_wrap] at q7
            exact ⟨[], ⟨isD_l (isD_4 (by assumption)), rfl⟩, (.le fun a => by (try simp only [setR, List.cons_append, List.nil_append]); simp only [List.flatten_append, List.flatten_cons, List.flatten_nil, List.count_append, List.count_nil, List.append_nil, List.nil_append]; omega)⟩
          ·
            simp at q7
            simp only [str_inj, u8_inj, u8_wrap] at q7
            exact ⟨[], ⟨isD_m rfl (by omega) hd (by omega) (congrArg ByteArray.toList (by assumption)), rfl⟩, (.le fun a => by (try simp only [setR, List.cons_append, List.nil_append]); simp only [List.flatten_append, List.flatten_cons, List.flatten_nil, List.count_append, List.count_nil, List.append_nil, List.nil_append]; omega)⟩
--@ct spec.ReadDecimal val specReadDecimal_ct _ | trivial
theorem specReadDecimal_ct (t : ByteArray) : Ct Tryd.prog 49 [.string t] [] (fun _ => True) (fun v A => v = .tuple #[.int .i64 (readD t), .bool (isD t)] ∧ A = []) := by
  refine Ct.intro0 G_ok Tryd.func49 rfl rfl rfl fun E H hp => ?_
  have hbs := by_size t
  refine VCsplit.intro (fun q0 => ?_) (fun q0 => ?_)
  ·
    simp at q0
    (exact ⟨[], ⟨isD_l (isD_1 (by omega)), rfl⟩, (.le fun a => by (try simp only [setR, List.cons_append, List.nil_append]); simp only [List.flatten_append, List.flatten_cons, List.flatten_nil, List.count_append, List.count_nil, List.append_nil, List.nil_append]; omega)⟩)
  ·
    simp at q0
    apply loop_mod (α := (Nat)) G_ok [9, 10, 11, 12, 15, 16, 17, 18, 19, 20, 21, 22, 23, 24, 2, 3, 25, 26, 27, 28, 29, 30, 31, 32, 4, 13, 14, 5] (fun z => [(5, .v (.int .i64 z)), (4, .v (.int .i64 (numK (by' t) z : Nat)))]) (fun z => []) (fun z => [H]) (fun z => t.size - z) (fun z => z ≤ t.size ∧ digsK (by' t) z = true) ((0))
    · repeat' (first | exact trivial | refine ⟨⟨_, rfl, by first | rfl | exact inc_eq _ (by omega) | (refine sl_eq ?_; simp; done) | exact congrArg (fun v => SV.v (Value.int .i64 v)) (num_spec (by omega) (by omega) hd (by omega) (by omega)) | exact congrArg (fun v => Value.int .i64 v) (num_spec (by omega) (by omega) hd (by omega) (by omega)), by first | exact trivial | simp [SV.ok]⟩, ?_⟩)
    · exact trivial
    · exact ⟨Nat.zero_le _, rfl⟩
    · exact .refl _
    rintro i hI
    obtain ⟨hi, hd⟩ : i ≤ t.size ∧ digsK (by' t) i = true := hI
    try dsimp only
    refine VCsplit.intro (fun q1 => ?_) (fun q1 => ?_)
    ·
      simp at q1
      refine VC.intro ?_ ?_
      · omega
      refine VCsplit.intro (fun q2 => ?_) (fun q2 => ?_)
      ·
        simp at q2
        exact ⟨[], ⟨isD_l (isD_2 (i := i) (by omega) (dig_no (by omega))), rfl⟩, (.le fun a => by (try simp only [setR, List.cons_append, List.nil_append]); simp only [List.flatten_append, List.flatten_cons, List.flatten_nil, List.count_append, List.count_nil, List.append_nil, List.nil_append]; omega)⟩
      ·
        simp at q2
        refine VC.intro ?_ ?_
        · omega
        refine VCsplit.intro (fun q3 => ?_) (fun q3 => ?_)
        ·
          simp at q3
          exact ⟨[], ⟨isD_l (isD_2 (i := i) (by omega) (dig_no (by omega))), rfl⟩, (.le fun a => by (try simp only [setR, List.cons_append, List.nil_append]); simp only [List.flatten_append, List.flatten_cons, List.flatten_nil, List.count_append, List.count_nil, List.append_nil, List.nil_append]; omega)⟩
        ·
          simp at q3
          refine VC.intro ?_ ?_
          · omega
          apply loop_stepA (i + 1)
          · exact .refl _
          · repeat' (first | exact trivial | refine ⟨⟨_, rfl, by first | rfl | exact inc_eq _ (by omega) | (refine sl_eq ?_; simp; done) | exact congrArg (fun v => SV.v (Value.int .i64 v)) (num_spec (by omega) (by omega) hd (by omega) (by omega)) | exact congrArg (fun v => Value.int .i64 v) (num_spec (by omega) (by omega) hd (by omega) (by omega)), by first | exact trivial | simp [SV.ok]⟩, ?_⟩)
          · exact trivial
          · exact ⟨by omega, digs_step hd (by omega) (dig_yes (by omega) (by omega))⟩
          omega
    ·
      simp at q1
      obtain rfl : i = t.size := by omega
      have hn := num_lt10 (t := by' t) (i := t.size) (by omega) (by omega) hd
      have hnt : numT t = numK (by' t) t.size := rfl
      rw [← hnt] at hn
      refine VCsplit.intro (fun q4 => ?_) (fun q4 => ?_)
      ·
        simp at q4
        exact ⟨[], ⟨isD_l (isD_3 (by omega)), rfl⟩, (.le fun a => by (try simp only [setR, List.cons_append, List.nil_append]); simp only [List.flatten_append, List.flatten_cons, List.flatten_nil, List.count_append, List.count_nil, List.append_nil, List.nil_append]; omega)⟩
      ·
        simp at q4
        refine call_val (specDecimal_ct _ ?_) trivial ?_
        · omega
        rintro _ rfl
        refine VCsplit.intro (fun q6 => ?_) (fun q6 => ?_)
        ·
          simp at q6
          simp only [str_inj, u8_inj, u8_wrap] at q6
          exact ⟨[], ⟨isD_l (isD_4 (by assumption)), rfl⟩, (.le fun a => by (try simp only [setR, List.cons_append, List.nil_append]); simp only [List.flatten_append, List.flatten_cons, List.flatten_nil, List.count_append, List.count_nil, List.append_nil, List.nil_append]; omega)⟩
        ·
          simp at q6
          simp only [str_inj, u8_inj, u8_wrap] at q6
          exact ⟨[], ⟨isD_m rfl (by omega) hd (by omega) (congrArg ByteArray.toList (by assumption)), rfl⟩, (.le fun a => by (try simp only [setR, List.cons_append, List.nil_append]); simp only [List.flatten_append, List.flatten_cons, List.flatten_nil, List.count_append, List.count_nil, List.append_nil, List.nil_append]; omega)⟩
end Go.Proofs.YtcnclhjhnjpeiaaDoor

namespace Go.Proofs.YtcnclhjhnjpeiaaDoor
open Go.SX Go.Proofs
set_option linter.unusedSimpArgs false
set_option linter.unusedVariables false
set_option maxHeartbeats 4000000
attribute [local irreducible] IntKind.wrap
def cmpI (a b : Int) : Int := if a < b then -1 else if b < a then 1 else 0
def cmpL : List Int → List Int → Int
  | [], [] => 0
  | [], _ :: _ => -1
  | _ :: _, [] => 1
  | a :: r, b :: s => if a < b then -1 else if b < a then 1 else cmpL r s
--@ct cmp.isNaN[int] val isNaN_ct _
theorem isNaN_ct (a : Int) : Ct Tryd.prog 92 [.int .i64 a] [] (fun _ => True) (fun v A => v = .bool false ∧ A = []) := by
  refine Ct.intro0 G_ok Tryd.func92 rfl rfl rfl fun E H hp => ?_
  exact ⟨[], ⟨by simp, rfl⟩, (.le fun a => by (try simp only [setR, List.cons_append, List.nil_append]); simp only [List.flatten_append, List.flatten_cons, List.flatten_nil, List.count_append, List.count_nil, List.append_nil, List.nil_append]; omega)⟩
--@ct cmp.Compare[int] val cmpCompare_ct _ _
theorem cmpCompare_ct (a b : Int) : Ct Tryd.prog 82 [.int .i64 a, .int .i64 b] [] (fun _ => True) (fun v A => v = .int .i64 (cmpI a b) ∧ A = []) := by
  refine Ct.intro0 G_ok Tryd.func82 rfl rfl rfl fun E H hp => ?_
  refine call_val (isNaN_ct _) trivial ?_
  rintro _ rfl
  refine call_val (isNaN_ct _) trivial ?_
  rintro _ rfl
  refine VCsplit.intro (fun q2 => ?_) (fun q2 => ?_)
  ·
    simp at q2
  ·
    simp at q2
    refine VCsplit.intro (fun q3 => ?_) (fun q3 => ?_)
    ·
      simp at q3
    ·
      simp at q3
      refine VCsplit.intro (fun q4 => ?_) (fun q4 => ?_)
      ·
        simp at q4
        exact ⟨[], ⟨by unfold cmpI; rw [if_pos (by omega)], rfl⟩, (.le fun a => by (try simp only [setR, List.cons_append, List.nil_append]); simp only [List.flatten_append, List.flatten_cons, List.flatten_nil, List.count_append, List.count_nil, List.append_nil, List.nil_append]; omega)⟩
      ·
        simp at q4
        refine VCsplit.intro (fun q5 => ?_) (fun q5 => ?_)
        ·
          simp at q5
          exact ⟨[], ⟨by unfold cmpI; rw [if_neg (by omega), if_pos (by omega)], rfl⟩, (.le fun a => by (try simp only [setR, List.cons_append, List.nil_append]); simp only [List.flatten_append, List.flatten_cons, List.flatten_nil, List.count_append, List.count_nil, List.append_nil, List.nil_append]; omega)⟩
        ·
          simp at q5
          exact ⟨[], ⟨by unfold cmpI; rw [if_neg (by omega), if_neg (by omega)], rfl⟩, (.le fun a => by (try simp only [setR, List.cons_append, List.nil_append]); simp only [List.flatten_append, List.flatten_cons, List.flatten_nil, List.count_append, List.count_nil, List.append_nil, List.nil_append]; omega)⟩
theorem cmpL_drop {xs ys : List Int} (k : Nat) (h1 : k < xs.length) (h2 : k < ys.length) :
    cmpL (xs.drop k) (ys.drop k) = if cmpI (xs[k]?.getD 0) (ys[k]?.getD 0) = 0 then cmpL (xs.drop (k + 1)) (ys.drop (k + 1)) else cmpI (xs[k]?.getD 0) (ys[k]?.getD 0) := by
  rw [List.drop_eq_getElem_cons h1, List.drop_eq_getElem_cons h2, List.getElem?_eq_getElem h1, List.getElem?_eq_getElem h2]
  simp only [Option.getD_some, cmpL, cmpI]
  split
  · simp
  split
  · simp
  simp
--@ct slices.Compare[[]int,int] val sCompare_ct _ _ _ _ _ _ $1 $2 | ⟨%1, %2⟩
theorem sCompare_ct (b1 : Option Addr) (m1 c1 : Nat) (b2 : Option Addr) (m2 c2 : Nat) (xs ys : List Int) :
    Ct Tryd.prog 73 [.slice b1 m1 c1, .slice b2 m2 c2] [] (fun H => (gSl 3 gI).rd H [.slice b1 m1 c1] xs ∧ (gSl 3 gI).rd H [.slice b2 m2 c2] ys) (fun v A => v = .int .i64 (cmpL xs ys) ∧ A = []) := by
  refine Ct.intro0 G_ok Tryd.func73 rfl rfl rfl fun E H hp => ?_
  obtain ⟨hp1, hp2⟩ := hp
  obtain ⟨rfl, hc1, hl1⟩ := sl_len hp1
  obtain ⟨rfl, hc2, hl2⟩ := sl_len hp2
  apply loop_mod (α := (Nat)) G_ok [12, 13, 14, 15, 5, 6, 16, 17, 18, 19, 4, 20, 21, 22, 23, 7, 24, 25, 26, 8, 27, 28, 29, 30, 11] (fun z => [(11, .v (.int .i64 z))]) (fun z => []) (fun z => [H]) (fun z => xs.length - z) (fun z => z ≤ xs.length ∧ z ≤ ys.length ∧ cmpL xs ys = cmpL (xs.drop z) (ys.drop z)) (0)
  · repeat' (first | exact trivial | refine ⟨⟨_, rfl, by first | rfl | exact inc_eq _ (by omega) | (refine sl_eq ?_; simp; done), by first | exact trivial | simp [SV.ok]⟩, ?_⟩)
  · exact trivial
  · exact ⟨by omega, by omega, by simp⟩
  · exact .refl _
  rintro k hI
  obtain ⟨hk, hk2, he⟩ : k ≤ xs.length ∧ k ≤ ys.length ∧ cmpL xs ys = cmpL (xs.drop k) (ys.drop k) := hI
  try dsimp only
  refine VCsplit.intro (fun q0 => ?_) (fun q0 => ?_)
  ·
    simp at q0
    refine idx_rd hp1 ?_ ?_ fun b1 o1 hb1 => ?_
    · omega
    · omega
    refine load_allN 0 (k) rfl hp1 ?_ ?_ hb1 rfl (mem_at 0 rfl) fun l2 hl2 => ?_
    · omega
    · omega
    obtain ⟨rfl, hw2⟩ := hl2; simp only [flStr, flInt, okI] at hw2
    refine VCsplit.intro (fun q3 => ?_) (fun q3 => ?_)
    ·
      simp at q3
      exact ⟨[], ⟨by rw [he, List.drop_eq_getElem_cons (by omega : k < xs.length), List.drop_eq_nil_of_le (by omega : ys.length ≤ k)]; rfl, rfl⟩, (.le fun a => by (try simp only [setR, List.cons_append, List.nil_append]); simp only [List.flatten_append, List.flatten_cons, List.flatten_nil, List.count_append, List.count_nil, List.append_nil, List.nil_append]; omega)⟩
    ·
      simp at q3
      refine idx_rd hp2 ?_ ?_ fun b4 o4 hb4 => ?_
      · omega
      · omega
      refine load_allN 0 (k) rfl hp2 ?_ ?_ hb4 rfl (mem_at 0 rfl) fun l5 hl5 => ?_
      · omega
      · omega
      obtain ⟨rfl, hw5⟩ := hl5; simp only [flStr, flInt, okI] at hw5
      refine call_val (cmpCompare_ct _ _) trivial ?_
      rintro _ rfl
      refine VCsplit.intro (fun q7 => ?_) (fun q7 => ?_)
      ·
        simp at q7
        exact ⟨[], ⟨by rw [he, cmpL_drop k (by omega) (by omega), if_neg (by assumption)], rfl⟩, (.le fun a => by (try simp only [setR, List.cons_append, List.nil_append]); simp only [List.flatten_append, List.flatten_cons, List.flatten_nil, List.count_append, List.count_nil, List.append_nil, List.nil_append]; omega)⟩
      ·
        simp at q7
        apply loop_stepA (k + 1)
        · exact .refl _
        · repeat' (first | exact trivial | refine ⟨⟨_, rfl, by first | rfl | exact inc_eq _ (by omega) | (refine sl_eq ?_; simp; done), by first | exact trivial | simp [SV.ok]⟩, ?_⟩)
        · exact trivial
        · exact ⟨by omega, by omega, by rw [he, cmpL_drop k (by omega) (by omega), if_pos (by assumption)]⟩
        omega
  ·
    simp at q0
    refine VCsplit.intro (fun q8 => ?_) (fun q8 => ?_)
    ·
      simp at q8
      exact ⟨[], ⟨by rw [he, List.drop_eq_getElem_cons (by omega : k < ys.length), List.drop_eq_nil_of_le (by omega : xs.length ≤ k)]; rfl, rfl⟩, (.le fun a => by (try simp only [setR, List.cons_append, List.nil_append]); simp only [List.flatten_append, List.flatten_cons, List.flatten_nil, List.count_append, List.count_nil, List.append_nil, List.nil_append]; omega)⟩
    ·
      simp at q8
      exact ⟨[], ⟨by rw [he, List.drop_eq_nil_of_le (by omega : ys.length ≤ k), List.drop_eq_nil_of_le (by omega : xs.length ≤ k)]; rfl, rfl⟩, (.le fun a => by (try simp only [setR, List.cons_append, List.nil_append]); simp only [List.flatten_append, List.flatten_cons, List.flatten_nil, List.count_append, List.count_nil, List.append_nil, List.nil_append]; omega)⟩
def labelOk (b : UInt8) : Bool := decide (97 ≤ (b.toNat : Int)) && decide ((b.toNat : Int) ≤ 100)
--@ct impl.isLabel val isLabel_ct _
theorem isLabel_ct (b : UInt8) : Ct Tryd.prog 43 [.int .u8 b.toNat] [] (fun _ => True) (fun v A => v = .bool (labelOk b) ∧ A = []) := by
  refine Ct.intro0 G_ok Tryd.func43 rfl rfl rfl fun E H hp => ?_
  refine VCsplit.intro (fun q0 => ?_) (fun q0 => ?_)
  ·
    simp at q0
    exact ⟨[], ⟨by unfold labelOk; first | rw [decide_eq_true (by omega : (97 : Int) ≤ b.toNat), Bool.true_and] | rw [decide_eq_false (by omega : ¬ (97 : Int) ≤ b.toNat), Bool.false_and], rfl⟩, (.le fun a => by (try simp only [setR, List.cons_append, List.nil_append]); simp only [List.flatten_append, List.flatten_cons, List.flatten_nil, List.count_append, List.count_nil, List.append_nil, List.nil_append]; omega)⟩
  ·
    simp at q0
    exact ⟨[], ⟨by unfold labelOk; first | rw [decide_eq_true (by omega : (97 : Int) ≤ b.toNat), Bool.true_and] | rw [decide_eq_false (by omega : ¬ (97 : Int) ≤ b.toNat), Bool.false_and], rfl⟩, (.le fun a => by (try simp only [setR, List.cons_append, List.nil_append]); simp only [List.flatten_append, List.flatten_cons, List.flatten_nil, List.count_append, List.count_nil, List.append_nil, List.nil_append]; omega)⟩
end Go.Proofs.YtcnclhjhnjpeiaaDoor

namespace Go.Proofs.YtcnclhjhnjpeiaaDoor
open Go.SX Go.Proofs
set_option linter.unusedSimpArgs false
set_option linter.unusedVariables false
set_option maxHeartbeats 4000000
attribute [local irreducible] IntKind.wrap
def edgeLess (a b : Edge) : Bool :=
  if a.from' = b.from' then if a.label = b.label then decide (a.to < b.to) else decide (a.label.toNat < b.label.toNat) else decide (a.from' < b.from')
def cmpE (a b : Edge) : Int := if a.label ≠ b.label ∧ a.from' = b.from' then (a.label.toNat : Int) - b.label.toNat else cmpL [a.from', a.to] [b.from', b.to]
theorem cmpE_lt (a b : Edge) : decide (cmpE a b < 0) = edgeLess a b := by
  unfold cmpE edgeLess
  by_cases h1 : a.from' = b.from' <;> by_cases h2 : a.label = b.label
  · rw [if_neg (by simp [h2]), if_pos h1, if_pos h2, h1]
    simp only [cmpL, Int.lt_irrefl, if_false]
    by_cases h3 : a.to < b.to <;> by_cases h4 : b.to < a.to <;> simp [h3, h4]
  · rw [if_pos ⟨h2, h1⟩, if_pos h1, if_neg h2, decide_eq_decide]; omega
  · rw [if_neg (by simp [h1]), if_neg h1]
    simp only [cmpL]
    by_cases h3 : a.from' < b.from' <;> by_cases h4 : b.from' < a.from' <;> simp [h3, h4]; omega
  rw [if_neg (by simp [h1]), if_neg h1]
  simp only [cmpL]
  by_cases h3 : a.from' < b.from' <;> by_cases h4 : b.from' < a.from' <;> simp [h3, h4]; omega
--@ct impl.compareEdges val compareEdges_ct _ _ $1 $2 | ⟨%1, %2⟩
theorem compareEdges_ct (l1 l2 : List Value) (a b : Edge) :
    Ct Tryd.prog 61 [.agg ⟨l1⟩, .agg ⟨l2⟩] [] (fun H => gEdge.rd H l1 a ∧ gEdge.rd H l2 b) (fun v A => v = .int .i64 (cmpE a b) ∧ A = []) := by
  refine Ct.intro0 G_ok Tryd.func61 rfl rfl rfl fun E H hp => ?_
  obtain ⟨hp1, hp2⟩ := hp
  obtain ⟨rfl, wa, wb⟩ := gEdge_rd.1 hp1
  obtain ⟨rfl, wc, wd⟩ := gEdge_rd.1 hp2
  refine VCnew.intro fun x0 => ?_
  refine VCnew.intro fun x1 => ?_
  refine VCsplit.intro (fun q2 => ?_) (fun q2 => ?_)
  ·
    simp at q2
    simp only [str_inj, u8_inj, u8_wrap] at q2
    refine VCsplit.intro (fun q3 => ?_) (fun q3 => ?_)
    ·
      simp at q3
      exact ⟨[], ⟨by unfold cmpE; rw [if_pos ⟨by assumption, by assumption⟩]; have h1 := a.label.toNat_lt; have h2 := b.label.toNat_lt; simp (disch := omega) only [wrap_of], rfl⟩, (.le fun a => by (try simp only [setR, List.cons_append, List.nil_append]); simp only [List.flatten_append, List.flatten_cons, List.flatten_nil, List.count_append, List.count_nil, List.append_nil, List.nil_append]; omega)⟩
    ·
      simp at q3
      refine VCnew.intro fun x4 => ?_
      refine VCnew.intro fun x5 => ?_
      refine call_val (sCompare_ct _ _ _ _ _ _ ([a.from', a.to]) ([b.from', b.to])) ⟨(Rp.mono _ (mem_at 1 rfl) (Ow.rd (Ow.lit (f := flInt) (T := (3 : TypeId)) (b := x4) (xs := [a.from', a.to]) (by first | (simp [flInt, okI]; done) | (simp only [List.forall_mem_cons]; simp_all [flInt, okI])) (by simp)))), (Rp.mono _ (mem_at 0 rfl) (Ow.rd (Ow.lit (f := flInt) (T := (3 : TypeId)) (b := x5) (xs := [b.from', b.to]) (by first | (simp [flInt, okI]; done) | (simp only [List.forall_mem_cons]; simp_all [flInt, okI])) (by simp))))⟩ ?_
      rintro _ rfl
      try dsimp only
      exact ⟨[], ⟨by unfold cmpE; rw [if_neg (by simp_all)], rfl⟩, (.le fun a => by (try simp only [setR, List.cons_append, List.nil_append]); simp only [List.flatten_append, List.flatten_cons, List.flatten_nil, List.count_append, List.count_nil, List.append_nil, List.nil_append]; omega)⟩
  ·
    simp at q2
    simp only [str_inj, u8_inj, u8_wrap] at q2
    refine VCnew.intro fun x7 => ?_
    refine VCnew.intro fun x8 => ?_
    refine call_val (sCompare_ct _ _ _ _ _ _ ([a.from', a.to]) ([b.from', b.to])) ⟨(Rp.mono _ (mem_at 1 rfl) (Ow.rd (Ow.lit (f := flInt) (T := (3 : TypeId)) (b := x7) (xs := [a.from', a.to]) (by first | (simp [flInt, okI]; done) | (simp only [List.forall_mem_cons]; simp_all [flInt, okI])) (by simp)))), (Rp.mono _ (mem_at 0 rfl) (Ow.rd (Ow.lit (f := flInt) (T := (3 : TypeId)) (b := x8) (xs := [b.from', b.to]) (by first | (simp [flInt, okI]; done) | (simp only [List.forall_mem_cons]; simp_all [flInt, okI])) (by simp))))⟩ ?_
    rintro _ rfl
    try dsimp only
    exact ⟨[], ⟨by unfold cmpE; rw [if_neg (by simp_all)], rfl⟩, (.le fun a => by (try simp only [setR, List.cons_append, List.nil_append]); simp only [List.flatten_append, List.flatten_cons, List.flatten_nil, List.count_append, List.count_nil, List.append_nil, List.nil_append]; omega)⟩
--@ct impl.EdgeLess val implEdgeLess_ct _ _ $1 $2 | ⟨%1, %2⟩
theorem implEdgeLess_ct (l1 l2 : List Value) (a b : Edge) :
    Ct Tryd.prog 44 [.agg ⟨l1⟩, .agg ⟨l2⟩] [] (fun H => gEdge.rd H l1 a ∧ gEdge.rd H l2 b) (fun v A => v = .bool (edgeLess a b) ∧ A = []) := by
  refine Ct.intro0 G_ok Tryd.func44 rfl rfl rfl fun E H hp => ?_
  obtain ⟨hp1, hp2⟩ := hp
  obtain ⟨rfl, wa, wb⟩ := gEdge_rd.1 hp1
  obtain ⟨rfl, wc, wd⟩ := gEdge_rd.1 hp2
  refine VCnew.intro fun x0 => ?_
  refine VCnew.intro fun x1 => ?_
  refine call_val (compareEdges_ct _ _ (a) (b)) ⟨(Rp.mono _ (mem_at 0 rfl) hp1), (Rp.mono _ (mem_at 0 rfl) hp2)⟩ ?_
  rintro _ rfl
  exact ⟨[], ⟨by rw [cmpE_lt], rfl⟩, (.le fun a => by (try simp only [setR, List.cons_append, List.nil_append]); simp only [List.flatten_append, List.flatten_cons, List.flatten_nil, List.count_append, List.count_nil, List.append_nil, List.nil_append]; omega)⟩
--@ct spec.EdgeLess val specEdgeLess_ct _ _ $1 $2 | ⟨%1, %2⟩
theorem specEdgeLess_ct (l1 l2 : List Value) (a b : Edge) :
    Ct Tryd.prog 40 [.agg ⟨l1⟩, .agg ⟨l2⟩] [] (fun H => gEdge.rd H l1 a ∧ gEdge.rd H l2 b) (fun v A => v = .bool (edgeLess a b) ∧ A = []) := by
  refine Ct.intro0 G_ok Tryd.func40 rfl rfl rfl fun E H hp => ?_
  obtain ⟨hp1, hp2⟩ := hp
  obtain ⟨rfl, wa, wb⟩ := gEdge_rd.1 hp1
  obtain ⟨rfl, wc, wd⟩ := gEdge_rd.1 hp2
  refine VCnew.intro fun x0 => ?_
  refine VCnew.intro fun x1 => ?_
  refine VCsplit.intro (fun q2 => ?_) (fun q2 => ?_)
  ·
    simp at q2
    exact ⟨[], ⟨by unfold edgeLess; rw [if_neg (by assumption)], rfl⟩, (.le fun a => by (try simp only [setR, List.cons_append, List.nil_append]); simp only [List.flatten_append, List.flatten_cons, List.flatten_nil, List.count_append, List.count_nil, List.append_nil, List.nil_append]; omega)⟩
  ·
    simp at q2
    refine VCsplit.intro (fun q3 => ?_) (fun q3 => ?_)
    ·
      simp at q3
      simp only [str_inj, u8_inj, u8_wrap] at q3
      exact ⟨[], ⟨by unfold edgeLess; rw [if_pos (by assumption), if_neg (by assumption)]; simp, rfl⟩, (.le fun a => by (try simp only [setR, List.cons_append, List.nil_append]); simp only [List.flatten_append, List.flatten_cons, List.flatten_nil, List.count_append, List.count_nil, List.append_nil, List.nil_append]; omega)⟩
    ·
      simp at q3
      simp only [str_inj, u8_inj, u8_wrap] at q3
      exact ⟨[], ⟨by unfold edgeLess; rw [if_pos (by assumption), if_pos (by assumption)], rfl⟩, (.le fun a => by (try simp only [setR, List.cons_append, List.nil_append]); simp only [List.flatten_append, List.flatten_cons, List.flatten_nil, List.count_append, List.count_nil, List.append_nil, List.nil_append]; omega)⟩
def edgeOk (g : Graph) (i : Nat) : Bool :=
  inR 0 (g.size - 1) (g.edges[i]?.getD default).from' && (inR 0 (g.size - 1) (g.edges[i]?.getD default).to && (labelOk (g.edges[i]?.getD default).label && (decide (i = 0) || edgeLess (g.edges[i - 1]?.getD default) (g.edges[i]?.getD default))))
def allOk (g : Graph) : Nat → Bool
  | 0 => true
  | k + 1 => allOk g k && edgeOk g k
def graphOk (g : Graph) : Bool := inR 1 12 g.size && (decide (g.edges.length ≤ 40) && allOk g g.edges.length)
theorem allOk_no (g : Graph) (k : Nat) (h : edgeOk g k = false) : ∀ n, k < n → allOk g n = false
  | 0, h1 => by omega
  | n + 1, h1 => by
    unfold allOk
    rcases Nat.lt_or_ge k n with h2 | h2
    · rw [allOk_no g k h n h2]; rfl
    rw [show n = k by omega, h]; simp
theorem graphOk_no (g : Graph) (k : Nat) (h1 : k < g.edges.length) (h : edgeOk g k = false) : graphOk g = false := by
  unfold graphOk; rw [allOk_no g k h _ h1]; simp
--@ct impl.isVertex val isVertex_ct _ $1 _ ?_ | %1
theorem isVertex_ct (l : List Value) (g : Graph) (v : Int) (hg : 1 ≤ g.size) : Ct Tryd.prog 42 [.agg ⟨l⟩, .int .i64 v] [] (fun H => gGraph.rd H l g) (fun r A => r = .bool (inR 0 (g.size - 1) v) ∧ A = []) := by
  refine Ct.intro0 G_ok Tryd.func42 rfl rfl rfl fun E H hp => ?_
  obtain ⟨b1, c1, rfl, w0, h1⟩ := gGraph_rd.1 hp
  refine VCnew.intro fun x0 => ?_
  refine VCsplit.intro (fun q1 => ?_) (fun q1 => ?_)
  ·
    simp at q1
    exact ⟨[], ⟨by unfold inR; rw [decide_eq_true (by omega : (0 : Int) ≤ v), Bool.true_and]; congr 1; rw [decide_eq_decide]; omega, rfl⟩, (.le fun a => by (try simp only [setR, List.cons_append, List.nil_append]); simp only [List.flatten_append, List.flatten_cons, List.flatten_nil, List.count_append, List.count_nil, List.append_nil, List.nil_append]; omega)⟩
  ·
    simp at q1
    exact ⟨[], ⟨by unfold inR; rw [decide_eq_false (by omega : ¬ (0 : Int) ≤ v), Bool.false_and], rfl⟩, (.le fun a => by (try simp only [setR, List.cons_append, List.nil_append]); simp only [List.flatten_append, List.flatten_cons, List.flatten_nil, List.count_append, List.count_nil, List.append_nil, List.nil_append]; omega)⟩
--@ct impl.GraphOk val implGraphOk_ct _ $1 | %1
theorem implGraphOk_ct (l : List Value) (g : Graph) : Ct Tryd.prog 23 [.agg ⟨l⟩] [] (fun H => gGraph.rd H l g) (fun v A => v = .bool (graphOk g) ∧ A = []) := by
  refine Ct.intro0 G_ok Tryd.func23 rfl rfl rfl fun E H hp => ?_
  obtain ⟨b1, c1, rfl, w0, h1⟩ := gGraph_rd.1 hp
  refine VCnew.intro fun x0 => ?_
  refine VCsplit.intro (fun q1 => ?_) (fun q1 => ?_)
  ·
    simp at q1
    exact ⟨[], ⟨by unfold graphOk inR; simp; omega, rfl⟩, (.le fun a => by (try simp only [setR, List.cons_append, List.nil_append]); simp only [List.flatten_append, List.flatten_cons, List.flatten_nil, List.count_append, List.count_nil, List.append_nil, List.nil_append]; omega)⟩
  ·
    simp at q1
    refine VCsplit.intro (fun q2 => ?_) (fun q2 => ?_)
    ·
      simp at q2
      exact ⟨[], ⟨by unfold graphOk inR; simp; omega, rfl⟩, (.le fun a => by (try simp only [setR, List.cons_append, List.nil_append]); simp only [List.flatten_append, List.flatten_cons, List.flatten_nil, List.count_append, List.count_nil, List.append_nil, List.nil_append]; omega)⟩
    ·
      simp at q2
      refine VCsplit.intro (fun q3 => ?_) (fun q3 => ?_)
      ·
        simp at q3
        exact ⟨[], ⟨by unfold graphOk inR; simp; omega, rfl⟩, (.le fun a => by (try simp only [setR, List.cons_append, List.nil_append]); simp only [List.flatten_append, List.flatten_cons, List.flatten_nil, List.count_append, List.count_nil, List.append_nil, List.nil_append]; omega)⟩
      ·
        simp at q3
        apply loop_mod (α := (Nat)) G_ok [23, 24, 25, 26, 4, 3, 27, 28, 29, 30, 31, 32, 33, 34, 35, 36, 37, 38, 39, 40, 41, 42, 43, 44, 2, 45, 46, 47, 48, 49, 50, 51, 52, 53, 54, 55, 56, 57, 58, 22] (fun z => [(22, .v (.int .i64 z))]) (fun z => [{ id := x0, cs := [Value.int IntKind.i64 g.size, Value.slice b1 g.edges.length c1], ty := (29 : Nat) }]) (fun z => [H]) (fun z => g.edges.length - z) (fun z => z ≤ g.edges.length ∧ allOk g z = true) (0)
        · repeat' (first | exact trivial | refine ⟨⟨_, rfl, by first | rfl | exact inc_eq _ (by omega) | (refine sl_eq ?_; simp; done), by first | exact trivial | simp [SV.ok]⟩, ?_⟩)
        · exact ⟨rfl, trivial⟩
        · exact ⟨by omega, rfl⟩
        · exact .refl _
        rintro k hI
        obtain ⟨hk, ha⟩ : k ≤ g.edges.length ∧ allOk g k = true := hI
        try dsimp only
        refine VCsplit.intro (fun q4 => ?_) (fun q4 => ?_)
        ·
          simp at q4
          refine idx_rd h1 ?_ ?_ fun b5 o5 hb5 => ?_
          · omega
          · omega
          refine load_allN default (k) rfl h1 ?_ ?_ hb5 rfl (mem_at 0 rfl) fun l6 hl6 => ?_
          · omega
          · omega
          obtain ⟨rfl, w0x6, w2x6⟩ := gEdge_rd.1 hl6
          refine VCnew.intro fun x7 => ?_
          refine call_val (isVertex_ct _ (g) _ ?_) (Rp.mono _ (mem_at 0 rfl) hp) ?_
          · trivial
          rintro _ rfl
          refine VCsplit.intro (fun q9 => ?_) (fun q9 => ?_)
          ·
            simp at q9
            exact ⟨[], ⟨by rw [graphOk_no g k (by omega) (by simp_all [edgeOk])], rfl⟩, (.le fun a => by (try simp only [setR, List.cons_append, List.nil_append]); simp only [List.flatten_append, List.flatten_cons, List.flatten_nil, List.count_append, List.count_nil, List.append_nil, List.nil_append]; omega)⟩
          ·
            simp at q9
            have iq9 := inR_iff.1 q9
            refine call_val (isVertex_ct _ (g) _ ?_) (Rp.mono _ (mem_at 0 rfl) hp) ?_
            · trivial
            rintro _ rfl
            refine VCsplit.intro (fun q11 => ?_) (fun q11 => ?_)
            ·
              simp at q11
              exact ⟨[], ⟨by rw [graphOk_no g k (by omega) (by simp_all [edgeOk])], rfl⟩, (.le fun a => by (try simp only [setR, List.cons_append, List.nil_append]); simp only [List.flatten_append, List.flatten_cons, List.flatten_nil, List.count_append, List.count_nil, List.append_nil, List.nil_append]; omega)⟩
            ·
              simp at q11
              have iq11 := inR_iff.1 q11
              refine call_val (isLabel_ct _) trivial ?_
              rintro _ rfl
              refine VCsplit.intro (fun q13 => ?_) (fun q13 => ?_)
              ·
                simp at q13
                exact ⟨[], ⟨by rw [graphOk_no g k (by omega) (by simp_all [edgeOk])], rfl⟩, (.le fun a => by (try simp only [setR, List.cons_append, List.nil_append]); simp only [List.flatten_append, List.flatten_cons, List.flatten_nil, List.count_append, List.count_nil, List.append_nil, List.nil_append]; omega)⟩
              ·
                simp at q13
                have iq13 := inR_iff.1 q13
                refine draw G_ok mixed none (.q 0 (.q 1 (.q 2 (.q 3 (.q 4 (.q 5 (.q 6 (.q 7 (.q 8 (.q 9 (.f 10 (.q 11 (.q 12 (.nil)))))))))))))) (by decide +kernel) ?_
                refine VCsplit.intro (fun q14 => ?_) (fun q14 => ?_)
                ·
                  simp at q14
                  refine idx_rd h1 ?_ ?_ fun b15 o15 hb15 => ?_
                  · (simp (disch := omega) only [wrap_of]; omega)
                  · (simp (disch := omega) only [wrap_of]; omega)
                  refine load_all default h1 ?_ ?_ hb15 rfl (mem_at 0 rfl) fun l16 hl16 => ?_
                  · (simp (disch := omega) only [wrap_of]; omega)
                  · (simp (disch := omega) only [wrap_of]; omega)
                  rw [show (IntKind.i64.wrap ((k : Int) - 1)).toNat = k - 1 by (simp (disch := omega) only [wrap_of]; omega)] at hl16
                  obtain ⟨rfl, w0x16, w2x16⟩ := gEdge_rd.1 hl16
                  refine call_val (implEdgeLess_ct _ _ (g.edges[k - (1 : Nat)]?.getD default) (g.edges[k]?.getD default)) ⟨(Rp.mono _ (mem_at 0 rfl) hl16), (Rp.mono _ (mem_at 0 rfl) hl6)⟩ ?_
                  rintro _ rfl
                  refine VC.intro ?_ ?_
                  · exact fun _ h => h
                  refine VCsplit.intro (fun q18 => ?_) (fun q18 => ?_)
                  ·
                    simp at q18
                    exact ⟨[], ⟨by rw [graphOk_no g k (by omega) (by unfold edgeOk; rw [‹edgeLess _ _ = false›, decide_eq_false (by omega : ¬ k = 0)]; simp)], rfl⟩, (.le fun a => by (try simp only [setR, List.cons_append, List.nil_append]); simp only [List.flatten_append, List.flatten_cons, List.flatten_nil, List.count_append, List.count_nil, List.append_nil, List.nil_append]; omega)⟩
                  ·
                    simp at q18
                    apply loop_stepA (k + 1)
                    · exact .refl _
                    · repeat' (first | exact trivial | refine ⟨⟨_, rfl, by first | rfl | exact inc_eq _ (by omega) | (refine sl_eq ?_; simp; done), by first | exact trivial | simp [SV.ok]⟩, ?_⟩)
                    · exact ⟨rfl, trivial⟩
                    · exact ⟨by omega, by simp_all [allOk, edgeOk]⟩
                    omega
                ·
                  simp at q14
                  apply loop_stepA (k + 1)
                  · exact .refl _
                  · repeat' (first | exact trivial | refine ⟨⟨_, rfl, by first | rfl | exact inc_eq _ (by omega) | (refine sl_eq ?_; simp; done), by first | exact trivial | simp [SV.ok]⟩, ?_⟩)
                  · exact ⟨rfl, trivial⟩
                  · exact ⟨by omega, by simp_all [allOk, edgeOk]⟩
                  omega
        ·
          simp at q4
          obtain rfl : k = g.edges.length := by omega
          exact ⟨[], ⟨by unfold graphOk inR; simp_all; omega, rfl⟩, (.le fun a => by (try simp only [setR, List.cons_append, List.nil_append]); simp only [List.flatten_append, List.flatten_cons, List.flatten_nil, List.count_append, List.count_nil, List.append_nil, List.nil_append]; omega)⟩
--@ct spec.GraphOk val specGraphOk_ct _ $1 | %1
theorem specGraphOk_ct (l : List Value) (g : Graph) : Ct Tryd.prog 21 [.agg ⟨l⟩] [] (fun H => gGraph.rd H l g) (fun v A => v = .bool (graphOk g) ∧ A = []) := by
  refine Ct.intro0 G_ok Tryd.func21 rfl rfl rfl fun E H hp => ?_
  obtain ⟨b1, c1, rfl, w0, h1⟩ := gGraph_rd.1 hp
  refine VCnew.intro fun x0 => ?_
  refine call_val (l01In_ct _ _ _) trivial ?_
  rintro _ rfl
  refine VCsplit.intro (fun q2 => ?_) (fun q2 => ?_)
  ·
    simp at q2
    exact ⟨[], ⟨by unfold graphOk; simp_all, rfl⟩, (.le fun a => by (try simp only [setR, List.cons_append, List.nil_append]); simp only [List.flatten_append, List.flatten_cons, List.flatten_nil, List.count_append, List.count_nil, List.append_nil, List.nil_append]; omega)⟩
  ·
    simp at q2
    have iq2 := inR_iff.1 q2
    refine VCsplit.intro (fun q3 => ?_) (fun q3 => ?_)
    ·
      simp at q3
      exact ⟨[], ⟨by unfold graphOk inR; simp; omega, rfl⟩, (.le fun a => by (try simp only [setR, List.cons_append, List.nil_append]); simp only [List.flatten_append, List.flatten_cons, List.flatten_nil, List.count_append, List.count_nil, List.append_nil, List.nil_append]; omega)⟩
    ·
      simp at q3
      apply loop_mod (α := (Nat)) G_ok [15, 16, 17, 18, 19, 22, 23, 24, 25, 26, 4, 27, 28, 29, 30, 31, 32, 33, 34, 35, 36, 37, 38, 39, 40, 41, 42, 43, 44, 45, 46, 47, 48, 49, 50, 51, 52, 53, 54, 55, 56, 57, 58, 59, 60, 61, 62, 63, 64, 65, 66, 67, 2, 20, 21, 3] (fun z => [(3, .v (.int .i64 z))]) (fun z => [{ id := x0, cs := [Value.int IntKind.i64 g.size, Value.slice b1 g.edges.length c1], ty := (29 : Nat) }]) (fun z => [H]) (fun z => g.edges.length - z) (fun z => z ≤ g.edges.length ∧ allOk g z = true) (0)
      · repeat' (first | exact trivial | refine ⟨⟨_, rfl, by first | rfl | exact inc_eq _ (by omega) | (refine sl_eq ?_; simp; done), by first | exact trivial | simp [SV.ok]⟩, ?_⟩)
      · exact ⟨rfl, trivial⟩
      · exact ⟨by omega, rfl⟩
      · exact .refl _
      rintro k hI
      obtain ⟨hk, ha⟩ : k ≤ g.edges.length ∧ allOk g k = true := hI
      try dsimp only
      refine VCsplit.intro (fun q4 => ?_) (fun q4 => ?_)
      ·
        simp at q4
        refine idx_rd h1 ?_ ?_ fun b5 o5 hb5 => ?_
        · omega
        · omega
        refine load_allN default (k) rfl h1 ?_ ?_ hb5 rfl (mem_at 0 rfl) fun l6 hl6 => ?_
        · omega
        · omega
        obtain ⟨rfl, w0x6, w2x6⟩ := gEdge_rd.1 hl6
        refine VCnew.intro fun x7 => ?_
        refine draw G_ok mixed none (.q 0 (.q 1 (.q 2 (.q 3 (.q 4 (.f 5 (.q 6 (.q 7 (.q 8 (.q 9 (.q 10 (.q 11 (.q 12 (.f 13 (.q 14 (.q 15 (.q 16 (.q 17 (.q 18 (.q 19 (.q 20 (.q 21 (.q 22 (.q 23 (.q 24 (.q 25 (.q 26 (.q 27 (.q 28 (.q 29 (.q 30 (.q 31 (.q 32 (.q 33 (.q 34 (.q 35 (.q 36 (.f 37 (.q 38 (.q 39 (.q 40 (.nil)))))))))))))))))))))))))))))))))))))))))) (by decide +kernel) ?_
        refine call_val (l01In_ct _ _ _) trivial ?_
        rintro _ rfl
        refine VC.intro ?_ ?_
        · exact fun _ h => h
        refine VCsplit.intro (fun q9 => ?_) (fun q9 => ?_)
        ·
          simp at q9
          simp (disch := omega) only [wrap_of] at q9
          exact ⟨[], ⟨by rw [graphOk_no g k (by omega) (by simp_all [edgeOk])], rfl⟩, (.le fun a => by (try simp only [setR, List.cons_append, List.nil_append]); simp only [List.flatten_append, List.flatten_cons, List.flatten_nil, List.count_append, List.count_nil, List.append_nil, List.nil_append]; omega)⟩
        ·
          simp at q9
          simp (disch := omega) only [wrap_of] at q9
          have iq9 := inR_iff.1 q9
          refine call_val (l01In_ct _ _ _) trivial ?_
          rintro _ rfl
          refine VC.intro ?_ ?_
          · exact fun _ h => h
          refine VCsplit.intro (fun q11 => ?_) (fun q11 => ?_)
          ·
            simp at q11
            simp (disch := omega) only [wrap_of] at q11
            exact ⟨[], ⟨by rw [graphOk_no g k (by omega) (by simp_all [edgeOk])], rfl⟩, (.le fun a => by (try simp only [setR, List.cons_append, List.nil_append]); simp only [List.flatten_append, List.flatten_cons, List.flatten_nil, List.count_append, List.count_nil, List.append_nil, List.nil_append]; omega)⟩
          ·
            simp at q11
            simp (disch := omega) only [wrap_of] at q11
            have iq11 := inR_iff.1 q11
            refine VCsplit.intro (fun q12 => ?_) (fun q12 => ?_)
            ·
              simp at q12
              exact ⟨[], ⟨by rw [graphOk_no g k (by omega) (by unfold edgeOk labelOk; rw [decide_eq_false (by omega : ¬ (97 : Int) ≤ ((g.edges[k]?.getD default).label.toNat : Nat))]; simp)], rfl⟩, (.le fun a => by (try simp only [setR, List.cons_append, List.nil_append]); simp only [List.flatten_append, List.flatten_cons, List.flatten_nil, List.count_append, List.count_nil, List.append_nil, List.nil_append]; omega)⟩
            ·
              simp at q12
              refine VCsplit.intro (fun q13 => ?_) (fun q13 => ?_)
              ·
                simp at q13
                exact ⟨[], ⟨by rw [graphOk_no g k (by omega) (by unfold edgeOk labelOk; rw [decide_eq_false (by omega : ¬ (((g.edges[k]?.getD default).label.toNat : Nat) : Int) ≤ 100)]; simp)], rfl⟩, (.le fun a => by (try simp only [setR, List.cons_append, List.nil_append]); simp only [List.flatten_append, List.flatten_cons, List.flatten_nil, List.count_append, List.count_nil, List.append_nil, List.nil_append]; omega)⟩
              ·
                simp at q13
                refine VCsplit.intro (fun q14 => ?_) (fun q14 => ?_)
                ·
                  simp at q14
                  refine idx_rd h1 ?_ ?_ fun b15 o15 hb15 => ?_
                  · (simp (disch := omega) only [wrap_of]; omega)
                  · (simp (disch := omega) only [wrap_of]; omega)
                  refine load_all default h1 ?_ ?_ hb15 rfl (mem_at 0 rfl) fun l16 hl16 => ?_
                  · (simp (disch := omega) only [wrap_of]; omega)
                  · (simp (disch := omega) only [wrap_of]; omega)
                  rw [show (IntKind.i64.wrap ((k : Int) - 1)).toNat = k - 1 by (simp (disch := omega) only [wrap_of]; omega)] at hl16
                  obtain ⟨rfl, w0x16, w2x16⟩ := gEdge_rd.1 hl16
                  refine call_val (specEdgeLess_ct _ _ (g.edges[k - (1 : Nat)]?.getD default) (g.edges[k]?.getD default)) ⟨(Rp.mono _ (mem_at 0 rfl) hl16), (Rp.mono _ (mem_at 0 rfl) hl6)⟩ ?_
                  rintro _ rfl
                  refine VC.intro ?_ ?_
                  · exact fun _ h => h
                  refine VCsplit.intro (fun q18 => ?_) (fun q18 => ?_)
                  ·
                    simp at q18
                    exact ⟨[], ⟨by rw [graphOk_no g k (by omega) (by unfold edgeOk; rw [‹edgeLess _ _ = false›, decide_eq_false (by omega : ¬ k = 0)]; simp)], rfl⟩, (.le fun a => by (try simp only [setR, List.cons_append, List.nil_append]); simp only [List.flatten_append, List.flatten_cons, List.flatten_nil, List.count_append, List.count_nil, List.append_nil, List.nil_append]; omega)⟩
                  ·
                    simp at q18
                    apply loop_stepA (k + 1)
                    · exact .refl _
                    · repeat' (first | exact trivial | refine ⟨⟨_, rfl, by first | rfl | exact inc_eq _ (by omega) | (refine sl_eq ?_; simp; done), by first | exact trivial | simp [SV.ok]⟩, ?_⟩)
                    · exact ⟨rfl, trivial⟩
                    · exact ⟨by omega, by unfold allOk edgeOk labelOk; rw [ha, ‹inR 0 (g.size - 1) (g.edges[k]?.getD default).from' = true›, ‹inR 0 (g.size - 1) (g.edges[k]?.getD default).to = true›, decide_eq_true (by omega : (97 : Int) ≤ ((g.edges[k]?.getD default).label.toNat : Nat)), decide_eq_true (by omega : (((g.edges[k]?.getD default).label.toNat : Nat) : Int) ≤ 100)]; first | (rw [‹edgeLess _ _ = true›]; simp) | (rw [decide_eq_true (by omega : k = 0)]; rfl)⟩
                    omega
                ·
                  simp at q14
                  apply loop_stepA (k + 1)
                  · exact .refl _
                  · repeat' (first | exact trivial | refine ⟨⟨_, rfl, by first | rfl | exact inc_eq _ (by omega) | (refine sl_eq ?_; simp; done), by first | exact trivial | simp [SV.ok]⟩, ?_⟩)
                  · exact ⟨rfl, trivial⟩
                  · exact ⟨by omega, by unfold allOk edgeOk labelOk; rw [ha, ‹inR 0 (g.size - 1) (g.edges[k]?.getD default).from' = true›, ‹inR 0 (g.size - 1) (g.edges[k]?.getD default).to = true›, decide_eq_true (by omega : (97 : Int) ≤ ((g.edges[k]?.getD default).label.toNat : Nat)), decide_eq_true (by omega : (((g.edges[k]?.getD default).label.toNat : Nat) : Int) ≤ 100)]; first | (rw [‹edgeLess _ _ = true›]; simp) | (rw [decide_eq_true (by omega : k = 0)]; rfl)⟩
                  omega
      ·
        simp at q4
        obtain rfl : k = g.edges.length := by omega
        exact ⟨[], ⟨by unfold graphOk inR; simp_all; omega, rfl⟩, (.le fun a => by (try simp only [setR, List.cons_append, List.nil_append]); simp only [List.flatten_append, List.flatten_cons, List.flatten_nil, List.count_append, List.count_nil, List.append_nil, List.nil_append]; omega)⟩
theorem graphOk_rng {g : Graph} (h : graphOk g = true) : 1 ≤ g.size ∧ g.size ≤ 12 ∧ g.edges.length ≤ 40 := by
  unfold graphOk inR at h
  simp at h
  omega
theorem graph_ow {b : Option Addr} {c : Nat} {g : Graph} {A : Hp} (hs : okI g.size) (h : (gSl 42 gEdge).ow [.slice b g.edges.length c] g.edges A) : gGraph.ow [.int .i64 g.size, .slice b g.edges.length c] g A := gGraph_ow.2 ⟨b, c, A, rfl, by simp, hs, h⟩
end Go.Proofs.YtcnclhjhnjpeiaaDoor

namespace Go.Proofs.YtcnclhjhnjpeiaaDoor
open Go.SX Go.Proofs
set_option maxHeartbeats 1000000
theorem edgeLess_iff {a b : Edge} : edgeLess a b = true ↔ a.from' < b.from' ∨ (a.from' = b.from' ∧ (a.label.toNat < b.label.toNat ∨ (a.label.toNat = b.label.toNat ∧ a.to < b.to))) := by
  unfold edgeLess
  by_cases e1 : a.from' = b.from'
  · rw [if_pos e1]
    by_cases e3 : a.label = b.label
    · rw [if_pos e3, decide_eq_true_iff, e3]; omega
    have : ¬ a.label.toNat = b.label.toNat := fun h => e3 (UInt8.toNat_inj.1 h)
    rw [if_neg e3, decide_eq_true_iff]; omega
  rw [if_neg e1, decide_eq_true_iff]; omega
theorem edgeLess_no {a b : Edge} : edgeLess a b = false ↔ ¬ (a.from' < b.from' ∨ (a.from' = b.from' ∧ (a.label.toNat < b.label.toNat ∨ (a.label.toNat = b.label.toNat ∧ a.to < b.to)))) := by
  rw [← edgeLess_iff, Bool.not_eq_true]
theorem edgeLess_trans {a b c : Edge} (h1 : edgeLess a b = true) (h2 : edgeLess b c = true) : edgeLess a c = true := by
  rw [edgeLess_iff] at *; omega
theorem edgeLess_irr (a : Edge) : edgeLess a a = false := by rw [edgeLess_no]; omega
theorem edgeLess_asym {a b : Edge} (h : edgeLess a b = true) : edgeLess b a = false := by
  rw [edgeLess_iff] at h; rw [edgeLess_no]; omega
theorem edgeLess_total {a b : Edge} (h1 : edgeLess a b = false) (h2 : edgeLess b a = false) : a = b := by
  rw [edgeLess_no] at h1 h2
  have h3 : a.label = b.label := UInt8.toNat_inj.1 (by omega)
  have h4 : a.from' = b.from' := by omega
  have h5 : a.to = b.to := by omega
  cases a; cases b; simp_all
/-- an edge that a graph of this size may have -/
def eOk (n : Int) (e : Edge) : Bool := inR 0 (n - 1) e.from' && (inR 0 (n - 1) e.to && labelOk e.label)
def sortedE (l : List Edge) : Prop := l.Pairwise fun a b => edgeLess a b = true
def gOk (n : Int) (l : List Edge) : Prop := (∀ e ∈ l, eOk n e = true) ∧ sortedE l
theorem edgeOk_iff {g : Graph} {i : Nat} : edgeOk g i = true ↔ eOk g.size (g.edges[i]?.getD default) = true ∧ (i = 0 ∨ edgeLess (g.edges[i - 1]?.getD default) (g.edges[i]?.getD default) = true) := by
  unfold edgeOk eOk; simp only [Bool.and_eq_true, Bool.or_eq_true, decide_eq_true_iff, and_assoc]
theorem allOk_iff {g : Graph} : ∀ {n : Nat}, allOk g n = true ↔ ∀ i, i < n → edgeOk g i = true
  | 0 => by unfold allOk; simp
  | n + 1 => by
    unfold allOk; rw [Bool.and_eq_true, allOk_iff]
    constructor
    · rintro ⟨h1, h2⟩ i hi
      rcases Nat.lt_or_ge i n with h | h
      · exact h1 i h
      rw [show i = n by omega]; exact h2
    exact fun h => ⟨fun i hi => h i (by omega), h n (by omega)⟩
theorem adj_pair {l : List Edge} (h : ∀ i, i + 1 < l.length → edgeLess (l[i]?.getD default) (l[i + 1]?.getD default) = true) : sortedE l := by
  induction l with
  | nil => exact .nil
  | cons a l ih =>
    have h2 := ih fun i hi => by have := h (i + 1) (by simp; omega); simpa using this
    refine List.Pairwise.cons ?_ h2
    intro b hb
    cases l with
    | nil => cases hb
    | cons c l =>
      have h3 : edgeLess a c = true := by have := h 0 (by simp); simpa using this
      rcases List.mem_cons.1 hb with rfl | hb
      · exact h3
      exact edgeLess_trans h3 ((List.pairwise_cons.1 h2).1 b hb)
theorem getD_mem {l : List Edge} {i : Nat} (h : i < l.length) : l[i]?.getD default ∈ l := by
  rw [List.getElem?_eq_getElem h]; exact List.getElem_mem h
theorem sorted_at {l : List Edge} (h : sortedE l) {i j : Nat} (hij : i < j) (hj : j < l.length) : edgeLess (l[i]?.getD default) (l[j]?.getD default) = true := by
  rw [List.getElem?_eq_getElem hj, List.getElem?_eq_getElem (by omega : i < l.length)]
  exact List.pairwise_iff_getElem.1 h i j (by omega) hj hij
theorem graphOk_iff {g : Graph} : graphOk g = true ↔ (1 ≤ g.size ∧ g.size ≤ 12) ∧ g.edges.length ≤ 40 ∧ gOk g.size g.edges := by
  unfold graphOk
  rw [Bool.and_eq_true, Bool.and_eq_true, inR_iff, decide_eq_true_iff, allOk_iff]
  refine and_congr_right fun _ => and_congr_right fun _ => ⟨fun h => ⟨?_, ?_⟩, fun h i hi => edgeOk_iff.2 ⟨h.1 _ (getD_mem hi), ?_⟩⟩
  · intro e he
    obtain ⟨i, hi, rfl⟩ := List.getElem_of_mem he
    have := (edgeOk_iff.1 (h i hi)).1
    rw [List.getElem?_eq_getElem hi] at this; exact this
  · refine adj_pair fun i hi => ?_
    have := (edgeOk_iff.1 (h (i + 1) hi)).2
    rcases this with h | h
    · omega
    exact h
  rcases Nat.eq_zero_or_pos i with h0 | h0
  · exact .inl h0
  exact .inr (sorted_at h.2 (by omega) hi)
/-! edges put into their place -/
def putE (l : List Edge) (e : Edge) : List Edge := l.filter (fun x => edgeLess x e) ++ ([e] ++ l.filter (fun x => edgeLess e x))
/-- a sorted list around a place -/
theorem filt_lt {l : List Edge} {e : Edge} {k : Nat} (h1 : ∀ i, i < k → edgeLess (l[i]?.getD default) e = true) (h2 : ∀ i, k ≤ i → i < l.length → edgeLess (l[i]?.getD default) e = false) (hk : k ≤ l.length) : l.filter (fun x => edgeLess x e) = l.take k := by
  conv => lhs; rw [← List.take_append_drop k l]
  rw [List.filter_append, List.filter_eq_self.2, List.filter_eq_nil_iff.2, List.append_nil]
  · intro x hx
    obtain ⟨i, hi, rfl⟩ := List.getElem_of_mem hx
    rw [List.length_drop] at hi
    have := h2 (k + i) (by omega) (by omega)
    rw [List.getElem?_eq_getElem (by omega)] at this
    rw [List.getElem_drop]; simpa using this
  intro x hx
  obtain ⟨i, hi, rfl⟩ := List.getElem_of_mem hx
  rw [List.length_take] at hi
  have := h1 i (by omega)
  rw [List.getElem?_eq_getElem (by omega)] at this
  rw [List.getElem_take]; simpa using this
theorem filt_gt {l : List Edge} {e : Edge} {k : Nat} (h1 : ∀ i, i < k → edgeLess e (l[i]?.getD default) = false) (h2 : ∀ i, k ≤ i → i < l.length → edgeLess e (l[i]?.getD default) = true) (hk : k ≤ l.length) : l.filter (fun x => edgeLess e x) = l.drop k := by
  conv => lhs; rw [← List.take_append_drop k l]
  rw [List.filter_append, List.filter_eq_nil_iff.2, List.filter_eq_self.2, List.nil_append]
  · intro x hx
    obtain ⟨i, hi, rfl⟩ := List.getElem_of_mem hx
    rw [List.length_drop] at hi
    have := h2 (k + i) (by omega) (by omega)
    rw [List.getElem?_eq_getElem (by omega)] at this
    rw [List.getElem_drop]; simpa using this
  intro x hx
  obtain ⟨i, hi, rfl⟩ := List.getElem_of_mem hx
  rw [List.length_take] at hi
  have := h1 i (by omega)
  rw [List.getElem?_eq_getElem (by omega)] at this
  rw [List.getElem_take]; simpa using this
/-- the place of an edge in a sorted list: all ahead of it are less, those from it on are not -/
def atE (l : List Edge) (e : Edge) (k : Nat) : Prop := k ≤ l.length ∧ (∀ i, i < k → edgeLess (l[i]?.getD default) e = true) ∧ ∀ i, k ≤ i → i < l.length → edgeLess (l[i]?.getD default) e = false
theorem putE_new {l : List Edge} {e : Edge} {k : Nat} (h : sortedE l) (ha : atE l e k) (hn : ¬ (k < l.length ∧ l[k]?.getD default = e)) : putE l e = l.take k ++ ([e] ++ l.drop k) := by
  obtain ⟨hk, h1, h2⟩ := ha
  unfold putE
  rw [filt_lt h1 h2 hk, filt_gt (fun i hi => edgeLess_asym (h1 i hi)) ?_ hk]
  intro i hi1 hi2
  have h3 := h2 i hi1 hi2
  cases e1 : edgeLess e (l[i]?.getD default) with
  | true => rfl
  | false =>
    have h4 := edgeLess_total h3 e1
    exfalso
    rcases Nat.lt_or_ge k i with h5 | h5
    · have h6 := sorted_at h h5 hi2
      rw [h4, h2 k (Nat.le_refl _) (by omega)] at h6; cases h6
    have : i = k := by omega
    subst this
    exact hn ⟨hi2, h4⟩
theorem putE_old {l : List Edge} {e : Edge} {k : Nat} (h : sortedE l) (ha : atE l e k) (hk : k < l.length) (he : l[k]?.getD default = e) : putE l e = l := by
  obtain ⟨_, h1, h2⟩ := ha
  unfold putE
  rw [filt_lt h1 h2 (by omega), filt_gt (k := k + 1) ?_ ?_ (by omega)]
  · have h3 := List.drop_eq_getElem_cons hk
    rw [List.getElem?_eq_getElem hk] at he
    simp only [Option.getD_some] at he
    rw [he] at h3
    rw [show [e] ++ l.drop (k + 1) = l.drop k from h3.symm, List.take_append_drop]
  · intro i hi
    rcases Nat.lt_or_ge i k with h3 | h3
    · exact edgeLess_asym (h1 i h3)
    rw [show i = k by omega, he, edgeLess_irr]
  intro i hi1 hi2
  have := sorted_at h (show k < i by omega) hi2
  rw [he] at this; exact this
theorem gOk_nil (n : Int) : gOk n [] := And.intro (fun _ h => absurd h (by simp)) List.Pairwise.nil
theorem graphOk_none {n : Int} (h : 1 ≤ n ∧ n ≤ 12) : graphOk ⟨n, []⟩ = true := graphOk_iff.2 ⟨h, by simp, gOk_nil n⟩
end Go.Proofs.YtcnclhjhnjpeiaaDoor

namespace Go.Proofs.YtcnclhjhnjpeiaaDoor
open Go.SX Go.Proofs
set_option maxHeartbeats 4000000
theorem ins_grow {α : Type} {ls : List α} {y z : α} {i L k m1 m2 : Nat} (hi : i < ls.length) (hk : k = ls.length + 1 - i) (hm1 : m1 = 1) (hL : L = i + 1) (hm2 : m2 = ls.length - i) :
    ((ls.take i ++ List.replicate k z).take i ++ ([y].take m1 ++ (ls.take i ++ List.replicate k z).drop (i + m1))).take L ++ (((ls.take ls.length).drop i).take m2 ++ ((ls.take i ++ List.replicate k z).take i ++ ([y].take m1 ++ (ls.take i ++ List.replicate k z).drop (i + m1))).drop (L + m2)) = ls.take i ++ ([y] ++ ls.drop i) := by
  subst hk hm1 hL hm2
  have h1 : (ls.take i).length = i := by rw [List.length_take]; omega
  have e1 : (ls.take i ++ List.replicate (ls.length + 1 - i) z).take i = ls.take i := by
    conv => lhs; arg 1; rw [← h1]
    rw [List.take_left]
  rw [e1, List.take_length, show [y].take 1 = [y] from rfl]
  rw [List.take_of_length_le (show (ls.drop i).length ≤ ls.length - i by rw [List.length_drop]; omega)]
  have e2 : (ls.take i ++ ([y] ++ (ls.take i ++ List.replicate (ls.length + 1 - i) z).drop (i + 1))).take (i + 1) = ls.take i ++ [y] := by
    rw [← List.append_assoc, show i + 1 = (ls.take i ++ [y]).length by rw [List.length_append, h1]; rfl, List.take_left]
  have e3 : (ls.take i ++ ([y] ++ (ls.take i ++ List.replicate (ls.length + 1 - i) z).drop (i + 1))).drop (i + 1 + (ls.length - i)) = [] :=
    List.drop_eq_nil_of_le (by simp only [List.length_append, h1, List.length_drop, List.length_replicate, List.length_cons, List.length_nil]; omega)
  rw [e2, e3, List.append_nil, List.append_assoc]
theorem ins_room {α : Type} {ls : List α} {y : α} {i L m1 : Nat} (hi : i < ls.length) (hm1 : m1 = 1) (hL : L = i + 1) :
    (ls.take L ++ (ls.take ls.length).drop i).take i ++ ([y].take m1 ++ (ls.take L ++ (ls.take ls.length).drop i).drop (i + m1)) = ls.take i ++ ([y] ++ ls.drop i) := by
  subst hm1 hL
  have h1 : (ls.take (i + 1)).length = i + 1 := by rw [List.length_take]; omega
  rw [List.take_append_of_le_length (by omega), List.take_take, Nat.min_eq_left (by omega), List.take_length, show [y].take 1 = [y] from rfl]
  congr 2
  conv => lhs; arg 1; rw [← h1]
  rw [List.drop_left]
theorem ow_some {α : Type} {f : Fl α} {T : TypeId} {b : Option Addr} {m c : Nat} {xs : List α} {A : Hp} (h : Ow f T (.slice b m c) xs A) (h0 : 0 < xs.length) : ∃ bb cs, b = some ⟨bb, 0, none⟩ ∧ A = [(bb, Obj.cells ⟨cs⟩ T)] ∧ cs.length ≠ 0 := by
  obtain ⟨_, _, b0, c0, e, h2⟩ := h
  cases e
  rcases h2 with ⟨rfl, rfl, rfl⟩ | ⟨bb, sp, rfl, rfl, _, _⟩
  · exact absurd h0 (Nat.lt_irrefl 0)
  refine ⟨bb, _, rfl, rfl, ?_⟩
  rw [List.length_append, flat_length]
  have h3 : 0 < f.size := f.pos
  have := Nat.mul_le_mul h0 h3
  simp at this; omega
theorem sb_two {c l bb sz : Nat} (h : l < c) : subBase (c - 0) l (subBase c 0 (some ⟨bb, 0, none⟩) sz) sz = some ⟨bb, 0 + l * sz, none⟩ := by
  have h0 : subBase c 0 (some ⟨bb, 0, none⟩) sz = some ⟨bb, 0, none⟩ := by
    rw [subBase_eq]; split
    · rfl
    rw [Option.map_some, addr_add]; simp
  rw [h0, subBase_eq, if_neg (by omega), Option.map_some, addr_add]
end Go.Proofs.YtcnclhjhnjpeiaaDoor

namespace Go.Proofs.YtcnclhjhnjpeiaaDoor
open Go.SX Go.Proofs
set_option linter.unusedSimpArgs false
set_option linter.unusedVariables false
set_option maxHeartbeats 4000000
attribute [local irreducible] IntKind.wrap
theorem ovEdge {E : World} {bl : List Blk} {R : List Hp} {K : Value → List Blk → List Hp → Prop} {a b : Addr} {la ca lb cb : Nat} {c1 c2 : Array Value} {t1 t2 : TypeId} {H : Hp}
    (hsp : (St.hall ⟨[], bl, R⟩).Perm ((b.block, Obj.cells c2 t2) :: H)) (m1 : (a.block, Obj.cells c1 t1) ∈ H) (h0 : c2.size ≠ 0) (hk : K (.bool false) bl R) :
    VCcall Tryd.prog E 80 [.slice (some a) la ca, .slice (some b) lb cb] ⟨[], bl, R⟩ K :=
  call_overlaps (tS := 27) (tR := 4) Tryd.func80 (by kernel_rfl) (by kernel_rfl) (by kernel_rfl) (by kernel_rfl) Tryd.underlying27 Tryd.sizeOf42 hsp m1 h0 hk
theorem ovEdge2 {E : World} {bl : List Blk} {R : List Hp} {K : Value → List Blk → List Hp → Prop} {x bb c l sz la ca lb cb : Nat} {c1 c2 : Array Value} {t1 t2 : TypeId} {H : Hp} (hl : l < c)
    (hsp : (St.hall ⟨[], bl, R⟩).Perm ((bb, Obj.cells c2 t2) :: H)) (m1 : (x, Obj.cells c1 t1) ∈ H) (h0 : c2.size ≠ 0) (hk : K (.bool false) bl R) :
    VCcall Tryd.prog E 80 [.slice (some ⟨x, 0, none⟩) la ca, .slice (subBase (c - 0) l (subBase c 0 (some ⟨bb, 0, none⟩) sz) sz) lb cb] ⟨[], bl, R⟩ K := by
  rw [sb_two hl]
  exact ovEdge (b := ⟨bb, 0 + l * sz, none⟩) (a := ⟨x, 0, none⟩) hsp m1 h0 hk
--@ct slices.overlaps[impl.Edge] raw refine ovEdge2 (H := H ++ []) ?_ (.refl _) (List.mem_append_left _ hmem) (by simpa using hcs) ?_
--@ct slices.Insert[[]impl.Edge,impl.Edge] raw refine callR_at &1 rfl (insEdge_ct _ _ _ _ _ _ _ _ _ ~1 (gEdge_own ‹gEdge.rd _ _ _›) ?_ ?_) (mem_at @3 rfl _ (List.mem_singleton.2 rfl)) ?_ | | rintro _ A# ⟨b#, c#, rfl, o#⟩
theorem insRaw_ct (b : Option Addr) (m c i x : Nat) (ls : List (RawC gEdge.size)) (y : RawC gEdge.size) (A : Hp) (hA : Ow (flRaw gEdge.size gEdge.pos) 42 (.slice b m c) ls A) (hi : i ≤ m) (hm : m ≤ 1000000) :
    CtR Tryd.prog 70 [.slice b m c, .int .i64 (i : Int), .slice (some ⟨x, 0, none⟩) 1 1] A (fun H => (rpSl (flRaw gEdge.size gEdge.pos).rp).rd H [.slice (some ⟨x, 0, none⟩) 1 1] [y] ∧ (x, Obj.cells ⟨y.1⟩ 42) ∈ H)
      (fun v A => ∃ b c, v = .slice b (m + 1) c ∧ Ow (flRaw gEdge.size gEdge.pos) 42 (.slice b (m + 1) c) (ls.take i ++ ([y] ++ ls.drop i)) A) := by
  refine CtR.intro G_ok [A] Tryd.func70 rfl rfl rfl (by simp) fun E H hp => ?_
  obtain ⟨hp, hmem⟩ := hp
  obtain ⟨rfl, hlm⟩ := rd_len hA.rd
  have hcl := rd_cap hA.rd
  have hwA : IntKind.i64.wrap (IntKind.i64.wrap ((ls.length : Int) + ((1 : Nat) : Int)) - (i : Int)) = ((ls.length + 1 - i : Nat) : Int) := by
    have e1 : IntKind.i64.wrap ((ls.length : Int) + ((1 : Nat) : Int)) = (ls.length : Int) + 1 := wrap_of (by omega) (by omega)
    rw [e1, wrap_of (by omega) (by omega)]; omega
  have hwB : (IntKind.i64.wrap ((i : Int) + ((1 : Nat) : Int))).toNat = i + 1 := by
    have e1 : IntKind.i64.wrap ((i : Int) + ((1 : Nat) : Int)) = (i : Int) + 1 := wrap_of (by omega) (by omega)
    rw [e1]; exact Int.toNat_natCast (i + 1)
  have hwC : (IntKind.i64.wrap ((ls.length : Int) + ((1 : Nat) : Int))).toNat = ls.length + 1 := by
    have e1 : IntKind.i64.wrap ((ls.length : Int) + ((1 : Nat) : Int)) = (ls.length : Int) + 1 := wrap_of (by omega) (by omega)
    rw [e1]; exact Int.toNat_natCast (ls.length + 1)
  refine VC.intro ?_ ?_
  · omega
  refine VCsplit.intro (fun q0 => ?_) (fun q0 => ?_)
  ·
    simp at q0
  ·
    simp at q0
    refine VCsplit.intro (fun q1 => ?_) (fun q1 => ?_)
    ·
      simp at q1
      refine append_ow (f := flRaw gEdge.size gEdge.pos) G_ok 0 rfl hA (Rp.mono _ (mem_at 1 rfl) hp) (fun _ _ => trivial) rfl rfl rfl rfl rfl rfl rfl rfl ?_ fun b' c' A' o' hc' => ?_
      · simp; omega
      (have hi0 : i = ls.length := (by omega); subst hi0; rw [show ls.take ls.length ++ ([y] ++ ls.drop ls.length) = ls ++ [y] by simp]; exact ⟨_, ⟨_, _, rfl, o'⟩, (.le fun a => by (try simp only [setR, List.cons_append, List.nil_append]); simp only [List.flatten_append, List.flatten_cons, List.flatten_nil, List.count_append, List.count_nil, List.append_nil, List.nil_append]; omega)⟩)
    ·
      simp at q1
      refine VCsplit.intro (fun q2 => ?_) (fun q2 => ?_)
      ·
        simp at q2
        simp (disch := omega) only [wrap_of] at q2
        refine VC.intro ?_ ?_
        · omega
        refine append_zeros (f := flRaw gEdge.size gEdge.pos) (z := (⟨_, raw_of (gEdge.owrd zEdge_ow)⟩ : RawC gEdge.size)) (xs := ls.take i) (base := b) (m := i) (cap := c) (k := ls.length + 1 - i) G_ok rfl (congrArg (fun v => SV.v (Value.int .i64 v)) hwA) (rd_pre (Rp.mono _ (mem_at 0 rfl) (Ow.rd hA)) i hi) (fun _ _ => trivial) rfl rfl rfl rfl rfl trivial rfl ?_ ?_ ?_ fun b' c' A' o' => ?_
        · omega
        · omega
        · omega
        refine VC.intro ?_ ?_
        · simp; omega
        refine copy_ow (f := flRaw gEdge.size gEdge.pos) (l := i) G_ok 0 rfl o' rfl rfl (Rp.mono _ (mem_at 2 rfl) hp) (fun _ _ => trivial) ?_ rfl rfl rfl fun A2 o2 => ?_
        · simp; omega
        refine draw G_ok mixed (some 8) (.q 0 (.q 1 (.q 2 (.q 3 (.q 4 (.q 5 (.q 6 (.q 7 (.tl 8 (.nil)))))))))) (by decide +kernel) ?_
        refine VC.intro ?_ ?_
        · simp_all; omega
        refine VC.intro ?_ ?_
        · omega
        refine copy_ow (f := flRaw gEdge.size gEdge.pos) G_ok 0 rfl o2 rfl rfl (rd_sub (l := i) (h := ls.length) (Rp.mono _ (mem_at 1 rfl) (Ow.rd hA)) hi (Nat.le_refl _)) (fun _ _ => trivial) ?_ rfl rfl rfl fun A3 o3 => ?_
        · simp_all; omega
        (have hlz : (ls.take i ++ List.replicate (ls.length + 1 - i) (⟨_, raw_of (gEdge.owrd zEdge_ow)⟩ : RawC gEdge.size)).length = ls.length + 1 := (by simp only [List.length_append, List.length_take, List.length_replicate]; omega); rw [ins_grow (by omega) rfl (by simp only [List.length_append, List.length_take, List.length_replicate]; omega) hwB (by simp only [hwB, List.length_append, List.length_take, List.length_replicate, List.length_drop, List.length_cons, List.length_nil]; omega)] at o3; rw [hlz] at o3 ⊢; exact ⟨_, ⟨_, _, rfl, o3⟩, (.le fun a => by (try simp only [setR, List.cons_append, List.nil_append]); simp only [List.flatten_append, List.flatten_cons, List.flatten_nil, List.count_append, List.count_nil, List.append_nil, List.nil_append]; omega)⟩)
      ·
        simp at q2
        simp (disch := omega) only [wrap_of] at q2
        obtain ⟨bb, cs, rfl, rfl, hcs⟩ := ow_some hA (by omega)
        refine VC.intro ?_ ?_
        · (simp (disch := omega) only [wrap_of]; omega)
        refine VC.intro ?_ ?_
        · (simp (disch := omega) only [wrap_of]; omega)
        refine ovEdge2 (H := H ++ []) ?_ (.refl _) (List.mem_append_left _ hmem) (by simpa using hcs) ?_
        · (simp (disch := omega) only [wrap_of]; omega)
        refine VCsplit.intro (fun q4 => ?_) (fun q4 => ?_)
        ·
          simp at q4
          refine draw G_ok mixed (some 8) (.q 0 (.q 1 (.q 2 (.q 3 (.q 4 (.q 5 (.q 6 (.q 7 (.tl 8 (.nil)))))))))) (by decide +kernel) ?_
          refine VC.intro ?_ ?_
          · (simp (disch := omega) only [wrap_of]; omega)
          refine VC.intro ?_ ?_
          · (simp (disch := omega) only [wrap_of]; omega)
          refine copy_end (f := flRaw gEdge.size gEdge.pos) (l := (IntKind.i64.wrap ((i : Int) + ((1 : Nat) : Int))).toNat) (q := ls.length - i) (ys := (ls.take ls.length).drop i) G_ok 0 rfl hA rfl rfl (rd_sub (l := i) (h := ls.length) (Rp.mono _ (mem_at 0 rfl) (Ow.rd hA)) hi (Nat.le_refl _)) ?_ (fun _ _ => trivial) ?_ ?_ ?_ ?_ ?_ rfl rfl rfl fun A2 o2 => ?_
          · (simp (disch := omega) only [wrap_of]; omega)
          · (simp (disch := omega) only [wrap_of]; omega)
          · (simp (disch := omega) only [wrap_of]; omega)
          · (simp (disch := omega) only [wrap_of]; omega)
          · omega
          · (simp (disch := omega) only [wrap_of]; omega)
          refine VC.intro ?_ ?_
          · (simp (disch := omega) only [wrap_of]; omega)
          refine copy_ow (f := flRaw gEdge.size gEdge.pos) (l := i) G_ok 0 rfl o2 rfl rfl (Rp.mono _ (mem_at 1 rfl) hp) (fun _ _ => trivial) ?_ rfl rfl rfl fun A3 o3 => ?_
          · (simp (disch := omega) only [wrap_of]; omega)
          (have hlz : (IntKind.i64.wrap ((i : Int) + ((1 : Nat) : Int))).toNat + (ls.length - i) = ls.length + 1 := (by rw [hwB]; omega); rw [ins_room (by omega) (by simp only [hwC]; omega) hwB] at o3; rw [hlz] at o3; rw [hwC]; exact ⟨_, ⟨_, _, rfl, o3⟩, (.le fun a => by (try simp only [setR, List.cons_append, List.nil_append]); simp only [List.flatten_append, List.flatten_cons, List.flatten_nil, List.count_append, List.count_nil, List.append_nil, List.nil_append]; omega)⟩)
        ·
          simp at q4
end Go.Proofs.YtcnclhjhnjpeiaaDoor

namespace Go.Proofs.YtcnclhjhnjpeiaaDoor
open Go.SX Go.Proofs Go.RowKit
set_option maxHeartbeats 4000000
theorem sizeBuilder : (Tryd.prog.info? 49).map (·.size) = some 2 := by kernel_rfl
theorem liesBuilder : liesAt Tryd.prog Tryd.prog.depth 49 (2 / Tryd.prog.cellsOf 49) 0 49 1 = true := by kernel_rfl
set_option maxRecDepth 100000 in
theorem copyCheck_used (b : Nat) (w : World) (h0 : w.cell? ⟨b, 0, none⟩ = some (.pointer (some ⟨b, 0, none⟩))) :
    Calls Tryd.prog 45 #[.pointer (some ⟨b, 0, none⟩)] w fun e w' => e = .returned (.tuple #[]) ∧ w' = w := by
  obtain ⟨j, hj, _⟩ := Option.map_eq_some_iff.1 sizeBuilder
  have mixed := mixed
  have t49 := Tryd.underlying49; have a49 := Tryd.isAgg49; have z49 := Tryd.sizeOf49; have v49 := Tryd.zeroValue49; have u49 := run_underlying Tryd.underlying49
  have t47 := Tryd.underlying47; have a47 := Tryd.isAgg47; have z47 := Tryd.sizeOf47; have v47 := Tryd.zeroValue47; have u47 := run_underlying Tryd.underlying47
  have t9 := Tryd.underlying9; have a9 := Tryd.isAgg9; have z9 := Tryd.sizeOf9; have v9 := Tryd.zeroValue9; have u9 := run_underlying Tryd.underlying9
  have t4 := Tryd.underlying4; have a4 := Tryd.isAgg4; have z4 := Tryd.sizeOf4; have v4 := Tryd.zeroValue4; have u4 := run_underlying Tryd.underlying4
  have t92 := Tryd.underlying92; have a92 := Tryd.isAgg92; have z92 := Tryd.sizeOf92; have v92 := Tryd.zeroValue92; have u92 := run_underlying Tryd.underlying92
  go_enter Tryd.func45, Tryd.ntmps45
  go_wp2
  rw [Lib.run_neq_ptr_same w _ Tryd.underlying47 hj]
  go_wp2
  go_end0
  exact ⟨rfl, rfl⟩
set_option maxRecDepth 100000 in
theorem copyCheck_fresh (b : Nat) (w : World) (h0 : w.cell? ⟨b, 0, none⟩ = some (.pointer none)) (hsh : w.shape? b = some (49, 2)) (hfz : w.frozen? ⟨b, 0, none⟩ = false) :
    Calls Tryd.prog 45 #[.pointer (some ⟨b, 0, none⟩)] w fun e w' => e = .returned (.tuple #[]) ∧ w' = w.setCell ⟨b, 0, none⟩ (.pointer (some ⟨b, 0, none⟩)) := by
  obtain ⟨j, hj, hjs⟩ := Option.map_eq_some_iff.1 sizeBuilder
  have mixed := mixed
  have t49 := Tryd.underlying49; have a49 := Tryd.isAgg49; have z49 := Tryd.sizeOf49; have v49 := Tryd.zeroValue49; have u49 := run_underlying Tryd.underlying49
  have t47 := Tryd.underlying47; have a47 := Tryd.isAgg47; have z47 := Tryd.sizeOf47; have v47 := Tryd.zeroValue47; have u47 := run_underlying Tryd.underlying47
  have t9 := Tryd.underlying9; have a9 := Tryd.isAgg9; have z9 := Tryd.sizeOf9; have v9 := Tryd.zeroValue9; have u9 := run_underlying Tryd.underlying9
  have t4 := Tryd.underlying4; have a4 := Tryd.isAgg4; have z4 := Tryd.sizeOf4; have v4 := Tryd.zeroValue4; have u4 := run_underlying Tryd.underlying4
  have t92 := Tryd.underlying92; have a92 := Tryd.isAgg92; have z92 := Tryd.sizeOf92; have v92 := Tryd.zeroValue92; have u92 := run_underlying Tryd.underlying92
  go_enter Tryd.func45, Tryd.ntmps45
  go_wp2
  rw [Lib.run_to_unsafe w ⟨b, 0, none⟩ Tryd.underlying47 Tryd.underlying92 hj (by rw [hjs]; decide) hsh (Nat.zero_lt_succ 1)]
  simp only [Result.andThen]
  rw [Oper.upon_value]
  go_wp2
  rw [run_callFunc_extern Tryd.func62 (by kernel_rfl) (by kernel_rfl) (by kernel_rfl) (e := Extern.AbiNoEscape.same) (by kernel_rfl)]
  rw [Lib.run_noEscape]
  simp only [Result.andThen]
  rw [Oper.upon_value]
  go_wp2
  rw [Lib.run_from_unsafe w ⟨b, 0, none⟩ Tryd.underlying92 Tryd.underlying47 hj hsh liesBuilder]
  simp only [Result.andThen]
  rw [Oper.upon_value]
  go_wp2
  go_end0
  exact ⟨rfl, rfl⟩
theorem copyCheck_ct (b : Nat) (ad v : Value) (ha : ad = .pointer none ∨ ad = .pointer (some ⟨b, 0, none⟩)) :
    CtR Tryd.prog 45 [.pointer (some ⟨b, 0, none⟩)] [(b, Obj.cells ⟨[ad, v]⟩ 49)] (fun _ => True) (fun r A => r = .tuple #[] ∧ A = [(b, Obj.cells ⟨[.pointer (some ⟨b, 0, none⟩), v]⟩ 49)]) := by
  refine ⟨⟨_, Tryd.func45, by decide +kernel, rfl⟩, fun E H w hs _ => ?_⟩
  have hmem : (b, Obj.cells ⟨[ad, v]⟩ 49) ∈ ([(b, Obj.cells ⟨[ad, v]⟩ 49)] : Hp) ++ H := List.mem_append_left _ (List.mem_singleton.2 rfl)
  have hc := hs.cell hmem 0
  have hheap := hs.mem _ _ hmem
  rcases ha with rfl | rfl
  · refine (copyCheck_fresh b w (by rw [hc]; rfl) (by simp [World.shape?, hheap]) (by simp [World.frozen?, hheap])).mono ?_
    rintro e w' ⟨rfl, rfl⟩
    refine ⟨_, _, rfl, ⟨rfl, rfl⟩, ?_⟩
    refine Sat.upd (A := []) hs rfl rfl rfl ?_ ?_
    · show (w.heap.modify b _)[b]? = _
      rw [Array.getElem?_modify, if_pos rfl, hheap]; rfl
    intro i hne
    simp only [World.setCell, Array.getElem?_modify]
    rw [if_neg (fun e => hne e.symm)]
  refine (copyCheck_used b w (by rw [hc]; rfl)).mono ?_
  rintro e w' ⟨rfl, rfl⟩
  exact ⟨_, _, rfl, ⟨rfl, rfl⟩, hs⟩
--@ct (*strings.Builder).copyCheck blk0 copyCheck_ct _ _ _ !a | | rintro _ A# ⟨rfl, rfl⟩ ;; refine ⟨_, _, [], rfl, perm0, ?_⟩
--@ct (*strings.Builder).WriteString blk1 WriteString_ct _ _ _ _ _ _ _ _ !a !o !z ?_ | | rintro _ A# ⟨rfl, bb#, bc#, B#, rfl, o#, z#⟩ ;; refine ⟨_, _, [B#], rfl, perm1, ?_⟩
theorem WriteString_ct (b : Nat) (ad : Value) (base : Option Addr) (m cap : Nat) (xs : List UInt8) (A : Hp) (s : ByteArray) (ha : ad = .pointer none ∨ ad = .pointer (some ⟨b, 0, none⟩)) (ho : (gSl 5 gY).ow [.slice base m cap] xs A) (hz : Bz base cap) (hl : xs.length + s.size ≤ 1073741824) :
    CtR Tryd.prog 24 [.pointer (some ⟨b, 0, none⟩), .string s] ((b, Obj.cells ⟨[ad, .slice base m cap]⟩ 49) :: A) (fun _ => True) (fun r A' => r = .tuple #[.int .i64 s.size, .nilIface] ∧
      ∃ base' cap' B, A' = (b, Obj.cells ⟨[.pointer (some ⟨b, 0, none⟩), .slice base' (xs ++ s.data.toList).length cap']⟩ 49) :: B ∧ (gSl 5 gY).ow [.slice base' (xs ++ s.data.toList).length cap'] (xs ++ s.data.toList) B ∧ Bz base' cap') := by
  obtain ⟨rfl, hcl, hll⟩ := sl_len (Gt.owrd _ ho)
  refine CtR.introB G_ok [.p 0 0, .v (.string s)] [⟨b, [ad, .slice base xs.length cap], 49⟩] [A] Tryd.func24 rfl rfl rfl rfl (by simp [SV.ok]) (by simp [Blk.ent]) fun E H hp => ?_
  have ha' := ha
  refine callR_blk 0 ([]) [A, H] rfl ?_ (copyCheck_ct _ _ _ (by first | exact .inl rfl | exact .inr rfl | assumption)) trivial ?_
  · exact .refl _
  rintro _ A0 ⟨rfl, rfl⟩
  refine ⟨_, _, [], rfl, perm0, ?_⟩
  refine append_str G_ok 0 rfl ho hz rfl rfl rfl rfl rfl rfl rfl rfl ?_ fun b1 c1 A1 o1 z1 => ?_
  · trivial
  exact ⟨_, ⟨rfl, _, _, _, rfl, ‹_›, ‹_›⟩, .le fun a => by simp [List.count_cons, Blk.ent, setR, idOf]⟩
--@ct (*strings.Builder).String blk1 String_ct _ _ _ _ _ _ _ !o !z | | rintro _ A# ⟨rfl, rfl⟩ ;; refine ⟨_, _, [], rfl, perm0, ?_⟩
theorem String_ct (b : Nat) (ad : Value) (base : Option Addr) (m cap : Nat) (xs : List UInt8) (A : Hp) (ho : (gSl 5 gY).ow [.slice base m cap] xs A) (hz : Bz base cap) :
    CtR Tryd.prog 26 [.pointer (some ⟨b, 0, none⟩)] ((b, Obj.cells ⟨[ad, .slice base m cap]⟩ 49) :: A) (fun _ => True) (fun r A' => r = .string ⟨xs.toArray⟩ ∧ A' = [(b, Obj.cells ⟨[ad, .slice base m cap]⟩ 49)]) := by
  obtain ⟨rfl, hcl, hll⟩ := sl_len (Gt.owrd _ ho)
  refine CtR.introB G_ok [.p 0 0] [⟨b, [ad, .slice base xs.length cap], 49⟩] [A] Tryd.func26 rfl rfl rfl rfl (by simp [SV.ok]) (by simp [Blk.ent]) fun E H hp => ?_
  refine draw G_ok mixed (some 10) (.q 0 (.q 1 (.q 2 (.q 3 (.q 5 (.q 6 (.q 7 (.q 8 (.q 9 (.f 4 (.tl 10 (.f 11 (.nil))))))))))))) (by decide +kernel) ?_
  refine sliceData rfl hz ?_
  refine VC.intro ?_ ?_
  · exact fun _ h => h
  refine unsafeStr G_ok 0 rfl ho rfl rfl rfl (by kernel_rfl) ?_
  exact ⟨_, ⟨rfl, rfl⟩, .le fun a => by simp [List.count_cons, Blk.ent, setR]⟩
end Go.Proofs.YtcnclhjhnjpeiaaDoor

namespace Go.Proofs.YtcnclhjhnjpeiaaDoor
open Go.SX Go.Proofs
set_option linter.unusedSimpArgs false
set_option linter.unusedVariables false
set_option maxHeartbeats 4000000
attribute [local irreducible] IntKind.wrap
theorem filter_yes {α : Type} {p : α → Bool} {xs : List α} {k : Nat} (z : α) (h : k < xs.length) (hp : p (xs[k]?.getD z) = true) : (xs.take (k + 1)).filter p = (xs.take k).filter p ++ [xs[k]?.getD z] := by
  rw [List.getElem?_eq_getElem h] at hp ⊢
  rw [← List.take_append_getElem h, List.filter_append]
  simp at hp
  simp [hp]
theorem filter_no {α : Type} {p : α → Bool} {xs : List α} {k : Nat} (z : α) (h : k < xs.length) (hp : p (xs[k]?.getD z) = false) : (xs.take (k + 1)).filter p = (xs.take k).filter p := by
  rw [List.getElem?_eq_getElem h] at hp
  rw [← List.take_append_getElem h, List.filter_append]
  simp at hp
  simp [hp]
end Go.Proofs.YtcnclhjhnjpeiaaDoor

namespace Go.Proofs.YtcnclhjhnjpeiaaDoor
open Go.SX Go.Proofs
theorem u64_wrap (x : Int) : IntKind.u64.wrap x = x % 18446744073709551616 := by
  unfold IntKind.wrap; simp [IntKind.bits, IntKind.signed]
theorem half_64 (B : Int) : B.fdiv (2 ^ min (Int.toNat 1) IntKind.u64.bits) = B / 2 := by
  have : (2 : Int) ^ min (Int.toNat 1) IntKind.u64.bits = 2 := by decide
  rw [this, Int.fdiv_eq_ediv_of_nonneg _ (by decide)]
theorem mid_eq (i j : Nat) (h : i + j ≤ 1000000000) : IntKind.i64.wrap ((IntKind.u64.wrap (IntKind.i64.wrap ((i : Int) + (j : Int)))).fdiv (2 ^ min (Int.toNat 1) IntKind.u64.bits)) = (((i + j) / 2 : Nat) : Int) := by
  have e1 : IntKind.i64.wrap ((i : Int) + (j : Int)) = (i : Int) + (j : Int) := wrap_of (by omega) (by omega)
  rw [e1, u64_wrap, half_64, wrap_of (by omega) (by omega)]
  omega
end Go.Proofs.YtcnclhjhnjpeiaaDoor

namespace Go.Proofs.YtcnclhjhnjpeiaaDoor
open Go.SX Go.Proofs
set_option linter.unusedSimpArgs false
set_option linter.unusedVariables false
set_option maxHeartbeats 4000000
attribute [local irreducible] IntKind.wrap
theorem OwL_drop {α : Type} {g : Gt α} {ls : List (RawC g.size)} {xs : List α} {As : List Hp} (h : OwL g ls xs As) : ∀ i : Nat, OwL g (ls.drop i) (xs.drop i) (As.drop i) := by
  induction h with
  | nil => intro i; simp; exact .nil
  | cons h hr ih =>
    intro i
    cases i with
    | zero => exact .cons h hr
    | succ i => exact ih i
theorem insEdge_ct (b : Option Addr) (m c i x : Nat) (xs : List Edge) (e : Edge) (l : List Value) (A : Hp) (hA : (gSl 42 gEdge).ow [.slice b m c] xs A) (hl : gEdge.ow l e []) (hi : i ≤ m) (hm : m ≤ 1000000) :
    CtR Tryd.prog 70 [.slice b m c, .int .i64 (i : Int), .slice (some ⟨x, 0, none⟩) 1 1] A (fun H => (x, Obj.cells ⟨l⟩ 42) ∈ H)
      (fun v A => ∃ b c, v = .slice b (xs.take i ++ ([e] ++ xs.drop i)).length c ∧ (gSl 42 gEdge).ow [.slice b (xs.take i ++ ([e] ++ xs.drop i)).length c] (xs.take i ++ ([e] ++ xs.drop i)) A) := by
  obtain ⟨v, ls, A0, As, ev, ho, hp, hL⟩ := hA
  cases ev
  have hlen := hL.len
  have hm0 : m = ls.length := by obtain ⟨_, _, _, _, e0, _⟩ := ho; cases e0; rfl
  have hr := insRaw_ct b m c i x ls ⟨l, raw_of (gEdge.owrd hl)⟩ A0 ho hi hm
  refine ⟨hr.1, fun E H w hs hpre => ?_⟩
  have hs' : Sat E (A0 ++ (As.flatten ++ H)) w := by
    refine hs.perm ?_
    have := hp.append_right H
    simpa [List.append_assoc] using this
  refine (hr.2 E (As.flatten ++ H) w hs' ⟨?_, List.mem_append_right _ hpre⟩).mono ?_
  · exact lit_rd (f := flRaw gEdge.size gEdge.pos) (List.mem_append_right _ hpre) rfl trivial
  rintro e' w' ⟨v, A1, h1, ⟨b', c', h2, h3⟩, h4⟩
  have hlx : (xs.take i ++ ([e] ++ xs.drop i)).length = m + 1 := by
    simp only [List.length_append, List.length_take, List.length_drop, List.length_cons, List.length_nil]; omega
  refine ⟨v, A1 ++ As.flatten, h1, ⟨b', c', by rw [hlx]; exact h2, ?_⟩, by rw [List.append_assoc]; exact h4⟩
  rw [hlx]
  refine ⟨_, _, A1, As.take i ++ ([[]] ++ As.drop i), rfl, h3, ?_, (hL.take i).append (OwL.append (.cons hl .nil) (OwL_drop hL i))⟩
  refine List.Perm.append_left _ ?_
  conv => lhs; rw [← List.take_append_drop i As]
  simp only [List.flatten_append, List.flatten_cons, List.flatten_nil, List.nil_append]
  exact .refl _
theorem cmpE_zero {a b : Edge} : cmpE a b = 0 ↔ a = b := by
  have h1 := cmpE_lt a b
  constructor
  · intro h
    rw [h] at h1
    unfold cmpE at h
    split at h
    · rename_i h2
      have : a.label.toNat = b.label.toNat := by omega
      exact absurd (UInt8.toNat_inj.1 this) h2.1
    rename_i h2
    simp only [cmpL] at h
    have h3 : a.from' = b.from' := by
      by_cases h4 : a.from' < b.from'
      · rw [if_pos h4] at h; omega
      rw [if_neg h4] at h
      by_cases h5 : b.from' < a.from'
      · rw [if_pos h5] at h; omega
      omega
    have h6 : a.label = b.label := by
      by_cases h7 : a.label = b.label
      · exact h7
      exact absurd ⟨h7, h3⟩ h2
    rw [if_neg (by omega), if_neg (by omega)] at h
    have h8 : a.to = b.to := by
      by_cases h4 : a.to < b.to
      · rw [if_pos h4] at h; omega
      rw [if_neg h4] at h
      by_cases h5 : b.to < a.to
      · rw [if_pos h5] at h; omega
      omega
    cases a; cases b; simp_all
  rintro rfl
  unfold cmpE
  rw [if_neg (by simp)]
  simp [cmpL]
theorem cmpE_neg {a b : Edge} : cmpE a b < 0 ↔ edgeLess a b = true := by rw [← cmpE_lt, decide_eq_true_iff]
theorem below_all {xs : List Edge} {e : Edge} {m : Nat} (hs : sortedE xs) (hm : m < xs.length) (h : edgeLess (xs[m]?.getD default) e = true) (q : Nat) (hq : q < m + 1) : edgeLess (xs[q]?.getD default) e = true := by
  rcases Nat.lt_or_ge q m with h1 | h1
  · exact edgeLess_trans (sorted_at hs h1 hm) h
  rw [show q = m by omega]; exact h
theorem above_all {xs : List Edge} {e : Edge} {m : Nat} (hs : sortedE xs) (h : edgeLess (xs[m]?.getD default) e = false) (q : Nat) (h1 : m ≤ q) (hq : q < xs.length) : edgeLess (xs[q]?.getD default) e = false := by
  rcases Nat.lt_or_ge m q with h2 | h2
  · cases h3 : edgeLess (xs[q]?.getD default) e with
    | false => rfl
    | true => have := edgeLess_trans (sorted_at hs h2 hq) h3; rw [h] at this; cases this
  rw [show q = m by omega]; exact h
theorem cmpE_nneg {a b : Edge} (h : 0 ≤ cmpE a b) : edgeLess a b = false := by
  cases e : edgeLess a b with
  | false => rfl
  | true => have := cmpE_neg.2 e; omega
--@ct slices.BinarySearchFunc[[]impl.Edge,impl.Edge,impl.Edge] raw refine call_val (bsEdge_ct _ _ _ _ $1 $2 ?_ ?_) ⟨%1, %2⟩ ?_ | | rintro _ ⟨k#, hk#, rfl⟩
theorem bsEdge_ct (b : Option Addr) (m c : Nat) (l : List Value) (xs : List Edge) (e : Edge) (hs : sortedE xs) (hm : xs.length ≤ 1000000) :
    Ct Tryd.prog 69 [.slice b m c, .agg ⟨l⟩, .func (.func 61) ⟨[]⟩ ⟨[]⟩] [] (fun H => (gSl 42 gEdge).rd H [.slice b m c] xs ∧ gEdge.rd H l e)
      (fun v A => (∃ k : Nat, atE xs e k ∧ v = .tuple #[.int .i64 (k : Int), .bool (decide (k < xs.length ∧ xs[k]?.getD default = e))]) ∧ A = []) := by
  refine Ct.intro0 G_ok Tryd.func69 rfl rfl rfl fun E H hp => ?_
  obtain ⟨hp, hp2⟩ := hp
  obtain ⟨rfl, hcl, hl⟩ := sl_len hp
  obtain ⟨rfl, w0f, w2f⟩ := gEdge_rd.1 hp2
  refine VCnew.intro fun x0 => ?_
  apply loop_mod (α := (Nat) × (Nat)) G_ok [15, 16, 17, 18, 19, 20, 21, 22, 23, 11, 24, 25, 26, 27, 28, 29, 30, 31, 32, 33, 9, 34, 10] (fun z => [(9, .v (.int .i64 z.1)), (10, .v (.int .i64 z.2))]) (fun z => [{ id := x0, cs := [Value.int IntKind.i64 e.from', Value.int IntKind.u8 (↑e.label.toNat : Int), Value.int IntKind.i64 e.to], ty := (42 : Nat) }]) (fun z => [H]) (fun z => z.2 - z.1) (fun z => z.1 ≤ z.2 ∧ z.2 ≤ xs.length ∧ (∀ q, q < z.1 → edgeLess (xs[q]?.getD default) e = true) ∧ (∀ q, z.2 ≤ q → q < xs.length → edgeLess (xs[q]?.getD default) e = false)) ((0, xs.length))
  · repeat' (first | exact trivial | refine ⟨⟨_, rfl, by first | rfl | exact inc_eq _ (by omega) | (refine sl_eq ?_; simp; done) | (rw [hh]; exact inc_eq _ (by omega)) | (rw [hh]), by first | exact trivial | simp [SV.ok]⟩, ?_⟩)
  · exact ⟨rfl, trivial⟩
  · try dsimp only
    exact ⟨by omega, by omega, fun q hq => absurd hq (by omega), fun q hq hq2 => absurd hq2 (by omega)⟩
  · exact .refl _
  rintro ⟨i, j⟩ hI
  obtain ⟨hij, hj, h1, h2⟩ : i ≤ j ∧ j ≤ xs.length ∧ (∀ q, q < i → edgeLess (xs[q]?.getD default) e = true) ∧ (∀ q, j ≤ q → q < xs.length → edgeLess (xs[q]?.getD default) e = false) := hI
  try dsimp only
  refine VCsplit.intro (fun q1 => ?_) (fun q1 => ?_)
  ·
    simp at q1
    have hh := mid_eq i j (by omega)
    refine VC.intro ?_ ?_
    · trivial
    refine draw G_ok mixed none (.q 0 (.q 1 (.q 2 (.q 3 (.q 4 (.q 5 (.f 6 (.q 7 (.nil))))))))) (by decide +kernel) ?_
    refine idx_rd hp ?_ ?_ fun b2 o2 hb2 => ?_
    · omega
    · omega
    refine load_all default hp ?_ ?_ hb2 rfl (mem_at 0 rfl) fun l3 hl3 => ?_
    · omega
    · omega
    obtain ⟨rfl, w0x3, w2x3⟩ := gEdge_rd.1 hl3
    refine call_val (compareEdges_ct _ _ (xs[(IntKind.i64.wrap ((IntKind.u64.wrap (IntKind.i64.wrap ((↑i : Int) + (↑j : Int)))).fdiv ((2 : Int) ^ min (Int.toNat (1 : Int)) IntKind.u64.bits))).toNat]?.getD default) (e)) ⟨(Rp.mono _ (mem_at 0 rfl) hl3), (Rp.mono _ (mem_at 0 rfl) hp2)⟩ ?_
    rintro _ rfl
    refine VC.intro ?_ ?_
    · exact fun _ h => h
    refine VCsplit.intro (fun q5 => ?_) (fun q5 => ?_)
    ·
      rw [hh, Int.toNat_natCast] at q5
      simp at q5
      apply loop_stepA ((i + j) / 2 + 1, j)
      · exact .refl _
      · repeat' (first | exact trivial | refine ⟨⟨_, rfl, by first | rfl | exact inc_eq _ (by omega) | (refine sl_eq ?_; simp; done) | (rw [hh]; exact inc_eq _ (by omega)) | (rw [hh]), by first | exact trivial | simp [SV.ok]⟩, ?_⟩)
      · exact ⟨rfl, trivial⟩
      · try dsimp only
        exact ⟨by omega, by omega, below_all hs (by omega) (cmpE_neg.1 ‹_›), h2⟩
      try dsimp only
      omega
    ·
      rw [hh, Int.toNat_natCast] at q5
      simp at q5
      apply loop_stepA (i, (i + j) / 2)
      · exact .refl _
      · repeat' (first | exact trivial | refine ⟨⟨_, rfl, by first | rfl | exact inc_eq _ (by omega) | (refine sl_eq ?_; simp; done) | (rw [hh]; exact inc_eq _ (by omega)) | (rw [hh]), by first | exact trivial | simp [SV.ok]⟩, ?_⟩)
      · exact ⟨rfl, trivial⟩
      · try dsimp only
        exact ⟨by omega, by omega, h1, above_all hs (cmpE_nneg (by omega))⟩
      try dsimp only
      omega
  ·
    simp at q1
    obtain rfl : i = j := by omega
    refine draw G_ok mixed none (.q 0 (.q 1 (.q 2 (.q 3 (.q 4 (.q 5 (.q 6 (.q 7 (.q 8 (.q 9 (.q 10 (.f 11 (.q 12 (.q 13 (.q 14 (.q 15 (.nil))))))))))))))))) (by decide +kernel) ?_
    refine VCsplit.intro (fun q6 => ?_) (fun q6 => ?_)
    ·
      simp at q6
      refine idx_rd hp ?_ ?_ fun b7 o7 hb7 => ?_
      · omega
      · omega
      refine load_allN default (i) rfl hp ?_ ?_ hb7 rfl (mem_at 0 rfl) fun l8 hl8 => ?_
      · omega
      · omega
      obtain ⟨rfl, w0x8, w2x8⟩ := gEdge_rd.1 hl8
      refine call_val (compareEdges_ct _ _ (xs[i]?.getD default) (e)) ⟨(Rp.mono _ (mem_at 0 rfl) hl8), (Rp.mono _ (mem_at 0 rfl) hp2)⟩ ?_
      rintro _ rfl
      refine VC.intro ?_ ?_
      · exact fun _ h => h
      exact ⟨[], ⟨⟨i, ⟨by omega, h1, h2⟩, by (congr 2; rw [← decide_eq_decide.2 (show (cmpE (xs[i]?.getD default) e = 0) ↔ (i < xs.length ∧ xs[i]?.getD default = e) from cmpE_zero.trans ⟨fun h => ⟨by omega, h⟩, fun h => h.2⟩)]; rfl)⟩, rfl⟩, (.le fun a => by (try simp only [setR, List.cons_append, List.nil_append]); simp [List.count_cons, Blk.ent, idOf]; try omega)⟩
    ·
      simp at q6
      exact ⟨[], ⟨⟨i, ⟨by omega, h1, h2⟩, by rw [decide_eq_false (by omega)]⟩, rfl⟩, (.le fun a => by (try simp only [setR, List.cons_append, List.nil_append]); simp [List.count_cons, Blk.ent, idOf]; try omega)⟩
end Go.Proofs.YtcnclhjhnjpeiaaDoor

namespace Go.Proofs.YtcnclhjhnjpeiaaDoor
open Go.SX Go.Proofs
set_option linter.unusedSimpArgs false
set_option linter.unusedVariables false
set_option maxHeartbeats 4000000
attribute [local irreducible] IntKind.wrap
theorem sl_none {α : Type} {T : TypeId} {g : Gt α} {H : Hp} {xs : List α} {b : Option Addr} {n c : Nat} (h : (gSl T g).rd H [.slice b n c] xs) (hb : b = none) : xs = [] := by
  obtain ⟨base, cap, e, -, h3⟩ := h
  cases xs with
  | nil => rfl
  | cons x xs =>
    obtain ⟨b', o, l', h4, -⟩ := h3 0 (by simp)
    injection e with e; injection e with e
    rw [hb, h4] at e; cases e
end Go.Proofs.YtcnclhjhnjpeiaaDoor

namespace Go.Proofs.YtcnclhjhnjpeiaaDoor
open Go.SX Go.Proofs
set_option linter.unusedSimpArgs false
set_option linter.unusedVariables false
set_option maxHeartbeats 4000000
attribute [local irreducible] IntKind.wrap
--@ct slices.Clone[[]impl.Edge,impl.Edge] new cloneEdge_ct _ _ _ $1 ?_ | %1 | obtain ⟨b#, c#, rfl, o#⟩ := o#
theorem cloneEdge_ct (b : Option Addr) (m c : Nat) (xs : List Edge) (hx : xs.length ≤ 1000000) :
    Ct Tryd.prog 79 [.slice b m c] [] (fun H => (gSl 42 gEdge).rd H [.slice b m c] xs) (fun v A => ∃ b c, v = .slice b xs.length c ∧ (gSl 42 gEdge).ow [.slice b xs.length c] xs A) := by
  refine Ct.intro0 G_ok Tryd.func79 rfl rfl rfl fun E H hp => ?_
  obtain ⟨rfl, hcl, hl⟩ := sl_len hp
  refine VCsplit.intro (fun q0 => ?_) (fun q0 => ?_)
  ·
    simp at q0
    (obtain rfl := sl_none hp ‹_ = none›; exact ⟨[], ⟨none, 0, rfl, sl_nil _ _ _⟩, (.le fun a => by (try simp only [setR, List.cons_append, List.nil_append]); simp only [List.flatten_append, List.flatten_cons, List.flatten_nil, List.count_append, List.count_nil, List.append_nil, List.nil_append]; omega)⟩)
  ·
    simp at q0
    refine VCnew.intro fun x1 => ?_
    refine append_allN (g := gEdge) (T := (42 : TypeId)) G_ok (by repeat (first | exact fl_plain | apply plain_iso | apply plain_pair)) [] [[(x1, Obj.cells { toList := zeros (0 : Nat) [Value.int IntKind.i64 (0 : Int), Value.int IntKind.u8 (0 : Int), Value.int IntKind.i64 (0 : Int)] } (42 : TypeId))], H] 1 ?_ (sl_nil _ _ _) rfl hp rfl rfl rfl rfl rfl rfl rfl rfl ?_ fun b2 c2 A2 o2 => ?_
    · exact .refl _
    · simp; omega
    exact ⟨_, ⟨_, _, rfl, by assumption⟩, (.le fun a => by (try simp only [setR, List.cons_append, List.nil_append]); simp only [List.flatten_append, List.flatten_cons, List.flatten_nil, List.count_append, List.count_nil, List.append_nil, List.nil_append]; omega)⟩
--@ct impl.copyGraph new copyGraph_ct _ $1 ?_ | %1 | obtain ⟨b#, c#, rfl, o#⟩ := o#
theorem copyGraph_ct (l : List Value) (g : Graph) (hx : g.edges.length ≤ 1000000) :
    Ct Tryd.prog 68 [.agg ⟨l⟩] [] (fun H => gGraph.rd H l g) (fun v A => ∃ b c, v = .agg ⟨[.int .i64 g.size, .slice b g.edges.length c]⟩ ∧ (gSl 42 gEdge).ow [.slice b g.edges.length c] g.edges A) := by
  refine Ct.intro0 G_ok Tryd.func68 rfl rfl rfl fun E H hp => ?_
  obtain ⟨b1p, c1p, rfl, w0p, h1p⟩ := gGraph_rd.1 hp
  refine VCnew.intro fun x0 => ?_
  refine VCnew.intro fun x1 => ?_
  refine draw G_ok mixed (some 6) (.q 0 (.q 1 (.q 2 (.q 3 (.f 4 (.q 5 (.tl 6 (.nil)))))))) (by decide +kernel) ?_
  refine call_new (cloneEdge_ct _ _ _ (g.edges) ?_) (Rp.mono _ (mem_at 0 rfl) h1p) ?_
  · trivial
  rintro v2 A2 o2
  obtain ⟨b2, c2, rfl, o2⟩ := o2
  refine VC.intro ?_ ?_
  · exact keep_new
  exact ⟨_, ⟨_, _, rfl, by assumption⟩, (.le fun a => by (try simp only [setR, List.cons_append, List.nil_append]); simp [List.count_cons, Blk.ent, idOf]; try omega)⟩
/-- a graph to which an edge is added -/
def putG (g : Graph) (e : Edge) : Graph := ⟨g.size, putE g.edges e⟩
def addG (g : Graph) (e : Edge) : Graph := if graphOk (putG g e) then putG g e else g
theorem addG_yes {g : Graph} {e : Edge} (h : graphOk (putG g e) = true) : addG g e = putG g e := by unfold addG; rw [h]; rfl
theorem addG_no {g : Graph} {e : Edge} (h : graphOk (putG g e) = false) : addG g e = g := by unfold addG; rw [h]; rfl
theorem graphOk_sorted {g : Graph} (h : graphOk g = true) : sortedE g.edges := (graphOk_iff.1 h).2.2.2
theorem putG_old {g : Graph} {e : Edge} {k : Nat} (h : graphOk g = true) (ha : atE g.edges e k) (hf : k < g.edges.length ∧ g.edges[k]?.getD default = e) : putG g e = g := by
  unfold putG; rw [putE_old (graphOk_sorted h) ha hf.1 hf.2]
theorem putG_new {g : Graph} {e : Edge} {k : Nat} (h : graphOk g = true) (ha : atE g.edges e k) (hf : ¬ (k < g.edges.length ∧ g.edges[k]?.getD default = e)) : putG g e = ⟨g.size, g.edges.take k ++ ([e] ++ g.edges.drop k)⟩ := by
  unfold putG; rw [putE_new (graphOk_sorted h) ha hf]
--@ct impl.GraphAdd new graphAdd_ct _ _ $1 $2 ?_ | ⟨%1, %2⟩ | obtain ⟨b#, c#, rfl, o#⟩ := o#
theorem graphAdd_ct (l l2 : List Value) (g : Graph) (e : Edge) (hg : graphOk g = true) :
    Ct Tryd.prog 56 [.agg ⟨l⟩, .agg ⟨l2⟩] [] (fun H => gGraph.rd H l g ∧ gEdge.rd H l2 e) (fun v A => ∃ b c, v = .tuple #[.agg ⟨[.int .i64 (addG g e).size, .slice b (addG g e).edges.length c]⟩, .bool (graphOk (putG g e))] ∧ (gSl 42 gEdge).ow [.slice b (addG g e).edges.length c] (addG g e).edges A) := by
  refine Ct.intro0 G_ok Tryd.func56 rfl rfl rfl fun E H hp => ?_
  obtain ⟨hp, hp2⟩ := hp
  obtain ⟨b1p, c1p, rfl, w0p, h1p⟩ := gGraph_rd.1 hp
  obtain ⟨rfl, w0f, w2f⟩ := gEdge_rd.1 hp2
  have hr := graphOk_rng hg
  have hpost : ∀ (k : Nat) (b : Option Addr) (c : Nat) (A : Hp), (gSl 42 gEdge).ow [.slice b (g.edges.take k ++ ([e] ++ g.edges.drop k)).length c] (g.edges.take k ++ ([e] ++ g.edges.drop k)) A → gGraph.rd A [.int .i64 g.size, .slice b (g.edges.take k ++ ([e] ++ g.edges.drop k)).length c] ⟨g.size, g.edges.take k ++ ([e] ++ g.edges.drop k)⟩ := fun k b c A h => gGraph_rd.2 ⟨b, c, rfl, w0p, Gt.owrd _ h⟩
  refine VCnew.intro fun x0 => ?_
  refine VCnew.intro fun x1 => ?_
  refine VCnew.intro fun x2 => ?_
  refine call_new (copyGraph_ct _ (g) ?_) (Rp.mono _ (mem_at 0 rfl) hp) ?_
  · omega
  rintro v3 A3 o3
  obtain ⟨b3, c3, rfl, o3⟩ := o3
  refine VCnew.intro fun x4 => ?_
  refine call_val (implGraphOk_ct _ _) (by (try exact Rp.mono _ (mem_at 0 rfl) hp); (try exact Rp.mono _ (mem_at 1 rfl) hp); (try exact Rp.mono _ (mem_at 0 rfl) (hpost _ _ _ _ (by assumption))); (try exact Rp.mono _ (mem_at 1 rfl) (hpost _ _ _ _ (by assumption)))) ?_
  rintro _ rfl
  refine VCsplit.intro (fun q6 => ?_) (fun q6 => ?_)
  ·
    simp at q6
    exact absurd (hg.symm.trans q6) (by decide)
  ·
    simp at q6
    refine call_val (bsEdge_ct _ _ _ _ (g.edges) (e) ?_ ?_) ⟨(Rp.mono _ (mem_at 0 rfl) (Gt.owrd _ o3)), (Rp.mono _ (mem_at 1 rfl) hp2)⟩ ?_
    · exact graphOk_sorted hg
    · omega
    rintro _ ⟨k7, hk7, rfl⟩
    refine VCsplit.intro (fun q8 => ?_) (fun q8 => ?_)
    ·
      simp at q8
      (have e0 := putG_old hg ‹atE _ _ _› ‹_ ∧ _›; have e2 : graphOk (putG g e) = true := (by rw [e0]; exact hg); rw [addG_yes e2, e2, e0]; exact ⟨_, ⟨_, _, rfl, by assumption⟩, (.le fun a => by (try simp only [setR, List.cons_append, List.nil_append]); simp [List.count_cons, Blk.ent, idOf]; try omega)⟩)
    ·
      simp at q8
      refine VCnew.intro fun x9 => ?_
      refine callR_at 1 rfl (insEdge_ct _ _ _ _ _ _ _ _ _ o3 (gEdge_own ‹gEdge.rd _ _ _›) ?_ ?_) (mem_at 0 rfl _ (List.mem_singleton.2 rfl)) ?_
      · exact ‹atE _ _ _›.1
      · omega
      rintro _ A10 ⟨b10, c10, rfl, o10⟩
      refine call_val (implGraphOk_ct _ _) (by (try exact Rp.mono _ (mem_at 0 rfl) hp); (try exact Rp.mono _ (mem_at 1 rfl) hp); (try exact Rp.mono _ (mem_at 0 rfl) (hpost _ _ _ _ (by assumption))); (try exact Rp.mono _ (mem_at 1 rfl) (hpost _ _ _ _ (by assumption)))) ?_
      rintro _ rfl
      refine VCsplit.intro (fun q12 => ?_) (fun q12 => ?_)
      ·
        simp at q12
        refine call_new (copyGraph_ct _ (g) ?_) (Rp.mono _ (mem_at 2 rfl) hp) ?_
        · omega
        rintro v13 A13 o13
        obtain ⟨b13, c13, rfl, o13⟩ := o13
        try dsimp only
        (have e1 := putG_new hg ‹atE _ _ _› (fun h => ‹_ → ¬ _› h.1 h.2); have e2 : graphOk (putG g e) = false := (by rw [e1]; exact ‹graphOk ⟨_, _⟩ = false›); rw [addG_no e2, e2]; exact ⟨_, ⟨_, _, rfl, by assumption⟩, (.le fun a => by (try simp only [setR, List.cons_append, List.nil_append]); simp [List.count_cons, Blk.ent, idOf]; try omega)⟩)
      ·
        simp at q12
        try dsimp only
        (have e1 := putG_new hg ‹atE _ _ _› (fun h => ‹_ → ¬ _› h.1 h.2); have e2 : graphOk (putG g e) = true := (by rw [e1]; exact ‹graphOk ⟨_, _⟩ = true›); rw [addG_yes e2, e2, e1]; exact ⟨_, ⟨_, _, rfl, by assumption⟩, (.le fun a => by (try simp only [setR, List.cons_append, List.nil_append]); simp [List.count_cons, Blk.ent, idOf]; try omega)⟩)
--@ct spec.l04Put new l04Put_ct _ _ _ _ $1 $2 ?_ | ⟨%1, %2⟩ | obtain ⟨b#, c#, rfl, o#⟩ := o#
theorem l04Put_ct (b : Option Addr) (m c : Nat) (l : List Value) (xs : List Edge) (e : Edge) (hm : xs.length ≤ 400000000) :
    Ct Tryd.prog 64 [.slice b m c, .agg ⟨l⟩] [] (fun H => (gSl 42 gEdge).rd H [.slice b m c] xs ∧ gEdge.rd H l e) (fun v A => ∃ b c, v = .slice b (putE xs e).length c ∧ (gSl 42 gEdge).ow [.slice b (putE xs e).length c] (putE xs e) A) := by
  refine Ct.intro0 G_ok Tryd.func64 rfl rfl rfl fun E H hp => ?_
  obtain ⟨hp, hp2⟩ := hp
  obtain ⟨rfl, hcl, hl⟩ := sl_len hp
  obtain ⟨rfl, w0f, w2f⟩ := gEdge_rd.1 hp2
  refine VCnew.intro fun x0 => ?_
  refine VCnew.intro fun x1 => ?_
  apply loop_mod (α := (Nat) × (List Edge) × (Hp) × (Option Addr) × (Nat)) G_ok [9, 10, 11, 12, 15, 16, 17, 18, 19, 20, 21, 22, 23, 24, 25, 26, 27, 5, 13, 14, 6] (fun z => [(6, .v (.int .i64 z.1)), (5, .v (.slice z.2.2.2.1 z.2.1.length z.2.2.2.2))]) (fun z => [{ id := x0, cs := [Value.int IntKind.i64 e.from', Value.int IntKind.u8 (↑e.label.toNat : Int), Value.int IntKind.i64 e.to], ty := (42 : Nat) }]) (fun z => [z.2.2.1, H]) (fun z => xs.length - z.1) (fun z => z.1 ≤ xs.length ∧ z.2.1 = (xs.take z.1).filter (fun x => edgeLess x e) ∧ (gSl 42 gEdge).ow [.slice z.2.2.2.1 z.2.1.length z.2.2.2.2] z.2.1 z.2.2.1) ((0, [], [], _, 0))
  · repeat' (first | exact trivial | refine ⟨⟨_, rfl, by first | rfl | exact inc_eq _ (by omega) | (refine sl_eq ?_; simp; done), by first | exact trivial | simp [SV.ok]⟩, ?_⟩)
  · exact ⟨rfl, trivial⟩
  · try dsimp only
    exact ⟨by omega, rfl, sl_nil _ _ _⟩
  · exact .tl
  rintro ⟨k, o, A, lb, lc⟩ hI
  obtain ⟨hk, ho, oA⟩ : k ≤ xs.length ∧ o = (xs.take k).filter (fun x => edgeLess x e) ∧ (gSl 42 gEdge).ow [.slice lb o.length lc] o A := hI
  try dsimp only
  refine VCsplit.intro (fun q2 => ?_) (fun q2 => ?_)
  ·
    simp at q2
    have hol : o.length ≤ k := by rw [ho]; exact Nat.le_trans (List.length_filter_le _ _) (by rw [List.length_take]; omega)
    refine draw G_ok mixed none (.q 0 (.q 1 (.q 2 (.q 3 (.q 4 (.f 5 (.nil))))))) (by decide +kernel) ?_
    refine idx_rd hp ?_ ?_ fun b3 o3 hb3 => ?_
    · omega
    · omega
    refine load_allN default (k) rfl hp ?_ ?_ hb3 rfl (mem_at 1 rfl) fun l4 hl4 => ?_
    · omega
    · omega
    obtain ⟨rfl, w0x4, w2x4⟩ := gEdge_rd.1 hl4
    refine call_val (specEdgeLess_ct _ _ (xs[k]?.getD default) (e)) ⟨(Rp.mono _ (mem_at 1 rfl) hl4), (Rp.mono _ (mem_at 1 rfl) hp2)⟩ ?_
    rintro _ rfl
    refine VC.intro ?_ ?_
    · exact fun _ h => h
    refine VCsplit.intro (fun q6 => ?_) (fun q6 => ?_)
    ·
      refine idx_rd hp ?_ ?_ fun b7 o7 hb7 => ?_
      · omega
      · omega
      refine load_allN default (k) rfl hp ?_ ?_ hb7 rfl (mem_at 1 rfl) fun l8 hl8 => ?_
      · omega
      · omega
      obtain ⟨rfl, w0x8, w2x8⟩ := gEdge_rd.1 hl8
      refine VCnew.intro fun x9 => ?_
      refine gappend1 (g := gEdge) (T := (42 : TypeId)) G_ok A _ [H] ?_ oA (gEdge_own ‹_›) (List.mem_of_getElem? (i := 0) rfl) rfl rfl rfl rfl rfl rfl rfl rfl ?_ fun b10 c10 A10 o10 => ?_
      · exact .tl
      · omega
      apply loop_stepA (k + 1, _, _, _, _)
      · exact .refl _
      · repeat' (first | exact trivial | refine ⟨⟨_, rfl, by first | rfl | exact inc_eq _ (by omega) | (refine sl_eq ?_; simp; done), by first | exact trivial | simp [SV.ok]⟩, ?_⟩)
      · exact ⟨rfl, trivial⟩
      · try dsimp only
        exact ⟨by omega, by rw [ho, filter_yes default (by omega) (by exact ‹edgeLess _ _ = true›)], ‹_›⟩
      try dsimp only
      omega
    ·
      apply loop_stepA (k + 1, _, _, _, _)
      · exact .refl _
      · repeat' (first | exact trivial | refine ⟨⟨_, rfl, by first | rfl | exact inc_eq _ (by omega) | (refine sl_eq ?_; simp; done), by first | exact trivial | simp [SV.ok]⟩, ?_⟩)
      · exact ⟨rfl, trivial⟩
      · try dsimp only
        exact ⟨by omega, by rw [ho, filter_no default (by omega) (by exact ‹edgeLess _ _ = false›)], ‹_›⟩
      try dsimp only
      omega
  ·
    simp at q2
    obtain rfl : k = xs.length := by omega
    rw [List.take_length] at ho
    have hol : o.length ≤ xs.length := by rw [ho]; exact List.length_filter_le _ _
    refine VCnew.intro fun x11 => ?_
    refine gappend1 (g := gEdge) (T := (42 : TypeId)) G_ok A _ [H] ?_ oA (gEdge_own ‹_›) (List.mem_of_getElem? (i := 0) rfl) rfl rfl rfl rfl rfl rfl rfl rfl ?_ fun b12 c12 A12 o12 => ?_
    · exact .tl
    · omega
    apply loop_mod (α := (Nat) × (List Edge) × (Hp) × (Option Addr) × (Nat)) G_ok [32, 33, 34, 35, 38, 39, 40, 41, 42, 43, 44, 45, 46, 47, 48, 49, 50, 5, 36, 37, 7] (fun z => [(7, .v (.int .i64 z.1)), (5, .v (.slice z.2.2.2.1 z.2.1.length z.2.2.2.2))]) (fun z => [{ id := x0, cs := [Value.int IntKind.i64 e.from', Value.int IntKind.u8 (↑e.label.toNat : Int), Value.int IntKind.i64 e.to], ty := (42 : Nat) }]) (fun z => [z.2.2.1, H]) (fun z => xs.length - z.1) (fun z => z.1 ≤ xs.length ∧ z.2.1 = xs.filter (fun x => edgeLess x e) ++ ([e] ++ (xs.take z.1).filter (fun x => edgeLess e x)) ∧ (gSl 42 gEdge).ow [.slice z.2.2.2.1 z.2.1.length z.2.2.2.2] z.2.1 z.2.2.1) ((0, _, _, _, _))
    · repeat' (first | exact trivial | refine ⟨⟨_, rfl, by first | rfl | exact inc_eq _ (by omega) | (refine sl_eq ?_; simp; done), by first | exact trivial | simp [SV.ok]⟩, ?_⟩)
    · exact ⟨rfl, trivial⟩
    · try dsimp only
      exact ⟨by omega, by rw [ho]; simp, ‹_›⟩
    · exact .refl _
    rintro ⟨k, o, A, lb, lc⟩ hI
    obtain ⟨hk, ho, oA⟩ : k ≤ xs.length ∧ o = xs.filter (fun x => edgeLess x e) ++ ([e] ++ (xs.take k).filter (fun x => edgeLess e x)) ∧ (gSl 42 gEdge).ow [.slice lb o.length lc] o A := hI
    try dsimp only
    refine VCsplit.intro (fun q13 => ?_) (fun q13 => ?_)
    ·
      simp at q13
      have hol : o.length ≤ 2 * xs.length + 1 := by (rw [ho]; have h1 := List.length_filter_le (fun x => edgeLess x e) xs; have h2 := List.length_filter_le (fun x => edgeLess e x) (xs.take k); rw [List.length_take] at h2; simp only [List.length_append, List.length_cons, List.length_nil]; omega)
      refine draw G_ok mixed none (.q 0 (.q 1 (.q 2 (.q 3 (.q 4 (.f 5 (.nil))))))) (by decide +kernel) ?_
      refine idx_rd hp ?_ ?_ fun b14 o14 hb14 => ?_
      · omega
      · omega
      refine load_allN default (k) rfl hp ?_ ?_ hb14 rfl (mem_at 1 rfl) fun l15 hl15 => ?_
      · omega
      · omega
      obtain ⟨rfl, w0x15, w2x15⟩ := gEdge_rd.1 hl15
      refine call_val (specEdgeLess_ct _ _ (e) (xs[k]?.getD default)) ⟨(Rp.mono _ (mem_at 1 rfl) hp2), (Rp.mono _ (mem_at 1 rfl) hl15)⟩ ?_
      rintro _ rfl
      refine VC.intro ?_ ?_
      · exact fun _ h => h
      refine VCsplit.intro (fun q17 => ?_) (fun q17 => ?_)
      ·
        refine idx_rd hp ?_ ?_ fun b18 o18 hb18 => ?_
        · omega
        · omega
        refine load_allN default (k) rfl hp ?_ ?_ hb18 rfl (mem_at 1 rfl) fun l19 hl19 => ?_
        · omega
        · omega
        obtain ⟨rfl, w0x19, w2x19⟩ := gEdge_rd.1 hl19
        refine VCnew.intro fun x20 => ?_
        refine gappend1 (g := gEdge) (T := (42 : TypeId)) G_ok A _ [H] ?_ oA (gEdge_own ‹_›) (List.mem_of_getElem? (i := 0) rfl) rfl rfl rfl rfl rfl rfl rfl rfl ?_ fun b21 c21 A21 o21 => ?_
        · exact .tl
        · omega
        apply loop_stepA (k + 1, _, _, _, _)
        · exact .refl _
        · repeat' (first | exact trivial | refine ⟨⟨_, rfl, by first | rfl | exact inc_eq _ (by omega) | (refine sl_eq ?_; simp; done), by first | exact trivial | simp [SV.ok]⟩, ?_⟩)
        · exact ⟨rfl, trivial⟩
        · try dsimp only
          exact ⟨by omega, by rw [ho, filter_yes default (by omega) (by exact ‹edgeLess _ _ = true›)]; simp, ‹_›⟩
        try dsimp only
        omega
      ·
        apply loop_stepA (k + 1, _, _, _, _)
        · exact .refl _
        · repeat' (first | exact trivial | refine ⟨⟨_, rfl, by first | rfl | exact inc_eq _ (by omega) | (refine sl_eq ?_; simp; done), by first | exact trivial | simp [SV.ok]⟩, ?_⟩)
        · exact ⟨rfl, trivial⟩
        · try dsimp only
          exact ⟨by omega, by rw [ho, filter_no default (by omega) (by exact ‹edgeLess _ _ = false›)], ‹_›⟩
        try dsimp only
        omega
    ·
      simp at q13
      (have hke : k = xs.length := (by omega); subst hke; rw [List.take_length] at ho; subst ho; exact ⟨_, ⟨_, _, rfl, by assumption⟩, (.le fun a => by (try simp only [setR, List.cons_append, List.nil_append]); simp [List.count_cons, Blk.ent, idOf]; try omega)⟩)
end Go.Proofs.YtcnclhjhnjpeiaaDoor

namespace Go.Proofs.YtcnclhjhnjpeiaaDoor
open Go.SX Go.Proofs
set_option linter.unusedSimpArgs false
set_option linter.unusedVariables false
set_option maxHeartbeats 4000000
attribute [local irreducible] IntKind.wrap
--@ct spec.l04Copy new l04CopyG_ct _ $1 ?_ | %1 | obtain ⟨b#, c#, rfl, o#⟩ := o#
theorem l04CopyG_ct (l : List Value) (g : Graph) (hx : g.edges.length ≤ 1000000) :
    Ct Tryd.prog 65 [.agg ⟨l⟩] [] (fun H => gGraph.rd H l g) (fun v A => ∃ b c, v = .agg ⟨[.int .i64 g.size, .slice b g.edges.length c]⟩ ∧ (gSl 42 gEdge).ow [.slice b g.edges.length c] g.edges A) := by
  refine Ct.intro0 G_ok Tryd.func65 rfl rfl rfl fun E H hp => ?_
  obtain ⟨b1p, c1p, rfl, w0p, h1p⟩ := gGraph_rd.1 hp
  refine VCnew.intro fun x0 => ?_
  refine VCnew.intro fun x1 => ?_
  refine draw G_ok mixed (some 7) (.q 0 (.q 1 (.q 3 (.q 4 (.f 2 (.f 5 (.q 6 (.tl 7 (.nil))))))))) (by decide +kernel) ?_
  refine VCnew.intro fun x2 => ?_
  refine VC.intro ?_ ?_
  · exact keep_new
  refine append_allN (g := gEdge) (T := (42 : TypeId)) G_ok (by repeat (first | exact fl_plain | apply plain_iso | apply plain_pair)) [] [[(x2, Obj.cells { toList := zeros (0 : Nat) [Value.int IntKind.i64 (0 : Int), Value.int IntKind.u8 (0 : Int), Value.int IntKind.i64 (0 : Int)] } (42 : TypeId))], H] 1 ?_ (sl_nil _ _ _) rfl h1p rfl rfl rfl rfl rfl rfl rfl rfl ?_ fun b3 c3 A3 o3 => ?_
  · exact .refl _
  · simp; omega
  refine VC.intro ?_ ?_
  · exact keep_sub (by simp) (by simp)
  exact ⟨_, ⟨_, _, rfl, by assumption⟩, (.le fun a => by (try simp only [setR, List.cons_append, List.nil_append]); simp [List.count_cons, Blk.ent, idOf]; try omega)⟩
--@ct spec.GraphAdd new specGraphAdd_ct _ _ $1 $2 ?_ | ⟨%1, %2⟩ | obtain ⟨b#, c#, rfl, o#⟩ := o#
theorem specGraphAdd_ct (l l2 : List Value) (g : Graph) (e : Edge) (hg : graphOk g = true) :
    Ct Tryd.prog 51 [.agg ⟨l⟩, .agg ⟨l2⟩] [] (fun H => gGraph.rd H l g ∧ gEdge.rd H l2 e) (fun v A => ∃ b c, v = .tuple #[.agg ⟨[.int .i64 (addG g e).size, .slice b (addG g e).edges.length c]⟩, .bool (graphOk (putG g e))] ∧ (gSl 42 gEdge).ow [.slice b (addG g e).edges.length c] (addG g e).edges A) := by
  refine Ct.intro0 G_ok Tryd.func51 rfl rfl rfl fun E H hp => ?_
  obtain ⟨hp, hp2⟩ := hp
  obtain ⟨b1p, c1p, rfl, w0p, h1p⟩ := gGraph_rd.1 hp
  obtain ⟨rfl, w0f, w2f⟩ := gEdge_rd.1 hp2
  have hr := graphOk_rng hg
  have hpost : ∀ (b : Option Addr) (c : Nat) (A : Hp), (gSl 42 gEdge).ow [.slice b (putE g.edges e).length c] (putE g.edges e) A → gGraph.rd A [.int .i64 g.size, .slice b (putE g.edges e).length c] (putG g e) := fun b c A h => gGraph_rd.2 ⟨b, c, rfl, w0p, Gt.owrd _ h⟩
  refine VCnew.intro fun x0 => ?_
  refine VCnew.intro fun x1 => ?_
  refine VCnew.intro fun x2 => ?_
  refine draw G_ok mixed (some 8) (.q 0 (.q 1 (.q 2 (.q 3 (.q 4 (.hd (.alt 5 (.q 6 (.f 7 (.tl 8 (.nil)))) (.alt 7 (.f 5 (.q 6 (.tl 8 (.nil)))) (.nil))))))))) (by decide +kernel) ?_
  refine VC.intro ?_ ?_
  ·
    refine call_new (l04Put_ct _ _ _ _ (g.edges) (e) ?_) ⟨(Rp.mono _ (mem_at 0 rfl) h1p), (Rp.mono _ (mem_at 0 rfl) hp2)⟩ ?_
    · omega
    rintro v3 A3 o3
    obtain ⟨b3, c3, rfl, o3⟩ := o3
    refine VC.intro ?_ ?_
    · exact keep_new
    refine VCnew.intro fun x4 => ?_
    refine VC.intro ?_ ?_
    · exact keep_sub (by simp) (by simp)
    refine call_val (specGraphOk_ct _ _) (by (try exact Rp.mono _ (mem_at 0 rfl) hp); (try exact Rp.mono _ (mem_at 1 rfl) hp); (try exact Rp.mono _ (mem_at 0 rfl) (hpost _ _ _ (by assumption))); (try exact Rp.mono _ (mem_at 1 rfl) (hpost _ _ _ (by assumption)))) ?_
    rintro _ rfl
    refine VCsplit.intro (fun q6 => ?_) (fun q6 => ?_)
    ·
      simp at q6
      exact absurd (hg.symm.trans q6) (by decide)
    ·
      simp at q6
      refine call_val (specGraphOk_ct _ _) (by (try exact Rp.mono _ (mem_at 0 rfl) hp); (try exact Rp.mono _ (mem_at 1 rfl) hp); (try exact Rp.mono _ (mem_at 0 rfl) (hpost _ _ _ (by assumption))); (try exact Rp.mono _ (mem_at 1 rfl) (hpost _ _ _ (by assumption)))) ?_
      rintro _ rfl
      refine VCsplit.intro (fun q8 => ?_) (fun q8 => ?_)
      ·
        simp at q8
        refine call_new (l04CopyG_ct _ (g) ?_) (Rp.mono _ (mem_at 1 rfl) hp) ?_
        · omega
        rintro v9 A9 o9
        obtain ⟨b9, c9, rfl, o9⟩ := o9
        (have e2 : graphOk (putG g e) = false := (by assumption); rw [addG_no e2, e2]; exact ⟨_, ⟨_, _, rfl, by assumption⟩, (.le fun a => by (try simp only [setR, List.cons_append, List.nil_append]); simp [List.count_cons, Blk.ent, idOf]; try omega)⟩)
      ·
        simp at q8
        (have e2 : graphOk (putG g e) = true := (by assumption); rw [addG_yes e2, e2]; exact ⟨_, ⟨_, _, rfl, by assumption⟩, (.le fun a => by (try simp only [setR, List.cons_append, List.nil_append]); simp [List.count_cons, Blk.ent, idOf]; try omega)⟩)
  ·
    refine VC.intro ?_ ?_
    ·
      refine VCnew.intro fun x10 => ?_
      refine VC.intro ?_ ?_
      · exact keep_sub (by simp) (by simp)
      refine call_new (l04Put_ct _ _ _ _ (g.edges) (e) ?_) ⟨(Rp.mono _ (mem_at 0 rfl) h1p), (Rp.mono _ (mem_at 0 rfl) hp2)⟩ ?_
      · omega
      rintro v11 A11 o11
      obtain ⟨b11, c11, rfl, o11⟩ := o11
      refine VC.intro ?_ ?_
      · exact keep_sub (by simp) (by simp)
      refine call_val (specGraphOk_ct _ _) (by (try exact Rp.mono _ (mem_at 0 rfl) hp); (try exact Rp.mono _ (mem_at 1 rfl) hp); (try exact Rp.mono _ (mem_at 0 rfl) (hpost _ _ _ (by assumption))); (try exact Rp.mono _ (mem_at 1 rfl) (hpost _ _ _ (by assumption)))) ?_
      rintro _ rfl
      refine VCsplit.intro (fun q13 => ?_) (fun q13 => ?_)
      ·
        simp at q13
        exact absurd (hg.symm.trans q13) (by decide)
      ·
        simp at q13
        refine call_val (specGraphOk_ct _ _) (by (try exact Rp.mono _ (mem_at 0 rfl) hp); (try exact Rp.mono _ (mem_at 1 rfl) hp); (try exact Rp.mono _ (mem_at 0 rfl) (hpost _ _ _ (by assumption))); (try exact Rp.mono _ (mem_at 1 rfl) (hpost _ _ _ (by assumption)))) ?_
        rintro _ rfl
        refine VCsplit.intro (fun q15 => ?_) (fun q15 => ?_)
        ·
          simp at q15
          refine call_new (l04CopyG_ct _ (g) ?_) (Rp.mono _ (mem_at 1 rfl) hp) ?_
          · omega
          rintro v16 A16 o16
          obtain ⟨b16, c16, rfl, o16⟩ := o16
          (have e2 : graphOk (putG g e) = false := (by assumption); rw [addG_no e2, e2]; exact ⟨_, ⟨_, _, rfl, by assumption⟩, (.le fun a => by (try simp only [setR, List.cons_append, List.nil_append]); simp [List.count_cons, Blk.ent, idOf]; try omega)⟩)
        ·
          simp at q15
          (have e2 : graphOk (putG g e) = true := (by assumption); rw [addG_yes e2, e2]; exact ⟨_, ⟨_, _, rfl, by assumption⟩, (.le fun a => by (try simp only [setR, List.cons_append, List.nil_append]); simp [List.count_cons, Blk.ent, idOf]; try omega)⟩)
    ·
      exact trivial
end Go.Proofs.YtcnclhjhnjpeiaaDoor
