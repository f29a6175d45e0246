/-
 Parts of the law, put together. Conditions: none.
-/
import Derived.Test.YtjgehblllhkdbaaGreatZe5
set_option maxHeartbeats 8000000
set_option linter.unusedSimpArgs false
set_option linter.unusedVariables false
namespace Go.Proofs.YtjgehblllhkdbaaGreat
open Go.SX Go.Proofs
open Tryz
section
attribute [local irreducible] IntKind.wrap nfaR readPath rpPath
def tnR (t : ByteArray) : Nfa × Bool := if (readPath t).isSome = true then nfaR (rpPath t) else (zNfa, false)
theorem tnR_no {t : ByteArray} (h : (readPath t).isSome = false) : tnR t = (zNfa, false) := if_neg (by rw [h]; decide)
theorem tnR_yes {t : ByteArray} (h : (readPath t).isSome = true) : tnR t = nfaR (rpPath t) := if_pos h
theorem nfaOfText_ct (t : ByteArray) (ht : t.size ≤ 1152921504606846976) :
  Ct prog 204 [.string t] [] (fun _ => True) (fun v A => ∃ b c b2 c2, v = .tuple #[.agg ⟨[.int .i64 (tnR t).1.states, .slice b (tnR t).1.arcs.length c, .slice b2 (tnR t).1.ends.length c2]⟩, .bool (tnR t).2] ∧ gNfa.ow [.int .i64 (tnR t).1.states, .slice b (tnR t).1.arcs.length c, .slice b2 (tnR t).1.ends.length c2] (tnR t).1 A) := by
 refine Ct.intro0 G_ok func204 rfl rfl rfl fun E H hp => ?_
 refine ⟨fun x0 => ?_⟩
 refine call_new (implReadPath_ct _ ?_) trivial ?_
 ·trivial
 rintro v1 A1 o1
 obtain ⟨bP, cP, rfl, oP⟩ := o1
 refine ⟨fun x2 => ?_⟩
 refine ⟨fun q3 => ?_, fun q3 => ?_⟩
 ·simp at q3
  (rw [tnR_no (by rw [‹readPath _ = none›]; rfl)]; exact ⟨[], ⟨none, 0, none, 0, rfl, zNfa_ow⟩, .mem (by simp)⟩)
 ·simp at q3
  refine call_new (implNfaOf_ct _ (rpPath t)) (gPath_rd.2 ⟨_, _, rfl, Rp.mono _ (sub_hall (by simp)) (Gt.owrd _ oP)⟩) ?_
  rintro v4 A4 o4
  obtain ⟨bN, cN, bbN, ccN, rfl, oN⟩ := o4
  (rw [tnR_yes (by assumption)]; exact ⟨_, ⟨_, _, _, _, rfl, oN⟩, rlB⟩)
def atomM (a : Atom) : Bool := nameOk a.from' && (nameOk a.to && (tnR a.path).2)
theorem atom_no1 {a : Atom} (h : nameOk a.from' = false) : atomM a = false := by unfold atomM; rw [h]; rfl
theorem atom_no2 {a : Atom} (h : nameOk a.to = false) : atomM a = false := by unfold atomM; rw [h]; simp
theorem atom_no3 {a : Atom} (h : (tnR a.path).2 = false) : atomM a = false := by unfold atomM; rw [h]; simp
theorem atom_yes {a : Atom} (h : nameOk a.from' = true) (h1 : nameOk a.to = true) : atomM a = (tnR a.path).2 := by unfold atomM; rw [h, h1]; rfl
theorem atomOk_ct (l : List Value) (a : Atom) (ht : a.path.size ≤ 1152921504606846976) : Ct prog 200 [.agg ⟨l⟩] [] (fun H => gAtom.rd H l a) (fun v A => v = .bool (atomM a) ∧ A = []) := by
 refine Ct.intro0 G_ok func200 rfl rfl rfl fun E H hp => ?_
 obtain ⟨rfl, w0p, w1p, w2p⟩ := gAtom_rd.1 hp
 refine ⟨fun x0 => ?_⟩
 refine call_val (implQueryName_ct _ ?_) trivial ?_
 ·trivial
 rintro _ rfl
 refine ⟨fun q2 => ?_, fun q2 => ?_⟩
 ·simp at q2
  exact ⟨[], ⟨by rw [atom_no1 (by assumption)], rfl⟩, .mem (by simp)⟩
 ·simp at q2
  refine call_val (implQueryName_ct _ ?_) trivial ?_
  ·trivial
  rintro _ rfl
  refine ⟨fun q4 => ?_, fun q4 => ?_⟩
  ·simp at q4
   exact ⟨[], ⟨by rw [atom_no2 (by assumption)], rfl⟩, .mem (by simp)⟩
  ·simp at q4
   refine call_new (nfaOfText_ct _ ?_) trivial ?_
   ·trivial
   rintro v5 A5 o5
   obtain ⟨b5, c5, bb5, cc5, rfl, o5⟩ := o5
   refine ⟨fun x6 => ?_⟩
   exact ⟨[], ⟨by rw [atom_yes (by assumption) (by assumption)], rfl⟩, .mem (by simp)⟩
theorem l08Atom_ct (l : List Value) (a : Atom) (ht : a.path.size ≤ 1152921504606846976) : Ct prog 189 [.agg ⟨l⟩] [] (fun H => gAtom.rd H l a) (fun v A => v = .bool (atomM a) ∧ A = []) := by
 refine Ct.intro0 G_ok func189 rfl rfl rfl fun E H hp => ?_
 obtain ⟨rfl, w0p, w1p, w2p⟩ := gAtom_rd.1 hp
 refine ⟨fun x0 => ?_⟩
 refine call_new (specReadPath_ct _ ?_) trivial ?_
 ·trivial
 rintro v1 A1 o1
 obtain ⟨bP, cP, rfl, oP⟩ := o1
 refine ⟨fun x2 => ?_⟩
 refine ⟨fun q3 => ?_, fun q3 => ?_⟩
 ·simp at q3
  exact ⟨[], ⟨by rw [atom_no3 (by rw [tnR_no (by rw [‹readPath _ = none›]; rfl)])], rfl⟩, .mem (by simp)⟩
 ·simp at q3
  refine call_val (specQueryName_ct _ ?_) trivial ?_
  ·trivial
  rintro _ rfl
  refine ⟨fun q5 => ?_, fun q5 => ?_⟩
  ·simp at q5
   exact ⟨[], ⟨by rw [atom_no1 (by assumption)], rfl⟩, .mem (by simp)⟩
  ·simp at q5
   refine call_val (specQueryName_ct _ ?_) trivial ?_
   ·trivial
   rintro _ rfl
   refine ⟨fun q7 => ?_, fun q7 => ?_⟩
   ·simp at q7
    exact ⟨[], ⟨by rw [atom_no2 (by assumption)], rfl⟩, .mem (by simp)⟩
   ·simp at q7
    refine call_new (specNfaOf_ct _ (rpPath a.path)) (gPath_rd.2 ⟨_, _, rfl, Rp.mono _ (sub_hall (by simp)) (Gt.owrd _ oP)⟩) ?_
    rintro v8 A8 o8
    obtain ⟨bN, cN, bbN, ccN, rfl, oN⟩ := o8
    refine ⟨fun x9 => ?_⟩
    exact ⟨[], ⟨by rw [atom_yes (by assumption) (by assumption), tnR_yes (by assumption)], rfl⟩, .mem (by simp)⟩
def addN (l : List ByteArray) (s : ByteArray) : List ByteArray := if hasS l s = true then l else l ++ [s]
theorem addN_yes {l : List ByteArray} {s : ByteArray} (h : hasS l s = true) : addN l s = l := if_pos h
theorem addN_no {l : List ByteArray} {s : ByteArray} (h : hasS l s = false) : addN l s = l ++ [s] := if_neg (by rw [h]; decide)
def namesM (ats : List Atom) : List ByteArray := ats.foldl (fun l a => addN (addN l a.from') a.to) []
theorem namesM_step {ats : List Atom} {k : Nat} (h : k < ats.length) : namesM (ats.take (k + 1)) = addN (addN (namesM (ats.take k)) (ats[k]?.getD default).from') (ats[k]?.getD default).to := by
 unfold namesM
 rw [← List.take_append_getElem h, List.foldl_append, List.getElem?_eq_getElem h]; rfl
theorem addN_len (l : List ByteArray) (s : ByteArray) : (addN l s).length ≤ l.length + 1 := by
 unfold addN; split
 ·omega
 rw [List.length_append]; exact Nat.le_refl _
theorem namesM_len : ∀ (ats : List Atom) (k : Nat), k ≤ ats.length → (namesM (ats.take k)).length ≤ 2 * k
 | ats, 0, _ => Nat.le_refl _
 | ats, k + 1, h => by
  have h1 := namesM_len ats k (by omega)
  rw [namesM_step (by omega)]
  have h2 := addN_len (namesM (ats.take k)) (ats[k]?.getD default).from'
  have h3 := addN_len (addN (namesM (ats.take k)) (ats[k]?.getD default).from') (ats[k]?.getD default).to
  omega
theorem specNamesOf_ct (l : List Value) (x : Query) (hx : x.atoms.length ≤ 1048576) : Ct prog 63 [.agg ⟨l⟩] [] (fun H => gQuery.rd H l x) (fun v A => ∃ b c, v = .slice b (namesM x.atoms).length c ∧ (gSl 9 gS).ow [.slice b (namesM x.atoms).length c] (namesM x.atoms) A) := by
 refine Ct.intro0 G_ok func63 rfl rfl rfl fun E H hp => ?_
 obtain ⟨b1p, c1p, b2p, c2p, b3p, c3p, rfl, h1p, h2p, h3p⟩ := gQuery_rd.1 hp
 refine ⟨fun x0 => ?_⟩
 refine ⟨fun x1 => ?_⟩
 apply loop_mod (α := (Nat) × (List ByteArray) × (Hp) × (Option Addr) × (Nat)) G_ok [6, 7, 8, 9, 10, 13, 14, 15, 16, 17, 18, 19, 20, 21, 22, 23, 24, 25, 26, 27, 28, 29, 30, 3, 31, 32, 33, 34, 35, 36, 37, 38, 39, 40, 41, 42, 43, 44, 45, 46, 47, 48, 11, 12, 4] (fun z => [(4, .v (.int .i64 z.1)), (3, .v (.slice z.2.2.2.1 z.2.1.length z.2.2.2.2))]) (fun z => [{ id := x0, cs := [Value.bool x.each, Value.slice b1p x.out.length c1p, Value.slice b2p x.atoms.length c2p, Value.slice b3p x.filters.length c3p], ty := (39 : Nat) }]) (fun z => [z.2.2.1, H]) (fun z => x.atoms.length - z.1) (fun z => z.1 ≤ x.atoms.length ∧ z.2.1 = namesM (x.atoms.take z.1) ∧ (gSl 9 gS).ow [.slice z.2.2.2.1 z.2.1.length z.2.2.2.2] z.2.1 z.2.2.1) ((0, [], [], _, 0))
 ·exact frI
 ·exact ⟨rfl, trivial⟩
 ·try dsimp only
  exact ⟨Nat.zero_le _, rfl, sl_nil _ _ _⟩
 ·exact .tl
 rintro ⟨k, o, A, lb, lc⟩ hI
 try dsimp only at hI
 obtain ⟨hk, ho, oA⟩ := hI
 try dsimp only
 refine ⟨fun q2 => ?_, fun q2 => ?_⟩
 ·simp at q2
  have hlen := namesM_len x.atoms k (by omega)
  have hol : o.length ≤ 2 * k := (by rw [ho]; exact hlen)
  refine idx_rd h2p ?_ ?_ fun b3 o3 hb3 => ?_
  ·omega
  ·omega
  refine load_partN default (k) 0 rfl h2p ?_ ?_ hb3 rfl (by decide) (mem_at 1 rfl) fun l4 hl4 => ?_
  ·omega
  ·omega
  obtain ⟨rfl, w0x4, w1x4, w2x4⟩ := gAtom_rd.1 hl4
  refine call_val (l08In_ct _ _ _ (o) _) (Rp.mono _ (mem_at 0 rfl) (Gt.owrd _ oA)) ?_
  rintro _ rfl
  refine ⟨fun q6 => ?_, fun q6 => ?_⟩
  ·simp at q6
   refine idx_rd h2p ?_ ?_ fun b7 o7 hb7 => ?_
   ·omega
   ·omega
   refine load_partN default (k) 0 rfl h2p ?_ ?_ hb7 rfl (by decide) (mem_at 1 rfl) fun l8 hl8 => ?_
   ·omega
   ·omega
   obtain ⟨rfl, w0x8, w1x8, w2x8⟩ := gAtom_rd.1 hl8
   refine ⟨fun x9 => ?_⟩
   refine gappend1 (g := gS) (T := (9 : TypeId)) G_ok A [] [H] ?_ oA (gS_ow ?_) (List.mem_of_getElem? (i := 0) rfl) rfl rfl rfl rfl rfl rfl rfl rfl ?_ fun b10 c10 A10 o10 => ?_
   ·exact .tl
   ·trivial
   ·omega
   refine idx_rd h2p ?_ ?_ fun b11 o11 hb11 => ?_
   ·omega
   ·omega
   refine load_partN default (k) 2 rfl h2p ?_ ?_ hb11 rfl (by decide) (mem_at 1 rfl) fun l12 hl12 => ?_
   ·omega
   ·omega
   obtain ⟨rfl, w0x12, w1x12, w2x12⟩ := gAtom_rd.1 hl12
   refine call_val (l08In_ct _ _ _ (o ++ [(x.atoms[k]?.getD default).from']) _) (Rp.mono _ (mem_at 0 rfl) (Gt.owrd _ o10)) ?_
   rintro _ rfl
   refine ⟨fun q14 => ?_, fun q14 => ?_⟩
   ·simp at q14
    refine idx_rd h2p ?_ ?_ fun b15 o15 hb15 => ?_
    ·omega
    ·omega
    refine load_partN default (k) 2 rfl h2p ?_ ?_ hb15 rfl (by decide) (mem_at 1 rfl) fun l16 hl16 => ?_
    ·omega
    ·omega
    obtain ⟨rfl, w0x16, w1x16, w2x16⟩ := gAtom_rd.1 hl16
    refine ⟨fun x17 => ?_⟩
    refine gappend1 (g := gS) (T := (9 : TypeId)) G_ok A10 [] [H] ?_ o10 (gS_ow ?_) (List.mem_of_getElem? (i := 0) rfl) rfl rfl rfl rfl rfl rfl rfl rfl ?_ fun b18 c18 A18 o18 => ?_
    ·exact .tl
    ·trivial
    ·simp; omega
    apply loop_stepA (k + 1, _, _, _, _)
    ·exact .refl _
    ·exact frI
    ·exact ⟨rfl, trivial⟩
    ·try dsimp only
     exact ⟨by omega, by rw [namesM_step (by omega), ← ho, addN_no (l := o) (s := (x.atoms[k]?.getD default).from') (by assumption), addN_no (by assumption)], by assumption⟩
    try dsimp only
    omega
   ·simp at q14
    apply loop_stepA (k + 1, _, _, _, _)
    ·exact .refl _
    ·exact frI
    ·exact ⟨rfl, trivial⟩
    ·try dsimp only
     exact ⟨by omega, by rw [namesM_step (by omega), ← ho, addN_no (l := o) (s := (x.atoms[k]?.getD default).from') (by assumption), addN_yes (by assumption)], by assumption⟩
    try dsimp only
    omega
  ·simp at q6
   refine idx_rd h2p ?_ ?_ fun b19 o19 hb19 => ?_
   ·omega
   ·omega
   refine load_partN default (k) 2 rfl h2p ?_ ?_ hb19 rfl (by decide) (mem_at 1 rfl) fun l20 hl20 => ?_
   ·omega
   ·omega
   obtain ⟨rfl, w0x20, w1x20, w2x20⟩ := gAtom_rd.1 hl20
   refine call_val (l08In_ct _ _ _ (o) _) (Rp.mono _ (mem_at 0 rfl) (Gt.owrd _ oA)) ?_
   rintro _ rfl
   refine ⟨fun q22 => ?_, fun q22 => ?_⟩
   ·simp at q22
    refine idx_rd h2p ?_ ?_ fun b23 o23 hb23 => ?_
    ·omega
    ·omega
    refine load_partN default (k) 2 rfl h2p ?_ ?_ hb23 rfl (by decide) (mem_at 1 rfl) fun l24 hl24 => ?_
    ·omega
    ·omega
    obtain ⟨rfl, w0x24, w1x24, w2x24⟩ := gAtom_rd.1 hl24
    refine ⟨fun x25 => ?_⟩
    refine gappend1 (g := gS) (T := (9 : TypeId)) G_ok A [] [H] ?_ oA (gS_ow ?_) (List.mem_of_getElem? (i := 0) rfl) rfl rfl rfl rfl rfl rfl rfl rfl ?_ fun b26 c26 A26 o26 => ?_
    ·exact .tl
    ·trivial
    ·omega
    apply loop_stepA (k + 1, _, _, _, _)
    ·exact .refl _
    ·exact frI
    ·exact ⟨rfl, trivial⟩
    ·try dsimp only
     exact ⟨by omega, by rw [namesM_step (by omega), ← ho, addN_yes (l := o) (s := (x.atoms[k]?.getD default).from') (by assumption), addN_no (by assumption)], by assumption⟩
    try dsimp only
    omega
   ·simp at q22
    apply loop_stepA (k + 1, _, _, _, _)
    ·exact .refl _
    ·exact frI
    ·exact ⟨rfl, trivial⟩
    ·try dsimp only
     exact ⟨by omega, by rw [namesM_step (by omega), ← ho, addN_yes (l := o) (s := (x.atoms[k]?.getD default).from') (by assumption), addN_yes (by assumption)], by assumption⟩
    try dsimp only
    omega
 ·simp at q2
  (have hke : k = x.atoms.length := (by omega); subst hke; rw [List.take_length] at ho; subst ho; exact ⟨_, ⟨_, _, rfl, by assumption⟩, rlB⟩)
end
section
attribute [local irreducible] IntKind.wrap atomM
theorem toL_nil8 {s : ByteArray} : s.toList = [] ↔ s.size = 0 := by
 have e : (ByteArray.empty).toList = [] := by simp
 constructor
 ·intro h
  have h2 : s = ByteArray.empty := str_inj.1 (h.trans e.symm)
  rw [h2]; rfl
 intro h
 have h2 := by_size s
 rw [h] at h2
 have h3 : s = ByteArray.empty := by_inj.1 (by rw [List.length_eq_zero_iff.1 h2]; rfl)
 rw [h3, e]
theorem lit2_ow {x : Nat} {a b : ByteArray} (h1 : a.size ≤ 9223372036854775807) (h2 : b.size ≤ 9223372036854775807) : (gSl 9 gS).ow [.slice (some ⟨x, 0, none⟩) 2 2] [a, b] [(x, Obj.cells ⟨[.string a, .string b]⟩ 9)] :=
 ow_fl (Ow.lit (f := flStr) (T := 9) (b := x) (xs := [a, b]) (fun y hy => (List.mem_cons.1 hy).elim (fun e => by rw [e]; exact h1) (fun hy => by rw [List.mem_singleton.1 hy]; exact h2)) (by simp))
def twoN (o : List ByteArray) (a b : ByteArray) : Nat → List ByteArray
 | 0 => o
 | 1 => addN o a
 | _ + 2 => addN (addN o a) b
theorem twoN_step {o : List ByteArray} {a b : ByteArray} {j : Nat} (h : j < 2) : twoN o a b (j + 1) = addN (twoN o a b j) ([a, b][j]?.getD ByteArray.empty) := by
 rcases (by omega : j = 0 ∨ j = 1) with rfl | rfl <;> rfl
theorem twoN_len (o : List ByteArray) (a b : ByteArray) {j : Nat} (h : j ≤ 2) : (twoN o a b j).length ≤ o.length + j := by
 rcases (by omega : j = 0 ∨ j = 1 ∨ j = 2) with rfl | rfl | rfl
 ·exact Nat.le_refl _
 ·exact addN_len o a
 have h1 := addN_len o a
 have h2 := addN_len (addN o a) b
 show (addN (addN o a) b).length ≤ _; omega
theorem implNamesOf_ct (l : List Value) (x : Query) (hx : x.atoms.length ≤ 1048576) : Ct prog 158 [.agg ⟨l⟩] [] (fun H => gQuery.rd H l x) (fun v A => ∃ b c, v = .slice b (namesM x.atoms).length c ∧ (gSl 9 gS).ow [.slice b (namesM x.atoms).length c] (namesM x.atoms) A) := by
 refine Ct.intro0 G_ok func158 rfl rfl rfl fun E H hp => ?_
 obtain ⟨b1p, c1p, b2p, c2p, b3p, c3p, rfl, h1p, h2p, h3p⟩ := gQuery_rd.1 hp
 refine ⟨fun x0 => ?_⟩
 apply loop_mod (α := (Nat) × (List ByteArray) × (Hp) × (Option Addr) × (Nat)) G_ok [12, 13, 14, 5, 15, 16, 17, 18, 19, 20, 21, 22, 23, 24, 7, 25, 26, 27, 28, 29, 30, 31, 32, 3, 33, 34, 11] (fun z => [(11, .v (.int .i64 z.1)), (3, .v (.slice z.2.2.2.1 z.2.1.length z.2.2.2.2))]) (fun z => [{ id := x0, cs := [Value.bool x.each, Value.slice b1p x.out.length c1p, Value.slice b2p x.atoms.length c2p, Value.slice b3p x.filters.length c3p], ty := (39 : Nat) }]) (fun z => [z.2.2.1, H]) (fun z => x.atoms.length - z.1) (fun z => z.1 ≤ x.atoms.length ∧ z.2.1 = namesM (x.atoms.take z.1) ∧ (gSl 9 gS).ow [.slice z.2.2.2.1 z.2.1.length z.2.2.2.2] z.2.1 z.2.2.1) ((0, [], [], _, 0))
 ·exact frI
 ·exact ⟨rfl, trivial⟩
 ·try dsimp only
  exact ⟨Nat.zero_le _, rfl, sl_nil _ _ _⟩
 ·exact .refl _
 rintro ⟨k, o, A, lb, lc⟩ hI
 try dsimp only at hI
 obtain ⟨hk, ho, oA⟩ := hI
 try dsimp only
 refine ⟨fun q1 => ?_, fun q1 => ?_⟩
 ·simp at q1
  have hlen := namesM_len x.atoms k (by omega)
  have hol : o.length ≤ 2 * k := (by rw [ho]; exact hlen)
  refine idx_rd h2p ?_ ?_ fun b2 o2 hb2 => ?_
  ·omega
  ·omega
  refine load_allN default (k) rfl h2p ?_ ?_ hb2 rfl (mem_at 1 rfl) fun l3 hl3 => ?_
  ·omega
  ·omega
  obtain ⟨rfl, w0x3, w1x3, w2x3⟩ := gAtom_rd.1 hl3
  refine ⟨fun x4 => ?_⟩
  refine ⟨fun x5 => ?_⟩
  apply loop_mod (α := (Nat) × (List ByteArray) × (Hp) × (Option Addr) × (Nat)) G_ok [22, 23, 24, 7, 25, 26, 27, 28, 29, 30, 31, 32, 3, 33, 21] (fun z => [(21, .v (.int .i64 z.1)), (3, .v (.slice z.2.2.2.1 z.2.1.length z.2.2.2.2))]) (fun z => [{ id := x0, cs := [Value.bool x.each, Value.slice b1p x.out.length c1p, Value.slice b2p x.atoms.length c2p, Value.slice b3p x.filters.length c3p], ty := (39 : Nat) }, { id := x4, cs := [Value.string (x.atoms[k]?.getD default).from', Value.string (x.atoms[k]?.getD default).path, Value.string (x.atoms[k]?.getD default).to], ty := (118 : Nat) }]) (fun z => [z.2.2.1, [(x5, Obj.cells ⟨[.string (x.atoms[k]?.getD default).from', .string (x.atoms[k]?.getD default).to]⟩ 9)], H]) (fun z => 2 - z.1) (fun z => z.1 ≤ 2 ∧ z.2.1 = twoN o (x.atoms[k]?.getD default).from' (x.atoms[k]?.getD default).to z.1 ∧ (gSl 9 gS).ow [.slice z.2.2.2.1 z.2.1.length z.2.2.2.2] z.2.1 z.2.2.1) ((0, o, A, lb, lc))
  ·exact frI
  ·exact ⟨rfl, rfl, trivial⟩
  ·try dsimp only
   exact ⟨Nat.zero_le _, rfl, oA⟩
  ·exact .le fun a => by simp [List.count_cons, List.count_append, Blk.ent, St.hall, setR, zeros, List.append]; omega
  rintro ⟨j, o2, A2, lb2, lc2⟩ hI
  try dsimp only at hI
  obtain ⟨hj, ho2, oA2⟩ := hI
  try dsimp only
  refine ⟨fun q6 => ?_, fun q6 => ?_⟩
  ·simp at q6
   have hlit := lit2_ow (x := x5) (a := (x.atoms[k]?.getD default).from') (b := (x.atoms[k]?.getD default).to) (by assumption) (by assumption)
   have hlen2 : o2.length ≤ 2 * k + 2 := (by have := twoN_len o (x.atoms[k]?.getD default).from' (x.atoms[k]?.getD default).to (j := j) (by omega); rw [ho2]; omega)
   refine idx_rd (Gt.owrd _ hlit) ?_ ?_ fun b7 o7 hb7 => ?_
   ·omega
   ·trivial
   refine load_allN ByteArray.empty (j) rfl (Gt.owrd _ hlit) ?_ ?_ hb7 rfl (mem_at 1 rfl) fun l8 hl8 => ?_
   ·omega
   ·trivial
   obtain ⟨rfl, hw8⟩ := hl8; simp only [flStr, flInt, okI] at hw8
   refine call_val (sContainsS_ct _ _ _ (o2) _) (Rp.mono _ (mem_at 0 rfl) (Gt.owrd _ oA2)) ?_
   rintro _ rfl
   refine ⟨fun q10 => ?_, fun q10 => ?_⟩
   ·simp at q10
    refine ⟨fun x11 => ?_⟩
    refine gappend1 (g := gS) (T := (9 : TypeId)) G_ok A2 [] [[(x5, Obj.cells { toList := [Value.string (x.atoms[k]?.getD default).from', Value.string (x.atoms[k]?.getD default).to] } (9 : TypeId))], H] ?_ oA2 (gS_ow ?_) (List.mem_of_getElem? (i := 0) rfl) rfl rfl rfl rfl rfl rfl rfl rfl ?_ fun b12 c12 A12 o12 => ?_
    ·exact .tl
    ·trivial
    ·omega
    apply loop_stepA (j + 1, _, _, _, _)
    ·exact .refl _
    ·exact frI
    ·exact ⟨rfl, rfl, trivial⟩
    ·try dsimp only
     exact ⟨by omega, by rw [twoN_step (by omega), ← ho2, addN_no (by assumption)], by assumption⟩
    try dsimp only
    omega
   ·simp at q10
    apply loop_stepA (j + 1, _, _, _, _)
    ·exact .refl _
    ·exact frI
    ·exact ⟨rfl, rfl, trivial⟩
    ·try dsimp only
     exact ⟨by omega, by rw [twoN_step (by omega), ← ho2, addN_yes (by assumption)], by assumption⟩
    try dsimp only
    omega
  ·simp at q6
   apply loop_stepA (k + 1, _, _, _, _)
   ·exact .sub (by repeat (first | exact .slnil | apply List.Sublist.cons_cons | apply List.Sublist.cons))
   ·exact frI
   ·exact ⟨rfl, trivial⟩
   ·try dsimp only
    (have hje : j = 2 := (by omega); subst hje; exact ⟨by omega, by rw [ho2, ho, namesM_step (by omega)]; rfl, by assumption⟩)
   try dsimp only
   omega
 ·simp at q1
  (have hke : k = x.atoms.length := (by omega); subst hke; rw [List.take_length] at ho; subst ho; exact ⟨_, ⟨_, _, rfl, by assumption⟩, rlB⟩)
def distM (l : List ByteArray) : Bool := allK (fun i => !hasS (l.take i) (l[i]?.getD ByteArray.empty)) l.length
theorem dist_no {l : List ByteArray} {k : Nat} (hk : k < l.length) (h : hasS (l.take k) (l[k]?.getD ByteArray.empty) = true) : distM l = false := by
 unfold distM; rw [allK_no (p := fun i => !hasS (l.take i) (l[i]?.getD ByteArray.empty)) (k := k) (by simp [h]) _ hk]
theorem dist_no2 {l : List ByteArray} {k : Nat} (hk : k < l.length) (h : hasS ((l.take ((k : Nat) : Int).toNat).drop 0) (l[k]?.getD ByteArray.empty) = true) : distM l = false := dist_no hk h
theorem dist_step {l : List ByteArray} {k : Nat} (h : hasS ((l.take ((k : Nat) : Int).toNat).drop 0) (l[k]?.getD ByteArray.empty) = false) : (!hasS (l.take k) (l[k]?.getD ByteArray.empty)) = true := by
 have h : hasS (l.take k) (l[k]?.getD ByteArray.empty) = false := h
 rw [h]; rfl
theorem areDistinct_ct (b : Option Addr) (m c : Nat) (xs : List ByteArray) : Ct prog 201 [.slice b m c] [] (fun H => (gSl 9 gS).rd H [.slice b m c] xs) (fun v A => v = .bool (distM xs) ∧ A = []) := by
 refine Ct.intro0 G_ok func201 rfl rfl rfl fun E H hp => ?_
 obtain ⟨rfl, hcl, hl⟩ := sl_len hp
 apply loop_mod (α := (Nat)) G_ok [8, 9, 10, 11, 3, 4, 12, 13, 14, 15, 16, 2, 17, 7] (fun z => [(7, .v (.int .i64 z))]) (fun z => []) (fun z => [H]) (fun z => xs.length - z) (fun z => z ≤ xs.length ∧ allK (fun i => !hasS (xs.take i) (xs[i]?.getD ByteArray.empty)) z = true) ((0))
 ·exact frI
 ·exact trivial
 ·exact ⟨Nat.zero_le _, rfl⟩
 ·exact .refl _
 rintro k hI
 try dsimp only at hI
 obtain ⟨hk, ha⟩ := hI
 try dsimp only
 refine ⟨fun q0 => ?_, fun q0 => ?_⟩
 ·simp at q0
  refine idx_rd hp ?_ ?_ fun b1 o1 hb1 => ?_
  ·omega
  ·omega
  refine load_allN ByteArray.empty (k) rfl hp ?_ ?_ hb1 rfl (mem_at 0 rfl) fun l2 hl2 => ?_
  ·omega
  ·omega
  obtain ⟨rfl, hw2⟩ := hl2; simp only [flStr, flInt, okI] at hw2
  refine VC.intro ?_ ?_
  ·omega
  refine call_val (sContainsS_ct _ _ _ ((xs.take ((k : Nat) : Int).toNat).drop 0) _) (Rp.mono _ (mem_at 0 rfl) (rd_sub (r := gS.toRp) (l := 0) (h := ((k : Nat) : Int).toNat) hp (by omega) (by omega))) ?_
  rintro _ rfl
  refine ⟨fun q4 => ?_, fun q4 => ?_⟩
  ·simp at q4
   exact ⟨[], ⟨by rw [dist_no2 (k := k) (by omega) (by assumption)], rfl⟩, .mem (by simp)⟩
  ·simp at q4
   apply loop_stepA (k + 1)
   ·exact .refl _
   ·exact frI
   ·exact trivial
   ·exact ⟨by omega, allK_step ha (dist_step (by assumption))⟩
   omega
 ·simp at q0
  (have hke : k = xs.length := (by omega); subst hke; exact ⟨[], ⟨congrArg Value.bool ha.symm, rfl⟩, .mem (by simp)⟩)
def inAll (l s : List ByteArray) : Bool := allK (fun i => hasS l (s[i]?.getD ByteArray.empty)) s.length
theorem inAll_no {l s : List ByteArray} {k : Nat} (hk : k < s.length) (h : hasS l (s[k]?.getD ByteArray.empty) = false) : inAll l s = false := by
 unfold inAll; rw [allK_no (p := fun i => hasS l (s[i]?.getD ByteArray.empty)) (k := k) h _ hk]
theorem containsAll_ct (b : Option Addr) (m c : Nat) (b2 : Option Addr) (m2 c2 : Nat) (xs ys : List ByteArray) : Ct prog 202 [.slice b m c, .slice b2 m2 c2] [] (fun H => (gSl 9 gS).rd H [.slice b m c] xs ∧ (gSl 9 gS).rd H [.slice b2 m2 c2] ys) (fun v A => v = .bool (inAll xs ys) ∧ A = []) := by
 refine Ct.intro0 G_ok func202 rfl rfl rfl fun E H hp => ?_
 obtain ⟨hp, hq⟩ := hp
 obtain ⟨rfl, hcl, hl⟩ := sl_len hp
 obtain ⟨rfl, hcl2, hl2⟩ := sl_len hq
 apply loop_mod (α := (Nat)) G_ok [10, 11, 12, 6, 13, 14, 15, 16, 4, 17, 9] (fun z => [(9, .v (.int .i64 z))]) (fun z => []) (fun z => [H]) (fun z => ys.length - z) (fun z => z ≤ ys.length ∧ allK (fun i => hasS xs (ys[i]?.getD ByteArray.empty)) z = true) ((0))
 ·exact frI
 ·exact trivial
 ·exact ⟨Nat.zero_le _, rfl⟩
 ·exact .refl _
 rintro k hI
 try dsimp only at hI
 obtain ⟨hk, ha⟩ := hI
 try dsimp only
 refine ⟨fun q0 => ?_, fun q0 => ?_⟩
 ·simp at q0
  refine idx_rd hq ?_ ?_ fun b1 o1 hb1 => ?_
  ·omega
  ·omega
  refine load_allN ByteArray.empty (k) rfl hq ?_ ?_ hb1 rfl (mem_at 0 rfl) fun l2 hl2 => ?_
  ·omega
  ·omega
  obtain ⟨rfl, hw2⟩ := hl2; simp only [flStr, flInt, okI] at hw2
  refine call_val (sContainsS_ct _ _ _ (xs) _) (Rp.mono _ (mem_at 0 rfl) hp) ?_
  rintro _ rfl
  refine ⟨fun q4 => ?_, fun q4 => ?_⟩
  ·simp at q4
   exact ⟨[], ⟨by rw [inAll_no (k := k) (by omega) (by assumption)], rfl⟩, .mem (by simp)⟩
  ·simp at q4
   apply loop_stepA (k + 1)
   ·exact .refl _
   ·exact frI
   ·exact trivial
   ·exact ⟨by omega, allK_step ha (by assumption)⟩
   omega
 ·simp at q0
  (have hke : k = ys.length := (by omega); subst hke; exact ⟨[], ⟨congrArg Value.bool ha.symm, rfl⟩, .mem (by simp)⟩)
theorem isOp_ct (n : Int) : Ct prog 282 [.int .i64 n] [] (fun _ => True) (fun v A => v = .bool (inR 1 2 n) ∧ A = []) := by
 refine Ct.intro0 G_ok func282 rfl rfl rfl fun E H hp => ?_
 refine ⟨fun q0 => ?_, fun q0 => ?_⟩
 ·simp at q0
  exact ⟨[], ⟨congrArg Value.bool (by unfold inR; rw [Bool.eq_iff_iff]; simp; omega), rfl⟩, .mem (by simp)⟩
 ·simp at q0
  exact ⟨[], ⟨congrArg Value.bool (by unfold inR; rw [Bool.eq_iff_iff]; simp; omega), rfl⟩, .mem (by simp)⟩
def filterM (ns : List ByteArray) (f : Filter) : Bool := hasS ns f.left && (inR 1 2 f.op && (if f.right.size = 0 then inR 0 99 f.num else decide (f.num = 0) && hasS ns f.right))
theorem filterOk_ct (l : List Value) (b : Option Addr) (m c : Nat) (f : Filter) (ns : List ByteArray) : Ct prog 203 [.agg ⟨l⟩, .slice b m c] [] (fun H => gFilter.rd H l f ∧ (gSl 9 gS).rd H [.slice b m c] ns) (fun v A => v = .bool (filterM ns f) ∧ A = []) := by
 refine Ct.intro0 G_ok func203 rfl rfl rfl fun E H hp => ?_
 obtain ⟨hp, hq⟩ := hp
 obtain ⟨rfl, w0p, w1p, w2p, w3p⟩ := gFilter_rd.1 hp
 refine ⟨fun x0 => ?_⟩
 refine call_val (sContainsS_ct _ _ _ (ns) _) (Rp.mono _ (mem_at 0 rfl) hq) ?_
 rintro _ rfl
 refine ⟨fun q2 => ?_, fun q2 => ?_⟩
 ·simp at q2
  exact ⟨[], ⟨congrArg Value.bool (by unfold filterM; rw [‹hasS ns f.left = false›]; rfl), rfl⟩, .mem (by simp)⟩
 ·simp at q2
  refine call_val (isOp_ct _) trivial ?_
  rintro _ rfl
  refine ⟨fun q4 => ?_, fun q4 => ?_⟩
  ·simp at q4
   exact ⟨[], ⟨congrArg Value.bool (by unfold filterM; rw [‹inR 1 2 f.op = false›]; simp), rfl⟩, .mem (by simp)⟩
  ·simp at q4
   refine ⟨fun q5 => ?_, fun q5 => ?_⟩
   ·simp at q5
    have iq5 := toL_nil8.1 q5
    refine ⟨fun q6 => ?_, fun q6 => ?_⟩
    ·simp at q6
     exact ⟨[], ⟨congrArg Value.bool (by unfold filterM; rw [‹hasS ns f.left = true›, ‹inR 1 2 f.op = true›, if_pos (by assumption)]; unfold inR; rw [Bool.eq_iff_iff]; simp; omega), rfl⟩, .mem (by simp)⟩
    ·simp at q6
     exact ⟨[], ⟨congrArg Value.bool (by unfold filterM; rw [‹hasS ns f.left = true›, ‹inR 1 2 f.op = true›, if_pos (by assumption)]; unfold inR; rw [Bool.eq_iff_iff]; simp; omega), rfl⟩, .mem (by simp)⟩
   ·simp at q5
    have iq5 := mt toL_nil8.2 q5
    refine ⟨fun q7 => ?_, fun q7 => ?_⟩
    ·simp at q7
     refine call_val (sContainsS_ct _ _ _ (ns) _) (Rp.mono _ (mem_at 0 rfl) hq) ?_
     rintro _ rfl
     exact ⟨[], ⟨congrArg Value.bool (by unfold filterM; rw [‹hasS ns f.left = true›, ‹inR 1 2 f.op = true›, if_neg (by assumption), decide_eq_true (by assumption)]; rfl), rfl⟩, .mem (by simp)⟩
    ·simp at q7
     exact ⟨[], ⟨congrArg Value.bool (by unfold filterM; rw [‹hasS ns f.left = true›, ‹inR 1 2 f.op = true›, if_neg (by assumption), decide_eq_false (by assumption)]; rfl), rfl⟩, .mem (by simp)⟩
end
section
attribute [local irreducible] IntKind.wrap atomM namesM
def queryP (x : Query) : Prop := (1 ≤ x.atoms.length ∧ x.atoms.length ≤ 4 ∧ x.filters.length ≤ 3 ∧ 1 ≤ x.out.length ∧ x.out.length ≤ 4 ∧ (namesM x.atoms).length ≤ 4) ∧
 (∀ k, k < x.atoms.length → atomM (x.atoms[k]?.getD default) = true) ∧ distM x.out = true ∧ inAll (namesM x.atoms) x.out = true ∧ ∀ k, k < x.filters.length → filterM (namesM x.atoms) (x.filters[k]?.getD default) = true
open Classical in
noncomputable def queryM (x : Query) : Bool := decide (queryP x)
open Classical in
theorem q_no {x : Query} (h : ¬ queryP x) : queryM x = false := by unfold queryM; exact decide_eq_false h
open Classical in
theorem q_yes {x : Query} (h : queryP x) : queryM x = true := by unfold queryM; exact decide_eq_true h
theorem sz_at8 {α : Type} (g : Gt α) (z : α) : ∀ (xs : List α) (k : Nat), k < xs.length → g.sz (xs[k]?.getD z) + 1 ≤ szL g xs
 | [], k, h => absurd h (by simp)
 | x :: r, 0, _ => by rw [show szL g (x :: r) = 1 + g.sz x + szL g r from rfl]; show g.sz x + 1 ≤ _; omega
 | x :: r, k + 1, h => by
  have := sz_at8 g z r k (by simpa using h)
  rw [show szL g (x :: r) = 1 + g.sz x + szL g r from rfl]
  show g.sz (r[k]?.getD z) + 1 ≤ _; omega
theorem atoms_path {x : Query} (h : gQuery.sz x ≤ 1048576) {k : Nat} (hk : k < x.atoms.length) : (x.atoms[k]?.getD default).path.size ≤ 1048576 := by
 have h1 := gQuery_sz x
 have h2 := sz_at8 gAtom default x.atoms k hk
 have h3 := gAtom_sz (x.atoms[k]?.getD default)
 omega
theorem ff {b : Bool} (h1 : b = true) (h2 : b = false) : False := by rw [h1] at h2; cases h2
theorem implQueryOk_ct (l : List Value) (x : Query) (hx : gQuery.sz x ≤ 1048576) : Ct prog 115 [.agg ⟨l⟩] [] (fun H => gQuery.rd H l x) (fun v A => v = .bool (queryM x) ∧ A = []) := by
 refine Ct.intro0 G_ok func115 rfl rfl rfl fun E H hp => ?_
 obtain ⟨b1p, c1p, b2p, c2p, b3p, c3p, rfl, h1p, h2p, h3p⟩ := gQuery_rd.1 hp
 have ez := gQuery_sz x
 have en1 := len_szL gS x.out
 have en2 := len_szL gAtom x.atoms
 have en3 := len_szL gFilter x.filters
 refine ⟨fun x0 => ?_⟩
 refine ⟨fun q1 => ?_, fun q1 => ?_⟩
 ·simp at q1
  exact ⟨[], ⟨by rw [q_no fun h => by (have := h.1; omega)], rfl⟩, .mem (by simp)⟩
 ·simp at q1
  refine ⟨fun q2 => ?_, fun q2 => ?_⟩
  ·simp at q2
   exact ⟨[], ⟨by rw [q_no fun h => by (have := h.1; omega)], rfl⟩, .mem (by simp)⟩
  ·simp at q2
   refine ⟨fun q3 => ?_, fun q3 => ?_⟩
   ·simp at q3
    exact ⟨[], ⟨by rw [q_no fun h => by (have := h.1; omega)], rfl⟩, .mem (by simp)⟩
   ·simp at q3
    apply loop_mod (α := (Nat)) G_ok [28, 29, 30, 4, 31, 32, 33, 2, 34, 27] (fun z => [(27, .v (.int .i64 z))]) (fun z => [{ id := x0, cs := [Value.bool x.each, Value.slice b1p x.out.length c1p, Value.slice b2p x.atoms.length c2p, Value.slice b3p x.filters.length c3p], ty := (39 : Nat) }]) (fun z => [H]) (fun z => x.atoms.length - z) (fun z => z ≤ x.atoms.length ∧ allK (fun i => atomM (x.atoms[i]?.getD default)) z = true) ((0))
    ·exact frI
    ·exact ⟨rfl, trivial⟩
    ·exact ⟨Nat.zero_le _, rfl⟩
    ·exact .refl _
    rintro k hI
    try dsimp only at hI
    obtain ⟨hk, ha⟩ := hI
    try dsimp only
    refine ⟨fun q4 => ?_, fun q4 => ?_⟩
    ·simp at q4
     refine idx_rd h2p ?_ ?_ fun b5 o5 hb5 => ?_
     ·omega
     ·omega
     refine load_allN default (k) rfl h2p ?_ ?_ hb5 rfl (mem_at 0 rfl) fun l6 hl6 => ?_
     ·omega
     ·omega
     obtain ⟨rfl, w0x6, w1x6, w2x6⟩ := gAtom_rd.1 hl6
     refine ⟨fun x7 => ?_⟩
     refine call_val (atomOk_ct _ (x.atoms[k]?.getD default) ?_) (Rp.mono _ (mem_at 0 rfl) hl6) ?_
     ·exact Nat.le_trans (atoms_path hx (by omega)) (by decide)
     rintro _ rfl
     refine ⟨fun q9 => ?_, fun q9 => ?_⟩
     ·simp at q9
      exact ⟨[], ⟨by rw [q_no fun h => ff (h.2.1 k (by omega)) (by assumption)], rfl⟩, .mem (by simp)⟩
     ·simp at q9
      apply loop_stepA (k + 1)
      ·exact .refl _
      ·exact frI
      ·exact ⟨rfl, trivial⟩
      ·exact ⟨by omega, allK_step ha (by assumption)⟩
      omega
    ·simp at q4
     refine call_new (implNamesOf_ct _ x ?_) (Rp.mono _ (mem_at 0 rfl) hp) ?_
     ·omega
     rintro v10 A10 o10
     obtain ⟨bN, cN, rfl, oN⟩ := o10
     have rN := Gt.owrd _ oN
     refine ⟨fun q11 => ?_, fun q11 => ?_⟩
     ·simp at q11
      exact ⟨[], ⟨by rw [q_no fun h => by (have := h.1; omega)], rfl⟩, .mem (by simp)⟩
     ·simp at q11
      refine ⟨fun q12 => ?_, fun q12 => ?_⟩
      ·simp at q12
       exact ⟨[], ⟨by rw [q_no fun h => by (have := h.1; omega)], rfl⟩, .mem (by simp)⟩
      ·simp at q12
       refine ⟨fun q13 => ?_, fun q13 => ?_⟩
       ·simp at q13
        exact ⟨[], ⟨by rw [q_no fun h => by (have := h.1; omega)], rfl⟩, .mem (by simp)⟩
       ·simp at q13
        refine call_val (areDistinct_ct _ _ _ (x.out)) (Rp.mono _ (mem_at 1 rfl) h1p) ?_
        rintro _ rfl
        refine ⟨fun q15 => ?_, fun q15 => ?_⟩
        ·simp at q15
         exact ⟨[], ⟨by rw [q_no fun h => ff h.2.2.1 (by assumption)], rfl⟩, .mem (by simp)⟩
        ·simp at q15
         refine call_val (containsAll_ct _ _ _ _ _ _ (namesM x.atoms) (x.out)) ⟨(Rp.mono _ (mem_at 0 rfl) rN), (Rp.mono _ (mem_at 1 rfl) h1p)⟩ ?_
         rintro _ rfl
         refine ⟨fun q17 => ?_, fun q17 => ?_⟩
         ·simp at q17
          exact ⟨[], ⟨by rw [q_no fun h => ff h.2.2.2.1 (by assumption)], rfl⟩, .mem (by simp)⟩
         ·simp at q17
          apply loop_mod (α := (Nat)) G_ok [67, 68, 69, 7, 70, 71, 72, 73, 2, 74, 66] (fun z => [(66, .v (.int .i64 z))]) (fun z => [{ id := x0, cs := [Value.bool x.each, Value.slice b1p x.out.length c1p, Value.slice b2p x.atoms.length c2p, Value.slice b3p x.filters.length c3p], ty := (39 : Nat) }]) (fun z => [A10, H]) (fun z => x.filters.length - z) (fun z => z ≤ x.filters.length ∧ allK (fun i => filterM (namesM x.atoms) (x.filters[i]?.getD default)) z = true) ((0))
          ·exact frI
          ·exact ⟨rfl, trivial⟩
          ·exact ⟨Nat.zero_le _, rfl⟩
          ·exact .refl _
          rintro j hI
          try dsimp only at hI
          obtain ⟨hj, hf⟩ := hI
          try dsimp only
          refine ⟨fun q18 => ?_, fun q18 => ?_⟩
          ·simp at q18
           refine idx_rd h3p ?_ ?_ fun b19 o19 hb19 => ?_
           ·omega
           ·omega
           refine load_allN default (j) rfl h3p ?_ ?_ hb19 rfl (mem_at 1 rfl) fun l20 hl20 => ?_
           ·omega
           ·omega
           obtain ⟨rfl, w0x20, w1x20, w2x20, w3x20⟩ := gFilter_rd.1 hl20
           refine ⟨fun x21 => ?_⟩
           refine call_val (filterOk_ct _ _ _ _ (x.filters[j]?.getD default) (namesM x.atoms)) ⟨(Rp.mono _ (mem_at 1 rfl) hl20), (Rp.mono _ (mem_at 0 rfl) rN)⟩ ?_
           rintro _ rfl
           refine ⟨fun q23 => ?_, fun q23 => ?_⟩
           ·simp at q23
            exact ⟨[], ⟨by rw [q_no fun h => ff (h.2.2.2.2 j (by omega)) (by assumption)], rfl⟩, .mem (by simp)⟩
           ·simp at q23
            apply loop_stepA (j + 1)
            ·exact .refl _
            ·exact frI
            ·exact ⟨rfl, trivial⟩
            ·exact ⟨by omega, allK_step hf (by assumption)⟩
            omega
          ·simp at q18
           (have hke : k = x.atoms.length := (by omega); have hje : j = x.filters.length := (by omega); rw [hke] at ha; rw [hje] at hf; exact ⟨[], ⟨by rw [q_yes ⟨by omega, fun i hi => allK_at ha i hi, by assumption, by assumption, fun i hi => allK_at hf i hi⟩], rfl⟩, .mem (by simp)⟩)
theorem q_last {x : Query} (h1 : 1 ≤ x.atoms.length ∧ x.atoms.length ≤ 4 ∧ x.filters.length ≤ 3 ∧ 1 ≤ x.out.length ∧ x.out.length ≤ 4) (h2 : allK (fun i => atomM (x.atoms[i]?.getD default)) x.atoms.length = true) (h3 : allK (fun i => hasS (namesM x.atoms) (x.out[i]?.getD ByteArray.empty)) x.out.length = true) (h4 : allK (fun i => !hasS (x.out.take i) (x.out[i]?.getD ByteArray.empty)) x.out.length = true) (h5 : allK (fun i => filterM (namesM x.atoms) (x.filters[i]?.getD default)) x.filters.length = true) : queryM x = decide (((namesM x.atoms).length : Int) ≤ 4) := by
 by_cases h : (namesM x.atoms).length ≤ 4
 ·rw [q_yes ⟨by omega, fun i hi => allK_at h2 i hi, h4, h3, fun i hi => allK_at h5 i hi⟩, decide_eq_true (by omega)]
 rw [q_no fun e => h e.1.2.2.2.2.2, decide_eq_false (by omega)]
theorem f_no1 {ns : List ByteArray} {f : Filter} (h : hasS ns f.left = false) : filterM ns f = false := by unfold filterM; rw [h]; rfl
theorem f_no2 {ns : List ByteArray} {f : Filter} (h : inR 1 2 f.op = false) : filterM ns f = false := by unfold filterM; rw [h]; simp
theorem f_no3 {ns : List ByteArray} {f : Filter} (h0 : ¬ f.right.size = 0) (h : hasS ns f.right = false) : filterM ns f = false := by unfold filterM; rw [if_neg h0, h]; simp
theorem f_no4 {ns : List ByteArray} {f : Filter} (h0 : ¬ f.right.size = 0) (h : ¬ f.num = 0) : filterM ns f = false := by unfold filterM; rw [if_neg h0, decide_eq_false h]; simp
theorem f_no5 {ns : List ByteArray} {f : Filter} (h : inR 0 99 f.num = false) : filterM ns f = false := by
 unfold filterM
 have h1 : ¬ f.num = 0 := fun e => by rw [e] at h; exact absurd h (by decide)
 rw [h, decide_eq_false h1]; simp
theorem f_yes1 {ns : List ByteArray} {f : Filter} (h1 : hasS ns f.left = true) (h2 : inR 1 2 f.op = true) (h0 : f.right.size = 0) (h : inR 0 99 f.num = true) : filterM ns f = true := by unfold filterM; rw [h1, h2, if_pos h0, h]; rfl
theorem f_yes2 {ns : List ByteArray} {f : Filter} (h1 : hasS ns f.left = true) (h2 : inR 1 2 f.op = true) (h0 : ¬ f.right.size = 0) (h : hasS ns f.right = true) (h3 : f.num = 0) : filterM ns f = true := by unfold filterM; rw [h1, h2, if_neg h0, h, decide_eq_true h3]; rfl
theorem specQueryOk_ct (l : List Value) (x : Query) (hx : gQuery.sz x ≤ 1048576) : Ct prog 105 [.agg ⟨l⟩] [] (fun H => gQuery.rd H l x) (fun v A => v = .bool (queryM x) ∧ A = []) := by
 refine Ct.intro0 G_ok func105 rfl rfl rfl fun E H hp => ?_
 obtain ⟨b1p, c1p, b2p, c2p, b3p, c3p, rfl, h1p, h2p, h3p⟩ := gQuery_rd.1 hp
 have ez := gQuery_sz x
 have en1 := len_szL gS x.out
 have en2 := len_szL gAtom x.atoms
 have en3 := len_szL gFilter x.filters
 have hco := (sl_len h1p).2.1
 refine ⟨fun x0 => ?_⟩
 refine call_val (l01In_ct _ _ _) trivial ?_
 rintro _ rfl
 refine ⟨fun q2 => ?_, fun q2 => ?_⟩
 ·simp at q2
  have iq2 := mt inR_iff.2 (Bool.eq_false_iff.1 q2)
  exact ⟨[], ⟨by rw [q_no fun h => by (have := h.1; omega)], rfl⟩, .mem (by simp)⟩
 ·simp at q2
  have iq2 := inR_iff.1 q2
  refine ⟨fun q3 => ?_, fun q3 => ?_⟩
  ·simp at q3
   exact ⟨[], ⟨by rw [q_no fun h => by (have := h.1; omega)], rfl⟩, .mem (by simp)⟩
  ·simp at q3
   refine call_val (l01In_ct _ _ _) trivial ?_
   rintro _ rfl
   refine ⟨fun q5 => ?_, fun q5 => ?_⟩
   ·simp at q5
    have iq5 := mt inR_iff.2 (Bool.eq_false_iff.1 q5)
    exact ⟨[], ⟨by rw [q_no fun h => by (have := h.1; omega)], rfl⟩, .mem (by simp)⟩
   ·simp at q5
    have iq5 := inR_iff.1 q5
    apply loop_mod (α := (Nat)) G_ok [26, 27, 28, 29, 30, 33, 34, 35, 36, 37, 38, 39, 2, 31, 32, 3] (fun z => [(3, .v (.int .i64 z))]) (fun z => [{ id := x0, cs := [Value.bool x.each, Value.slice b1p x.out.length c1p, Value.slice b2p x.atoms.length c2p, Value.slice b3p x.filters.length c3p], ty := (39 : Nat) }]) (fun z => [H]) (fun z => x.atoms.length - z) (fun z => z ≤ x.atoms.length ∧ allK (fun i => atomM (x.atoms[i]?.getD default)) z = true) ((0))
    ·exact frI
    ·exact ⟨rfl, trivial⟩
    ·exact ⟨Nat.zero_le _, rfl⟩
    ·exact .refl _
    rintro k hI
    try dsimp only at hI
    obtain ⟨hk, ha⟩ := hI
    try dsimp only
    refine ⟨fun q6 => ?_, fun q6 => ?_⟩
    ·simp at q6
     refine idx_rd h2p ?_ ?_ fun b7 o7 hb7 => ?_
     ·omega
     ·omega
     refine load_allN default (k) rfl h2p ?_ ?_ hb7 rfl (mem_at 0 rfl) fun l8 hl8 => ?_
     ·omega
     ·omega
     obtain ⟨rfl, w0x8, w1x8, w2x8⟩ := gAtom_rd.1 hl8
     refine call_val (l08Atom_ct _ (x.atoms[k]?.getD default) ?_) (Rp.mono _ (mem_at 0 rfl) hl8) ?_
     ·exact Nat.le_trans (atoms_path hx (by omega)) (by decide)
     rintro _ rfl
     refine ⟨fun q10 => ?_, fun q10 => ?_⟩
     ·simp at q10
      exact ⟨[], ⟨by rw [q_no fun h => ff (h.2.1 k (by omega)) (by assumption)], rfl⟩, .mem (by simp)⟩
     ·simp at q10
      apply loop_stepA (k + 1)
      ·exact .refl _
      ·exact frI
      ·exact ⟨rfl, trivial⟩
      ·exact ⟨by omega, allK_step ha (by assumption)⟩
      omega
    ·simp at q6
     refine call_new (specNamesOf_ct _ x ?_) (Rp.mono _ (mem_at 0 rfl) hp) ?_
     ·omega
     rintro v11 A11 o11
     obtain ⟨bN, cN, rfl, oN⟩ := o11
     have rN := Gt.owrd _ oN
     apply loop_mod (α := (Nat)) G_ok [42, 43, 44, 45, 46, 49, 50, 51, 52, 53, 54, 55, 56, 57, 58, 59, 60, 61, 62, 63, 64, 65, 66, 67, 68, 2, 47, 48, 5] (fun z => [(5, .v (.int .i64 z))]) (fun z => [{ id := x0, cs := [Value.bool x.each, Value.slice b1p x.out.length c1p, Value.slice b2p x.atoms.length c2p, Value.slice b3p x.filters.length c3p], ty := (39 : Nat) }]) (fun z => [A11, H]) (fun z => x.out.length - z) (fun z => z ≤ x.out.length ∧ allK (fun i => hasS (namesM x.atoms) (x.out[i]?.getD ByteArray.empty)) z = true ∧ allK (fun i => !hasS (x.out.take i) (x.out[i]?.getD ByteArray.empty)) z = true) ((0))
     ·exact frI
     ·exact ⟨rfl, trivial⟩
     ·exact ⟨Nat.zero_le _, rfl, rfl⟩
     ·exact .refl _
     rintro i hI
     try dsimp only at hI
     obtain ⟨hi, hb, hc⟩ := hI
     try dsimp only
     refine ⟨fun q12 => ?_, fun q12 => ?_⟩
     ·simp at q12
      refine draw G_ok mixed none (.q 0 (.q 1 (.q 2 (.q 3 (.q 4 (.q 5 (.f 6 (.q 7 (.q 8 (.q 9 (.q 10 (.q 11 (.q 12 (.q 13 (.q 14 (.q 15 (.q 16 (.q 17 (.f 18 (.q 19 (.nil))))))))))))))))))))) (by decide +kernel) ?_
      refine idx_rd h1p ?_ ?_ fun b13 o13 hb13 => ?_
      ·omega
      ·omega
      refine load_allN ByteArray.empty (i) rfl h1p ?_ ?_ hb13 rfl (mem_at 1 rfl) fun l14 hl14 => ?_
      ·omega
      ·omega
      obtain ⟨rfl, hw14⟩ := hl14; simp only [flStr, flInt, okI] at hw14
      refine call_val (l08In_ct _ _ _ (namesM x.atoms) _) (Rp.mono _ (mem_at 0 rfl) rN) ?_
      rintro _ rfl
      refine VC.intro ?_ ?_
      ·exact fun _ h => h
      refine ⟨fun q16 => ?_, fun q16 => ?_⟩
      ·simp at q16
       exact ⟨[], ⟨by rw [q_no fun h => ff h.2.2.2.1 (inAll_no (k := i) (by omega) (by assumption))], rfl⟩, .mem (by simp)⟩
      ·simp at q16
       have hsub : (gSl 9 gS).rd H [.slice (subBase c1p 0 b1p ty9.size) (((i : Nat) : Int).toNat - 0) (c1p - 0)] ((x.out.take ((i : Nat) : Int).toNat).drop 0) := rd_sub (r := gS.toRp) (l := 0) (h := ((i : Nat) : Int).toNat) h1p (by omega) (by omega)
       refine VC.intro ?_ ?_
       ·omega
       refine idx_rd h1p ?_ ?_ fun b17 o17 hb17 => ?_
       ·omega
       ·omega
       refine load_allN ByteArray.empty (i) rfl h1p ?_ ?_ hb17 rfl (mem_at 1 rfl) fun l18 hl18 => ?_
       ·omega
       ·omega
       obtain ⟨rfl, hw18⟩ := hl18; simp only [flStr, flInt, okI] at hw18
       refine call_val (l08In_ct _ _ _ (List.drop (0 : Nat) (List.take (↑i : Int).toNat x.out)) _) (Rp.mono _ (mem_at 1 rfl) hsub) ?_
       rintro _ rfl
       refine VC.intro ?_ ?_
       ·exact fun _ h => h
       refine ⟨fun q20 => ?_, fun q20 => ?_⟩
       ·simp at q20
        exact ⟨[], ⟨by rw [q_no fun h => ff h.2.2.1 (dist_no2 (k := i) (by omega) (by assumption))], rfl⟩, .mem (by simp)⟩
       ·simp at q20
        apply loop_stepA (i + 1)
        ·exact .refl _
        ·exact frI
        ·exact ⟨rfl, trivial⟩
        ·exact ⟨by omega, allK_step hb (by assumption), allK_step hc (dist_step (by assumption))⟩
        omega
     ·simp at q12
      apply loop_mod (α := (Nat)) G_ok [69, 70, 71, 72, 73, 76, 77, 78, 79, 80, 7, 81, 82, 83, 84, 85, 86, 87, 88, 89, 90, 91, 92, 93, 94, 95, 96, 97, 98, 99, 100, 101, 102, 103, 104, 105, 106, 107, 108, 109, 110, 111, 112, 113, 114, 2, 74, 75, 6] (fun z => [(6, .v (.int .i64 z))]) (fun z => [{ id := x0, cs := [Value.bool x.each, Value.slice b1p x.out.length c1p, Value.slice b2p x.atoms.length c2p, Value.slice b3p x.filters.length c3p], ty := (39 : Nat) }]) (fun z => [A11, H]) (fun z => x.filters.length - z) (fun z => z ≤ x.filters.length ∧ allK (fun i => filterM (namesM x.atoms) (x.filters[i]?.getD default)) z = true) ((0))
      ·exact frI
      ·exact ⟨rfl, trivial⟩
      ·exact ⟨Nat.zero_le _, rfl⟩
      ·exact .refl _
      rintro j hI
      try dsimp only at hI
      obtain ⟨hj, hf⟩ := hI
      try dsimp only
      refine ⟨fun q21 => ?_, fun q21 => ?_⟩
      ·simp at q21
       refine idx_rd h3p ?_ ?_ fun b22 o22 hb22 => ?_
       ·omega
       ·omega
       refine load_allN default (j) rfl h3p ?_ ?_ hb22 rfl (mem_at 1 rfl) fun l23 hl23 => ?_
       ·omega
       ·omega
       obtain ⟨rfl, w0x23, w1x23, w2x23, w3x23⟩ := gFilter_rd.1 hl23
       refine ⟨fun x24 => ?_⟩
       refine call_val (l08In_ct _ _ _ (namesM x.atoms) _) (Rp.mono _ (mem_at 0 rfl) rN) ?_
       rintro _ rfl
       refine ⟨fun q26 => ?_, fun q26 => ?_⟩
       ·simp at q26
        exact ⟨[], ⟨by rw [q_no fun h => ff (h.2.2.2.2 j (by omega)) (f_no1 (by assumption))], rfl⟩, .mem (by simp)⟩
       ·simp at q26
        refine call_val (l01In_ct _ _ _) trivial ?_
        rintro _ rfl
        refine ⟨fun q28 => ?_, fun q28 => ?_⟩
        ·simp at q28
         have iq28 := mt inR_iff.2 (Bool.eq_false_iff.1 q28)
         exact ⟨[], ⟨by rw [q_no fun h => ff (h.2.2.2.2 j (by omega)) (f_no2 (by assumption))], rfl⟩, .mem (by simp)⟩
        ·simp at q28
         have iq28 := inR_iff.1 q28
         refine ⟨fun q29 => ?_, fun q29 => ?_⟩
         ·simp at q29
          have iq29 := mt toL_nil8.2 q29
          refine call_val (l08In_ct _ _ _ (namesM x.atoms) _) (Rp.mono _ (mem_at 0 rfl) rN) ?_
          rintro _ rfl
          refine ⟨fun q31 => ?_, fun q31 => ?_⟩
          ·simp at q31
           exact ⟨[], ⟨by rw [q_no fun h => ff (h.2.2.2.2 j (by omega)) (f_no3 (by assumption) (by assumption))], rfl⟩, .mem (by simp)⟩
          ·simp at q31
           refine ⟨fun q32 => ?_, fun q32 => ?_⟩
           ·simp at q32
            exact ⟨[], ⟨by rw [q_no fun h => ff (h.2.2.2.2 j (by omega)) (f_no4 (by assumption) (by assumption))], rfl⟩, .mem (by simp)⟩
           ·simp at q32
            refine call_val (l01In_ct _ _ _) trivial ?_
            rintro _ rfl
            refine ⟨fun q34 => ?_, fun q34 => ?_⟩
            ·simp at q34
             have iq34 := mt inR_iff.2 (Bool.eq_false_iff.1 q34)
             exfalso; omega
            ·simp at q34
             have iq34 := inR_iff.1 q34
             apply loop_stepA (j + 1)
             ·exact .refl _
             ·exact frI
             ·exact ⟨rfl, trivial⟩
             ·exact ⟨by omega, allK_step hf (f_yes2 (by assumption) (by assumption) (by assumption) (by assumption) (by assumption))⟩
             omega
         ·simp at q29
          have iq29 := toL_nil8.1 q29
          refine call_val (l01In_ct _ _ _) trivial ?_
          rintro _ rfl
          refine ⟨fun q36 => ?_, fun q36 => ?_⟩
          ·simp at q36
           have iq36 := mt inR_iff.2 (Bool.eq_false_iff.1 q36)
           exact ⟨[], ⟨by rw [q_no fun h => ff (h.2.2.2.2 j (by omega)) (f_no5 (by assumption))], rfl⟩, .mem (by simp)⟩
          ·simp at q36
           have iq36 := inR_iff.1 q36
           apply loop_stepA (j + 1)
           ·exact .refl _
           ·exact frI
           ·exact ⟨rfl, trivial⟩
           ·exact ⟨by omega, allK_step hf (f_yes1 (by assumption) (by assumption) (by assumption) (by assumption))⟩
           omega
      ·simp at q21
       (have hke : k = x.atoms.length := (by omega); have hie : i = x.out.length := (by omega); have hje : j = x.filters.length := (by omega); rw [hke] at ha; rw [hie] at hb hc; rw [hje] at hf; exact ⟨[], ⟨by rw [q_last (by omega) ha hb hc hf], rfl⟩, .mem (by simp)⟩)
end
section
attribute [local irreducible] IntKind.wrap
def nfasM (ats : List Atom) : List Nfa := ats.map fun a => (tnR a.path).1
theorem nfas_step {ats : List Atom} {k : Nat} (h : k < ats.length) : nfasM (ats.take (k + 1)) = nfasM (ats.take k) ++ [(tnR (ats[k]?.getD default).path).1] := by
 unfold nfasM
 rw [← List.take_append_getElem h, List.map_append, List.getElem?_eq_getElem h]; rfl
theorem nfas_len (ats : List Atom) : (nfasM ats).length = ats.length := List.length_map ..
theorem nfas_at {ats : List Atom} {k : Nat} (h : k < ats.length) : (nfasM ats)[k]?.getD default = (tnR (ats[k]?.getD default).path).1 := by
 unfold nfasM
 rw [List.getElem?_map, List.getElem?_eq_getElem h]; rfl
theorem nfa_text (t : ByteArray) : (nfaR (rpPath t)).1 = (tnR t).1 := by
 unfold tnR
 split
 ·rfl
 rename_i h
 have h1 : readPath t = none := by simpa using h
 have h2 : rpPath t = ⟨[]⟩ := by unfold rpPath; rw [h1]; rfl
 rw [h2]; rfl
theorem automataOf_ct (l : List Value) (x : Query) (hx : gQuery.sz x ≤ 1048576) : Ct prog 116 [.agg ⟨l⟩] [] (fun H => gQuery.rd H l x) (fun v A => ∃ b c, v = .slice b (nfasM x.atoms).length c ∧ (gSl 169 gNfa).ow [.slice b (nfasM x.atoms).length c] (nfasM x.atoms) A) := by
 refine Ct.intro0 G_ok func116 rfl rfl rfl fun E H hp => ?_
 obtain ⟨b1p, c1p, b2p, c2p, b3p, c3p, rfl, h1p, h2p, h3p⟩ := gQuery_rd.1 hp
 have ez := gQuery_sz x
 have en2 := len_szL gAtom x.atoms
 refine ⟨fun x0 => ?_⟩
 apply loop_mod (α := (Nat) × (List Nfa) × (Hp) × (Option Addr) × (Nat)) G_ok [12, 13, 14, 5, 16, 17, 18, 15, 19, 20, 6, 7, 21, 22, 23, 24, 3, 25, 11] (fun z => [(11, .v (.int .i64 z.1)), (3, .v (.slice z.2.2.2.1 z.2.1.length z.2.2.2.2))]) (fun z => [{ id := x0, cs := [Value.bool x.each, Value.slice b1p x.out.length c1p, Value.slice b2p x.atoms.length c2p, Value.slice b3p x.filters.length c3p], ty := (39 : Nat) }]) (fun z => [z.2.2.1, H]) (fun z => x.atoms.length - z.1) (fun z => z.1 ≤ x.atoms.length ∧ z.2.1 = nfasM (x.atoms.take z.1) ∧ (gSl 169 gNfa).ow [.slice z.2.2.2.1 z.2.1.length z.2.2.2.2] z.2.1 z.2.2.1) ((0, [], [], _, 0))
 ·exact frI
 ·exact ⟨rfl, trivial⟩
 ·try dsimp only
  exact ⟨Nat.zero_le _, rfl, sl_nil _ _ _⟩
 ·exact .refl _
 rintro ⟨k, o, A, lb, lc⟩ hI
 try dsimp only at hI
 obtain ⟨hk, ho, oA⟩ := hI
 try dsimp only
 refine ⟨fun q1 => ?_, fun q1 => ?_⟩
 ·simp at q1
  have hol : o.length ≤ k := (by rw [ho, nfas_len, List.length_take]; omega)
  refine idx_rd h2p ?_ ?_ fun b2 o2 hb2 => ?_
  ·omega
  ·omega
  refine load_allN default (k) rfl h2p ?_ ?_ hb2 rfl (mem_at 1 rfl) fun l3 hl3 => ?_
  ·omega
  ·omega
  obtain ⟨rfl, w0x3, w1x3, w2x3⟩ := gAtom_rd.1 hl3
  refine ⟨fun x4 => ?_⟩
  refine call_new (nfaOfText_ct _ ?_) trivial ?_
  ·exact Nat.le_trans (atoms_path hx (by omega)) (by decide)
  rintro v5 A5 o5
  obtain ⟨b5, c5, bb5, cc5, rfl, o5⟩ := o5
  refine ⟨fun x6 => ?_⟩
  refine ⟨fun x7 => ?_⟩
  refine gappend1 (g := gNfa) (T := (169 : TypeId)) G_ok A _ [H] ?_ oA ((by assumption)) (List.mem_of_getElem? (i := 0) rfl) rfl rfl rfl rfl rfl rfl rfl rfl ?_ fun b8 c8 A8 o8 => ?_
  ·exact rlA
  ·omega
  apply loop_stepA (k + 1, _, _, _, _)
  ·exact .refl _
  ·exact frI
  ·exact ⟨rfl, trivial⟩
  ·try dsimp only
   exact ⟨by omega, by rw [nfas_step (by omega), ← ho], by assumption⟩
  try dsimp only
  omega
 ·simp at q1
  (have hke : k = x.atoms.length := (by omega); subst hke; rw [List.take_length] at ho; subst ho; exact ⟨_, ⟨_, _, rfl, by assumption⟩, rlB⟩)
theorem l20Nfas_ct (l : List Value) (x : Query) (hx : gQuery.sz x ≤ 1048576) : Ct prog 106 [.agg ⟨l⟩] [] (fun H => gQuery.rd H l x) (fun v A => ∃ b c, v = .slice b (nfasM x.atoms).length c ∧ (gSl 169 gNfa).ow [.slice b (nfasM x.atoms).length c] (nfasM x.atoms) A) := by
 refine Ct.intro0 G_ok func106 rfl rfl rfl fun E H hp => ?_
 obtain ⟨b1p, c1p, b2p, c2p, b3p, c3p, rfl, h1p, h2p, h3p⟩ := gQuery_rd.1 hp
 have ez := gQuery_sz x
 have en2 := len_szL gAtom x.atoms
 refine ⟨fun x0 => ?_⟩
 refine ⟨fun x1 => ?_⟩
 apply loop_mod (α := (Nat) × (List Nfa) × (Hp) × (Option Addr) × (Nat)) G_ok [10, 11, 12, 13, 14, 18, 19, 20, 21, 22, 23, 24, 17, 25, 26, 5, 6, 28, 29, 27, 30, 31, 7, 8, 32, 33, 34, 35, 3, 15, 16, 4] (fun z => [(4, .v (.int .i64 z.1)), (3, .v (.slice z.2.2.2.1 z.2.1.length z.2.2.2.2))]) (fun z => [{ id := x0, cs := [Value.bool x.each, Value.slice b1p x.out.length c1p, Value.slice b2p x.atoms.length c2p, Value.slice b3p x.filters.length c3p], ty := (39 : Nat) }]) (fun z => [z.2.2.1, H]) (fun z => x.atoms.length - z.1) (fun z => z.1 ≤ x.atoms.length ∧ z.2.1 = nfasM (x.atoms.take z.1) ∧ (gSl 169 gNfa).ow [.slice z.2.2.2.1 z.2.1.length z.2.2.2.2] z.2.1 z.2.2.1) ((0, [], [], _, 0))
 ·exact frI
 ·exact ⟨rfl, trivial⟩
 ·try dsimp only
  exact ⟨Nat.zero_le _, rfl, sl_nil _ _ _⟩
 ·exact .tl
 rintro ⟨k, o, A, lb, lc⟩ hI
 try dsimp only at hI
 obtain ⟨hk, ho, oA⟩ := hI
 try dsimp only
 refine ⟨fun q2 => ?_, fun q2 => ?_⟩
 ·simp at q2
  have hol : o.length ≤ k := (by rw [ho, nfas_len, List.length_take]; omega)
  refine idx_rd h2p ?_ ?_ fun b3 o3 hb3 => ?_
  ·omega
  ·omega
  refine load_partN default (k) 1 rfl h2p ?_ ?_ hb3 rfl (by decide) (mem_at 1 rfl) fun l4 hl4 => ?_
  ·omega
  ·omega
  obtain ⟨rfl, w0x4, w1x4, w2x4⟩ := gAtom_rd.1 hl4
  refine call_new (specReadPath_ct _ ?_) trivial ?_
  ·exact Nat.le_trans (atoms_path hx (by omega)) (by decide)
  rintro v5 A5 o5
  obtain ⟨bP, cP, rfl, oP⟩ := o5
  refine ⟨fun x6 => ?_⟩
  refine call_new (specNfaOf_ct _ (rpPath (x.atoms[k]?.getD default).path)) (gPath_rd.2 ⟨_, _, rfl, Rp.mono _ (sub_hall (by simp)) (Gt.owrd _ oP)⟩) ?_
  rintro v7 A7 o7
  obtain ⟨bN, cN, bbN, ccN, rfl, oN⟩ := o7
  refine ⟨fun x8 => ?_⟩
  refine ⟨fun x9 => ?_⟩
  refine gappend1 (g := gNfa) (T := (169 : TypeId)) G_ok A _ [A5, H] ?_ oA ((by assumption)) (List.mem_of_getElem? (i := 0) rfl) rfl rfl rfl rfl rfl rfl rfl rfl ?_ fun b10 c10 A10 o10 => ?_
  ·exact rlA
  ·omega
  apply loop_stepA (k + 1, _, _, _, _)
  ·exact .sub (by repeat (first | exact .slnil | apply List.Sublist.cons_cons | apply List.Sublist.cons))
  ·exact frI
  ·exact ⟨rfl, trivial⟩
  ·try dsimp only
   exact ⟨by omega, by rw [nfas_step (by omega), ← ho, nfa_text], by assumption⟩
  try dsimp only
  omega
 ·simp at q2
  (have hke : k = x.atoms.length := (by omega); subst hke; rw [List.take_length] at ho; subst ho; exact ⟨_, ⟨_, _, rfl, by assumption⟩, rlB⟩)
attribute [local irreducible] nfaOf queryM namesM
theorem go_bad {ps : List Piece} (hps : PsOk ps) (h : 1 ≤ ps.length) (hg : nfaGo ps = true) : badM (topL ps).1 = false := by
 cases hb : badM (topL ps).1 with
 | false => rfl
 | true => rw [top_bad hps h hb] at hg; cases hg
theorem nfaR_ok {x : Path} (h : (nfaR x).2 = true) : nfaOk (nfaR x).1 = true := by
 by_cases hc : pathOk x = true ∧ nfaGo x.pieces = true
 ·rw [nfaR_yes hc.1 hc.2]
  obtain ⟨h1, _, h2⟩ := path_all hc.1
  obtain ⟨_, h3, h4, h5, h6, _⟩ := top_good h2 h1 (go_bad h2 h1 hc.2)
  show nfaOk (nfaOf x.pieces) = true
  rw [nfa_spec h6]
  exact nfa_spec_ok h3 h4 h5
 unfold nfaR at h
 rw [if_neg hc] at h; cases h
theorem tnR_ok {t : ByteArray} (h : (tnR t).2 = true) : nfaOk (tnR t).1 = true := by
 unfold tnR at h ⊢
 split at h
 ·rename_i h1; rw [if_pos h1]; exact nfaR_ok h
 cases h
theorem q_atoms {x : Query} (h : queryM x = true) {k : Nat} (hk : k < x.atoms.length) : atomM (x.atoms[k]?.getD default) = true := by
 by_cases hq : queryP x
 ·exact hq.2.1 k hk
 rw [q_no hq] at h; cases h
theorem nfas_ok {x : Query} (h : queryM x = true) {k : Nat} (hk : k < x.atoms.length) : nfaOk ((nfasM x.atoms)[k]?.getD default) = true := by
 rw [nfas_at hk]
 have h1 := q_atoms h hk
 unfold atomM at h1
 rw [Bool.and_eq_true, Bool.and_eq_true] at h1
 exact tnR_ok h1.2.2
theorem nfa_ends {a : Nfa} (h : nfaOk a = true) : (a.ends.length : Int) = a.states ∧ 1 ≤ a.states ∧ a.states ≤ 24 := by
 unfold nfaOk at h
 rw [Bool.and_eq_true, Bool.and_eq_true, inR_iff, decide_eq_true_iff] at h
 exact ⟨h.2.1, h.1⟩
end
section
attribute [local irreducible] IntKind.wrap
theorem g_parts {g : Graph} (h : graphOk g = true) : (1 ≤ g.size ∧ g.size ≤ 12) ∧ g.edges.length ≤ 40 ∧ EdgeR g.size.toNat g.edges := by
 unfold graphOk at h
 rw [Bool.and_eq_true, Bool.and_eq_true, inR_iff, decide_eq_true_iff] at h
 refine ⟨h.1, h.2.1, fun e he => ?_⟩
 obtain ⟨i, hi, rfl⟩ := List.getElem_of_mem he
 have h1 := (edgeOk_iff.1 (allOk_iff.1 h.2.2 i hi)).1
 rw [List.getElem?_eq_getElem hi] at h1
 have h2 : eOk g.size (g.edges[i]'hi) = true := h1
 unfold eOk at h2
 simp only [Bool.and_eq_true, inR_iff] at h2
 omega
theorem bit_or {m : Nat} {t : Int} (hm : m < 4294967296) (ht : 0 ≤ t ∧ t < 24) : IntKind.u32.wrap (((BitVec.ofInt IntKind.u32.bits ((m : Nat) : Int) ||| BitVec.ofInt IntKind.u32.bits (IntKind.u32.wrap (1 * 2 ^ min (IntKind.u64.wrap t).toNat IntKind.u32.bits))).toNat : Nat) : Int) = ((m ||| 2 ^ t.toNat : Nat) : Int) := by
 obtain ⟨k, rfl⟩ : ∃ k : Nat, t = k := ⟨t.toNat, by omega⟩
 have e1 : (IntKind.u64.wrap (k : Int)).toNat = k := by rw [w64u]; omega
 have e2 : (1 : Int) * 2 ^ min k IntKind.u32.bits = ((2 ^ k : Nat) : Int) := by
  rw [show min k IntKind.u32.bits = k from Nat.min_eq_left (by show k ≤ 32; omega), Int.one_mul]; push_cast; rfl
 have h2 : 2 ^ k < 4294967296 := Nat.pow_lt_pow_right (a := 2) (by omega) (show k < 32 by omega)
 have e3 : IntKind.u32.wrap ((2 ^ k : Nat) : Int) = ((2 ^ k : Nat) : Int) := by rw [u32_wrap]; generalize 2 ^ k = z at *; omega
 rw [e1, e2, Int.toNat_natCast, e3]
 exact or_u32 hm h2
theorem edge_rng {n i : Nat} {es : List Edge} (hE : EdgeR n es) (hi : i < es.length) : 0 ≤ (es[i]?.getD default).from' ∧ (es[i]?.getD default).from' < n ∧ 0 ≤ (es[i]?.getD default).to ∧ (es[i]?.getD default).to < n := by
 rw [List.getElem?_eq_getElem hi]
 exact hE _ (List.getElem_mem hi)
theorem or_rng {a b : Nat} (ha : a < 4294967296) (hb : b < 4294967296) : 0 ≤ IntKind.u32.wrap (((BitVec.ofInt IntKind.u32.bits ((a : Nat) : Int) ||| BitVec.ofInt IntKind.u32.bits ((b : Nat) : Int)).toNat : Nat) : Int) ∧ IntKind.u32.wrap (((BitVec.ofInt IntKind.u32.bits ((a : Nat) : Int) ||| BitVec.ofInt IntKind.u32.bits ((b : Nat) : Int)).toNat : Nat) : Int) < 4294967296 := by
 rw [or_u32 ha hb]
 have h9 := Nat.or_lt_two_pow (n := 32) ha hb
 omega
theorem or_nat {a b : Nat} (ha : a < 4294967296) (hb : b < 4294967296) : (IntKind.u32.wrap (((BitVec.ofInt IntKind.u32.bits ((a : Nat) : Int) ||| BitVec.ofInt IntKind.u32.bits ((b : Nat) : Int)).toNat : Nat) : Int)).toNat = a ||| b := by
 rw [or_u32 ha hb, Int.toNat_natCast]
theorem set_ow {T : TypeId} {s : Value} {at1 : List Nat} {i y z : Nat} {A : Hp} (o : (gSl T gU).ow [s] (at1.set i y) A) (h : y = z) : (gSl T gU).ow [s] (at1.set i z) A := h ▸ o
end
section
attribute [local irreducible] IntKind.wrap
abbrev gRel : Gt (List Nat) := gSl 274 gU
theorem repI_lt {n : Nat} {m : List Nat} {R : Nat → Nat → Prop} (h : RepI n m R) (hn : n ≤ 12) (u : Nat) : (m[u]?.getD 0) < 4294967296 := Nat.lt_of_lt_of_le (h.small u) (Nat.pow_le_pow_right (n := 2) (by omega) (show n ≤ 32 by omega))
theorem small_lt {n : Nat} {m : List Nat} (h : ∀ u : Nat, (m[u]?.getD 0) < 2 ^ n) (hn : n ≤ 12) (u : Nat) : (m[u]?.getD 0) < 4294967296 := Nat.lt_of_lt_of_le (h u) (Nat.pow_le_pow_right (n := 2) (by omega) (show n ≤ 32 by omega))
theorem shl_bit {k : Nat} (hk : k < 24) : IntKind.u32.wrap (1 * 2 ^ min (IntKind.u64.wrap (k : Int)).toNat IntKind.u32.bits) = ((2 ^ k : Nat) : Int) := by
 have e1 : (IntKind.u64.wrap (k : Int)).toNat = k := by rw [w64u]; omega
 have e2 : (1 : Int) * 2 ^ min k IntKind.u32.bits = ((2 ^ k : Nat) : Int) := by
  rw [show min k IntKind.u32.bits = k from Nat.min_eq_left (by show k ≤ 32; omega), Int.one_mul]; push_cast; rfl
 have h2 : 2 ^ k < 4294967296 := Nat.pow_lt_pow_right (a := 2) (by omega) (show k < 32 by omega)
 rw [e1, e2, u32_wrap]
 generalize 2 ^ k = z at *
 omega
theorem shl_rng {k : Nat} (hk : k < 24) : 0 ≤ IntKind.u32.wrap (1 * 2 ^ min (IntKind.u64.wrap (k : Int)).toNat IntKind.u32.bits) ∧ IntKind.u32.wrap (1 * 2 ^ min (IntKind.u64.wrap (k : Int)).toNat IntKind.u32.bits) < 4294967296 := by
 rw [shl_bit hk]
 have h2 : 2 ^ k < 4294967296 := Nat.pow_lt_pow_right (a := 2) (by omega) (show k < 32 by omega)
 generalize 2 ^ k = z at *
 omega
theorem shl_nat {k : Nat} (hk : k < 24) : (IntKind.u32.wrap (1 * 2 ^ min (IntKind.u64.wrap (k : Int)).toNat IntKind.u32.bits)).toNat = 2 ^ k := by rw [shl_bit hk, Int.toNat_natCast]
theorem identity_ct (s : Int) (hs : 1 ≤ s ∧ s ≤ 12) :
  Ct prog 401 [.int .i64 s] [] (fun _ => True) (fun v A => ∃ b c m, v = .slice b m.length c ∧ (gSl 274 gU).ow [.slice b m.length c] m A ∧ RepI s.toNat m (fun u v => u = v)) := by
 refine Ct.intro0 G_ok func401 rfl rfl rfl fun E H hp => ?_
 obtain ⟨n, hn⟩ : ∃ n : Nat, s.toNat = n := ⟨_, rfl⟩
 rw [hn]
 refine VCmake.intro ?_ ?_ ?_ ?_ fun x0 => ?_
 ·omega
 ·omega
 ·omega
 ·omega
 apply loop_mod (α := (Nat) × (List Nat) × (Hp)) G_ok [10, 11, 4, 12, 13, 14, 15, 16, 17, 18, 9] (fun z => [(9, .v (.int .i64 z.1))]) (fun z => []) (fun z => [z.2.2, H]) (fun z => n - z.1) (fun z => z.1 ≤ n ∧ IdI n z.1 z.2.1 ∧ (gSl 274 gU).ow [.slice (some ⟨x0, 0, none⟩) s.toNat s.toNat] z.2.1 z.2.2) ((0, List.replicate s.toNat 0, _))
 ·exact frI
 ·exact trivial
 ·try dsimp only
  exact ⟨Nat.zero_le _, hn ▸ id_init _, gmake (g := gU) (T := 274) (z := 0) (gU_ow (x := 0) (by decide)) (Nat.le_refl _) (by omega)⟩
 ·exact .refl _
 rintro ⟨i, m, W⟩ hI
 try dsimp only at hI
 obtain ⟨hi, hI, oW⟩ := hI
 try dsimp only
 refine ⟨fun q1 => ?_, fun q1 => ?_⟩
 ·simp at q1
  have hml := hI.len
  refine VC.intro ?_ ?_
  ·(rw [w64u]; omega)
  refine idx_rd (Gt.owrd _ oW) ?_ ?_ fun b2 o2 hb2 => ?_
  ·omega
  ·omega
  refine gstoreN (Fld.id _) default (i) 0 rfl rfl oW ?_ ?_ hb2 rfl gU_pl _ (gU_st ?_) fun A3 o3 => ?_
  ·omega
  ·omega
  ·exact shl_rng (by omega)
  apply loop_stepA (i + 1, m.set i (2 ^ i), _)
  ·exact .refl _
  ·exact frI
  ·exact trivial
  ·try dsimp only
   exact ⟨by omega, id_step (by omega) hI, set_ow (by assumption) (shl_nat (by omega))⟩
  try dsimp only
  omega
 ·simp at q1
  (have hie : i = n := (by omega); subst hie; have hal : s.toNat = m.length := (by rw [hI.len]; omega); rw [hal] at oW ⊢; exact ⟨W, ⟨_, _, m, rfl, oW, id_end hI⟩, rlB⟩)
theorem bt_yes {m : List Nat} {u v : Nat} (h : (m[u]?.getD 0).testBit v = true) : bt m u v := h
theorem bt_no {m : List Nat} {u v : Nat} (h : (m[u]?.getD 0).testBit v = false) : ¬ bt m u v := fun h2 => by unfold bt at h2; rw [h] at h2; cases h2
theorem then_ct (ba : Option Addr) (ma ca : Nat) (bb : Option Addr) (mb cb : Nat) (n : Nat) (xa xb : List Nat) (A B : Nat → Nat → Prop) (hn : 1 ≤ n ∧ n ≤ 12) (ra : RepI n xa A) (rb : RepI n xb B) :
  Ct prog 402 [.slice ba ma ca, .slice bb mb cb] [] (fun H => (gSl 274 gU).rd H [.slice ba ma ca] xa ∧ (gSl 274 gU).rd H [.slice bb mb cb] xb)
   (fun v D => ∃ b c m, v = .slice b m.length c ∧ (gSl 274 gU).ow [.slice b m.length c] m D ∧ RepI n m (compR n A B)) := by
 refine Ct.intro0 G_ok func402 rfl rfl rfl fun E H hp => ?_
 obtain ⟨hp, hq⟩ := hp
 obtain ⟨rfl, hca, hla⟩ := sl_len hp
 obtain ⟨rfl, hcb, hlb⟩ := sl_len hq
 have hna := ra.len
 have hnb := rb.len
 refine VCmake.intro ?_ ?_ ?_ ?_ fun x0 => ?_
 ·omega
 ·omega
 ·omega
 ·omega
 apply loop_mod (α := (Nat) × (List Nat) × (Hp)) G_ok [15, 16, 17, 18, 6, 7, 19, 20, 21, 22, 23, 8, 24, 25, 26, 27, 28, 29, 30, 31, 32, 33, 34, 35, 36, 37, 38, 39, 40, 41, 14] (fun z => [(14, .v (.int .i64 z.1))]) (fun z => []) (fun z => [z.2.2, H]) (fun z => xa.length - z.1) (fun z => z.1 ≤ xa.length ∧ ThenI n A B z.1 0 z.2.1 ∧ (gSl 274 gU).ow [.slice (some ⟨x0, 0, none⟩) xa.length xa.length] z.2.1 z.2.2) ((0, List.replicate xa.length 0, _))
 ·exact frI
 ·exact trivial
 ·try dsimp only
  exact ⟨Nat.zero_le _, hna ▸ then_init _ _ _, gmake (g := gU) (T := 274) (z := 0) (gU_ow (x := 0) (by decide)) (Nat.le_refl _) (by omega)⟩
 ·exact .refl _
 rintro ⟨i, m, W⟩ hI
 try dsimp only at hI
 obtain ⟨hi, hI, oW⟩ := hI
 try dsimp only
 refine ⟨fun q1 => ?_, fun q1 => ?_⟩
 ·simp at q1
  refine idx_rd hp ?_ ?_ fun b2 o2 hb2 => ?_
  ·omega
  ·omega
  refine load_allN default (i) rfl hp ?_ ?_ hb2 rfl (mem_at 1 rfl) fun l3 hl3 => ?_
  ·omega
  ·omega
  obtain ⟨rfl, hw3⟩ := hl3; simp only [flU] at hw3
  apply loop_mod (α := (Nat) × (List Nat) × (Hp)) G_ok [22, 23, 8, 24, 25, 26, 27, 28, 29, 30, 31, 32, 33, 34, 35, 36, 37, 38, 39, 40, 21] (fun z => [(21, .v (.int .i64 z.1))]) (fun z => []) (fun z => [z.2.2, H]) (fun z => xb.length - z.1) (fun z => z.1 ≤ xb.length ∧ ThenI n A B i z.1 z.2.1 ∧ (gSl 274 gU).ow [.slice (some ⟨x0, 0, none⟩) xa.length xa.length] z.2.1 z.2.2) ((0, m, W))
  ·exact frI
  ·exact trivial
  ·try dsimp only
   exact ⟨Nat.zero_le _, hI, oW⟩
  ·exact .refl _
  rintro ⟨j, m1, W⟩ hI
  try dsimp only at hI
  obtain ⟨hj, hJ, oW1⟩ := hI
  try dsimp only
  refine ⟨fun q4 => ?_, fun q4 => ?_⟩
  ·simp at q4
   have hml := hJ.len
   have hx1 : (m1[i]?.getD default) < 4294967296 := small_lt hJ.small hn.2 i
   have hx2 : (xb[j]?.getD default) < 4294967296 := repI_lt rb hn.2 j
   have hxa : (xa[i]?.getD default) < 4294967296 := repI_lt ra hn.2 i
   have hrw := ra.rows i j (by omega) (by omega)
   refine VC.intro ?_ ?_
   ·(rw [w64u]; omega)
   refine ⟨fun q5 => ?_, fun q5 => ?_⟩
   ·rw [bit_at hxa (by omega)] at q5
    simp at q5
    refine draw G_ok mixed (some 10) (.q 0 (.q 1 (.q 2 (.q 3 (.q 4 (.q 5 (.q 6 (.q 7 (.q 8 (.q 9 (.tl 10 (.nil)))))))))))) (by decide +kernel) ?_
    refine idx_rd (Gt.owrd _ oW1) ?_ ?_ fun b6 o6 hb6 => ?_
    ·omega
    ·omega
    refine load_allN default (i) rfl (Gt.owrd _ oW1) ?_ ?_ hb6 rfl (mem_at 0 rfl) fun l7 hl7 => ?_
    ·omega
    ·omega
    obtain ⟨rfl, hw7⟩ := hl7; simp only [flU] at hw7
    refine idx_rd hq ?_ ?_ fun b8 o8 hb8 => ?_
    ·omega
    ·omega
    refine load_allN default (j) rfl hq ?_ ?_ hb8 rfl (mem_at 1 rfl) fun l9 hl9 => ?_
    ·omega
    ·omega
    obtain ⟨rfl, hw9⟩ := hl9; simp only [flU] at hw9
    refine idx_rd (Gt.owrd _ oW1) ?_ ?_ fun b10 o10 hb10 => ?_
    ·omega
    ·omega
    refine gstoreN (Fld.id _) default (i) 0 rfl rfl oW1 ?_ ?_ hb10 rfl gU_pl _ (gU_st ?_) fun A11 o11 => ?_
    ·omega
    ·omega
    ·exact or_rng hx1 hx2
    apply loop_stepA (j + 1, m1.set i ((m1[i]?.getD 0) ||| (xb[j]?.getD 0)), _)
    ·exact .refl _
    ·exact frI
    ·exact trivial
    ·try dsimp only
     exact ⟨by omega, then_hit (by omega) (by omega) rb hJ (hrw.1 (bt_yes (by assumption))), set_ow (by assumption) (or_nat hx1 hx2)⟩
    try dsimp only
    omega
   ·rw [bit_at hxa (by omega)] at q5
    simp at q5
    apply loop_stepA (j + 1, m1, W)
    ·exact .refl _
    ·exact frI
    ·exact trivial
    ·try dsimp only
     exact ⟨by omega, then_skip hJ (mt hrw.2 (bt_no (by assumption))), oW1⟩
    try dsimp only
    omega
  ·simp at q4
   apply loop_stepA (i + 1, m1, W)
   ·exact .refl _
   ·exact frI
   ·exact trivial
   ·try dsimp only
    (have hje : j = n := (by omega); rw [hje] at hJ; exact ⟨by omega, then_next hJ, oW1⟩)
   try dsimp only
   omega
 ·simp at q1
  (have hie : i = n := (by omega); have hal : xa.length = m.length := (by rw [hI.len]; omega); rw [hie] at hI; rw [hal] at oW ⊢; exact ⟨W, ⟨_, _, m, rfl, oW, then_end hI⟩, rlB⟩)
theorem or_ct (ba : Option Addr) (ma ca : Nat) (bb : Option Addr) (mb cb : Nat) (n : Nat) (xa xb : List Nat) (A B : Nat → Nat → Prop) (hn : 1 ≤ n ∧ n ≤ 12) (ra : RepI n xa A) (rb : RepI n xb B) :
  Ct prog 403 [.slice ba ma ca, .slice bb mb cb] [] (fun H => (gSl 274 gU).rd H [.slice ba ma ca] xa ∧ (gSl 274 gU).rd H [.slice bb mb cb] xb)
   (fun v D => ∃ b c m, v = .slice b m.length c ∧ (gSl 274 gU).ow [.slice b m.length c] m D ∧ RepI n m (fun u v => A u v ∨ B u v)) := by
 refine Ct.intro0 G_ok func403 rfl rfl rfl fun E H hp => ?_
 obtain ⟨hp, hq⟩ := hp
 obtain ⟨rfl, hca, hla⟩ := sl_len hp
 obtain ⟨rfl, hcb, hlb⟩ := sl_len hq
 have hna := ra.len
 have hnb := rb.len
 refine VCmake.intro ?_ ?_ ?_ ?_ fun x0 => ?_
 ·omega
 ·omega
 ·omega
 ·omega
 apply loop_mod (α := (Nat) × (List Nat) × (Hp)) G_ok [13, 14, 6, 15, 16, 17, 18, 19, 20, 21, 22, 23, 24, 25, 26, 27, 12] (fun z => [(12, .v (.int .i64 z.1))]) (fun z => []) (fun z => [z.2.2, H]) (fun z => xa.length - z.1) (fun z => z.1 ≤ xa.length ∧ OrI n A B z.1 z.2.1 ∧ (gSl 274 gU).ow [.slice (some ⟨x0, 0, none⟩) xa.length xa.length] z.2.1 z.2.2) ((0, List.replicate xa.length 0, _))
 ·exact frI
 ·exact trivial
 ·try dsimp only
  exact ⟨Nat.zero_le _, hna ▸ or_init _ _ _, gmake (g := gU) (T := 274) (z := 0) (gU_ow (x := 0) (by decide)) (Nat.le_refl _) (by omega)⟩
 ·exact .refl _
 rintro ⟨i, m, W⟩ hI
 try dsimp only at hI
 obtain ⟨hi, hI, oW⟩ := hI
 try dsimp only
 refine ⟨fun q1 => ?_, fun q1 => ?_⟩
 ·simp at q1
  have hml := hI.len
  have hx1 := repI_lt ra hn.2 i
  have hx2 := repI_lt rb hn.2 i
  refine draw G_ok mixed (some 12) (.q 0 (.q 1 (.q 2 (.q 3 (.q 4 (.q 5 (.q 6 (.q 7 (.q 8 (.q 9 (.q 10 (.q 11 (.tl 12 (.nil)))))))))))))) (by decide +kernel) ?_
  refine idx_rd hp ?_ ?_ fun b2 o2 hb2 => ?_
  ·omega
  ·omega
  refine load_allN default (i) rfl hp ?_ ?_ hb2 rfl (mem_at 1 rfl) fun l3 hl3 => ?_
  ·omega
  ·omega
  obtain ⟨rfl, hw3⟩ := hl3; simp only [flU] at hw3
  refine idx_rd hq ?_ ?_ fun b4 o4 hb4 => ?_
  ·omega
  ·omega
  refine load_allN default (i) rfl hq ?_ ?_ hb4 rfl (mem_at 1 rfl) fun l5 hl5 => ?_
  ·omega
  ·omega
  obtain ⟨rfl, hw5⟩ := hl5; simp only [flU] at hw5
  refine idx_rd (Gt.owrd _ oW) ?_ ?_ fun b6 o6 hb6 => ?_
  ·omega
  ·omega
  refine gstoreN (Fld.id _) default (i) 0 rfl rfl oW ?_ ?_ hb6 rfl gU_pl _ (gU_st ?_) fun A7 o7 => ?_
  ·omega
  ·omega
  ·exact or_rng hx1 hx2
  apply loop_stepA (i + 1, m.set i ((xa[i]?.getD 0) ||| (xb[i]?.getD 0)), _)
  ·exact .refl _
  ·exact frI
  ·exact trivial
  ·try dsimp only
   exact ⟨by omega, or_step (by omega) ra rb hI, set_ow (by assumption) (or_nat hx1 hx2)⟩
  try dsimp only
  omega
 ·simp at q1
  (have hie : i = xa.length := (by omega); subst hie; have hal : xa.length = m.length := (by rw [hI.len]; omega); rw [hna] at hI; rw [hal] at oW ⊢; exact ⟨W, ⟨_, _, m, rfl, oW, or_end hI⟩, rlB⟩)
theorem cloneRel_ct (b : Option Addr) (m c : Nat) (xs : List Nat) (hx : xs.length ≤ 1048576) :
  Ct prog 423 [.slice b m c] [] (fun H => (gSl 274 gU).rd H [.slice b m c] xs) (fun v A => ∃ b c, v = .slice b xs.length c ∧ (gSl 274 gU).ow [.slice b xs.length c] xs A) := by
 refine Ct.intro0 G_ok func423 rfl rfl rfl fun E H hp => ?_
 obtain ⟨rfl, hcl, hl⟩ := sl_len hp
 refine ⟨fun q0 => ?_, fun q0 => ?_⟩
 ·simp at q0
  (obtain rfl := sl_none hp ‹_ = none›; exact ⟨[], ⟨none, 0, rfl, sl_nil _ _ _⟩, .mem (by simp)⟩)
 ·simp at q0
  refine ⟨fun x1 => ?_⟩
  refine append_allN (g := gU) (T := (274 : TypeId)) G_ok (by repeat (first | exact fl_plain | apply plain_iso | apply plain_pair)) [] [[(x1, Obj.cells { toList := zeros (0 : Nat) [Value.int IntKind.u32 (0 : Int)] } (274 : TypeId))], H] 1 ?_ (sl_nil _ _ _) rfl hp rfl rfl rfl rfl rfl rfl rfl rfl ?_ fun b2 c2 A2 o2 => ?_
  ·exact .refl _
  ·simp; omega
  exact ⟨_, ⟨_, _, rfl, by assumption⟩, rlA⟩
theorem plus_ct (ba : Option Addr) (ma ca : Nat) (n : Nat) (xa : List Nat) (R : Nat → Nat → Prop) (hn : 1 ≤ n ∧ n ≤ 12) (ra : RepI n xa R) :
  Ct prog 404 [.slice ba ma ca] [] (fun H => (gSl 274 gU).rd H [.slice ba ma ca] xa)
   (fun v D => ∃ b c m, v = .slice b m.length c ∧ (gSl 274 gU).ow [.slice b m.length c] m D ∧ RepI n m (TC n R)) := by
 refine Ct.intro0 G_ok func404 rfl rfl rfl fun E H hp => ?_
 obtain ⟨rfl, hca, hla⟩ := sl_len hp
 have hna := ra.len
 refine call_new (cloneRel_ct _ _ _ xa ?_) (Rp.mono _ (mem_at 0 rfl) hp) ?_
 ·omega
 rintro v0 A0 o0
 obtain ⟨bK, cK, rfl, oK⟩ := o0
 apply loop_mod (α := (Nat) × (List Nat) × (Hp)) G_ok [11, 12, 4, 13, 14, 15, 16, 17, 5, 18, 19, 20, 21, 22, 23, 24, 25, 26, 27, 28, 29, 30, 31, 32, 33, 34, 35, 36, 37, 38, 10] (fun z => [(10, .v (.int .i64 z.1))]) (fun z => []) (fun z => [z.2.2, H]) (fun z => xa.length - z.1) (fun z => z.1 ≤ xa.length ∧ PlusI n R z.1 0 z.2.1 ∧ (gSl 274 gU).ow [.slice bK xa.length cK] z.2.1 z.2.2) ((0, xa, _))
 ·exact frI
 ·exact trivial
 ·try dsimp only
  exact ⟨Nat.zero_le _, plus_init ra, oK⟩
 ·exact .refl _
 rintro ⟨k, m, W⟩ hI
 try dsimp only at hI
 obtain ⟨hk, hI, oW⟩ := hI
 try dsimp only
 refine ⟨fun q1 => ?_, fun q1 => ?_⟩
 ·simp at q1
  apply loop_mod (α := (Nat) × (List Nat) × (Hp)) G_ok [16, 17, 5, 18, 19, 20, 21, 22, 23, 24, 25, 26, 27, 28, 29, 30, 31, 32, 33, 34, 35, 36, 37, 15] (fun z => [(15, .v (.int .i64 z.1))]) (fun z => []) (fun z => [z.2.2, H]) (fun z => xa.length - z.1) (fun z => z.1 ≤ xa.length ∧ PlusI n R k z.1 z.2.1 ∧ (gSl 274 gU).ow [.slice bK xa.length cK] z.2.1 z.2.2) ((0, m, W))
  ·exact frI
  ·exact trivial
  ·try dsimp only
   exact ⟨Nat.zero_le _, hI, oW⟩
  ·exact .refl _
  rintro ⟨i, m1, W⟩ hI
  try dsimp only at hI
  obtain ⟨hi, hJ, oW1⟩ := hI
  try dsimp only
  refine ⟨fun q2 => ?_, fun q2 => ?_⟩
  ·simp at q2
   have hml := hJ.len
   have hx1 : (m1[i]?.getD default) < 4294967296 := small_lt hJ.small hn.2 i
   have hx2 : (m1[k]?.getD default) < 4294967296 := small_lt hJ.small hn.2 k
   refine idx_rd (Gt.owrd _ oW1) ?_ ?_ fun b3 o3 hb3 => ?_
   ·omega
   ·omega
   refine load_allN default (i) rfl (Gt.owrd _ oW1) ?_ ?_ hb3 rfl (mem_at 0 rfl) fun l4 hl4 => ?_
   ·omega
   ·omega
   obtain ⟨rfl, hw4⟩ := hl4; simp only [flU] at hw4
   refine VC.intro ?_ ?_
   ·(rw [w64u]; omega)
   refine ⟨fun q5 => ?_, fun q5 => ?_⟩
   ·rw [bit_at hx1 (by omega)] at q5
    simp at q5
    refine draw G_ok mixed (some 10) (.q 0 (.q 1 (.q 2 (.q 3 (.q 4 (.q 5 (.q 6 (.q 7 (.q 8 (.q 9 (.tl 10 (.nil)))))))))))) (by decide +kernel) ?_
    refine idx_rd (Gt.owrd _ oW1) ?_ ?_ fun b6 o6 hb6 => ?_
    ·omega
    ·omega
    refine load_allN default (i) rfl (Gt.owrd _ oW1) ?_ ?_ hb6 rfl (mem_at 0 rfl) fun l7 hl7 => ?_
    ·omega
    ·omega
    obtain ⟨rfl, hw7⟩ := hl7; simp only [flU] at hw7
    refine idx_rd (Gt.owrd _ oW1) ?_ ?_ fun b8 o8 hb8 => ?_
    ·omega
    ·omega
    refine load_allN default (k) rfl (Gt.owrd _ oW1) ?_ ?_ hb8 rfl (mem_at 0 rfl) fun l9 hl9 => ?_
    ·omega
    ·omega
    obtain ⟨rfl, hw9⟩ := hl9; simp only [flU] at hw9
    refine idx_rd (Gt.owrd _ oW1) ?_ ?_ fun b10 o10 hb10 => ?_
    ·omega
    ·omega
    refine gstoreN (Fld.id _) default (i) 0 rfl rfl oW1 ?_ ?_ hb10 rfl gU_pl _ (gU_st ?_) fun A11 o11 => ?_
    ·omega
    ·omega
    ·exact or_rng hx1 hx2
    apply loop_stepA (i + 1, m1.set i ((m1[i]?.getD 0) ||| (m1[k]?.getD 0)), _)
    ·exact .refl _
    ·exact frI
    ·exact trivial
    ·try dsimp only
     exact ⟨by omega, plus_hit hJ (by omega) (by omega) (bt_yes (by assumption)), set_ow (by assumption) (or_nat hx1 hx2)⟩
    try dsimp only
    omega
   ·rw [bit_at hx1 (by omega)] at q5
    simp at q5
    apply loop_stepA (i + 1, m1, W)
    ·exact .refl _
    ·exact frI
    ·exact trivial
    ·try dsimp only
     exact ⟨by omega, plus_skip hJ (by omega) (by omega) (bt_no (by assumption)), oW1⟩
    try dsimp only
    omega
  ·simp at q2
   apply loop_stepA (k + 1, m1, W)
   ·exact .refl _
   ·exact frI
   ·exact trivial
   ·try dsimp only
    (have hie : i = n := (by omega); rw [hie] at hJ; exact ⟨by omega, plus_next hJ, oW1⟩)
   try dsimp only
   omega
 ·simp at q1
  (have hke : k = n := (by omega); have hal : xa.length = m.length := (by rw [hI.len]; omega); rw [hke] at hI; rw [hal] at oW ⊢; exact ⟨W, ⟨_, _, m, rfl, oW, plus_end hI⟩, rlB⟩)
end
section
attribute [local irreducible] IntKind.wrap
theorem bit_or_rng {m : Nat} {t : Int} (hm : m < 4294967296) (ht : 0 ≤ t ∧ t < 24) : 0 ≤ IntKind.u32.wrap (((BitVec.ofInt IntKind.u32.bits ((m : Nat) : Int) ||| BitVec.ofInt IntKind.u32.bits (IntKind.u32.wrap (1 * 2 ^ min (IntKind.u64.wrap t).toNat IntKind.u32.bits))).toNat : Nat) : Int) ∧ IntKind.u32.wrap (((BitVec.ofInt IntKind.u32.bits ((m : Nat) : Int) ||| BitVec.ofInt IntKind.u32.bits (IntKind.u32.wrap (1 * 2 ^ min (IntKind.u64.wrap t).toNat IntKind.u32.bits))).toNat : Nat) : Int) < 4294967296 := by
 rw [bit_or hm ht]
 have h2 : 2 ^ t.toNat < 2 ^ 32 := Nat.pow_lt_pow_right (a := 2) (by omega) (show t.toNat < 32 by omega)
 have h9 := Nat.or_lt_two_pow (n := 32) (show m < 2 ^ 32 from hm) h2
 omega
theorem bit_or_nat {m : Nat} {t : Int} (hm : m < 4294967296) (ht : 0 ≤ t ∧ t < 24) : (IntKind.u32.wrap (((BitVec.ofInt IntKind.u32.bits ((m : Nat) : Int) ||| BitVec.ofInt IntKind.u32.bits (IntKind.u32.wrap (1 * 2 ^ min (IntKind.u64.wrap t).toNat IntKind.u32.bits))).toNat : Nat) : Int)).toNat = m ||| 2 ^ t.toNat := by rw [bit_or hm ht, Int.toNat_natCast]
theorem stepFn_ct (q : Nat) (b : Option Addr) (cp : Nat) (g : Graph) (lb : UInt8) (hg : graphOk g = true) :
  Ct prog 366 [.int .u8 (lb.toNat : Int), .pointer (some ⟨q, 0, none⟩)] [] (fun H => (q, Obj.cells ⟨[.int .i64 g.size, .slice b g.edges.length cp]⟩ 88) ∈ H ∧ (gSl 209 gEdge).rd H [.slice b g.edges.length cp] g.edges)
   (fun v D => ∃ b c m, v = .slice b m.length c ∧ (gSl 274 gU).ow [.slice b m.length c] m D ∧ RepI g.size.toNat m (stepRel g.edges lb)) := by
 refine Ct.intro0 G_ok func366 rfl rfl rfl fun E H hp => ?_
 obtain ⟨hm, hp⟩ := hp
 obtain ⟨hg1, hg2, hE⟩ := g_parts hg
 obtain ⟨n, hn⟩ : ∃ n : Nat, g.size.toNat = n := ⟨_, rfl⟩
 rw [hn] at hE ⊢
 refine load_ent (l := [.int .i64 g.size]) (mem_at 0 rfl _ hm) (by simp) rfl ?_
 refine VCmake.intro ?_ ?_ ?_ ?_ fun x0 => ?_
 ·omega
 ·omega
 ·omega
 ·omega
 refine load_ent (l := [.slice b g.edges.length cp]) (mem_at 1 rfl _ hm) (by simp) rfl ?_
 apply loop_mod (α := (Nat) × (List Nat) × (Hp)) G_ok [14, 15, 16, 6, 17, 18, 19, 20, 21, 22, 23, 24, 25, 26, 27, 28, 29, 30, 31, 32, 13] (fun z => [(13, .v (.int .i64 z.1))]) (fun z => []) (fun z => [z.2.2, H]) (fun z => g.edges.length - z.1) (fun z => z.1 ≤ g.edges.length ∧ StepI n g.edges lb z.1 z.2.1 ∧ (gSl 274 gU).ow [.slice (some ⟨x0, 0, none⟩) g.size.toNat g.size.toNat] z.2.1 z.2.2) ((0, List.replicate g.size.toNat 0, _))
 ·exact frI
 ·exact trivial
 ·try dsimp only
  exact ⟨Nat.zero_le _, hn ▸ step_init _ _ _, gmake (g := gU) (T := 274) (z := 0) (gU_ow (x := 0) (by decide)) (Nat.le_refl _) (by omega)⟩
 ·exact .refl _
 rintro ⟨i, m, W⟩ hI
 try dsimp only at hI
 obtain ⟨hi, hI, oW⟩ := hI
 try dsimp only
 refine ⟨fun q1 => ?_, fun q1 => ?_⟩
 ·simp at q1
  have hre := edge_rng hE (i := i) (by omega)
  have hml := hI.len
  have hx1 : (m[(g.edges[i]?.getD default).from'.toNat]?.getD default) < 4294967296 := small_lt hI.small (by omega) _
  refine idx_rd hp ?_ ?_ fun b2 o2 hb2 => ?_
  ·omega
  ·omega
  refine load_allN default (i) rfl hp ?_ ?_ hb2 rfl (mem_at 1 rfl) fun l3 hl3 => ?_
  ·omega
  ·omega
  obtain ⟨rfl, w0x3, w2x3⟩ := gEdge_rd.1 hl3
  refine ⟨fun x4 => ?_⟩
  refine ⟨fun q5 => ?_, fun q5 => ?_⟩
  ·simp at q5
   simp only [str_inj, u8_inj, u8_wrap] at q5
   refine draw G_ok mixed (some 11) (.q 0 (.q 1 (.q 2 (.q 3 (.q 4 (.q 5 (.q 6 (.q 7 (.q 8 (.q 9 (.q 10 (.tl 11 (.nil))))))))))))) (by decide +kernel) ?_
   refine idx_rd (Gt.owrd _ oW) ?_ ?_ fun b6 o6 hb6 => ?_
   ·omega
   ·omega
   refine load_all default (Gt.owrd _ oW) ?_ ?_ hb6 rfl (mem_at 0 rfl) fun l7 hl7 => ?_
   ·omega
   ·omega
   obtain ⟨rfl, hw7⟩ := hl7; simp only [flU] at hw7
   refine VC.intro ?_ ?_
   ·(rw [w64u]; omega)
   refine idx_rd (Gt.owrd _ oW) ?_ ?_ fun b8 o8 hb8 => ?_
   ·omega
   ·omega
   refine gstoreN (Fld.id _) default (Int.toNat ((g.edges[i]?.getD default).from')) 0 rfl (Int.toNat_of_nonneg ?_).symm oW ?_ ?_ hb8 rfl gU_pl _ (gU_st ?_) fun A9 o9 => ?_
   ·omega
   ·omega
   ·omega
   ·exact bit_or_rng hx1 (by omega)
   apply loop_stepA (i + 1, m.set (g.edges[i]?.getD default).from'.toNat ((m[(g.edges[i]?.getD default).from'.toNat]?.getD 0) ||| 2 ^ (g.edges[i]?.getD default).to.toNat), _)
   ·exact .refl _
   ·exact frI
   ·exact trivial
   ·try dsimp only
    exact ⟨by omega, step_hit hE (by omega) hI (by assumption), set_ow (by assumption) (bit_or_nat hx1 (by omega))⟩
   try dsimp only
   omega
  ·simp at q5
   simp only [str_inj, u8_inj, u8_wrap] at q5
   apply loop_stepA (i + 1, m, W)
   ·exact .refl _
   ·exact frI
   ·exact trivial
   ·try dsimp only
    exact ⟨by omega, step_skip (by omega) hI (by assumption), oW⟩
   try dsimp only
   omega
 ·simp at q1
  (have hie : i = g.edges.length := (by omega); subst hie; have hal : g.size.toNat = m.length := (by rw [hI.len]; omega); rw [hal] at oW ⊢; exact ⟨W, ⟨_, _, m, rfl, oW, step_end hI⟩, rlB⟩)
end
end Go.Proofs.YtjgehblllhkdbaaGreat
namespace Go.SX
section
variable {α β : Type}
def zRaw (s : Nat) : RawC s := ⟨List.replicate s (.bool false), by simp, by
 induction s with
 | zero => rfl
 | succ s ih => rw [List.replicate_succ]; exact ih⟩
def gRaw (s : Nat) (hs : 0 < s) : Gt (RawC s) := (flRaw s hs).gt fun _ => zRaw s
def pickL (p : α → Bool) : List β → List α → List β
 | l :: ls, x :: xs => if p x then l :: pickL p ls xs else pickL p ls xs
 | _, _ => []
theorem pickL_len (p : α → Bool) : ∀ (ls : List β) (xs : List α), (pickL p ls xs).length ≤ ls.length
 | [], _ => by simp [pickL]
 | _ :: _, [] => by simp [pickL]
 | l :: ls, x :: xs => by
  unfold pickL
  have := pickL_len p ls xs
  split <;> simp <;> omega
theorem pickL_take {p : α → Bool} : ∀ {ls : List β} {xs : List α} {k : Nat} (d : β) (e : α), k < ls.length → k < xs.length →
  pickL p (ls.take (k + 1)) (xs.take (k + 1)) = pickL p (ls.take k) (xs.take k) ++ (if p (xs[k]?.getD e) then [ls[k]?.getD d] else [])
 | [], _, k, d, e, h, _ => by simp at h
 | _ :: _, [], k, d, e, _, h => by simp at h
 | l :: ls, x :: xs, 0, d, e, _, _ => by simp [pickL]
 | l :: ls, x :: xs, k + 1, d, e, h1, h2 => by
  have ih := pickL_take (p := p) (ls := ls) (xs := xs) (k := k) d e (by simpa using h1) (by simpa using h2)
  simp only [List.take_succ_cons, List.getElem?_cons_succ] at *
  unfold pickL
  split
  ·rw [ih]; rfl
  exact ih
theorem OwL.pick {g : Gt α} {ls : List (RawC g.size)} {xs : List α} {As : List Hp} (h : OwL g ls xs As) (p : α → Bool) : OwL g (pickL p ls xs) (xs.filter p) (pickL p As xs) := by
 induction h with
 | nil => exact .nil
 | cons h hr ih =>
  rename_i l x A ls xs As
  unfold pickL
  cases e : p x with
  | true => rw [List.filter_cons_of_pos (by simpa using e)]; exact .cons h ih
  | false => rw [List.filter_cons_of_neg (by simp [e])]; exact ih
theorem pick_two {p q : α → Bool} (h : ∀ x, p x = true → q x = false) : ∀ (As : List Hp) (xs : List α), ∃ L, As.flatten.Perm ((pickL p As xs).flatten ++ ((pickL q As xs).flatten ++ L))
 | [], _ => ⟨[], by simp [pickL]⟩
 | A :: As, [] => ⟨(A :: As).flatten, by simp [pickL]⟩
 | A :: As, x :: xs => by
  obtain ⟨L, hL⟩ := pick_two h As xs
  unfold pickL
  cases e : p x with
  | true =>
   rw [h x e]
   refine ⟨L, ?_⟩
   simp only [if_true, Bool.false_eq_true, if_false, List.flatten_cons, List.append_assoc]
   exact hL.append_left A
  | false =>
   cases e2 : q x with
   | true =>
    refine ⟨L, ?_⟩
    simp only [if_true, Bool.false_eq_true, if_false, List.flatten_cons]
    refine (hL.append_left A).trans ?_
    simp only [List.append_assoc]
    rw [← List.append_assoc, ← List.append_assoc (pickL p As xs).flatten A]
    exact List.perm_append_comm.append_right _
   | false =>
    refine ⟨A ++ L, ?_⟩
    simp only [Bool.false_eq_true, if_false, List.flatten_cons]
    refine (hL.append_left A).trans ?_
    rw [← List.append_assoc, ← List.append_assoc, ← List.append_assoc, ← List.append_assoc]
    refine List.Perm.append_right L ?_
    rw [List.append_assoc]
    exact List.perm_append_comm
def rpZip (g : Gt α) : Rp (RawC g.size × α) where
 size := g.size
 rd H l z := l = z.1.1 ∧ g.rd H l z.2
 mono hh h := ⟨h.1, g.mono hh h.2⟩
 len h := g.len h.2
instance (s : Nat) : Inhabited (RawC s) := ⟨⟨List.replicate s (.bool false), by simp, by
 induction s with
 | zero => rfl
 | succ s ih => rw [List.replicate_succ]; exact ih⟩⟩
theorem zip_rd {g : Gt α} {T : TypeId} {v : Value} {ls : List (RawC g.size)} {xs : List α} {A A0 : Hp} {As : List Hp} (ho : Ow (flRaw g.size g.pos) T v ls A0) (hp : A.Perm (A0 ++ As.flatten)) (hl : OwL g ls xs As) : (rpSl (rpZip g)).rd A [v] (ls.zip xs) := by
 obtain ⟨base, cap, e, h1, h2⟩ := ho.rd
 obtain ⟨e1, e2⟩ := hl.len
 have e3 : (ls.zip xs).length = ls.length := by rw [List.length_zip]; omega
 refine ⟨base, cap, by rw [e3]; exact e, by rw [e3]; exact h1, fun i hi => ?_⟩
 obtain ⟨b, o, l', h3, h4, h5⟩ := h2 i (by omega)
 have hsub : ∀ p ∈ A0, p ∈ A := fun p hp' => hp.mem_iff.2 (List.mem_append_left _ hp')
 refine ⟨b, o, l', h3, h4.mono hsub, ?_⟩
 have h6 : l' = (ls[i]'(by omega)).1 := h5.1
 rw [List.getElem_zip]
 refine ⟨h6, ?_⟩
 rw [h6]
 refine g.mono (fun p hp' => hp.mem_iff.2 (List.mem_append_right _ ?_)) (g.owrd (hl.get i (by omega) (by omega) (by omega)))
 exact List.mem_flatten.2 ⟨_, List.getElem_mem _, hp'⟩
end
end Go.SX
namespace Go.Proofs.YtjgehblllhkdbaaGreat
open Go.SX Go.Proofs
open Tryz
section
attribute [local irreducible] IntKind.wrap relAt
structure AllI (n : Nat) (es : List Edge) (ps : List Piece) (i : Nat) (all : List (List Nat)) : Prop where
 len : all.length = ps.length
 rel : ∀ q : Nat, q < i → RepI n (all[q]?.getD []) (relAt es n ps q)
theorem below_of {ps : List Piece} (h : PsOk ps) : kidsBelow ps := by
 intro i hi
 have h1 := h i hi
 unfold pieceOk at h1
 split at h1
 ·rename_i e
  rw [Bool.and_eq_true, decide_eq_true_iff] at h1
  have h2 : (ps[i]?.getD default).kids = [] := List.length_eq_zero_iff.1 h1.2
  exact ⟨fun h3 => absurd e h3, fun k hk => by rw [h2] at hk; cases hk⟩
 have key : ∀ {ks : List Int}, kidsOk ks i = true → ∀ k ∈ ks, 0 ≤ k ∧ k.toNat < i := by
  intro ks hk k hkm
  have := inR_iff.1 (List.all_eq_true.1 hk k hkm)
  omega
 split at h1
 ·rw [Bool.and_eq_true, Bool.and_eq_true, decide_eq_true_iff] at h1
  exact ⟨fun _ => by have := of_decide_eq_true h1.2.1; omega, key h1.2.2⟩
 split at h1
 ·rw [Bool.and_eq_true, Bool.and_eq_true, decide_eq_true_iff] at h1
  exact ⟨fun _ => by have := of_decide_eq_true h1.2.1; omega, key h1.2.2⟩
 cases h1
theorem piece_iff9 {x : Piece} {i : Nat} (h : pieceOk x i = true) : x.op = 1 ∨ (2 ≤ x.op ∧ x.op ≤ 6) := by
 unfold pieceOk at h
 split at h
 ·exact .inl (by assumption)
 split at h
 ·omega
 split at h
 ·omega
 cases h
theorem RepI.congr {n : Nat} {m : List Nat} {R S : Nat → Nat → Prop} (h : RepI n m R) (e : ∀ u v, R u v ↔ S u v) : RepI n m S := ⟨h.len, h.small, fun u v hu hv => (h.rows u v hu hv).trans (e u v)⟩
theorem set_rel {all : List (List Nat)} {i : Nat} {m : List Nat} (hi : i < all.length) (q : Nat) : ((all.set i m)[q]?.getD []) = if q = i then m else (all[q]?.getD []) := by
 rw [List.getElem?_set]
 split
 ·rename_i h; subst h; simp [hi]
 rename_i h; rw [if_neg (Ne.symm h)]
theorem all_init (n : Nat) (es : List Edge) (ps : List Piece) : AllI n es ps 0 (List.replicate (ps.length : Int).toNat []) :=
 ⟨by rw [List.length_replicate]; omega, fun q h => absurd h (by omega)⟩
theorem all_more {n : Nat} {es : List Edge} {ps : List Piece} {i : Nat} {all : List (List Nat)} {m : List Nat} (h : AllI n es ps i all) (hi : i < ps.length) (hm : RepI n m (relAt es n ps i)) : AllI n es ps (i + 1) (all.set i m) := by
 have hl : i < all.length := by rw [h.len]; exact hi
 refine ⟨by rw [List.length_set]; exact h.len, fun q hq => ?_⟩
 rw [set_rel hl]
 split
 ·rename_i e; subst e; exact hm
 exact h.rel q (by omega)
structure RowI (n : Nat) (es : List Edge) (ps : List Piece) (i : Nat) (R : Nat → Nat → Prop) (al : List (List Nat)) : Prop where
 len : al.length = ps.length
 old : ∀ q : Nat, q < i → RepI n (al[q]?.getD []) (relAt es n ps q)
 cur : RepI n (al[i]?.getD []) R
def rowR (es : List Edge) (n : Nat) (ps : List Piece) (ks : List Int) : Nat → Nat → Prop := ks.foldl (fun acc k => compR n acc (relAt es n ps k.toNat)) (fun u v => u = v)
def altR (es : List Edge) (n : Nat) (ps : List Piece) (ks : List Int) (u v : Nat) : Prop := ∃ k ∈ ks, relAt es n ps k.toNat u v
theorem rowR_step {es : List Edge} {n : Nat} {ps : List Piece} {ks : List Int} {j : Nat} (hj : j < ks.length) : rowR es n ps (ks.take (j + 1)) = compR n (rowR es n ps (ks.take j)) (relAt es n ps (ks[j]?.getD 0).toNat) := by
 unfold rowR
 rw [← List.take_append_getElem hj, List.foldl_append, List.getElem?_eq_getElem hj]; rfl
theorem altR_step {es : List Edge} {n : Nat} {ps : List Piece} {ks : List Int} {j : Nat} (hj : j < ks.length) (u v : Nat) : altR es n ps (ks.take (j + 1)) u v ↔ altR es n ps (ks.take j) u v ∨ relAt es n ps (ks[j]?.getD 0).toNat u v := by
 unfold altR
 rw [← List.take_append_getElem hj, List.getElem?_eq_getElem hj]
 simp only [List.mem_append, List.mem_singleton, Option.getD_some]
 constructor
 ·rintro ⟨k, h1 | rfl, h2⟩
  ·exact .inl ⟨k, h1, h2⟩
  exact .inr h2
 rintro (⟨k, h1, h2⟩ | h2)
 ·exact ⟨k, .inl h1, h2⟩
 exact ⟨_, .inr rfl, h2⟩
theorem rwI_init {n : Nat} {es : List Edge} {ps : List Piece} {i : Nat} {all : List (List Nat)} {m : List Nat} {R : Nat → Nat → Prop} (h : AllI n es ps i all) (hi : i < ps.length) (hm : RepI n m R) : RowI n es ps i R (all.set i m) := by
 have hl : i < all.length := by rw [h.len]; exact hi
 refine ⟨by rw [List.length_set]; exact h.len, fun q hq => ?_, ?_⟩
 ·rw [set_rel hl, if_neg (by omega)]; exact h.rel q hq
 rw [set_rel hl, if_pos rfl]; exact hm
theorem rwI_set {n : Nat} {es : List Edge} {ps : List Piece} {i : Nat} {al : List (List Nat)} {m : List Nat} {R S : Nat → Nat → Prop} (h : RowI n es ps i R al) (hi : i < ps.length) (hm : RepI n m S) : RowI n es ps i S (al.set i m) := by
 have hl : i < al.length := by rw [h.len]; exact hi
 refine ⟨by rw [List.length_set]; exact h.len, fun q hq => ?_, ?_⟩
 ·rw [set_rel hl, if_neg (by omega)]; exact h.old q hq
 rw [set_rel hl, if_pos rfl]; exact hm
theorem rwI_end {n : Nat} {es : List Edge} {ps : List Piece} {i : Nat} {al : List (List Nat)} {R : Nat → Nat → Prop} (h : RowI n es ps i R al) (e : R = relAt es n ps i) : AllI n es ps (i + 1) al := by
 refine ⟨h.len, fun q hq => ?_⟩
 rcases (by omega : q < i ∨ q = i) with h1 | rfl
 ·exact h.old q h1
 rw [← e]; exact h.cur
theorem relnil : gRel.ow [.slice none 0 0] [] [] := sl_nil _ _ _
theorem alt_init {n m : Nat} (h : m = n) (es : List Edge) (ps : List Piece) (ks : List Int) : RepI n (List.replicate m 0) (altR es n ps (ks.take 0)) := by
 subst h
 refine ⟨List.length_replicate, fun u => by rw [rep_row]; exact Nat.two_pow_pos m, fun u v _ _ => ?_⟩
 unfold bt
 rw [rep_row, Nat.zero_testBit]
 constructor
 ·intro h; cases h
 rintro ⟨k, hk, _⟩; rw [List.take_zero] at hk; cases hk
theorem rel_last {ls : List (RawC gRel.size)} {xs : List (List Nat)} {As : List Hp} (hL : OwL gRel ls xs As) (k : Nat) (hk : k < xs.length) : ∃ u w A, ((ls.zip xs)[k]?.getD default).1.1 = [.slice u (xs[k]?.getD []).length w] ∧ (gSl 274 gU).ow [.slice u (xs[k]?.getD []).length w] (xs[k]?.getD []) A ∧ As.flatten.Perm (A ++ (As.set k []).flatten) := by
 obtain ⟨e1, e2⟩ := hL.len
 have hg := hL.get k hk (by omega) (by omega)
 have hg0 := hg
 obtain ⟨v, l1, A0, As1, ev, ho, hp, hl⟩ := hg0
 obtain ⟨base, cap, e, _, _⟩ := ho.rd
 have e3 := hl.len.1
 have e4 : (ls[k]'(by omega)).1 = [.slice base (xs[k]?.getD []).length cap] := by
  rw [List.getElem?_eq_getElem hk, Option.getD_some, ← e3, ev]; exact e
 refine ⟨base, cap, As[k], ?_, ?_, flat_lists As k (by omega)⟩
 ·have h1 : k < (ls.zip xs).length := by rw [List.length_zip]; omega
  rw [List.getElem?_eq_getElem h1, Option.getD_some, List.getElem_zip]; exact e4
 rw [← e4, List.getElem?_eq_getElem hk]; exact hg
open Classical in
theorem rle_last {X W A0 Z A R H : Hp} (hp : W.Perm (A0 ++ Z)) (hz : Z.Perm (A ++ R)) : RLe [X, W, H] [A, H] := .le fun a => by
 have h1 := hp.count_eq a
 have h2 := hz.count_eq a
 simp only [List.flatten_cons, List.flatten_nil, List.append_nil, List.count_append] at h1 h2 ⊢
 omega
theorem mem_getD {α : Type} {l : List α} {j : Nat} {d : α} (h : j < l.length) : (l[j]?.getD d) ∈ l := by
 rw [List.getElem?_eq_getElem h]; exact List.getElem_mem h
theorem meaningOf_ct (lp : List Value) (x : Path) (q : Nat) (b : Option Addr) (cp : Nat) (g : Graph) (hg : graphOk g = true) (hx : pathOk x = true) :
  Ct prog 365 [.agg ⟨lp⟩, .int .i64 g.size, .func (.func 366) ⟨[]⟩ ⟨[.pointer (some ⟨q, 0, none⟩)]⟩] [] (fun H => gPath.rd H lp x ∧ (q, Obj.cells ⟨[.int .i64 g.size, .slice b g.edges.length cp]⟩ 88) ∈ H ∧ (gSl 209 gEdge).rd H [.slice b g.edges.length cp] g.edges)
   (fun v D => ∃ b c m, v = .slice b m.length c ∧ (gSl 274 gU).ow [.slice b m.length c] m D ∧ RepI g.size.toNat m (relAt g.edges g.size.toNat x.pieces (x.pieces.length - 1))) := by
 refine Ct.intro0 G_ok func365 rfl rfl rfl fun E H hp => ?_
 obtain ⟨hp, hm, hpe⟩ := hp
 obtain ⟨hp1, hp2, hps⟩ := path_all hx
 have hkb := below_of hps
 obtain ⟨hg1, hg2, hE⟩ := g_parts hg
 obtain ⟨n, hn⟩ : ∃ n : Nat, g.size.toNat = n := ⟨_, rfl⟩
 rw [hn] at hE ⊢
 obtain ⟨b0p, c0p, rfl, h0p⟩ := gPath_rd.1 hp
 refine ⟨fun x0 => ?_⟩
 refine VCmake.intro ?_ ?_ ?_ ?_ fun x1 => ?_
 ·omega
 ·omega
 ·omega
 ·omega
 apply loop_mod (α := (Nat) × (List (List Nat)) × (Hp)) G_ok [22, 23, 24, 25, 9, 8, 26, 27, 29, 28, 30, 31, 32, 33, 34, 35, 36, 38, 37, 39, 40, 41, 42, 43, 44, 45, 46, 47, 48, 49, 50, 11, 51, 52, 53, 54, 55, 56, 57, 58, 59, 60, 61, 62, 63, 65, 64, 66, 67, 68, 69, 70, 71, 72, 73, 74, 75, 76, 77, 13, 78, 79, 80, 81, 82, 83, 84, 85, 86, 87, 88, 89, 90, 92, 91, 93, 94, 95, 96, 97, 98, 99, 100, 101, 102, 103, 104, 105, 106, 108, 107, 109, 110, 111, 112, 113, 114, 115, 116, 117, 118, 119, 121, 120, 122, 123, 124, 125, 126, 127, 128, 129, 130, 131, 132, 133, 134, 135, 21] (fun z => [(21, .v (.int .i64 z.1))]) (fun z => [{ id := x0, cs := [Value.slice b0p x.pieces.length c0p], ty := (269 : Nat) }]) (fun z => [z.2.2, H]) (fun z => x.pieces.length - z.1) (fun z => z.1 ≤ x.pieces.length ∧ AllI n g.edges x.pieces z.1 z.2.1 ∧ (gSl 371 gRel).ow [.slice (some ⟨x1, 0, none⟩) (x.pieces.length : Int).toNat (x.pieces.length : Int).toNat] z.2.1 z.2.2) ((0, List.replicate (x.pieces.length : Int).toNat [], _))
 ·exact frI
 ·exact ⟨rfl, trivial⟩
 ·try dsimp only
  exact ⟨Nat.zero_le _, all_init _ _ _, gmake (g := gRel) (T := 371) (z := []) (lz := [.slice none 0 0]) relnil (Nat.le_refl _) (by omega)⟩
 ·exact .refl _
 rintro ⟨i, all, W⟩ hI
 try dsimp only at hI
 obtain ⟨hi, hA, oW⟩ := hI
 try dsimp only
 refine ⟨fun q2 => ?_, fun q2 => ?_⟩
 ·simp at q2
  have hpk := piece_iff9 (hps i (by omega))
  have hAl := hA.len
  obtain ⟨hkl, hkk⟩ := hkb i (by omega)
  refine idx_rd h0p ?_ ?_ fun b3 o3 hb3 => ?_
  ·omega
  ·omega
  refine load_allN default (i) rfl h0p ?_ ?_ hb3 rfl (mem_at 1 rfl) fun l4 hl4 => ?_
  ·omega
  ·omega
  obtain ⟨b2x4, c2x4, rfl, w0x4, h2x4⟩ := gPiece_rd.1 hl4
  refine ⟨fun x5 => ?_⟩
  refine ⟨fun q6 => ?_, fun q6 => ?_⟩
  ·simp at q6
   refine call_new (stepFn_ct q b cp g (x.pieces[i]?.getD default).label hg) ⟨mem_at 1 rfl _ hm, Rp.mono _ (mem_at 1 rfl) hpe⟩ ?_
   rintro v7 A7 o7
   obtain ⟨bS, cS, mS, rfl, oS, hrS⟩ := o7
   rw [hn] at hrS
   refine idx_rd (Gt.owrd _ oW) ?_ ?_ fun b8 o8 hb8 => ?_
   ·omega
   ·omega
   refine gstore1N (i) (W) (A7) [H] rlA rfl oW ?_ ?_ hb8 rfl _ oS fun A9 o9 => ?_
   ·omega
   ·omega
   apply loop_stepA (i + 1, all.set i mS, _)
   ·exact .refl _
   ·exact frI
   ·exact ⟨rfl, trivial⟩
   ·try dsimp only
    exact ⟨by omega, all_more hA (by omega) (by rw [relAt_step (by assumption)]; exact hrS), by assumption⟩
   try dsimp only
   omega
  ·simp at q6
   refine ⟨fun q10 => ?_, fun q10 => ?_⟩
   ·simp at q10
    obtain ⟨_, hkc, hkn⟩ := sl_len h2x4
    refine call_new (identity_ct g.size hg1) trivial ?_
    rintro v11 A11 o11
    obtain ⟨bI, cI, mI, rfl, oI, hrI⟩ := o11
    rw [hn] at hrI
    refine idx_rd (Gt.owrd _ oW) ?_ ?_ fun b12 o12 hb12 => ?_
    ·omega
    ·omega
    refine gstore1N (i) (W) (A11) [H] rlA rfl oW ?_ ?_ hb12 rfl _ oI fun A13 o13 => ?_
    ·omega
    ·omega
    apply loop_mod (α := (Nat) × (List (List Nat)) × (Hp)) G_ok [48, 49, 50, 11, 51, 52, 53, 54, 55, 56, 57, 58, 59, 60, 61, 62, 63, 47] (fun z => [(47, .v (.int .i64 z.1))]) (fun z => [{ id := x0, cs := [Value.slice b0p x.pieces.length c0p], ty := (269 : Nat) }, { id := x5, cs := [Value.int IntKind.i64 (x.pieces[i]?.getD default).op, Value.int IntKind.u8 (↑(x.pieces[i]?.getD default).label.toNat : Int), Value.slice b2x4 (x.pieces[i]?.getD default).kids.length c2x4], ty := (417 : Nat) }]) (fun z => [z.2.2, H]) (fun z => (x.pieces[i]?.getD default).kids.length - z.1) (fun z => z.1 ≤ (x.pieces[i]?.getD default).kids.length ∧ RowI n g.edges x.pieces i (rowR g.edges n x.pieces ((x.pieces[i]?.getD default).kids.take z.1)) z.2.1 ∧ (gSl 371 gRel).ow [.slice (some ⟨x1, 0, none⟩) (x.pieces.length : Int).toNat (x.pieces.length : Int).toNat] z.2.1 z.2.2) ((0, all.set i mI, _))
    ·exact frI
    ·exact ⟨rfl, rfl, trivial⟩
    ·try dsimp only
     exact ⟨Nat.zero_le _, rwI_init hA (by omega) hrI, by assumption⟩
    ·exact .refl _
    rintro ⟨j, al, W⟩ hI
    try dsimp only at hI
    obtain ⟨hj, hJ, oW1⟩ := hI
    try dsimp only
    refine ⟨fun q14 => ?_, fun q14 => ?_⟩
    ·simp at q14
     have hJl := hJ.len
     have hkj := hkk ((x.pieces[i]?.getD default).kids[j]?.getD 0) (mem_getD (by omega))
     refine idx_rd h2x4 ?_ ?_ fun b15 o15 hb15 => ?_
     ·omega
     ·omega
     refine load_allN 0 (j) rfl h2x4 ?_ ?_ hb15 rfl (mem_at 1 rfl) fun l16 hl16 => ?_
     ·omega
     ·omega
     obtain ⟨rfl, hw16⟩ := hl16; simp only [flStr, flInt, okI] at hw16
     refine draw G_ok mixed (some 12) (.q 0 (.q 1 (.q 2 (.q 3 (.q 4 (.q 5 (.q 6 (.q 7 (.q 8 (.q 9 (.f 10 (.q 11 (.tl 12 (.nil)))))))))))))) (by decide +kernel) ?_
     refine idx_rd (Gt.owrd _ oW1) ?_ ?_ fun b17 o17 hb17 => ?_
     ·omega
     ·omega
     refine load_allN [] (i) rfl (Gt.owrd _ oW1) ?_ ?_ hb17 rfl (mem_at 0 rfl) fun l18 hl18 => ?_
     ·omega
     ·omega
     obtain ⟨u18, w18, rfl, hl18⟩ := sl_rd hl18
     refine idx_rd (Gt.owrd _ oW1) ?_ ?_ fun b19 o19 hb19 => ?_
     ·omega
     ·omega
     refine load_all [] (Gt.owrd _ oW1) ?_ ?_ hb19 rfl (mem_at 0 rfl) fun l20 hl20 => ?_
     ·omega
     ·omega
     obtain ⟨u20, w20, rfl, hl20⟩ := sl_rd hl20
     refine call_new (then_ct _ _ _ _ _ _ n (al[i]?.getD []) (al[((x.pieces[i]?.getD default).kids[j]?.getD 0).toNat]?.getD []) (rowR g.edges n x.pieces ((x.pieces[i]?.getD default).kids.take j)) (relAt g.edges n x.pieces ((x.pieces[i]?.getD default).kids[j]?.getD 0).toNat) (by omega) hJ.cur (hJ.old _ hkj.2)) ⟨(Rp.mono _ (mem_at 0 rfl) hl18), (Rp.mono _ (mem_at 0 rfl) hl20)⟩ ?_
     rintro v21 A21 o21
     obtain ⟨bT, cT, mT, rfl, oT, hrT⟩ := o21
     refine VC.intro ?_ ?_
     ·exact keep_new
     refine idx_rd (Gt.owrd _ oW1) ?_ ?_ fun b22 o22 hb22 => ?_
     ·omega
     ·omega
     refine gstore1N (i) (W) (A21) [H] rlA rfl oW1 ?_ ?_ hb22 rfl _ oT fun A23 o23 => ?_
     ·omega
     ·omega
     apply loop_stepA (j + 1, al.set i mT, _)
     ·exact .refl _
     ·exact frI
     ·exact ⟨rfl, rfl, trivial⟩
     ·try dsimp only
      exact ⟨by omega, rwI_set hJ (by omega) (by rw [rowR_step (by omega)]; exact hrT), by assumption⟩
     try dsimp only
     omega
    ·simp at q14
     apply loop_stepA (i + 1, al, W)
     ·exact .refl _
     ·exact frI
     ·exact ⟨rfl, trivial⟩
     ·try dsimp only
      (have hje : j = (x.pieces[i]?.getD default).kids.length := (by omega); subst hje; rw [List.take_length] at hJ; exact ⟨by omega, rwI_end hJ (by rw [relAt_row hkb (by omega) (by assumption)]; rfl), oW1⟩)
     try dsimp only
     omega
   ·simp at q10
    refine ⟨fun q24 => ?_, fun q24 => ?_⟩
    ·simp at q24
     obtain ⟨_, hkc, hkn⟩ := sl_len h2x4
     refine VCmake.intro ?_ ?_ ?_ ?_ fun x25 => ?_
     ·omega
     ·omega
     ·omega
     ·omega
     have o25 := gmake (g := gU) (T := 274) (z := 0) (lz := [.int .u32 0]) (b := x25) (k := g.size.toNat) (c := g.size.toNat) (gU_ow (x := 0) (by decide)) (Nat.le_refl _) (by omega)
     refine idx_rd (Gt.owrd _ oW) ?_ ?_ fun b26 o26 hb26 => ?_
     ·omega
     ·omega
     refine gstore1N (i) (W) ([(x25, Obj.cells { toList := zeros g.size.toNat [Value.int IntKind.u32 (0 : Int)] } (274 : TypeId))]) [H] rlA rfl oW ?_ ?_ hb26 rfl _ o25 fun A27 o27 => ?_
     ·omega
     ·omega
     apply loop_mod (α := (Nat) × (List (List Nat)) × (Hp)) G_ok [75, 76, 77, 13, 78, 79, 80, 81, 82, 83, 84, 85, 86, 87, 88, 89, 90, 74] (fun z => [(74, .v (.int .i64 z.1))]) (fun z => [{ id := x0, cs := [Value.slice b0p x.pieces.length c0p], ty := (269 : Nat) }, { id := x5, cs := [Value.int IntKind.i64 (x.pieces[i]?.getD default).op, Value.int IntKind.u8 (↑(x.pieces[i]?.getD default).label.toNat : Int), Value.slice b2x4 (x.pieces[i]?.getD default).kids.length c2x4], ty := (417 : Nat) }]) (fun z => [z.2.2, H]) (fun z => (x.pieces[i]?.getD default).kids.length - z.1) (fun z => z.1 ≤ (x.pieces[i]?.getD default).kids.length ∧ RowI n g.edges x.pieces i (altR g.edges n x.pieces ((x.pieces[i]?.getD default).kids.take z.1)) z.2.1 ∧ (gSl 371 gRel).ow [.slice (some ⟨x1, 0, none⟩) (x.pieces.length : Int).toNat (x.pieces.length : Int).toNat] z.2.1 z.2.2) ((0, all.set i (List.replicate g.size.toNat 0), _))
     ·exact frI
     ·exact ⟨rfl, rfl, trivial⟩
     ·try dsimp only
      exact ⟨Nat.zero_le _, rwI_init hA (by omega) (alt_init hn _ _ _), by assumption⟩
     ·exact .refl _
     rintro ⟨j, al, W⟩ hI
     try dsimp only at hI
     obtain ⟨hj, hJ, oW2⟩ := hI
     try dsimp only
     refine ⟨fun q28 => ?_, fun q28 => ?_⟩
     ·simp at q28
      have hJl := hJ.len
      have hkj := hkk ((x.pieces[i]?.getD default).kids[j]?.getD 0) (mem_getD (by omega))
      have hr1 := hJ.cur
      have hr2 := hJ.old _ hkj.2
      refine idx_rd h2x4 ?_ ?_ fun b29 o29 hb29 => ?_
      ·omega
      ·omega
      refine load_allN 0 (j) rfl h2x4 ?_ ?_ hb29 rfl (mem_at 1 rfl) fun l30 hl30 => ?_
      ·omega
      ·omega
      obtain ⟨rfl, hw30⟩ := hl30; simp only [flStr, flInt, okI] at hw30
      refine draw G_ok mixed (some 12) (.q 0 (.q 1 (.q 2 (.q 3 (.q 4 (.q 5 (.q 6 (.q 7 (.q 8 (.q 9 (.f 10 (.q 11 (.tl 12 (.nil)))))))))))))) (by decide +kernel) ?_
      refine idx_rd (Gt.owrd _ oW2) ?_ ?_ fun b31 o31 hb31 => ?_
      ·omega
      ·omega
      refine load_allN [] (i) rfl (Gt.owrd _ oW2) ?_ ?_ hb31 rfl (mem_at 0 rfl) fun l32 hl32 => ?_
      ·omega
      ·omega
      obtain ⟨u32, w32, rfl, hl32⟩ := sl_rd hl32
      refine idx_rd (Gt.owrd _ oW2) ?_ ?_ fun b33 o33 hb33 => ?_
      ·omega
      ·omega
      refine load_all [] (Gt.owrd _ oW2) ?_ ?_ hb33 rfl (mem_at 0 rfl) fun l34 hl34 => ?_
      ·omega
      ·omega
      obtain ⟨u34, w34, rfl, hl34⟩ := sl_rd hl34
      refine call_new (or_ct _ _ _ _ _ _ n ((al[i]?.getD [])) ((al[((x.pieces[i]?.getD default).kids[j]?.getD (0 : Int)).toNat]?.getD [])) _ _ (by omega) (by assumption) (by assumption)) ⟨(Rp.mono _ (mem_at 0 rfl) hl32), (Rp.mono _ (mem_at 0 rfl) hl34)⟩ ?_
      rintro v35 A35 o35
      obtain ⟨bO, cO, mO, rfl, oO, hrO⟩ := o35
      refine VC.intro ?_ ?_
      ·exact keep_new
      refine idx_rd (Gt.owrd _ oW2) ?_ ?_ fun b36 o36 hb36 => ?_
      ·omega
      ·omega
      refine gstore1N (i) (W) (A35) [H] rlA rfl oW2 ?_ ?_ hb36 rfl _ oO fun A37 o37 => ?_
      ·omega
      ·omega
      apply loop_stepA (j + 1, al.set i mO, _)
      ·exact .refl _
      ·exact frI
      ·exact ⟨rfl, rfl, trivial⟩
      ·try dsimp only
       exact ⟨by omega, rwI_set hJ (by omega) (hrO.congr fun u v => (altR_step (by omega) u v).symm), by assumption⟩
      try dsimp only
      omega
     ·simp at q28
      apply loop_stepA (i + 1, al, W)
      ·exact .refl _
      ·exact frI
      ·exact ⟨rfl, trivial⟩
      ·try dsimp only
       (have hje : j = (x.pieces[i]?.getD default).kids.length := (by omega); subst hje; rw [List.take_length] at hJ; exact ⟨by omega, rwI_end hJ (by rw [relAt_alt hkb (by omega) (by assumption)]; rfl), oW2⟩)
      try dsimp only
      omega
    ·simp at q24
     refine ⟨fun q38 => ?_, fun q38 => ?_⟩
     ·simp at q38
      refine idx_rd h2x4 ?_ ?_ fun b39 o39 hb39 => ?_
      ·trivial
      ·omega
      refine load_allN 0 (0) rfl h2x4 ?_ ?_ hb39 rfl (mem_at 1 rfl) fun l40 hl40 => ?_
      ·trivial
      ·omega
      obtain ⟨rfl, hw40⟩ := hl40; simp only [flStr, flInt, okI] at hw40
      refine idx_rd (Gt.owrd _ oW) ?_ ?_ fun b41 o41 hb41 => ?_
      ·exact (hkk _ (mem_getD (hkl (by omega)))).1
      ·(have := (hkk _ (mem_getD (d := 0) (hkl (by omega)))); omega)
      refine load_all [] (Gt.owrd _ oW) ?_ ?_ hb41 rfl (mem_at 0 rfl) fun l42 hl42 => ?_
      ·exact (hkk _ (mem_getD (hkl (by omega)))).1
      ·(have := (hkk _ (mem_getD (d := 0) (hkl (by omega)))); omega)
      obtain ⟨u42, w42, rfl, hl42⟩ := sl_rd hl42
      refine call_new (plus_ct _ _ _ n (all[((x.pieces[i]?.getD default).kids[0]?.getD 0).toNat]?.getD []) (relAt g.edges n x.pieces ((x.pieces[i]?.getD default).kids[0]?.getD 0).toNat) (by omega) (hA.rel _ (hkk _ (mem_getD (hkl (by omega)))).2)) (Rp.mono _ (mem_at 0 rfl) hl42) ?_
      rintro v43 A43 o43
      obtain ⟨bQ, cQ, mQ, rfl, oQ, hrQ⟩ := o43
      refine call_new (identity_ct g.size hg1) trivial ?_
      rintro v44 A44 o44
      obtain ⟨bI, cI, mI, rfl, oI, hrI⟩ := o44
      rw [hn] at hrI
      refine call_new (or_ct _ _ _ _ _ _ n ((mQ)) ((mI)) _ _ (by omega) (by assumption) (by assumption)) ⟨(Rp.mono _ (mem_at 1 rfl) (Gt.owrd _ oQ)), (Rp.mono _ (mem_at 0 rfl) (Gt.owrd _ oI))⟩ ?_
      rintro v45 A45 o45
      obtain ⟨bO, cO, mO, rfl, oO, hrO⟩ := o45
      refine idx_rd (Gt.owrd _ oW) ?_ ?_ fun b46 o46 hb46 => ?_
      ·omega
      ·omega
      refine gstore1N (i) (W) (A45) [A44, A43, H] rlA rfl oW ?_ ?_ hb46 rfl _ oO fun A47 o47 => ?_
      ·omega
      ·omega
      apply loop_stepA (i + 1, all.set i mO, _)
      ·exact .sub (by repeat (first | exact .slnil | apply List.Sublist.cons_cons | apply List.Sublist.cons))
      ·exact frI
      ·exact ⟨rfl, trivial⟩
      ·try dsimp only
       exact ⟨by omega, all_more hA (by omega) (hrO.congr fun u v => by rw [relAt_star (i := i) hkb (by omega) (by assumption)]; exact or_comm), by assumption⟩
      try dsimp only
      omega
     ·simp at q38
      refine ⟨fun q48 => ?_, fun q48 => ?_⟩
      ·simp at q48
       refine idx_rd h2x4 ?_ ?_ fun b49 o49 hb49 => ?_
       ·trivial
       ·omega
       refine load_allN 0 (0) rfl h2x4 ?_ ?_ hb49 rfl (mem_at 1 rfl) fun l50 hl50 => ?_
       ·trivial
       ·omega
       obtain ⟨rfl, hw50⟩ := hl50; simp only [flStr, flInt, okI] at hw50
       refine idx_rd (Gt.owrd _ oW) ?_ ?_ fun b51 o51 hb51 => ?_
       ·exact (hkk _ (mem_getD (hkl (by omega)))).1
       ·(have := (hkk _ (mem_getD (d := 0) (hkl (by omega)))); omega)
       refine load_all [] (Gt.owrd _ oW) ?_ ?_ hb51 rfl (mem_at 0 rfl) fun l52 hl52 => ?_
       ·exact (hkk _ (mem_getD (hkl (by omega)))).1
       ·(have := (hkk _ (mem_getD (d := 0) (hkl (by omega)))); omega)
       obtain ⟨u52, w52, rfl, hl52⟩ := sl_rd hl52
       refine call_new (plus_ct _ _ _ n (all[((x.pieces[i]?.getD default).kids[0]?.getD 0).toNat]?.getD []) (relAt g.edges n x.pieces ((x.pieces[i]?.getD default).kids[0]?.getD 0).toNat) (by omega) (hA.rel _ (hkk _ (mem_getD (hkl (by omega)))).2)) (Rp.mono _ (mem_at 0 rfl) hl52) ?_
       rintro v53 A53 o53
       obtain ⟨bQ, cQ, mQ, rfl, oQ, hrQ⟩ := o53
       refine idx_rd (Gt.owrd _ oW) ?_ ?_ fun b54 o54 hb54 => ?_
       ·omega
       ·omega
       refine gstore1N (i) (W) (A53) [H] rlA rfl oW ?_ ?_ hb54 rfl _ oQ fun A55 o55 => ?_
       ·omega
       ·omega
       apply loop_stepA (i + 1, all.set i mQ, _)
       ·exact .refl _
       ·exact frI
       ·exact ⟨rfl, trivial⟩
       ·try dsimp only
        exact ⟨by omega, all_more hA (by omega) (by rw [relAt_plus hkb (by omega) (by assumption)]; exact hrQ), by assumption⟩
       try dsimp only
       omega
      ·simp at q48
       refine ⟨fun q56 => ?_, fun q56 => ?_⟩
       ·simp at q56
        have hr1 := hA.rel ((x.pieces[i]?.getD default).kids[0]?.getD 0).toNat (hkk _ (mem_getD (d := 0) (hkl (by omega)))).2
        refine draw G_ok mixed (some 13) (.q 0 (.q 1 (.q 2 (.q 3 (.q 4 (.q 5 (.q 6 (.q 7 (.q 8 (.q 9 (.f 10 (.f 11 (.q 12 (.tl 13 (.nil))))))))))))))) (by decide +kernel) ?_
        refine idx_rd h2x4 ?_ ?_ fun b57 o57 hb57 => ?_
        ·trivial
        ·omega
        refine load_allN 0 (0) rfl h2x4 ?_ ?_ hb57 rfl (mem_at 1 rfl) fun l58 hl58 => ?_
        ·trivial
        ·omega
        obtain ⟨rfl, hw58⟩ := hl58; simp only [flStr, flInt, okI] at hw58
        refine idx_rd (Gt.owrd _ oW) ?_ ?_ fun b59 o59 hb59 => ?_
        ·grind
        ·grind
        refine load_all [] (Gt.owrd _ oW) ?_ ?_ hb59 rfl (mem_at 0 rfl) fun l60 hl60 => ?_
        ·grind
        ·grind
        obtain ⟨u60, w60, rfl, hl60⟩ := sl_rd hl60
        refine call_new (identity_ct g.size hg1) trivial ?_
        rintro v61 A61 o61
        obtain ⟨bI, cI, mI, rfl, oI, hrI⟩ := o61
        rw [hn] at hrI
        refine VC.intro ?_ ?_
        ·exact keep_new
        refine call_new (or_ct _ _ _ _ _ _ n ((all[((x.pieces[i]?.getD default).kids[(0 : Nat)]?.getD (0 : Int)).toNat]?.getD [])) ((mI)) _ _ (by omega) (by assumption) (by assumption)) ⟨(Rp.mono _ (mem_at 1 rfl) hl60), (Rp.mono _ (mem_at 0 rfl) (Gt.owrd _ oI))⟩ ?_
        rintro v62 A62 o62
        obtain ⟨bO, cO, mO, rfl, oO, hrO⟩ := o62
        refine VC.intro ?_ ?_
        ·exact keep_sub (by simp) (by simp)
        refine idx_rd (Gt.owrd _ oW) ?_ ?_ fun b63 o63 hb63 => ?_
        ·omega
        ·omega
        refine gstore1N (i) (W) (A62) [A61, H] rlA rfl oW ?_ ?_ hb63 rfl _ oO fun A64 o64 => ?_
        ·omega
        ·omega
        apply loop_stepA (i + 1, all.set i mO, _)
        ·exact .sub (by repeat (first | exact .slnil | apply List.Sublist.cons_cons | apply List.Sublist.cons))
        ·exact frI
        ·exact ⟨rfl, trivial⟩
        ·try dsimp only
         exact ⟨by omega, all_more hA (by omega) (hrO.congr fun u v => by rw [relAt_opt (i := i) hkb (by omega) (by assumption)]; exact or_comm), by assumption⟩
        try dsimp only
        omega
       ·simp at q56
        exfalso; omega
 ·simp at q2
  have hiw : IntKind.i64.wrap (((x.pieces.length : Int).toNat : Int) - 1) = (x.pieces.length : Int) - 1 := by rw [wrap_of (by omega) (by omega)]; omega
  have hix : (IntKind.i64.wrap (((x.pieces.length : Int).toNat : Int) - 1)).toNat = x.pieces.length - 1 := by omega
  have hAl := hA.len
  obtain ⟨v9, ls, A0, As, ev9, hoB, hpB, hLB⟩ := oW
  cases ev9
  have rz := zip_rd hoB hpB hLB
  have hzl : (ls.zip all).length = x.pieces.length := by rw [List.length_zip, hLB.len.1, hAl, Nat.min_self]
  obtain ⟨ur, wr, Ar, hzi, hri, hfl⟩ := rel_last hLB (x.pieces.length - 1) (by omega)
  refine idx_rd rz ?_ ?_ fun b65 o65 hb65 => ?_
  ·(simp (disch := omega) only [wrap_of]; omega)
  ·(simp (disch := omega) only [wrap_of]; omega)
  refine load_all default rz ?_ ?_ hb65 rfl (mem_at 0 rfl) fun l66 hl66 => ?_
  ·(simp (disch := omega) only [wrap_of]; omega)
  ·(simp (disch := omega) only [wrap_of]; omega)
  (obtain ⟨e66, _⟩ := hl66; rw [e66, hix, hzi])
  exact ⟨_, ⟨_, _, _, rfl, hri, hA.rel _ (by omega)⟩, rle_last hpB hfl⟩
end
section
attribute [local irreducible] IntKind.wrap queryM
attribute [local irreducible] namesM
theorem atoms_len {x : Query} (h : gQuery.sz x ≤ 1048576) : x.atoms.length ≤ 1048576 := by
 have h1 := gQuery_sz x
 have h2 := len_szL gAtom x.atoms
 omega
end
section
attribute [local irreducible] IntKind.wrap
def ownerOk (v n : Int) : Bool := inR 1 8 n && inR 0 11 v
def ownerOf (v n : Int) : Int := if ownerOk v n then sumOf (varText v) % n else 0
theorem ownerOf_no {v n : Int} (h : ownerOk v n = false) : ownerOf v n = 0 := by unfold ownerOf; rw [h]; rfl
theorem ownerOf_val {v n : Int} (h1 : 1 ≤ n) (h2 : n ≤ 8) (h3 : 0 ≤ v) (h4 : v ≤ 11) : Value.int .i64 (IntKind.i64.wrap ((sumOf (varText v)).tmod (IntKind.u32.wrap n))) = Value.int .i64 (ownerOf v n) := by
 have h5 := sumOf_rng (varText v)
 have h6 : IntKind.u32.wrap n = n := by rw [u32_wrap]; omega
 have h7 : 0 ≤ sumOf (varText v) % n := Int.emod_nonneg _ (by omega)
 have h8 : sumOf (varText v) % n < n := Int.emod_lt_of_pos _ (by omega)
 have h9 : ownerOk v n = true := by unfold ownerOk inR; simp; omega
 unfold ownerOf
 rw [h6, Int.tmod_eq_emod_of_nonneg h5.1, wrap_of (by omega) (by omega), h9]; rfl
theorem implOwnerOf_ct (v n : Int) : Ct prog 163 [.int .i64 v, .int .i64 n] [] (fun _ => True) (fun r A => r = .int .i64 (ownerOf v n) ∧ A = []) := by
 refine Ct.intro0 G_ok func163 rfl rfl rfl fun E H hp => ?_
 have h1 := varText_size v
 have h3 := sumOf_rng (varText v)
 refine ⟨fun q0 => ?_, fun q0 => ?_⟩
 ·simp at q0
  exact ⟨[], ⟨by rw [ownerOf_no (by unfold ownerOk inR; simp; omega)], rfl⟩, .mem (by simp)⟩
 ·simp at q0
  refine ⟨fun q1 => ?_, fun q1 => ?_⟩
  ·simp at q1
   exact ⟨[], ⟨by rw [ownerOf_no (by unfold ownerOk inR; simp; omega)], rfl⟩, .mem (by simp)⟩
  ·simp at q1
   refine ⟨fun q2 => ?_, fun q2 => ?_⟩
   ·simp at q2
    exact ⟨[], ⟨by rw [ownerOf_no (by unfold ownerOk inR; simp; omega)], rfl⟩, .mem (by simp)⟩
   ·simp at q2
    refine ⟨fun q3 => ?_, fun q3 => ?_⟩
    ·simp at q3
     exact ⟨[], ⟨by rw [ownerOf_no (by unfold ownerOk inR; simp; omega)], rfl⟩, .mem (by simp)⟩
    ·simp at q3
     refine call_val (varText_ct _ ?_ ?_) trivial ?_
     ·trivial
     ·omega
     rintro _ rfl
     refine call_val (implSumOf_ct _ ?_) trivial ?_
     ·omega
     rintro _ rfl
     refine VC.intro ?_ ?_
     ·(rw [u32_wrap]; omega)
     exact ⟨[], ⟨ownerOf_val (by omega) (by omega) (by omega) (by omega), rfl⟩, .mem (by simp)⟩
theorem specOwnerOf_ct (v n : Int) : Ct prog 108 [.int .i64 v, .int .i64 n] [] (fun _ => True) (fun r A => r = .int .i64 (ownerOf v n) ∧ A = []) := by
 refine Ct.intro0 G_ok func108 rfl rfl rfl fun E H hp => ?_
 have h1 := varText_size v
 have h3 := sumOf_rng (varText v)
 refine call_val (l01In_ct _ _ _) trivial ?_
 rintro _ rfl
 refine ⟨fun q1 => ?_, fun q1 => ?_⟩
 ·simp at q1
  exact ⟨[], ⟨by rw [ownerOf_no (by unfold ownerOk; simp_all)], rfl⟩, .mem (by simp)⟩
 ·simp at q1
  have iq1 := inR_iff.1 q1
  refine call_val (l01In_ct _ _ _) trivial ?_
  rintro _ rfl
  refine ⟨fun q3 => ?_, fun q3 => ?_⟩
  ·simp at q3
   exact ⟨[], ⟨by rw [ownerOf_no (by unfold ownerOk; simp_all)], rfl⟩, .mem (by simp)⟩
  ·simp at q3
   have iq3 := inR_iff.1 q3
   refine call_val (l01Var_ct _ ?_ ?_) trivial ?_
   ·omega
   ·omega
   rintro _ rfl
   refine call_val (specSumOf_ct _ ?_) trivial ?_
   ·omega
   rintro _ rfl
   refine VC.intro ?_ ?_
   ·(rw [u32_wrap]; omega)
   exact ⟨[], ⟨ownerOf_val (by omega) (by omega) (by omega) (by omega), rfl⟩, .mem (by simp)⟩
end
section
attribute [local irreducible] IntKind.wrap
theorem OwL_dropI {α : Type} {g : Gt α} {ls : List (RawC g.size)} {xs : List α} {As : List Hp} (h : OwL g ls xs As) : ∀ i : Nat, OwL g (ls.drop i) (xs.drop i) (As.drop i) := by
 induction h with
 | nil => intro i; simp; exact .nil
 | cons h hr ih =>
  intro i
  cases i with
  | zero => exact .cons h hr
  | succ i => exact ih i
end
section
attribute [local irreducible] IntKind.wrap
theorem rows_eq {a b : List Int} (h : a.length = b.length) (ha : allK (fun i => decide ((a[i]?.getD 0) = (b[i]?.getD 0))) a.length = true) : a = b := by
 apply List.ext_getElem h
 intro i h1 h2
 have := of_decide_eq_true (allK_at ha i h1)
 rw [List.getElem?_eq_getElem h1, List.getElem?_eq_getElem h2] at this
 exact this
theorem l03Same_ct (b1 : Option Addr) (m1 c1 : Nat) (b2 : Option Addr) (m2 c2 : Nat) (a b : List Int) : Ct prog 154 [.slice b1 m1 c1, .slice b2 m2 c2] [] (fun H => (gSl 3 gI).rd H [.slice b1 m1 c1] a ∧ (gSl 3 gI).rd H [.slice b2 m2 c2] b) (fun v A => v = .bool (decide (a = b)) ∧ A = []) := by
 refine Ct.intro0 G_ok func154 rfl rfl rfl fun E H hp => ?_
 obtain ⟨hp, hq⟩ := hp
 obtain ⟨rfl, hc1, hl1⟩ := sl_len hp
 obtain ⟨rfl, hc2, hl2⟩ := sl_len hq
 refine ⟨fun q0 => ?_, fun q0 => ?_⟩
 ·simp at q0
  exact ⟨[], ⟨by rw [decide_eq_false (fun e => by subst e; exact absurd rfl (by assumption))], rfl⟩, .refl _⟩
 ·simp at q0
  apply loop_mod (α := (Nat)) G_ok [11, 12, 13, 14, 17, 18, 19, 20, 21, 22, 23, 24, 25, 4, 15, 16, 5] (fun z => [(5, .v (.int .i64 z))]) (fun z => []) (fun z => [H]) (fun z => a.length - z) (fun z => z ≤ a.length ∧ allK (fun i => decide ((a[i]?.getD 0) = (b[i]?.getD 0))) z = true) ((0))
  ·exact frI
  ·exact trivial
  ·exact ⟨Nat.zero_le _, rfl⟩
  ·exact .refl _
  rintro k hI
  try dsimp only at hI
  obtain ⟨hk, ha⟩ := hI
  try dsimp only
  refine ⟨fun q1 => ?_, fun q1 => ?_⟩
  ·simp at q1
   refine draw G_ok mixed none (.q 0 (.q 1 (.q 2 (.q 3 (.q 4 (.q 5 (.q 6 (.q 7 (.q 8 (.nil)))))))))) (by decide +kernel) ?_
   refine idx_rd hp ?_ ?_ fun b2 o2 hb2 => ?_
   ·omega
   ·omega
   refine load_allN 0 (k) rfl hp ?_ ?_ hb2 rfl (mem_at 0 rfl) fun l3 hl3 => ?_
   ·omega
   ·omega
   obtain ⟨rfl, hw3⟩ := hl3; simp only [flStr, flInt, okI] at hw3
   refine idx_rd hq ?_ ?_ fun b4 o4 hb4 => ?_
   ·omega
   ·omega
   refine load_allN 0 (k) rfl hq ?_ ?_ hb4 rfl (mem_at 0 rfl) fun l5 hl5 => ?_
   ·omega
   ·omega
   obtain ⟨rfl, hw5⟩ := hl5; simp only [flStr, flInt, okI] at hw5
   refine ⟨fun q6 => ?_, fun q6 => ?_⟩
   ·simp at q6
    exact ⟨[], ⟨by rw [decide_eq_false (fun e => by subst e; exact absurd rfl (by assumption))], rfl⟩, .refl _⟩
   ·simp at q6
    apply loop_stepA (k + 1)
    ·exact .refl _
    ·exact frI
    ·exact trivial
    ·exact ⟨by omega, allK_step ha (decide_eq_true (by assumption))⟩
    omega
  ·simp at q1
   (have hke : k = a.length := (by omega); subst hke; exact ⟨[], ⟨by rw [decide_eq_true (rows_eq (by omega) ha)], rfl⟩, .refl _⟩)
end
section
theorem cmpL_zero : ∀ {a b : List Int}, cmpL a b = 0 ↔ a = b
 | [], [] => by simp [cmpL]
 | [], _ :: _ => by simp [cmpL]
 | _ :: _, [] => by simp [cmpL]
 | a :: r, b :: s => by
  have ih := cmpL_zero (a := r) (b := s)
  simp only [cmpL]
  by_cases h1 : a < b
  ·rw [if_pos h1]; constructor
   ·intro h; exact absurd h (by decide)
   intro h; cases h; omega
  rw [if_neg h1]
  by_cases h2 : b < a
  ·rw [if_pos h2]; constructor
   ·intro h; exact absurd h (by decide)
   intro h; cases h; omega
  rw [if_neg h2, ih]
  obtain rfl : a = b := by omega
  constructor
  ·rintro rfl; rfl
  intro h; cases h; rfl
theorem cmpL_tr : ∀ {a b c : List Int}, cmpL a b < 0 → cmpL b c < 0 → cmpL a c < 0
 | [], [], c, h, _ => by simp [cmpL] at h
 | [], b :: s, [], _, h => by simp [cmpL] at h
 | [], b :: s, c :: t, _, _ => by simp [cmpL]
 | a :: r, [], c, h, _ => by simp [cmpL] at h
 | a :: r, b :: s, [], _, h => by simp [cmpL] at h
 | a :: r, b :: s, c :: t, h1, h2 => by
  simp only [cmpL] at h1 h2 ⊢
  split at h1
  ·split at h2
   ·rw [if_pos (by omega)]; decide
   split at h2
   ·exact absurd h2 (by decide)
   rw [if_pos (by omega)]; decide
  split at h1
  ·exact absurd h1 (by decide)
  split at h2
  ·rw [if_pos (by omega)]; decide
  split at h2
  ·exact absurd h2 (by decide)
  rw [if_neg (by omega), if_neg (by omega)]
  exact cmpL_tr h1 h2
theorem cmpL_sw : ∀ {a b : List Int}, cmpL a b < 0 ↔ 0 < cmpL b a
 | [], [] => by simp [cmpL]
 | [], _ :: _ => by simp [cmpL]
 | _ :: _, [] => by simp [cmpL]
 | a :: r, b :: s => by
  have ih := cmpL_sw (a := r) (b := s)
  simp only [cmpL]
  by_cases h1 : a < b
  ·rw [if_pos h1, if_neg (by omega), if_pos h1]; decide
  rw [if_neg h1]
  by_cases h2 : b < a
  ·rw [if_pos h2, if_pos h2]; decide
  rw [if_neg h2, if_neg h2, if_neg h1]; exact ih
def rowI (xs : List Item) (i : Nat) : List Int := (xs[i]?.getD default).row
def sortedR (xs : List Item) : Prop := ∀ i j, i < j → j < xs.length → cmpL (rowI xs i) (rowI xs j) < 0
def atR (xs : List Item) (r : List Int) (k : Nat) : Prop := k ≤ xs.length ∧ (∀ q, q < k → cmpL (rowI xs q) r < 0) ∧ (∀ q, k ≤ q → q < xs.length → ¬ cmpL (rowI xs q) r < 0)
theorem aboveR {xs : List Item} {r : List Int} {m : Nat} (hs : sortedR xs) (h : ¬ cmpL (rowI xs m) r < 0) (q : Nat) (h1 : m ≤ q) (hq : q < xs.length) : ¬ cmpL (rowI xs q) r < 0 := by
 rcases Nat.lt_or_ge m q with h2 | h2
 ·intro h3; exact h (cmpL_tr (hs m q h2 hq) h3)
 rw [show q = m by omega]; exact h
attribute [local irreducible] IntKind.wrap
end
section
attribute [local irreducible] IntKind.wrap
theorem item_ow9 {b : Option Addr} {c : Nat} {r : List Int} {t : Int} {A : Hp} (h : (gSl 3 gI).ow [.slice b r.length c] r A) (ht : 1 ≤ t ∧ t ≤ 1000000) : gItem.ow (.slice b r.length c :: .int .i64 t :: List.append [] (zeros 0 [.slice none 0 0, .int .i64 0])) ⟨r, t⟩ A :=
 gItem_ow.2 ⟨b, c, A, rfl, .refl _, h, by unfold okI; dsimp only; omega⟩
end
section
attribute [local irreducible] IntKind.wrap
abbrev ZI := RawC gItem.size × Item
abbrev gRI : Gt (RawC gItem.size) := gRaw gItem.size gItem.pos
def lsZ (zs : List ZI) : List (RawC gItem.size) := zs.map (·.1)
def rowZ (zs : List ZI) (i : Nat) : List Int := (zs[i]?.getD default).2.row
def hitZ (zs : List ZI) (r : List Int) (k : Nat) : Bool := decide (k < zs.length ∧ rowZ zs k = r)
def midZ (zs : List ZI) (r : List Int) (k : Nat) (y : RawC gItem.size) (i : Nat) : List (RawC gItem.size) :=
 if i ≤ k then (lsZ zs).take i else (lsZ zs).take k ++ ([y] ++ ((lsZ zs).take i).drop (if hitZ zs r k then k + 1 else k))
theorem raw_appI {l : List Value} (h : l.length = gItem.size ∧ allOne l = true) : gRI.ow l ⟨l, h⟩ [] := ⟨rfl, trivial, rfl⟩
def yOk (zs : List ZI) (r : List Int) (t : Int) (k : Nat) (y : RawC gItem.size) (B : Hp) : Prop :=
 if hitZ zs r k then y.1 = (zs[k]?.getD default).1.1.set 1 (.int .i64 (min ((zs[k]?.getD default).2.times + t) 1000000)) ∧ B = [] else gItem.ow y.1 ⟨r, t⟩ B
theorem midZ_zero (zs : List ZI) (r : List Int) (k : Nat) (y : RawC gItem.size) : midZ zs r k y 0 = [] := by unfold midZ; rw [if_pos (Nat.zero_le _)]; rfl
theorem mid_init (zs : List ZI) (r : List Int) (t : Int) (k : Nat) : 0 ≤ zs.length ∧ (0 ≤ k → ([] : Hp) = []) ∧ (k < 0 → yOk zs r t k default []) ∧ (gSl 218 gRI).ow [.slice none (midZ zs r k default 0).length 0] (midZ zs r k default 0) [] := by
 rw [midZ_zero]
 exact ⟨Nat.zero_le _, fun _ => rfl, fun h => absurd h (by omega), sl_nil _ _ _⟩
theorem lsZ_at {zs : List ZI} {i : Nat} {l : List Value} {hr : l.length = gItem.size ∧ allOne l = true} (h : i < zs.length) (e : l = (zs[i]?.getD default).1.1) : (lsZ zs).take (i + 1) = (lsZ zs).take i ++ [⟨l, hr⟩] := by
 have h1 : i < (lsZ zs).length := by unfold lsZ; rw [List.length_map]; exact h
 have h2 : (lsZ zs)[i] = ⟨l, hr⟩ := by
  have h3 : (lsZ zs)[i] = (zs[i]'h).1 := List.getElem_map ..
  rw [h3]
  refine Subtype.ext ?_
  rw [List.getElem?_eq_getElem h] at e
  exact e.symm
 rw [← List.take_append_getElem h1, h2]
theorem lsZ_len (zs : List ZI) : (lsZ zs).length = zs.length := by unfold lsZ; exact List.length_map ..
theorem mid_pre {zs : List ZI} {r : List Int} {k i : Nat} {y : RawC gItem.size} {l : List Value} {hr : l.length = gItem.size ∧ allOne l = true} (hik : i < k) (h : i < zs.length) (e : l = (zs[i]?.getD default).1.1) : midZ zs r k y (i + 1) = midZ zs r k y i ++ [⟨l, hr⟩] := by
 unfold midZ
 rw [if_pos (by omega), if_pos (by omega), lsZ_at (hr := hr) h e]
theorem mid_post {zs : List ZI} {r : List Int} {k i : Nat} {y : RawC gItem.size} {l : List Value} {hr : l.length = gItem.size ∧ allOne l = true} (hik : k < i) (h : i < zs.length) (e : l = (zs[i]?.getD default).1.1) : midZ zs r k y (i + 1) = midZ zs r k y i ++ [⟨l, hr⟩] := by
 unfold midZ
 have h1 : ((lsZ zs).take i).length = i := by rw [List.length_take, lsZ_len]; omega
 have h2 : (if hitZ zs r k then k + 1 else k) ≤ ((lsZ zs).take i).length := by rw [h1]; split <;> omega
 rw [if_neg (show ¬ i + 1 ≤ k by omega), if_neg (show ¬ i ≤ k by omega), lsZ_at (hr := hr) h e, List.drop_append_of_le_length h2]
 simp
theorem mid_hit {zs : List ZI} {r : List Int} {k : Nat} {y y2 : RawC gItem.size} (h : hitZ zs r k = true) : midZ zs r k y2 (k + 1) = midZ zs r k y k ++ [y2] := by
 unfold midZ
 rw [if_neg (by omega), if_pos (Nat.le_refl _), h, if_pos rfl, List.drop_eq_nil_of_le (by rw [List.length_take]; omega)]
 simp
theorem mid_new {zs : List ZI} {r : List Int} {k : Nat} {y y2 : RawC gItem.size} {l : List Value} {hr : l.length = gItem.size ∧ allOne l = true} (h : hitZ zs r k = false) (hk : k < zs.length) (e : l = (zs[k]?.getD default).1.1) : midZ zs r k y2 (k + 1) = midZ zs r k y k ++ [y2] ++ [⟨l, hr⟩] := by
 unfold midZ
 have h1 : ((lsZ zs).take k).length = k := by rw [List.length_take, lsZ_len]; omega
 rw [if_neg (by omega), if_pos (Nat.le_refl _), h, if_neg (by simp), lsZ_at (hr := hr) hk e, List.drop_append_of_le_length (by omega), List.drop_eq_nil_of_le (by omega)]
 simp
theorem mid_end {zs : List ZI} {r : List Int} {k : Nat} {y : RawC gItem.size} (hk : k < zs.length) : midZ zs r k y (zs.length + 1) = midZ zs r k y zs.length := by
 unfold midZ
 rw [if_neg (show ¬ zs.length + 1 ≤ k by omega), if_neg (show ¬ zs.length ≤ k by omega), List.take_of_length_le (i := zs.length + 1) (by rw [lsZ_len]; omega), List.take_of_length_le (i := zs.length) (by rw [lsZ_len]; omega)]
theorem hit_end (zs : List ZI) (r : List Int) : hitZ zs r zs.length = false := by unfold hitZ; rw [decide_eq_false (by omega)]
theorem mid_last {zs : List ZI} {r : List Int} {y y2 : RawC gItem.size} : midZ zs r zs.length y2 (zs.length + 1) = midZ zs r zs.length y zs.length ++ [y2] := by
 unfold midZ
 rw [if_neg (by omega), if_pos (Nat.le_refl _), hit_end, if_neg (by simp), List.drop_eq_nil_of_le (by rw [List.length_take, lsZ_len]; omega)]
 simp
theorem mid_len (zs : List ZI) (r : List Int) (k : Nat) (y : RawC gItem.size) (i : Nat) : (midZ zs r k y i).length ≤ zs.length + 1 := by
 unfold midZ
 split
 ·rw [List.length_take, lsZ_len]; omega
 simp only [List.length_append, List.length_take, List.length_drop, List.length_cons, List.length_nil, lsZ_len]
 split <;> omega
theorem mid_le1 {zs : List ZI} {r : List Int} {k : Nat} {y : RawC gItem.size} {i : Nat} (hx : zs.length ≤ 2000000) : (midZ zs r k y i).length + 1 ≤ 1073741824 := by have := mid_len zs r k y i; omega
theorem mid_le2 {zs : List ZI} {r : List Int} {k : Nat} {y y2 : RawC gItem.size} {i : Nat} (hx : zs.length ≤ 2000000) : (midZ zs r k y i ++ [y2]).length + 1 ≤ 1073741824 := by have := mid_len zs r k y i; rw [List.length_append]; simp only [List.length_cons, List.length_nil]; omega
theorem bool_t {k i : Nat} (h : k < i) : Value.bool true = Value.bool (decide (k < i)) := by rw [decide_eq_true h]
theorem bool_t2 {k i j : Nat} (h : k < i) (h2 : k < j) : Value.bool (decide (k < i)) = Value.bool (decide (k < j)) := by rw [decide_eq_true h, decide_eq_true h2]
theorem bool_t3 {k i j : Nat} (h : ¬ k < i) (h2 : ¬ k < j) : Value.bool (decide (k < i)) = Value.bool (decide (k < j)) := by rw [decide_eq_false h, decide_eq_false h2]
theorem yOk_hit {zs : List ZI} {r : List Int} {t v w : Int} {k n c : Nat} {b : Option Addr} {hr : ([Value.slice b n c, .int .i64 v]).length = gItem.size ∧ allOne [Value.slice b n c, .int .i64 v] = true} (hh : hitZ zs r k = true) (e : [Value.slice b n c, .int .i64 w] = (zs[k]?.getD default).1.1) (h : v = min ((zs[k]?.getD default).2.times + t) 1000000) : yOk zs r t k ⟨[.slice b n c, .int .i64 v], hr⟩ [] := by
 unfold yOk; rw [hh, if_pos rfl, ← e, h]; exact ⟨rfl, rfl⟩
theorem yOk_new {zs : List ZI} {r : List Int} {t : Int} {k c : Nat} {b : Option Addr} {A : Hp} {hr : ([Value.slice b r.length c, .int .i64 t]).length = gItem.size ∧ allOne [Value.slice b r.length c, .int .i64 t] = true} (hh : hitZ zs r k = false) (o : (gSl 3 gI).ow [.slice b r.length c] r A) (ht : 1 ≤ t ∧ t ≤ 1000000) : yOk zs r t k ⟨[.slice b r.length c, .int .i64 t], hr⟩ A := by
 unfold yOk; rw [hh, if_neg (by simp)]; exact item_ow9 o ht
theorem cap1 {a : Int} (h : 1 ≤ a ∧ a ≤ 2000000) (h2 : 1000000 < IntKind.i64.wrap a) : 1000000 = min a 1000000 := by rw [wrap_of (x := a) (by omega) (by omega)] at h2; omega
theorem cap2 {a : Int} (h : 1 ≤ a ∧ a ≤ 2000000) (h2 : IntKind.i64.wrap a ≤ 1000000) : IntKind.i64.wrap a = min a 1000000 := by rw [wrap_of (x := a) (by omega) (by omega)] at *; omega
theorem low_ne {a r : List Int} (h : cmpL a r < 0) : ¬ a = r := fun e => by rw [cmpL_zero.2 e] at h; omega
theorem low_less {a r : List Int} (h : cmpL a r < 0) : rowLess r a = false := by
 unfold rowLess; rw [decide_eq_false_iff_not]; intro h2; have := cmpL_sw.1 h2; omega
theorem hi_less {a r : List Int} (h : ¬ cmpL a r < 0) (h2 : ¬ a = r) : rowLess r a = true := by
 unfold rowLess; rw [decide_eq_true_iff, cmpL_sw]
 have : ¬ cmpL a r = 0 := fun e => h2 (cmpL_zero.1 e)
 omega
theorem at_hit {zs : List ZI} {r : List Int} {k i : Nat} (hlo : ∀ i, i < k → cmpL (rowZ zs i) r < 0) (hik : i ≤ k) (h : i < zs.length) (e : (zs[i]?.getD default).2.row = r) : k = i ∧ hitZ zs r k = true := by
 have hk : k = i := by
  rcases Nat.lt_or_ge i k with h1 | h1
  ·exact absurd e (low_ne (hlo i h1))
  omega
 subst hk
 exact ⟨rfl, decide_eq_true ⟨h, e⟩⟩
theorem at_new {zs : List ZI} {r : List Int} {k i : Nat} (hlo : ∀ i, i < k → cmpL (rowZ zs i) r < 0) (hik : i ≤ k) (e : ¬ (zs[i]?.getD default).2.row = r) (h2 : rowLess r (zs[i]?.getD default).2.row = true) : k = i ∧ hitZ zs r k = false := by
 have hk : k = i := by
  rcases Nat.lt_or_ge i k with h1 | h1
  ·have := low_less (hlo i h1); unfold rowZ at this; rw [h2] at this; cases this
  omega
 subst hk
 exact ⟨rfl, decide_eq_false fun h => e h.2⟩
theorem at_low {zs : List ZI} {r : List Int} {k i : Nat} (hhi : ∀ i, k ≤ i → i < zs.length → ¬ cmpL (rowZ zs i) r < 0) (hik : i ≤ k) (h : i < zs.length) (e : ¬ (zs[i]?.getD default).2.row = r) (h2 : rowLess r (zs[i]?.getD default).2.row = false) : i < k := by
 rcases Nat.lt_or_ge i k with h1 | h1
 ·exact h1
 have h3 : rowLess r (zs[i]?.getD default).2.row = true := hi_less (hhi i h1 h) e
 rw [h2] at h3; cases h3
theorem l03PutRaw_ct (b : Option Addr) (m c : Nat) (b2 : Option Addr) (m2 c2 : Nat) (zs : List ZI) (r : List Int) (t : Int) (k : Nat) (hx : zs.length ≤ 2000000) (hr : r.length ≤ 1000) (ht : 1 ≤ t ∧ t ≤ 1000000)
  (hxt : ∀ i, i < zs.length → 1 ≤ (zs[i]?.getD default).2.times ∧ (zs[i]?.getD default).2.times ≤ 1000000)
  (hk : k ≤ zs.length) (hlo : ∀ i, i < k → cmpL (rowZ zs i) r < 0) (hhi : ∀ i, k ≤ i → i < zs.length → ¬ cmpL (rowZ zs i) r < 0) :
  Ct prog 68 [.agg ⟨[.slice b m c]⟩, .slice b2 m2 c2, .int .i64 t] [] (fun H => (rpSl (rpZip gItem)).rd H [.slice b m c] zs ∧ (gSl 3 gI).rd H [.slice b2 m2 c2] r)
   (fun v A => ∃ b' c' y A1 B, v = .agg ⟨[.slice b' (midZ zs r k y (zs.length + 1)).length c']⟩ ∧ A = A1 ++ B ∧ yOk zs r t k y B ∧ (gSl 218 gRI).ow [.slice b' (midZ zs r k y (zs.length + 1)).length c'] (midZ zs r k y (zs.length + 1)) A1) := by
 refine Ct.intro0 G_ok func68 rfl rfl rfl fun E H hp => ?_
 obtain ⟨hp, hp2⟩ := hp
 obtain ⟨rfl, hl⟩ := rd_len hp
 have hcl := rd_cap hp
 refine ⟨fun x0 => ?_⟩
 refine ⟨fun x1 => ?_⟩
 refine ⟨fun x2 => ?_⟩
 apply loop_mod (α := (Nat) × (RawC gItem.size) × (Hp) × (Hp) × (Option Addr) × (Nat)) G_ok [12, 13, 14, 15, 16, 19, 20, 21, 22, 23, 10, 24, 25, 26, 27, 28, 29, 30, 31, 32, 33, 34, 35, 36, 37, 38, 39, 40, 8, 41, 42, 43, 44, 45, 46, 47, 48, 49, 50, 51, 52, 53, 54, 55, 56, 57, 58, 59, 60, 61, 62, 63, 64, 17, 18, 9] (fun z => [(9, .v (.int .i64 z.1)), (8, .v (.bool (decide (k < z.1))))]) (fun z => [⟨x0, [Value.slice b zs.length c], (33 : Nat)⟩, ⟨x1, [Value.slice none (0 : Nat) (0 : Nat)], (33 : Nat)⟩, ⟨x2, [.slice z.2.2.2.2.1 (midZ zs r k z.2.1 z.1).length z.2.2.2.2.2], (33 : Nat)⟩]) (fun z => [z.2.2.2.1, z.2.2.1, H]) (fun z => zs.length - z.1) (fun z => z.1 ≤ zs.length ∧ (z.1 ≤ k → z.2.2.1 = []) ∧ (k < z.1 → yOk zs r t k z.2.1 z.2.2.1) ∧ (gSl 218 gRI).ow [.slice z.2.2.2.2.1 (midZ zs r k z.2.1 z.1).length z.2.2.2.2.2] (midZ zs r k z.2.1 z.1) z.2.2.2.1) ((0, default, [], [], none, 0))
 ·repeat' (first | exact trivial | refine ⟨⟨_, rfl, by first | rfl | exact inc_eq _ (by omega) | (refine sl_eq ?_; simp; done) | (exact sl_eq (congrArg List.length (mid_hit (by assumption)))) | (exact sl_eq (congrArg List.length (mid_new (by assumption) (by omega) (by assumption)))) | exact bool_t (Nat.lt_succ_self _) | exact bool_t2 (by omega) (by omega) | exact bool_t3 (by omega) (by omega) | (exact sl_eq (congrArg List.length (mid_pre ‹i < k› (by omega) (by assumption)))) | (exact sl_eq (congrArg List.length (mid_post ‹k < i› (by omega) (by assumption)))), by first | exact trivial | simp [SV.ok]⟩, ?_⟩)
 ·exact ⟨rfl, rfl, rfl, trivial⟩
 ·try dsimp only
  exact mid_init zs r t k
 ·exact .refl _
 rintro ⟨i, y, B, A, lb, lc⟩ hI
 try dsimp only at hI
 obtain ⟨hi, hB, hy, oA⟩ := hI
 try dsimp only
 refine ⟨fun q3 => ?_, fun q3 => ?_⟩
 ·simp at q3
  refine idx_rd hp ?_ ?_ fun b4 o4 hb4 => ?_
  ·omega
  ·omega
  refine load_allN default (i) rfl hp ?_ ?_ hb4 rfl (mem_at 2 rfl) fun l5 hl5 => ?_
  ·omega
  ·omega
  obtain ⟨e5, hl5⟩ := hl5
  obtain ⟨b0x5, c0x5, rfl, h0x5, w1x5⟩ := gItem_rd.1 hl5
  refine ⟨fun x6 => ?_⟩
  refine ⟨fun q7 => ?_, fun q7 => ?_⟩
  ·simp at q7
   refine call_val (l03Same_ct _ _ _ _ _ _ ((zs[i]?.getD default).snd.row) (r)) ⟨(Rp.mono _ (mem_at 2 rfl) h0x5), (Rp.mono _ (mem_at 2 rfl) hp2)⟩ ?_
   rintro _ rfl
   refine ⟨fun q9 => ?_, fun q9 => ?_⟩
   ·simp at q9
    refine ⟨fun q10 => ?_, fun q10 => ?_⟩
    ·simp at q10
     obtain ⟨hik, hht⟩ := at_hit hlo ‹i ≤ k› (by assumption) (by assumption)
     subst hik
     refine ⟨fun x11 => ?_⟩
     refine gappend1 (g := gRI) (T := (218 : TypeId)) G_ok A [] [B, H] ?_ oA (raw_appI (by first | exact raw_of ‹gItem.rd _ _ _› | exact ⟨rfl, rfl⟩)) (List.mem_of_getElem? (i := 0) rfl) rfl rfl rfl rfl rfl rfl rfl rfl ?_ fun b12 c12 A12 o12 => ?_
     ·exact .tl
     ·exact mid_le1 hx
     apply loop_stepI (k + 1, ⟨[Value.slice b0x5 (zs[k]?.getD default).snd.row.length c0x5, Value.int .i64 1000000], ⟨rfl, rfl⟩⟩, [], _, _, _)
     ·repeat' (first | exact trivial | refine ⟨⟨_, rfl, by first | rfl | exact inc_eq _ (by omega) | (refine sl_eq ?_; simp; done) | (exact sl_eq (congrArg List.length (mid_hit (by assumption)))) | (exact sl_eq (congrArg List.length (mid_new (by assumption) (by omega) (by assumption)))) | exact bool_t (Nat.lt_succ_self _) | exact bool_t2 (by omega) (by omega) | exact bool_t3 (by omega) (by omega) | (exact sl_eq (congrArg List.length (mid_pre ‹i < k› (by omega) (by assumption)))) | (exact sl_eq (congrArg List.length (mid_post ‹k < i› (by omega) (by assumption)))), by first | exact trivial | simp [SV.ok]⟩, ?_⟩)
     ·((first | rw [mid_hit (by assumption)] | rw [mid_new (hr := ⟨rfl, rfl⟩) (by assumption) (by omega) (by assumption)] | rw [mid_pre (hr := ⟨rfl, rfl⟩) ‹i < k› (by omega) (by assumption)] | rw [mid_post (hr := ⟨rfl, rfl⟩) ‹k < i› (by omega) (by assumption)]); repeat' (first | exact trivial | refine ⟨by first | rfl | simp [Blk.ent], ?_⟩))
     ·try dsimp only
      (have h9 := hxt k (by assumption); exact ⟨by omega, fun h => absurd h (by omega), fun _ => yOk_hit hht (by assumption) (cap1 (by omega) (by assumption)), by rw [mid_hit hht]; assumption⟩)
     ·exact rlA
     try dsimp only
     omega
    ·simp at q10
     obtain ⟨hik, hht⟩ := at_hit hlo ‹i ≤ k› (by assumption) (by assumption)
     subst hik
     refine ⟨fun x13 => ?_⟩
     refine gappend1 (g := gRI) (T := (218 : TypeId)) G_ok A [] [B, H] ?_ oA (raw_appI (by first | exact raw_of ‹gItem.rd _ _ _› | exact ⟨rfl, rfl⟩)) (List.mem_of_getElem? (i := 0) rfl) rfl rfl rfl rfl rfl rfl rfl rfl ?_ fun b14 c14 A14 o14 => ?_
     ·exact .tl
     ·exact mid_le1 hx
     apply loop_stepI (k + 1, ⟨[Value.slice b0x5 (zs[k]?.getD default).snd.row.length c0x5, Value.int .i64 (IntKind.i64.wrap ((zs[k]?.getD default).snd.times + t))], ⟨rfl, rfl⟩⟩, [], _, _, _)
     ·repeat' (first | exact trivial | refine ⟨⟨_, rfl, by first | rfl | exact inc_eq _ (by omega) | (refine sl_eq ?_; simp; done) | (exact sl_eq (congrArg List.length (mid_hit (by assumption)))) | (exact sl_eq (congrArg List.length (mid_new (by assumption) (by omega) (by assumption)))) | exact bool_t (Nat.lt_succ_self _) | exact bool_t2 (by omega) (by omega) | exact bool_t3 (by omega) (by omega) | (exact sl_eq (congrArg List.length (mid_pre ‹i < k› (by omega) (by assumption)))) | (exact sl_eq (congrArg List.length (mid_post ‹k < i› (by omega) (by assumption)))), by first | exact trivial | simp [SV.ok]⟩, ?_⟩)
     ·((first | rw [mid_hit (by assumption)] | rw [mid_new (hr := ⟨rfl, rfl⟩) (by assumption) (by omega) (by assumption)] | rw [mid_pre (hr := ⟨rfl, rfl⟩) ‹i < k› (by omega) (by assumption)] | rw [mid_post (hr := ⟨rfl, rfl⟩) ‹k < i› (by omega) (by assumption)]); repeat' (first | exact trivial | refine ⟨by first | rfl | simp [Blk.ent], ?_⟩))
     ·try dsimp only
      (have h9 := hxt k (by assumption); exact ⟨by omega, fun h => absurd h (by omega), fun _ => yOk_hit hht (by assumption) (cap2 (by omega) (by assumption)), by rw [mid_hit hht]; assumption⟩)
     ·exact rlA
     try dsimp only
     omega
   ·simp at q9
    refine ⟨fun q15 => ?_, fun q15 => ?_⟩
    ·simp at q15
     refine call_val (specRowLess_ct _ _ _ _ _ _ (r) ((zs[i]?.getD default).snd.row)) ⟨(Rp.mono _ (mem_at 2 rfl) hp2), (Rp.mono _ (mem_at 2 rfl) h0x5)⟩ ?_
     rintro _ rfl
     refine ⟨fun q17 => ?_, fun q17 => ?_⟩
     ·obtain ⟨hik, hht⟩ := at_new hlo ‹i ≤ k› (by assumption) (by assumption)
      subst hik
      refine draw G_ok mixed (some 8) (.q 0 (.q 1 (.q 3 (.q 5 (.f 2 (.f 4 (.q 6 (.f 7 (.tl 8 (.f 9 (.f 10 (.nil)))))))))))) (by decide +kernel) ?_
      refine ⟨fun x18 => ?_⟩
      refine VC.intro ?_ ?_
      ·exact keep_new
      refine append_allN (g := gI) (T := (3 : TypeId)) G_ok (by repeat (first | exact fl_plain | apply plain_iso | apply plain_pair)) [] [[(x18, Obj.cells { toList := zeros (0 : Nat) [Value.int IntKind.i64 (0 : Int)] } (3 : TypeId))], A, B, H] 3 ?_ (sl_nil _ _ _) rfl hp2 rfl rfl rfl rfl rfl rfl rfl rfl ?_ fun b19 c19 A19 o19 => ?_
      ·exact .refl _
      ·simp; omega
      refine VC.intro ?_ ?_
      ·exact keep_sub (by simp) (by simp)
      refine ⟨fun x20 => ?_⟩
      refine VC.intro ?_ ?_
      ·exact keep_new
      refine gappend1 (g := gRI) (T := (218 : TypeId)) G_ok A [] [A19, [(x18, Obj.cells { toList := zeros (0 : Nat) [Value.int IntKind.i64 (0 : Int)] } (3 : TypeId))], B, H] ?_ oA (raw_appI (by first | exact raw_of ‹gItem.rd _ _ _› | exact ⟨rfl, rfl⟩)) (List.mem_of_getElem? (i := 0) rfl) rfl rfl rfl rfl rfl rfl rfl rfl ?_ fun b21 c21 A21 o21 => ?_
      ·exact rlA
      ·exact mid_le1 hx
      refine ⟨fun x22 => ?_⟩
      refine gappend1 (g := gRI) (T := (218 : TypeId)) G_ok A21 [] [A19, [(x18, Obj.cells { toList := zeros (0 : Nat) [Value.int IntKind.i64 (0 : Int)] } (3 : TypeId))], B, H] ?_ o21 (raw_appI (by first | exact raw_of ‹gItem.rd _ _ _› | exact ⟨rfl, rfl⟩)) (List.mem_of_getElem? (i := 0) rfl) rfl rfl rfl rfl rfl rfl rfl rfl ?_ fun b23 c23 A23 o23 => ?_
      ·exact .tl
      ·exact mid_le2 hx
      apply loop_stepA (k + 1, ⟨[Value.slice b19 ([] ++ r).length c19, Value.int .i64 t], ⟨rfl, rfl⟩⟩, _, _, _, _)
      ·exact .sub (by repeat (first | exact .slnil | apply List.Sublist.cons_cons | apply List.Sublist.cons))
      ·repeat' (first | exact trivial | refine ⟨⟨_, rfl, by first | rfl | exact inc_eq _ (by omega) | (refine sl_eq ?_; simp; done) | (exact sl_eq (congrArg List.length (mid_hit (by assumption)))) | (exact sl_eq (congrArg List.length (mid_new (by assumption) (by omega) (by assumption)))) | exact bool_t (Nat.lt_succ_self _) | exact bool_t2 (by omega) (by omega) | exact bool_t3 (by omega) (by omega) | (exact sl_eq (congrArg List.length (mid_pre ‹i < k› (by omega) (by assumption)))) | (exact sl_eq (congrArg List.length (mid_post ‹k < i› (by omega) (by assumption)))), by first | exact trivial | simp [SV.ok]⟩, ?_⟩)
      ·((first | rw [mid_hit (by assumption)] | rw [mid_new (hr := ⟨rfl, rfl⟩) (by assumption) (by omega) (by assumption)] | rw [mid_pre (hr := ⟨rfl, rfl⟩) ‹i < k› (by omega) (by assumption)] | rw [mid_post (hr := ⟨rfl, rfl⟩) ‹k < i› (by omega) (by assumption)]); repeat' (first | exact trivial | refine ⟨by first | rfl | simp [Blk.ent], ?_⟩))
      ·try dsimp only
       exact ⟨by omega, fun h => absurd h (by omega), fun _ => yOk_new hht (by assumption) ht, by rw [mid_new hht (by omega) (by assumption)]; assumption⟩
      try dsimp only
      omega
     ·have hik := at_low hhi ‹i ≤ k› (by omega) (by assumption) (by assumption)
      refine ⟨fun x24 => ?_⟩
      refine gappend1 (g := gRI) (T := (218 : TypeId)) G_ok A [] [B, H] ?_ oA (raw_appI (by first | exact raw_of ‹gItem.rd _ _ _› | exact ⟨rfl, rfl⟩)) (List.mem_of_getElem? (i := 0) rfl) rfl rfl rfl rfl rfl rfl rfl rfl ?_ fun b25 c25 A25 o25 => ?_
      ·exact .tl
      ·exact mid_le1 hx
      apply loop_stepA (i + 1, y, B, _, _, _)
      ·exact .refl _
      ·repeat' (first | exact trivial | refine ⟨⟨_, rfl, by first | rfl | exact inc_eq _ (by omega) | (refine sl_eq ?_; simp; done) | (exact sl_eq (congrArg List.length (mid_hit (by assumption)))) | (exact sl_eq (congrArg List.length (mid_new (by assumption) (by omega) (by assumption)))) | exact bool_t (Nat.lt_succ_self _) | exact bool_t2 (by omega) (by omega) | exact bool_t3 (by omega) (by omega) | (exact sl_eq (congrArg List.length (mid_pre ‹i < k› (by omega) (by assumption)))) | (exact sl_eq (congrArg List.length (mid_post ‹k < i› (by omega) (by assumption)))), by first | exact trivial | simp [SV.ok]⟩, ?_⟩)
      ·((first | rw [mid_hit (by assumption)] | rw [mid_new (hr := ⟨rfl, rfl⟩) (by assumption) (by omega) (by assumption)] | rw [mid_pre (hr := ⟨rfl, rfl⟩) ‹i < k› (by omega) (by assumption)] | rw [mid_post (hr := ⟨rfl, rfl⟩) ‹k < i› (by omega) (by assumption)]); repeat' (first | exact trivial | refine ⟨by first | rfl | simp [Blk.ent], ?_⟩))
      ·try dsimp only
       exact ⟨by omega, fun _ => hB (by omega), fun h => absurd h (by omega), by rw [mid_pre ‹i < k› (by omega) (by assumption)]; assumption⟩
      try dsimp only
      omega
    ·simp at q15
     exfalso; omega
  ·simp at q7
   refine ⟨fun q26 => ?_, fun q26 => ?_⟩
   ·simp at q26
    exfalso; omega
   ·simp at q26
    refine ⟨fun x27 => ?_⟩
    refine gappend1 (g := gRI) (T := (218 : TypeId)) G_ok A [] [B, H] ?_ oA (raw_appI (by first | exact raw_of ‹gItem.rd _ _ _› | exact ⟨rfl, rfl⟩)) (List.mem_of_getElem? (i := 0) rfl) rfl rfl rfl rfl rfl rfl rfl rfl ?_ fun b28 c28 A28 o28 => ?_
    ·exact .tl
    ·exact mid_le1 hx
    apply loop_stepA (i + 1, y, B, _, _, _)
    ·exact .refl _
    ·repeat' (first | exact trivial | refine ⟨⟨_, rfl, by first | rfl | exact inc_eq _ (by omega) | (refine sl_eq ?_; simp; done) | (exact sl_eq (congrArg List.length (mid_hit (by assumption)))) | (exact sl_eq (congrArg List.length (mid_new (by assumption) (by omega) (by assumption)))) | exact bool_t (Nat.lt_succ_self _) | exact bool_t2 (by omega) (by omega) | exact bool_t3 (by omega) (by omega) | (exact sl_eq (congrArg List.length (mid_pre ‹i < k› (by omega) (by assumption)))) | (exact sl_eq (congrArg List.length (mid_post ‹k < i› (by omega) (by assumption)))), by first | exact trivial | simp [SV.ok]⟩, ?_⟩)
    ·((first | rw [mid_hit (by assumption)] | rw [mid_new (hr := ⟨rfl, rfl⟩) (by assumption) (by omega) (by assumption)] | rw [mid_pre (hr := ⟨rfl, rfl⟩) ‹i < k› (by omega) (by assumption)] | rw [mid_post (hr := ⟨rfl, rfl⟩) ‹k < i› (by omega) (by assumption)]); repeat' (first | exact trivial | refine ⟨by first | rfl | simp [Blk.ent], ?_⟩))
    ·try dsimp only
     exact ⟨by omega, fun _ => absurd ‹k < i› (by omega), fun _ => hy (by omega), by rw [mid_post ‹k < i› (by omega) (by assumption)]; assumption⟩
    try dsimp only
    omega
 ·simp at q3
  refine ⟨fun q29 => ?_, fun q29 => ?_⟩
  ·simp at q29
   have hke : k = zs.length := by omega
   have hie : i = zs.length := by omega
   subst hke
   subst hie
   refine draw G_ok mixed (some 8) (.q 0 (.q 1 (.q 3 (.q 5 (.f 2 (.f 4 (.q 6 (.f 7 (.tl 8 (.f 9 (.f 10 (.nil)))))))))))) (by decide +kernel) ?_
   refine ⟨fun x30 => ?_⟩
   refine VC.intro ?_ ?_
   ·exact keep_new
   refine append_allN (g := gI) (T := (3 : TypeId)) G_ok (by repeat (first | exact fl_plain | apply plain_iso | apply plain_pair)) [] [[(x30, Obj.cells { toList := zeros (0 : Nat) [Value.int IntKind.i64 (0 : Int)] } (3 : TypeId))], A, B, H] 3 ?_ (sl_nil _ _ _) rfl hp2 rfl rfl rfl rfl rfl rfl rfl rfl ?_ fun b31 c31 A31 o31 => ?_
   ·exact .refl _
   ·simp; omega
   refine VC.intro ?_ ?_
   ·exact keep_sub (by simp) (by simp)
   refine ⟨fun x32 => ?_⟩
   refine VC.intro ?_ ?_
   ·exact keep_new
   refine gappend1 (g := gRI) (T := (218 : TypeId)) G_ok A [] [A31, [(x30, Obj.cells { toList := zeros (0 : Nat) [Value.int IntKind.i64 (0 : Int)] } (3 : TypeId))], B, H] ?_ oA (raw_appI (by first | exact raw_of ‹gItem.rd _ _ _› | exact ⟨rfl, rfl⟩)) (List.mem_of_getElem? (i := 0) rfl) rfl rfl rfl rfl rfl rfl rfl rfl ?_ fun b33 c33 A33 o33 => ?_
   ·exact rlA
   ·exact mid_le1 hx
   try dsimp only
   exact ⟨_, ⟨b33, c33, ⟨[Value.slice b31 ([] ++ r).length c31, Value.int .i64 t], ⟨rfl, rfl⟩⟩, A33, A31, congrArg (fun n => Value.agg ⟨[.slice b33 n c33]⟩) (congrArg List.length (mid_last (y := y)).symm), rfl, yOk_new (hit_end zs r) (by assumption) ht, (by rw [mid_last (y := y)]; exact o33)⟩, rlB⟩
  ·simp at q29
   have hie : i = zs.length := by omega
   subst hie
   have hme := mid_end (r := r) (y := y) ‹k < zs.length›
   exact ⟨_, ⟨_, _, y, A, B, (by rw [hme]), rfl, hy (by omega), (by rw [hme]; exact oA)⟩, rlB⟩
end
section
attribute [local irreducible] IntKind.wrap
def putZ (xs : List Item) (r : List Int) (t : Int) (k : Nat) : List Item :=
 if k < xs.length ∧ rowI xs k = r then xs.take k ++ ([⟨(xs[k]?.getD default).row, min ((xs[k]?.getD default).times + t) 1000000⟩] ++ xs.drop (k + 1)) else xs.take k ++ ([⟨r, t⟩] ++ xs.drop k)
theorem zip_at2 {ls : List (RawC gItem.size)} {xs : List Item} (h : ls.length = xs.length) (i : Nat) (hi : i < xs.length) : ((ls.zip xs)[i]?.getD default) = (ls[i]'(by omega), xs[i]'hi) := by
 have h1 : i < (ls.zip xs).length := by rw [List.length_zip]; omega
 rw [List.getElem?_eq_getElem h1, Option.getD_some, List.getElem_zip]
theorem zip_row {ls : List (RawC gItem.size)} {xs : List Item} (h : ls.length = xs.length) (i : Nat) (hi : i < xs.length) : rowZ (ls.zip xs) i = rowI xs i := by
 unfold rowZ rowI
 rw [zip_at2 h i hi, List.getElem?_eq_getElem hi]; rfl
theorem lsZ_zip {ls : List (RawC gItem.size)} {xs : List Item} (h : ls.length = xs.length) : lsZ (ls.zip xs) = ls := by
 unfold lsZ; exact List.map_fst_zip (by omega)
theorem zip_hit {ls : List (RawC gItem.size)} {xs : List Item} (h : ls.length = xs.length) (r : List Int) (k : Nat) : hitZ (ls.zip xs) r k = decide (k < xs.length ∧ rowI xs k = r) := by
 unfold hitZ
 have hz : (ls.zip xs).length = xs.length := by rw [List.length_zip]; omega
 rw [decide_eq_decide, hz]
 constructor
 ·rintro ⟨h1, h2⟩; rw [zip_row h k h1] at h2; exact ⟨h1, h2⟩
 rintro ⟨h1, h2⟩; rw [← zip_row h k h1] at h2; exact ⟨h1, h2⟩
theorem item_cap {l : List Value} {x : Item} {A : Hp} {v : Int} (h : gItem.ow l x A) (hv : okI v) : gItem.ow (l.set 1 (.int .i64 v)) ⟨x.row, v⟩ A := by
 obtain ⟨b0, c0, A0, rfl, hp, ho, _⟩ := gItem_ow.1 h
 exact gItem_ow.2 ⟨b0, c0, A0, rfl, hp, ho, hv⟩
theorem mid_ow {ls : List (RawC gItem.size)} {xs : List Item} {As : List Hp} {r : List Int} {t : Int} {k : Nat} {y : RawC gItem.size} {B : Hp} (hL : OwL gItem ls xs As) (hk : k ≤ xs.length) (ht : 1 ≤ t ∧ t ≤ 1000000)
  (hxt : ∀ i, i < xs.length → 1 ≤ (xs[i]?.getD default).times ∧ (xs[i]?.getD default).times ≤ 1000000) (hy : yOk (ls.zip xs) r t k y B) :
  ∃ Bs L, OwL gItem (midZ (ls.zip xs) r k y (xs.length + 1)) (putZ xs r t k) Bs ∧ (B ++ As.flatten).Perm (Bs.flatten ++ L) := by
 obtain ⟨e1, e2⟩ := hL.len
 unfold midZ
 rw [if_neg (show ¬ xs.length + 1 ≤ k by omega), lsZ_zip e1, List.take_of_length_le (show ls.length ≤ xs.length + 1 by omega)]
 unfold yOk at hy
 rw [zip_hit e1] at *
 unfold putZ
 by_cases hh : k < xs.length ∧ rowI xs k = r
 ·rw [decide_eq_true hh] at *
  rw [if_pos rfl] at *
  rw [if_pos hh]
  obtain ⟨hy, rfl⟩ := hy
  have hg := hL.get k (by omega) (by omega) (by omega)
  have hb := hxt k hh.1
  rw [zip_at2 e1 k hh.1] at hy
  have e3 : xs[k]?.getD default = xs[k]'hh.1 := by rw [List.getElem?_eq_getElem hh.1]; rfl
  rw [e3] at hb ⊢
  have hB := item_cap (v := min ((xs[k]'hh.1).times + t) 1000000) hg (by unfold okI; omega)
  have hy2 : y.val = (ls[k]'(by omega)).val.set 1 (.int .i64 (min ((xs[k]'hh.1).times + t) 1000000)) := hy
  rw [← hy2] at hB
  refine ⟨As.take k ++ ([As[k]'(by omega)] ++ As.drop (k + 1)), [], (hL.take k).append (OwL.append (.cons ?_ .nil) (OwL_dropI hL (k + 1))), ?_⟩
  ·exact hB
  rw [List.nil_append, List.append_nil]
  conv => lhs; rw [← List.take_append_drop k As]
  rw [List.drop_eq_getElem_cons (show k < As.length by omega)]
  exact .refl _
 rw [decide_eq_false hh] at *
 rw [if_neg (by simp)] at *
 rw [if_neg hh]
 refine ⟨As.take k ++ ([B] ++ As.drop k), [], (hL.take k).append (OwL.append (.cons hy .nil) (OwL_dropI hL k)), ?_⟩
 rw [List.append_nil]
 conv => lhs; rw [← List.take_append_drop k As]
 simp only [List.flatten_append, List.flatten_cons, List.flatten_nil, List.append_nil]
 rw [← List.append_assoc, ← List.append_assoc]
 exact List.perm_append_comm.append_right _
theorem l03Put_ct (b : Option Addr) (m c : Nat) (b2 : Option Addr) (m2 c2 : Nat) (xs : List Item) (A : Hp) (r : List Int) (t : Int) (k : Nat) (hA : (gSl 218 gItem).ow [.slice b m c] xs A) (hx : xs.length ≤ 2000000) (hr : r.length ≤ 1000) (ht : 1 ≤ t ∧ t ≤ 1000000)
  (hxt : ∀ i, i < xs.length → 1 ≤ (xs[i]?.getD default).times ∧ (xs[i]?.getD default).times ≤ 1000000) (hk : atR xs r k) :
  CtR prog 68 [.agg ⟨[.slice b m c]⟩, .slice b2 m2 c2, .int .i64 t] A (fun H => (gSl 3 gI).rd H [.slice b2 m2 c2] r) (fun v D => ∃ b' c', v = .agg ⟨[.slice b' (putZ xs r t k).length c']⟩ ∧ (gSl 218 gItem).ow [.slice b' (putZ xs r t k).length c'] (putZ xs r t k) D) := by
 obtain ⟨v, ls, A0, As, ev, ho, hp, hL⟩ := hA
 cases ev
 obtain ⟨e1, e2⟩ := hL.len
 have hz : (ls.zip xs).length = xs.length := by rw [List.length_zip]; omega
 have hc := l03PutRaw_ct b m c b2 m2 c2 (ls.zip xs) r t k (by omega) hr ht (fun i hi => by rw [zip_at2 e1 i (by omega)]; have := hxt i (by omega); rw [List.getElem?_eq_getElem (by omega : i < xs.length)] at this; exact this) (by have := hk.1; omega)
  (fun i hi => by have := hk.1; rw [zip_row e1 i (by omega)]; exact hk.2.1 i hi) (fun i h1 h2 => by rw [zip_row e1 i (by omega)]; exact hk.2.2 i h1 (by omega))
 refine ⟨hc.1, fun E H w hs hpre => ?_⟩
 have hsub1 : ∀ p ∈ A, p ∈ [] ++ (A ++ H) := fun p h => List.mem_append_right [] (List.mem_append_left _ h)
 have hsub2 : ∀ p ∈ H, p ∈ [] ++ (A ++ H) := fun p h => List.mem_append_right [] (List.mem_append_right _ h)
 refine (hc.2 E (A ++ H) w hs ⟨Rp.mono _ hsub1 (zip_rd ho hp hL), Rp.mono _ hsub2 hpre⟩).mono ?_
 rintro e' w' ⟨v, A2, h1, ⟨b', c', y, A1, B, rfl, rfl, hy, h4⟩, h3⟩
 obtain ⟨Bs, L, h5, h6⟩ := mid_ow hL hk.1 ht hxt hy
 rw [hz] at h1 h4
 have h7 := h5.len.1
 refine ⟨_, A1 ++ Bs.flatten, h1, ⟨b', c', by rw [h7], ?_⟩, ?_⟩
 ·rw [← h7]; exact ⟨_, _, A1, Bs, rfl, fl_ow h4, .refl _, h5⟩
 refine Sat.drop (B := A0 ++ L) (h3.perm ?_)
 classical
 rw [List.perm_iff_count]
 intro a
 have h8 := hp.count_eq a
 have h9 := h6.count_eq a
 simp only [List.count_append] at *; omega
theorem atR_ex {xs : List Item} {r : List Int} (hs : sortedR xs) : ∀ n, n ≤ xs.length → (∀ q, q < xs.length - n → cmpL (rowI xs q) r < 0) ∨ ∃ k, k ≤ xs.length ∧ (∀ q, q < k → cmpL (rowI xs q) r < 0) ∧ (∀ q, k ≤ q → q < xs.length → ¬ cmpL (rowI xs q) r < 0) := by
 intro n hn
 by_cases h : ∃ k, k ≤ xs.length ∧ (∀ q, q < k → cmpL (rowI xs q) r < 0) ∧ (∀ q, k ≤ q → q < xs.length → ¬ cmpL (rowI xs q) r < 0)
 ·exact .inr h
 left
 have key : ∀ m, m ≤ xs.length → ∀ q, q < m → cmpL (rowI xs q) r < 0 := by
  intro m
  induction m with
  | zero => intro _ q hq; omega
  | succ m ih =>
   intro hm q hq
   have h0 := ih (by omega)
   rcases Nat.lt_or_ge q m with h1 | h1
   ·exact h0 q h1
   rw [show q = m by omega]
   by_cases h2 : cmpL (rowI xs m) r < 0
   ·exact h2
   exact absurd ⟨m, by omega, h0, fun q h3 h4 => aboveR hs h2 q h3 h4⟩ h
 intro q hq
 exact key xs.length (Nat.le_refl _) q (by omega)
theorem atR_some {xs : List Item} {r : List Int} (hs : sortedR xs) : ∃ k, atR xs r k := by
 rcases atR_ex (r := r) hs 0 (by omega) with h | h
 ·exact ⟨xs.length, Nat.le_refl _, fun q hq => h q (by omega), fun q h1 h2 => absurd h2 (by omega)⟩
 exact h
noncomputable def plR (xs : List Item) (r : List Int) : Nat := Classical.epsilon fun k => atR xs r k
theorem plR_at {xs : List Item} {r : List Int} (hs : sortedR xs) : atR xs r (plR xs r) := Classical.epsilon_spec (atR_some hs)
end
section
attribute [local irreducible] IntKind.wrap namesM queryM ownerOf
theorem at_place {ys : List Item} {r : List Int} {k : Nat} (hs : sortedR ys) (hk : atR ys r k) {i : Nat} (hi : i < ys.length) (e : rowI ys i = r) : i = k := by
 rcases Nat.lt_trichotomy i k with h | h | h
 ·exact absurd e (low_ne (hk.2.1 i h))
 ·exact h
 have := hs k i h hi
 rw [e] at this
 exact absurd this (hk.2.2 k (Nat.le_refl _) (by omega))
theorem ins_at {ys : List Item} {x : Item} {k : Nat} (hk : k ≤ ys.length) (i : Nat) : (ys.take k ++ ([x] ++ ys.drop k))[i]? = if i < k then ys[i]? else if i = k then some x else ys[i - 1]? := by
 have h1 : (ys.take k).length = k := by rw [List.length_take]; omega
 rcases Nat.lt_trichotomy i k with h | h | h
 ·rw [if_pos h, List.getElem?_append_left (by omega), List.getElem?_take_of_lt h]
 ·subst h
  rw [if_neg (by omega), if_pos rfl, List.getElem?_append_right (by omega), h1, Nat.sub_self]; rfl
 rw [if_neg (by omega), if_neg (by omega), List.getElem?_append_right (by omega), h1]
 obtain ⟨j, hj⟩ : ∃ j, i = k + 1 + j := ⟨i - k - 1, by omega⟩
 subst hj
 rw [show k + 1 + j - k = j + 1 by omega, show k + 1 + j - 1 = k + j by omega]
 show (x :: ys.drop k)[j + 1]? = _
 rw [List.getElem?_cons_succ, List.getElem?_drop]
theorem ins_len {ys : List Item} {x : Item} {k : Nat} (hk : k ≤ ys.length) : (ys.take k ++ ([x] ++ ys.drop k)).length = ys.length + 1 := by
 simp only [List.length_append, List.length_take, List.length_drop, List.length_cons, List.length_nil]; omega
theorem ins_row {ys : List Item} {r : List Int} {t : Int} {k : Nat} (hk : k ≤ ys.length) (i : Nat) : rowI (ys.take k ++ ([⟨r, t⟩] ++ ys.drop k)) i = if i < k then rowI ys i else if i = k then r else rowI ys (i - 1) := by
 unfold rowI
 rw [ins_at hk]
 split
 ·rfl
 split <;> rfl
theorem up_place {ys : List Item} {r : List Int} {k : Nat} (hk : atR ys r k) (hn : ¬ (k < ys.length ∧ rowI ys k = r)) (hs : sortedR ys) {i : Nat} (h1 : k ≤ i) (h2 : i < ys.length) : cmpL r (rowI ys i) < 0 := by
 rw [cmpL_sw]
 have h3 := hk.2.2 i h1 h2
 have h4 : ¬ cmpL (rowI ys i) r = 0 := fun e => by
  have h5 := cmpL_zero.1 e
  have h6 := at_place hs hk h2 h5
  subst h6
  exact hn ⟨h2, h5⟩
 omega
theorem ins_sorted {ys : List Item} {r : List Int} {t : Int} {k : Nat} (hs : sortedR ys) (hk : atR ys r k) (hn : ¬ (k < ys.length ∧ rowI ys k = r)) : sortedR (ys.take k ++ ([⟨r, t⟩] ++ ys.drop k)) := by
 intro i j hij hj
 rw [ins_len hk.1] at hj
 rw [ins_row hk.1, ins_row hk.1]
 rcases Nat.lt_trichotomy i k with h | h | h
 ·rw [if_pos h]
  rcases Nat.lt_trichotomy j k with h2 | h2 | h2
  ·rw [if_pos h2]; exact hs i j hij (by have := hk.1; omega)
  ·rw [if_neg (by omega), if_pos h2]; exact hk.2.1 i h
  rw [if_neg (by omega), if_neg (by omega)]; exact hs i (j - 1) (by omega) (by omega)
 ·rw [if_neg (by omega), if_pos h, if_neg (by omega), if_neg (by omega)]
  exact up_place hk hn hs (by omega) (by omega)
 rw [if_neg (by omega), if_neg (by omega), if_neg (by omega), if_neg (by omega)]
 exact hs (i - 1) (j - 1) (by omega) (by omega)
end
section
def rowsI (ys : List Item) : List (List Int) := ys.map (·.row)
noncomputable def stepZ (ys : List Item) (p : List Int) : List Item := putZ ys p 1 (plR ys p)
noncomputable def zK (ps : List (List Int)) : List Item := ps.foldl stepZ []
theorem zK_snoc (ps : List (List Int)) (p : List Int) : zK (ps ++ [p]) = stepZ (zK ps) p := by
 unfold zK; rw [List.foldl_append]; rfl
def InvT (ys : List Item) : Prop := sortedR ys ∧ ∀ i, i < ys.length → 1 ≤ (ys[i]?.getD default).times ∧ (ys[i]?.getD default).times ≤ 1000000
theorem invT_nil : InvT [] := ⟨fun i j _ h => absurd h (by simp), fun i h => absurd h (by simp)⟩
theorem rowsI_at (ys : List Item) (i : Nat) (hi : i < ys.length) : (rowsI ys)[i]? = some (rowI ys i) := by
 unfold rowsI rowI
 rw [List.getElem?_map, List.getElem?_eq_getElem hi]; rfl
theorem rowsI_len (ys : List Item) : (rowsI ys).length = ys.length := by unfold rowsI; exact List.length_map ..
theorem mem_rowsI {ys : List Item} {r : List Int} : r ∈ rowsI ys ↔ ∃ i, i < ys.length ∧ rowI ys i = r := by
 constructor
 ·intro h
  obtain ⟨i, hi, e⟩ := List.getElem_of_mem h
  have hi2 : i < ys.length := by rw [rowsI_len] at hi; exact hi
  refine ⟨i, hi2, ?_⟩
  have h1 := rowsI_at ys i hi2
  rw [List.getElem?_eq_getElem hi, e] at h1
  exact (Option.some.inj h1).symm
 rintro ⟨i, hi, rfl⟩
 exact List.mem_of_getElem? (rowsI_at ys i hi)
theorem hit_at {ys : List Item} {k : Nat} {t : Int} (hk : k < ys.length) (i : Nat) : (ys.take k ++ ([⟨(ys[k]?.getD default).row, min ((ys[k]?.getD default).times + t) 1000000⟩] ++ ys.drop (k + 1)))[i]? = if i = k then some ⟨(ys[k]?.getD default).row, min ((ys[k]?.getD default).times + t) 1000000⟩ else ys[i]? := by
 have h1 : (ys.take k).length = k := by rw [List.length_take]; omega
 rcases Nat.lt_trichotomy i k with h | h | h
 ·rw [if_neg (by omega), List.getElem?_append_left (by omega), List.getElem?_take_of_lt h]
 ·subst h
  rw [if_pos rfl, List.getElem?_append_right (by omega), h1, Nat.sub_self]; rfl
 rw [if_neg (by omega), List.getElem?_append_right (by omega), h1]
 obtain ⟨j, hj⟩ : ∃ j, i = k + 1 + j := ⟨i - k - 1, by omega⟩
 subst hj
 rw [show k + 1 + j - k = j + 1 by omega]
 show (_ :: ys.drop (k + 1))[j + 1]? = _
 rw [List.getElem?_cons_succ, List.getElem?_drop]
theorem stepZ_hit {ys : List Item} {p : List Int} (h : plR ys p < ys.length ∧ rowI ys (plR ys p) = p) : stepZ ys p = ys.take (plR ys p) ++ ([⟨(ys[plR ys p]?.getD default).row, min ((ys[plR ys p]?.getD default).times + 1) 1000000⟩] ++ ys.drop (plR ys p + 1)) := if_pos h
theorem stepZ_new {ys : List Item} {p : List Int} (h : ¬ (plR ys p < ys.length ∧ rowI ys (plR ys p) = p)) : stepZ ys p = ys.take (plR ys p) ++ ([⟨p, 1⟩] ++ ys.drop (plR ys p)) := if_neg h
theorem hit_len {ys : List Item} {k : Nat} {x : Item} (hk : k < ys.length) : (ys.take k ++ ([x] ++ ys.drop (k + 1))).length = ys.length := by
 simp only [List.length_append, List.length_take, List.length_drop, List.length_cons, List.length_nil]; omega
theorem hit_row {ys : List Item} {k : Nat} {t : Int} (hk : k < ys.length) (i : Nat) : rowI (ys.take k ++ ([⟨(ys[k]?.getD default).row, min ((ys[k]?.getD default).times + t) 1000000⟩] ++ ys.drop (k + 1))) i = rowI ys i := by
 unfold rowI
 rw [hit_at hk]
 split
 ·rename_i h; rw [h]; rfl
 rfl
theorem stepZ_inv {ys : List Item} {p : List Int} (h : InvT ys) : InvT (stepZ ys p) := by
 have hk := plR_at (r := p) h.1
 by_cases hh : plR ys p < ys.length ∧ rowI ys (plR ys p) = p
 ·rw [stepZ_hit hh]
  refine ⟨fun i j hij hj => ?_, fun i hi => ?_⟩
  ·rw [hit_len hh.1] at hj
   rw [hit_row hh.1, hit_row hh.1]; exact h.1 i j hij hj
  rw [hit_len hh.1] at hi
  rw [hit_at hh.1]
  have h1 := h.2 (plR ys p) hh.1
  split
  ·show 1 ≤ min _ _ ∧ min _ _ ≤ _
   omega
  exact h.2 i hi
 rw [stepZ_new hh]
 refine ⟨ins_sorted h.1 hk hh, fun i hi => ?_⟩
 rw [ins_len hk.1] at hi
 rw [ins_at hk.1]
 rcases Nat.lt_trichotomy i (plR ys p) with h2 | h2 | h2
 ·rw [if_pos h2]; exact h.2 i (by have := hk.1; omega)
 ·rw [if_neg (by omega), if_pos h2]
  show (1 : Int) ≤ 1 ∧ (1 : Int) ≤ 1000000
  omega
 rw [if_neg (by omega), if_neg (by omega)]; exact h.2 (i - 1) (by omega)
theorem stepZ_mem {ys : List Item} {p r : List Int} (h : InvT ys) : r ∈ rowsI (stepZ ys p) ↔ r = p ∨ r ∈ rowsI ys := by
 have hk := plR_at (r := p) h.1
 rw [mem_rowsI, mem_rowsI]
 by_cases hh : plR ys p < ys.length ∧ rowI ys (plR ys p) = p
 ·rw [stepZ_hit hh, hit_len hh.1]
  constructor
  ·rintro ⟨i, hi, e⟩; rw [hit_row hh.1] at e; exact .inr ⟨i, hi, e⟩
  rintro (rfl | ⟨i, hi, e⟩)
  ·exact ⟨_, hh.1, by rw [hit_row hh.1]; exact hh.2⟩
  exact ⟨i, hi, by rw [hit_row hh.1]; exact e⟩
 rw [stepZ_new hh, ins_len hk.1]
 constructor
 ·rintro ⟨i, hi, e⟩
  rw [ins_row hk.1] at e
  rcases Nat.lt_trichotomy i (plR ys p) with h2 | h2 | h2
  ·rw [if_pos h2] at e; exact .inr ⟨i, by have := hk.1; omega, e⟩
  ·rw [if_neg (by omega), if_pos h2] at e; exact .inl e.symm
  rw [if_neg (by omega), if_neg (by omega)] at e; exact .inr ⟨i - 1, by omega, e⟩
 rintro (rfl | ⟨i, hi, e⟩)
 ·exact ⟨plR ys r, by have := hk.1; omega, by rw [ins_row hk.1, if_neg (by omega), if_pos rfl]⟩
 rcases Nat.lt_or_ge i (plR ys p) with h2 | h2
 ·exact ⟨i, by omega, by rw [ins_row hk.1, if_pos h2]; exact e⟩
 exact ⟨i + 1, by omega, by rw [ins_row hk.1, if_neg (by omega), if_neg (by omega)]; exact e⟩
theorem stepZ_len (ys : List Item) (p : List Int) : (stepZ ys p).length ≤ ys.length + 1 := by
 by_cases hh : plR ys p < ys.length ∧ rowI ys (plR ys p) = p
 ·rw [stepZ_hit hh, hit_len hh.1]; omega
 rw [stepZ_new hh]
 simp only [List.length_append, List.length_take, List.length_drop, List.length_cons, List.length_nil]; omega
theorem foldZ : ∀ (ps : List (List Int)) (ys : List Item), InvT ys → InvT (ps.foldl stepZ ys) ∧ (∀ r, r ∈ rowsI (ps.foldl stepZ ys) ↔ r ∈ ps ∨ r ∈ rowsI ys) ∧ (ps.foldl stepZ ys).length ≤ ys.length + ps.length
 | [], ys, h => ⟨h, fun r => by simp, Nat.le_refl _⟩
 | p :: ps, ys, h => by
  obtain ⟨h1, h2, h3⟩ := foldZ ps (stepZ ys p) (stepZ_inv h)
  refine ⟨h1, fun r => ?_, ?_⟩
  ·rw [List.foldl_cons, h2, stepZ_mem h, List.mem_cons]
   constructor
   ·rintro (a | a | a)
    ·exact .inl (.inr a)
    ·exact .inl (.inl a)
    exact .inr a
   rintro ((a | a) | a)
   ·exact .inr (.inl a)
   ·exact .inl a
   exact .inr (.inr a)
  have := stepZ_len ys p
  rw [List.foldl_cons, List.length_cons]; omega
theorem zK_inv (ps : List (List Int)) : InvT (zK ps) := (foldZ ps [] invT_nil).1
theorem zK_mem (ps : List (List Int)) (r : List Int) : r ∈ rowsI (zK ps) ↔ r ∈ ps := by
 have := (foldZ ps [] invT_nil).2.1 r
 unfold zK; rw [this]; simp [rowsI]
theorem zK_len (ps : List (List Int)) : (zK ps).length ≤ ps.length := by
 have := (foldZ ps [] invT_nil).2.2
 simpa [zK] using this
def upL (xs : List (List Int)) : Prop := xs.Pairwise fun a b => cmpL a b < 0
theorem sortedR_up {ys : List Item} (h : sortedR ys) : upL (rowsI ys) := by
 unfold upL
 rw [List.pairwise_iff_getElem]
 intro i j hi hj hij
 have h1 := rowsI_at ys i (by rw [rowsI_len] at hi; exact hi)
 have h2 := rowsI_at ys j (by rw [rowsI_len] at hj; exact hj)
 rw [List.getElem?_eq_getElem hi] at h1
 rw [List.getElem?_eq_getElem hj] at h2
 rw [Option.some.inj h1, Option.some.inj h2]
 exact h i j hij (by rw [rowsI_len] at hj; exact hj)
theorem up_unique : ∀ {xs ys : List (List Int)}, upL xs → upL ys → (∀ x, x ∈ xs ↔ x ∈ ys) → xs = ys
 | [], [], _, _, _ => rfl
 | [], y :: ys, _, _, h => by have := (h y).2 (List.mem_cons_self ..); cases this
 | x :: xs, [], _, _, h => by have := (h x).1 (List.mem_cons_self ..); cases this
 | x :: xs, y :: ys, h1, h2, h => by
  obtain ⟨p1, q1⟩ := List.pairwise_cons.1 h1
  obtain ⟨p2, q2⟩ := List.pairwise_cons.1 h2
  have e : x = y := by
   rcases List.mem_cons.1 ((h x).1 (List.mem_cons_self ..)) with e | e
   ·exact e
   rcases List.mem_cons.1 ((h y).2 (List.mem_cons_self ..)) with e2 | e2
   ·exact e2.symm
   have a1 := p2 x e
   have a2 := p1 y e2
   rw [cmpL_sw] at a1
   omega
  subst e
  refine congrArg _ (up_unique q1 q2 fun z => ?_)
  have hz := h z
  rw [List.mem_cons, List.mem_cons] at hz
  have key : ∀ {ws : List (List Int)}, (∀ w ∈ ws, cmpL x w < 0) → z ∈ ws → ¬ z = x := fun hw h3 e => by
   have := hw z h3
   rw [e, cmpL_zero.2 rfl] at this
   omega
  constructor
  ·intro h3
   rcases hz.1 (.inr h3) with e | e
   ·exact absurd e (key p1 h3)
   exact e
  intro h3
  rcases hz.2 (.inr h3) with e | e
  ·exact absurd e (key p2 h3)
  exact e
def keepZ {γ : Type} (zs : List (γ × List Int)) (d : γ × List Int) (i : Nat) : Bool := decide (i = 0) || decide (¬ (zs[i]?.getD d).2 = (zs[i - 1]?.getD d).2)
def cpK {γ : Type} (zs : List (γ × List Int)) (d : γ × List Int) : Nat → List (γ × List Int)
 | 0 => []
 | n + 1 => cpK zs d n ++ (if keepZ zs d n then [zs[n]?.getD d] else [])
theorem cpK_yes {γ : Type} {zs : List (γ × List Int)} {d : γ × List Int} {n : Nat} (h : keepZ zs d n = true) : cpK zs d (n + 1) = cpK zs d n ++ [zs[n]?.getD d] := by
 show _ ++ (if _ then _ else _) = _
 rw [h]; rfl
theorem cpK_no {γ : Type} {zs : List (γ × List Int)} {d : γ × List Int} {n : Nat} (h : keepZ zs d n = false) : cpK zs d (n + 1) = cpK zs d n := by
 show _ ++ (if _ then _ else _) = _
 rw [h]; exact List.append_nil _
theorem cpK_sub {γ : Type} (zs : List (γ × List Int)) (d : γ × List Int) : ∀ n, n ≤ zs.length → (cpK zs d n).Sublist (zs.take n)
 | 0, _ => by rw [List.take_zero]; exact .slnil
 | n + 1, h => by
  have ih := cpK_sub zs d n (by omega)
  rw [← List.take_append_getElem (by omega : n < zs.length)]
  cases hk : keepZ zs d n with
  | true =>
   rw [cpK_yes hk, List.getElem?_eq_getElem (by omega)]
   exact ih.append (.refl _)
  | false => rw [cpK_no hk]; exact ih.trans (List.sublist_append_left ..)
theorem cpK_up {γ : Type} {zs : List (γ × List Int)} {d : γ × List Int} (hs : zs.Pairwise fun a b => ¬ cmpL b.2 a.2 < 0) : ∀ n, n ≤ zs.length → upL ((cpK zs d n).map (·.2)) ∧ (∀ x ∈ (cpK zs d n).map (·.2), 0 < n ∧ (x = (zs[n - 1]?.getD d).2 ∨ cmpL x (zs[n - 1]?.getD d).2 < 0)) ∧ (∀ i, i < n → (zs[i]?.getD d).2 ∈ (cpK zs d n).map (·.2))
  | 0, _ => ⟨.nil, fun x h => (by cases h), fun i h => absurd h (by omega)⟩
  | n + 1, h => by
    obtain ⟨i1, i2, i3⟩ := cpK_up hs n (by omega)
    have hle : ∀ i j, i < j → j < zs.length → (zs[i]?.getD d).2 = (zs[j]?.getD d).2 ∨ cmpL (zs[i]?.getD d).2 (zs[j]?.getD d).2 < 0 := fun i j hij hj => by
      have h1 := (List.pairwise_iff_getElem.1 hs) i j (by omega) hj hij
      rw [List.getElem?_eq_getElem (by omega : i < zs.length), List.getElem?_eq_getElem hj]
      by_cases h2 : (zs[i]'(by omega)).2 = (zs[j]'hj).2
      · exact .inl h2
      right
      have h3 : ¬ cmpL (zs[i]'(by omega)).2 (zs[j]'hj).2 = 0 := fun e => h2 (cmpL_zero.1 e)
      rw [cmpL_sw] at h1
      show cmpL (zs[i]'(by omega)).2 (zs[j]'hj).2 < 0
      omega
    rw [Nat.add_sub_cancel]
    cases hk : keepZ zs d n with
    | true =>
      rw [cpK_yes hk, List.map_append]
      have hlt : ∀ x ∈ (cpK zs d n).map (·.2), cmpL x (zs[n]?.getD d).2 < 0 := fun x hx => by
        obtain ⟨h0, h1⟩ := i2 x hx
        unfold keepZ at hk
        rw [Bool.or_eq_true, decide_eq_true_iff, decide_eq_true_iff] at hk
        have h2 : ¬ (zs[n]?.getD d).2 = (zs[n - 1]?.getD d).2 := by rcases hk with h3 | h3; · omega
                                                                    · exact h3
        have h4 : cmpL (zs[n - 1]?.getD d).2 (zs[n]?.getD d).2 < 0 := by
          rcases hle (n - 1) n (by omega) (by omega) with h5 | h5
          · exact absurd h5.symm h2
          exact h5
        rcases h1 with rfl | h1
        · exact h4
        exact cmpL_tr h1 h4
      refine ⟨?_, fun x hx => ⟨by omega, ?_⟩, fun i hi => ?_⟩
      · unfold upL
        rw [List.pairwise_append]
        refine ⟨i1, List.pairwise_singleton .., fun a ha b hb => ?_⟩
        rw [List.mem_singleton.1 hb]; exact hlt a ha
      · rcases List.mem_append.1 hx with h1 | h1
        · exact .inr (hlt x h1)
        exact .inl (List.mem_singleton.1 h1)
      rcases (by omega : i < n ∨ i = n) with h1 | rfl
      · exact List.mem_append_left _ (i3 i h1)
      exact List.mem_append_right _ (List.mem_singleton.2 rfl)
    | false =>
      rw [cpK_no hk]
      unfold keepZ at hk
      rw [Bool.or_eq_false_iff, decide_eq_false_iff_not, decide_eq_false_iff_not, Classical.not_not] at hk
      refine ⟨i1, fun x hx => ⟨by omega, ?_⟩, fun i hi => ?_⟩
      · rw [hk.2]; exact (i2 x hx).2
      rcases (by omega : i < n ∨ i = n) with h1 | rfl
      · exact i3 i h1
      rw [hk.2]; exact i3 (i - 1) (by omega)
theorem cpK_all {γ : Type} {zs : List (γ × List Int)} {d : γ × List Int} (hs : zs.Pairwise fun a b => ¬ cmpL b.2 a.2 < 0) : upL ((cpK zs d zs.length).map (·.2)) ∧ ∀ r, r ∈ (cpK zs d zs.length).map (·.2) ↔ r ∈ zs.map (·.2) := by
 obtain ⟨h1, h2, h3⟩ := cpK_up (d := d) hs zs.length (Nat.le_refl _)
 refine ⟨h1, fun r => ⟨fun h => ?_, fun h => ?_⟩⟩
 ·have h4 := (cpK_sub zs d zs.length (Nat.le_refl _)).map (·.2)
  rw [List.take_length] at h4
  exact h4.subset h
 obtain ⟨z, hz, rfl⟩ := List.mem_map.1 h
 obtain ⟨i, hi, rfl⟩ := List.getElem_of_mem hz
 have := h3 i hi
 rw [List.getElem?_eq_getElem hi] at this
 exact this
end
end Go.Proofs.YtjgehblllhkdbaaGreat
namespace Go.SX
open Go.Proofs Go.Sort Go.Shelf
section
variable {P : Program} {ρ : Ren} {γ : Type}
theorem putCells_map {α : Type} [Inhabited α] (enc : α → Value) (d : Array α) (c : Array Value) : putCells enc 0 d c = putCells id 0 (d.map enc) c := by
 apply Array.ext_getElem?
 intro i
 unfold putCells
 rw [Array.getElem?_mapIdx, Array.getElem?_mapIdx]
 congr 1
 funext x
 simp only [Nat.zero_add, Nat.zero_le, true_and, Nat.sub_zero, id, Array.size_map]
 by_cases hi : i < d.size
 ·rw [if_pos hi, if_pos hi, getElem!_pos d i hi, getElem!_pos (d.map enc) i (by simpa using hi), Array.getElem_map]
 rw [if_neg hi, if_neg hi]
theorem putRow_map {α : Type} [Inhabited α] (enc : α → Value) (w : World) (b : Nat) (d : Array α) : Sort.putRow enc w b 0 d = Sort.putRow id w b 0 (d.map enc) := by
 unfold Sort.putRow
 congr 1
 funext c
 exact putCells_map enc d c
theorem one_list {g : Gt γ} (hg : g.size = 1) (c : RawC g.size) : c.1 = [c.1[0]?.getD (Value.bool false)] := by
 obtain ⟨l, h1, h2⟩ := c
 rw [hg] at h1
 match l, h1 with
 | [v], _ => rfl
theorem one_cell {g : Gt γ} (hg : g.size = 1) (c : RawC g.size) : (c.1[0]?.getD (Value.bool false)).oneCell' = true := by
 have h := one_all c.2.2
 have h1 := one_list hg c
 rw [h1] at h
 exact h _ (List.mem_singleton.2 rfl)
theorem one_flat {g : Gt γ} (hg : g.size = 1) : ∀ zs : List (RawC g.size × γ), (zs.map (·.1)).flatMap (flRaw g.size g.pos).enc = zs.map fun z => z.1.1[0]?.getD (Value.bool false)
 | [] => rfl
 | z :: r => by
  rw [List.map_cons, List.flatMap_cons, one_flat hg r, List.map_cons]
  show z.1.1 ++ _ = _
  rw [one_list hg z.1]; rfl
theorem all_of_sat {E : World} {H : Hp} {w : World} (h : Sat E H w) : ∀ p ∈ H, p ∈ allOf w := fun p hp => by
 obtain ⟨b, o⟩ := p
 exact mem_allOf.2 (h.mem b o hp)
theorem sortM_ct (L : SlLaysF.n6 P ρ) (g : Gt γ) (hg : g.size = 1) (cf : γ → γ → Int) (hO : SWO (ltOf cf)) (fn : Nat) (eg : ∀ args w, (callFunc fn args).run P w = .ok (.enter fn args) w) (T : TypeId)
  (hc : ∀ (v1 v2 : Value) (x y : γ), Ct P fn [v1, v2] [] (fun H => g.rd H [v1] x ∧ g.rd H [v2] y) (fun v A => v = .int .i64 (cf x y) ∧ A = []))
  {base : Option Addr} {n cap : Nat} {zs : List (RawC g.size × γ)} {A0 : Hp} (ho : Ow (flRaw g.size g.pos) T (.slice base n cap) (zs.map (·.1)) A0) (hn : zs.length < 4611686018427387904) :
  CtR P (ρ.f 6) [.slice base n cap, .func (.func fn) #[] #[]] A0 (fun H => ∀ z ∈ zs, g.rd H z.1.1 z.2)
   (fun v A => v = .tuple #[] ∧ ∃ zs' : List (RawC g.size × γ), zs'.Perm zs ∧ zs'.Pairwise (fun a b => ltOf cf b.2 a.2 = false) ∧ Ow (flRaw g.size g.pos) T (.slice base zs'.length cap) (zs'.map (·.1)) A) := by
 refine ⟨bears_fn L.f6 rfl, fun E H w hs hrd => ?_⟩
 have ho0 := ho
 obtain ⟨hw, hl, base0, cap0, e, h3⟩ := ho
 cases e
 rw [List.length_map] at *
 cases zs with
 | nil =>
  refine (AnyF.slices_SortFunc_none { L with } base cap _ w).mono ?_
  rintro e w' ⟨rfl, rfl⟩
  exact ⟨_, A0, rfl, ⟨rfl, [], .refl _, .nil, ho0⟩, hs⟩
 | cons z0 zr =>
  generalize hzs : z0 :: zr = zs at *
  have hlen0 : 0 < zs.length := by rw [← hzs]; simp
  rcases h3 with ⟨_, h7, _⟩ | ⟨b, sp, rfl, rfl, h4, h5⟩
  ·rw [← hzs] at h7; cases h7
  letI : Inhabited { z : RawC g.size × γ // g.rd H z.1.1 z.2 } := ⟨⟨z0, hrd z0 (by rw [← hzs]; exact List.mem_cons_self ..)⟩⟩
  let enc : { z : RawC g.size × γ // g.rd H z.1.1 z.2 } → Value := fun z => z.1.1.1[0]?.getD (Value.bool false)
  let ys : List { z : RawC g.size × γ // g.rd H z.1.1 z.2 } := zs.pmap Subtype.mk hrd
  have hys : ys.map (·.1) = zs := by simp [ys, List.map_pmap]
  have hlst : ∀ d : List { z : RawC g.size × γ // g.rd H z.1.1 z.2 }, (d.toArray.map enc).toList = ((d.map (·.1)).map (·.1)).flatMap (flRaw g.size g.pos).enc := fun d => by
   rw [one_flat hg, List.map_map]
   simp only [List.map_toArray]
   rfl
  have hsz : ys.toArray.size = zs.length := by simp [ys]
  have hrow := hlst ys
  rw [hys] at hrow
  have hs1 : Sat E ((b, Obj.cells ⟨(ys.toArray.map enc).toList ++ sp⟩ T) :: H) w := by rw [hrow]; exact hs
  have hHolds : Sort.Holds enc w b 0 ys.toArray := by
   intro j hj
   have h6 := holds_row hs1 j (by simpa using hj)
   rw [getElem!_pos (ys.toArray.map enc) j (by simpa using hj), Array.getElem_map] at h6
   rw [getElem!_pos ys.toArray j hj]
   exact h6
  have hwd : ∀ (m : Nat) (d : Array { z : RawC g.size × γ // g.rd H z.1.1 z.2 }) (os : Array Obj), d.size = ys.toArray.size → Sat E ((b, Obj.cells ⟨(d.map enc).toList ++ sp⟩ T) :: H) (sortWorld enc w b 0 m d os) := by
   intro m d os hd
   have h8 := (Sat.putRow (F0 := (ys.toArray.map enc).toList) (d.map enc) (hs1.ahead m) (by simp [hd])).grow os
   rw [← putRow_map] at h8
   exact h8
  have hcmp : CmpLays1 P fn #[] enc (fun x y => cf x.1.2 y.1.2) b 0 ys.toArray.size w := by
   intro m os dk hdk x y
   have hsat := hwd m dk os hdk
   have hsub : ∀ p ∈ H, p ∈ allOf (sortWorld enc w b 0 m dk os) := fun p hp => all_of_sat hsat p (List.mem_cons_of_mem _ hp)
   have hx : g.rd (allOf (sortWorld enc w b 0 m dk os)) [enc x] x.1.2 := by
    have := x.2; rw [one_list hg x.1.1] at this; exact g.mono hsub this
   have hy : g.rd (allOf (sortWorld enc w b 0 m dk os)) [enc y] y.1.2 := by
    have := y.2; rw [one_list hg y.1.1] at this; exact g.mono hsub this
   have h6 := (hc (enc x) (enc y) x.1.2 y.1.2).2 _ (allOf (sortWorld enc w b 0 m dk os)) _ (sat_allOf _) ⟨hx, hy⟩
   refine Calls.mono h6 ?_
   rintro e w' ⟨v, A, rfl, ⟨rfl, rfl⟩, h7⟩
   exact ⟨rfl, grown_of_sat h7⟩
  have hmain := Any.slices_SortFunc L enc (fun x => one_cell hg x.1.1) (fun x y => cf x.1.2 y.1.2)
   ⟨fun x => hO.irrefl x.1.2, fun x y z => hO.trans x.1.2 y.1.2 z.1.2, fun x y z => hO.ntrans x.1.2 y.1.2 z.1.2⟩ fn #[] b 0 cap ys.toArray w eg hcmp hHolds (hs.lt (List.mem_cons_self ..)) (by rw [hsz]; exact hn)
  rw [hsz] at hmain
  refine Calls.mono hmain ?_
  rintro e w' ⟨rfl, d', m, os, hp, hso, rfl⟩
  have hds : d'.size = zs.length := by rw [hp.1, hsz]
  have hperm : d'.toList.Perm ys := by
   have h8 := hp.2.2
   have e1 : d'.extract 0 zs.length = d' := by rw [← hds]; simp
   have e2 : ys.toArray.extract 0 zs.length = ys.toArray := by rw [← hsz]; simp
   rw [e1, e2] at h8; exact h8
  have hperm2 : (d'.toList.map (·.1)).Perm zs := by rw [← hys]; exact hperm.map _
  have hlen : (d'.toList.map (·.1)).length = zs.length := hperm2.length_eq
  refine ⟨_, [(b, Obj.cells ⟨((d'.toList.map (·.1)).map (·.1)).flatMap (flRaw g.size g.pos).enc ++ sp⟩ T)], rfl, ⟨rfl, d'.toList.map (·.1), hperm2, ?_, fun _ _ => trivial, by rw [List.length_map]; omega, some ⟨b, 0, none⟩, cap, by simp only [List.length_map], .inr ⟨b, sp, rfl, rfl, by rw [List.length_map]; omega, by rw [List.length_map, hlen]; exact h5⟩⟩, ?_⟩
  ·rw [List.pairwise_map, List.pairwise_iff_getElem]
   intro i j hi hj hij
   have h9 := hso i j (Nat.zero_le _) hij (by simpa [hds] using hj)
   rw [getElem!_pos d' j (by simpa using hj), getElem!_pos d' i (by simpa using hi)] at h9
   exact h9
  have h10 := hwd m d' os (by rw [hds, hsz])
  have h11 := hlst d'.toList
  rw [Array.toArray_toList] at h11
  rw [h11] at h10
  exact h10
def flZ (g : Gt γ) (H : Hp) : Fl (RawC g.size × γ) := ⟨g.size, fun z => z.1.1, fun z => g.rd H z.1.1 z.2, fun z => z.1.2.1, fun z => z.1.2.2, g.pos⟩
theorem flZ_flat (g : Gt γ) (H : Hp) : ∀ zs : List (RawC g.size × γ), zs.flatMap (flZ g H).enc = (zs.map (·.1)).flatMap (flRaw g.size g.pos).enc
 | [] => rfl
 | z :: r => by rw [List.flatMap_cons, List.map_cons, List.flatMap_cons, flZ_flat g H r]; rfl
theorem flZ_ow {g : Gt γ} {H : Hp} {T : TypeId} {base : Option Addr} {n cap : Nat} {zs : List (RawC g.size × γ)} {A : Hp} : Ow (flZ g H) T (.slice base n cap) zs A ↔ Ow (flRaw g.size g.pos) T (.slice base n cap) (zs.map (·.1)) A ∧ ∀ z ∈ zs, g.rd H z.1.1 z.2 := by
 unfold Ow
 rw [flZ_flat, List.length_map]
 constructor
 ·rintro ⟨h1, h2, b, c, e, h3⟩
  refine ⟨⟨fun _ _ => trivial, h2, b, c, e, ?_⟩, h1⟩
  rcases h3 with ⟨a1, a2, a3⟩ | h3
  ·exact .inl ⟨a1, by rw [a2]; rfl, a3⟩
  exact .inr h3
 rintro ⟨⟨_, h2, b, c, e, h3⟩, h1⟩
 refine ⟨h1, h2, b, c, e, ?_⟩
 rcases h3 with ⟨a1, a2, a3⟩ | h3
 ·exact .inl ⟨a1, List.map_eq_nil_iff.1 a2, a3⟩
 exact .inr h3
def OwZ (g : Gt γ) (zs : List (RawC g.size × γ)) (As : List Hp) : Prop := OwL g (zs.map (·.1)) (zs.map (·.2)) As
theorem OwZ.zip {g : Gt γ} {ls : List (RawC g.size)} {xs : List γ} {As : List Hp} (h : OwL g ls xs As) : OwZ g (ls.zip xs) As := by
 obtain ⟨e1, _⟩ := h.len
 unfold OwZ
 rw [List.map_fst_zip (by omega), List.map_snd_zip (by omega)]
 exact h
theorem OwZ.cons_inv {g : Gt γ} {z : RawC g.size × γ} {zs : List (RawC g.size × γ)} {As : List Hp} (h : OwZ g (z :: zs) As) : ∃ A Bs, As = A :: Bs ∧ g.ow z.1.1 z.2 A ∧ OwZ g zs Bs := by
 unfold OwZ at h
 rw [List.map_cons, List.map_cons] at h
 cases h with
 | cons h1 h2 => exact ⟨_, _, rfl, h1, h2⟩
theorem OwZ.cons {g : Gt γ} {z : RawC g.size × γ} {zs : List (RawC g.size × γ)} {A : Hp} {As : List Hp} (h : g.ow z.1.1 z.2 A) (h2 : OwZ g zs As) : OwZ g (z :: zs) (A :: As) := by
 unfold OwZ
 rw [List.map_cons, List.map_cons]
 exact .cons h h2
theorem OwZ.perm {g : Gt γ} {zs zs' : List (RawC g.size × γ)} (hp : zs.Perm zs') : ∀ {As : List Hp}, OwZ g zs As → ∃ Bs, OwZ g zs' Bs ∧ As.flatten.Perm Bs.flatten := by
 induction hp with
 | nil => intro As h; exact ⟨As, h, .refl _⟩
 | cons z _ ih =>
  intro As h
  obtain ⟨A, Bs, rfl, h1, h2⟩ := h.cons_inv
  obtain ⟨Cs, h3, h4⟩ := ih h2
  exact ⟨A :: Cs, .cons h1 h3, by simpa using h4.append_left A⟩
 | swap z y r =>
  intro As h
  obtain ⟨A, As, rfl, h1, h2⟩ := h.cons_inv
  obtain ⟨B, Bs, rfl, h3, h4⟩ := h2.cons_inv
  refine ⟨B :: A :: Bs, .cons h3 (.cons h1 h4), ?_⟩
  simp only [List.flatten_cons]
  rw [← List.append_assoc, ← List.append_assoc]
  exact List.perm_append_comm.append_right _
 | trans _ _ ih1 ih2 =>
  intro As h
  obtain ⟨Bs, h1, h2⟩ := ih1 h
  obtain ⟨Cs, h3, h4⟩ := ih2 h1
  exact ⟨Cs, h3, h2.trans h4⟩
theorem OwZ.sub {g : Gt γ} {zs zs' : List (RawC g.size × γ)} (hp : zs'.Sublist zs) : ∀ {As : List Hp}, OwZ g zs As → ∃ Bs L, OwZ g zs' Bs ∧ As.flatten.Perm (Bs.flatten ++ L) := by
 induction hp with
 | slnil => intro As h; exact ⟨As, [], h, by simp⟩
 | cons z _ ih =>
  intro As h
  obtain ⟨A, As, rfl, h1, h2⟩ := h.cons_inv
  obtain ⟨Bs, L, h3, h4⟩ := ih h2
  refine ⟨Bs, A ++ L, h3, ?_⟩
  rw [List.flatten_cons]
  refine (h4.append_left A).trans ?_
  rw [← List.append_assoc, ← List.append_assoc]
  exact List.perm_append_comm.append_right _
 | cons_cons z _ ih =>
  intro As h
  obtain ⟨A, As, rfl, h1, h2⟩ := h.cons_inv
  obtain ⟨Bs, L, h3, h4⟩ := ih h2
  refine ⟨A :: Bs, L, .cons h1 h3, ?_⟩
  rw [List.flatten_cons, List.flatten_cons, List.append_assoc]
  exact h4.append_left A
theorem OwZ.all {g : Gt γ} {T : TypeId} {base : Option Addr} {n cap : Nat} {zs : List (RawC g.size × γ)} {A0 A : Hp} {As : List Hp} (h : OwZ g zs As) (ho : Ow (flRaw g.size g.pos) T (.slice base n cap) (zs.map (·.1)) A0) (hp : A.Perm (A0 ++ As.flatten)) : (gSl T g).ow [.slice base n cap] (zs.map (·.2)) A :=
 ⟨_, _, A0, As, rfl, ho, hp, h⟩
end
end Go.SX
namespace Go.Proofs.YtjgehblllhkdbaaGreat
open Go.SX Go.Proofs
open Tryz
section
open Go.Proofs Go.Shelf
def laysPairs_ren : Go.Shelf.Ren := ⟨fun | 6 => 177 | 15 => 262 | 14 => 261 | 28 => 340 | 29 => 341 | 20 => 332 | 21 => 333 | 22 => 334 | 23 => 335 | 24 => 336 | 25 => 337 | 26 => 338 | 27 => 339 | 46 => 386 | 47 => 387 | 48 => 388 | 49 => 389 | 50 => 390 | 57 => 414 | n => n, fun | 22 => 28 | 24 => 27 | 25 => 248 | 3 => 3 | 39 => 288 | 0 => 0 | 53 => 274 | 55 => 408 | 4 => 4 | 46 => 401 | 45 => 400 | 50 => 228 | 5 => 5 | 9 => 9 | 66 => 463 | 70 => 467 | 76 => 490 | 77 => 491 | n => n, fun | n => n⟩
theorem laysPairs : Go.Proofs.SlLaysF.n6 prog laysPairs_ren where
 mixed := by kernel_rfl
 f6 := ⟨ "slices.SortFunc[[][]int,[]int]", by decide, func177.trans (congrArg some (by kernel_rfl))⟩
 f14 := ⟨ "slices.pdqsortCmpFunc[[]int]", by decide, func261.trans (congrArg some (by kernel_rfl))⟩
 f15 := func262.trans (congrArg some (by kernel_rfl))
 f20 := ⟨ "slices.insertionSortCmpFunc[[]int]", by decide, func332.trans (congrArg some (by kernel_rfl))⟩
 f21 := ⟨ "slices.heapSortCmpFunc[[]int]", by decide, func333.trans (congrArg some (by kernel_rfl))⟩
 f22 := ⟨ "slices.breakPatternsCmpFunc[[]int]", by decide, func334.trans (congrArg some (by kernel_rfl))⟩
 f23 := ⟨ "slices.choosePivotCmpFunc[[]int]", by decide, func335.trans (congrArg some (by kernel_rfl))⟩
 f24 := ⟨ "slices.reverseRangeCmpFunc[[]int]", by decide, func336.trans (congrArg some (by kernel_rfl))⟩
 f25 := ⟨ "slices.partialInsertionSortCmpFunc[[]int]", by decide, func337.trans (congrArg some (by kernel_rfl))⟩
 f26 := ⟨ "slices.partitionEqualCmpFunc[[]int]", by decide, func338.trans (congrArg some (by kernel_rfl))⟩
 f27 := ⟨ "slices.partitionCmpFunc[[]int]", by decide, func339.trans (congrArg some (by kernel_rfl))⟩
 f28 := func340.trans (congrArg some (by kernel_rfl))
 f29 := func341.trans (congrArg some (by kernel_rfl))
 f46 := ⟨ "slices.siftDownCmpFunc[[]int]", by decide, func386.trans (congrArg some (by kernel_rfl))⟩
 f47 := func387.trans (congrArg some (by kernel_rfl))
 f48 := func388.trans (congrArg some (by kernel_rfl))
 f49 := ⟨ "slices.medianAdjacentCmpFunc[[]int]", by decide, func389.trans (congrArg some (by kernel_rfl))⟩
 f50 := ⟨ "slices.medianCmpFunc[[]int]", by decide, func390.trans (congrArg some (by kernel_rfl))⟩
 f57 := ⟨ "slices.order2CmpFunc[[]int]", by decide, func414.trans (congrArg some (by kernel_rfl))⟩
 t0 := underlying0
 a0 := Tryz.isAgg0
 z0 := Tryz.sizeOf0
 v0 := Tryz.zeroValue0
 t3 := underlying3
 a3 := Tryz.isAgg3
 z3 := Tryz.sizeOf3
 v3 := Tryz.zeroValue3
 t4 := underlying4
 a4 := Tryz.isAgg4
 z4 := Tryz.sizeOf4
 v4 := Tryz.zeroValue4
 t5 := underlying5
 a5 := Tryz.isAgg5
 z5 := Tryz.sizeOf5
 v5 := Tryz.zeroValue5
 t9 := underlying9
 a9 := Tryz.isAgg9
 z9 := Tryz.sizeOf9
 v9 := Tryz.zeroValue9
 t22 := underlying28
 a22 := Tryz.isAgg28
 z22 := Tryz.sizeOf28
 v22 := Tryz.zeroValue28
 a24 := Tryz.isAgg27
 z24 := Tryz.sizeOf27
 t25 := underlying248
 a25 := Tryz.isAgg248
 z25 := Tryz.sizeOf248
 v25 := Tryz.zeroValue248
 t39 := underlying288
 a39 := Tryz.isAgg288
 z39 := Tryz.sizeOf288
 v39 := Tryz.zeroValue288
 t45 := underlying400
 a45 := Tryz.isAgg400
 z45 := Tryz.sizeOf400
 v45 := Tryz.zeroValue400
 t46 := underlying401
 a46 := Tryz.isAgg401
 z46 := Tryz.sizeOf401
 v46 := Tryz.zeroValue401
 t50 := underlying228
 a50 := Tryz.isAgg228
 z50 := Tryz.sizeOf228
 v50 := Tryz.zeroValue228
 t53 := underlying274
 a53 := Tryz.isAgg274
 z53 := Tryz.sizeOf274
 v53 := Tryz.zeroValue274
 t55 := underlying408
 a55 := Tryz.isAgg408
 z55 := Tryz.sizeOf408
 v55 := Tryz.zeroValue408
 t66 := underlying463
 a66 := Tryz.isAgg463
 z66 := Tryz.sizeOf463
 v66 := Tryz.zeroValue463
 t70 := underlying467
 a70 := Tryz.isAgg467
 z70 := Tryz.sizeOf467
 v70 := Tryz.zeroValue467
 t76 := underlying490
 a76 := Tryz.isAgg490
 z76 := Tryz.sizeOf490
 v76 := Tryz.zeroValue490
 t77 := underlying491
 a77 := Tryz.isAgg491
 z77 := Tryz.sizeOf491
 v77 := Tryz.zeroValue491
end
section
attribute [local irreducible] IntKind.wrap
theorem sEqualI_ct (b1 : Option Addr) (m1 c1 : Nat) (b2 : Option Addr) (m2 c2 : Nat) (a b : List Int) : Ct prog 183 [.slice b1 m1 c1, .slice b2 m2 c2] [] (fun H => (gSl 3 gI).rd H [.slice b1 m1 c1] a ∧ (gSl 3 gI).rd H [.slice b2 m2 c2] b) (fun v A => v = .bool (decide (a = b)) ∧ A = []) := by
 refine Ct.intro0 G_ok func183 rfl rfl rfl fun E H hp => ?_
 obtain ⟨hp, hq⟩ := hp
 obtain ⟨rfl, hc1, hl1⟩ := sl_len hp
 obtain ⟨rfl, hc2, hl2⟩ := sl_len hq
 refine ⟨fun q0 => ?_, fun q0 => ?_⟩
 ·simp at q0
  exact ⟨[], ⟨by rw [decide_eq_false (fun e => by subst e; exact absurd rfl (by assumption))], rfl⟩, .refl _⟩
 ·simp at q0
  apply loop_mod (α := (Nat)) G_ok [14, 15, 5, 16, 17, 18, 19, 20, 21, 22, 23, 24, 4, 25, 13] (fun z => [(13, .v (.int .i64 z))]) (fun z => []) (fun z => [H]) (fun z => a.length - z) (fun z => z ≤ a.length ∧ allK (fun i => decide ((a[i]?.getD 0) = (b[i]?.getD 0))) z = true) ((0))
  ·exact frI
  ·exact trivial
  ·exact ⟨Nat.zero_le _, rfl⟩
  ·exact .refl _
  rintro k hI
  try dsimp only at hI
  obtain ⟨hk, ha⟩ := hI
  try dsimp only
  refine ⟨fun q1 => ?_, fun q1 => ?_⟩
  ·simp at q1
   refine draw G_ok mixed none (.q 0 (.q 1 (.q 2 (.q 3 (.q 4 (.q 5 (.q 6 (.q 7 (.q 8 (.nil)))))))))) (by decide +kernel) ?_
   refine idx_rd hp ?_ ?_ fun b2 o2 hb2 => ?_
   ·omega
   ·omega
   refine load_allN 0 (k) rfl hp ?_ ?_ hb2 rfl (mem_at 0 rfl) fun l3 hl3 => ?_
   ·omega
   ·omega
   obtain ⟨rfl, hw3⟩ := hl3; simp only [flStr, flInt, okI] at hw3
   refine idx_rd hq ?_ ?_ fun b4 o4 hb4 => ?_
   ·omega
   ·omega
   refine load_allN 0 (k) rfl hq ?_ ?_ hb4 rfl (mem_at 0 rfl) fun l5 hl5 => ?_
   ·omega
   ·omega
   obtain ⟨rfl, hw5⟩ := hl5; simp only [flStr, flInt, okI] at hw5
   refine ⟨fun q6 => ?_, fun q6 => ?_⟩
   ·simp at q6
    exact ⟨[], ⟨by rw [decide_eq_false (fun e => by subst e; exact absurd rfl (by assumption))], rfl⟩, .refl _⟩
   ·simp at q6
    apply loop_stepA (k + 1)
    ·exact .refl _
    ·exact frI
    ·exact trivial
    ·exact ⟨by omega, allK_step ha (decide_eq_true (by assumption))⟩
    omega
  ·simp at q1
   (have hke : k = a.length := (by omega); subst hke; exact ⟨[], ⟨by rw [decide_eq_true (rows_eq (by omega) ha)], rfl⟩, .refl _⟩)
abbrev gIL : Gt (List Int) := gSl 3 gI
theorem pairCmp_ct (v1 v2 : Value) (x y : List Int) : Ct prog 178 [v1, v2] [] (fun H => gIL.rd H [v1] x ∧ gIL.rd H [v2] y) (fun v A => v = .int .i64 (cmpL x y) ∧ A = []) := by
 refine Ct.intro0 G_ok func178 rfl rfl rfl fun E H hp => ?_
 obtain ⟨h1, h2⟩ := hp
 obtain ⟨b1, c1, e1, _⟩ := id h1
 cases e1
 obtain ⟨b2, c2, e2, _⟩ := id h2
 cases e2
 have k1 : (gSl 3 gI).rd H [.slice b1 x.length c1] x := h1
 have k2 : (gSl 3 gI).rd H [.slice b2 y.length c2] y := h2
 clear h1 h2
 refine call_val (sCompare_ct _ _ _ _ _ _ (x) (y)) ⟨(Rp.mono _ (mem_at 0 rfl) k1), (Rp.mono _ (mem_at 0 rfl) k2)⟩ ?_
 rintro _ rfl
 exact ⟨[], ⟨rfl, rfl⟩, .mem (by simp)⟩
theorem pairEq_ct (v1 v2 : Value) (x y : List Int) : Ct prog 182 [v1, v2] [] (fun H => gIL.rd H [v1] x ∧ gIL.rd H [v2] y) (fun v A => v = .bool (decide (x = y)) ∧ A = []) := by
 refine Ct.intro0 G_ok func182 rfl rfl rfl fun E H hp => ?_
 obtain ⟨h1, h2⟩ := hp
 obtain ⟨b1, c1, e1, _⟩ := id h1
 cases e1
 obtain ⟨b2, c2, e2, _⟩ := id h2
 cases e2
 have k1 : (gSl 3 gI).rd H [.slice b1 x.length c1] x := h1
 have k2 : (gSl 3 gI).rd H [.slice b2 y.length c2] y := h2
 clear h1 h2
 refine call_val (sEqualI_ct _ _ _ _ _ _ (x) (y)) ⟨(Rp.mono _ (mem_at 0 rfl) k1), (Rp.mono _ (mem_at 0 rfl) k2)⟩ ?_
 rintro _ rfl
 exact ⟨[], ⟨rfl, rfl⟩, .mem (by simp)⟩
theorem swo_cmpL : Sort.SWO (ltOf cmpL) where
 irrefl x := by
  show decide (cmpL x x < 0) = false
  rw [cmpL_zero.2 rfl]; rfl
 trans x y z h1 h2 := decide_eq_true (cmpL_tr (of_decide_eq_true h1) (of_decide_eq_true h2))
 ntrans x y z h1 h2 := by
  have a1 := of_decide_eq_false h1
  have a2 := of_decide_eq_false h2
  refine decide_eq_false fun h3 => ?_
  by_cases e : cmpL y z = 0
  ·rw [cmpL_zero.1 e] at a1; exact a1 h3
  have h4 : cmpL z y < 0 := by rw [cmpL_sw]; omega
  exact a1 (cmpL_tr h3 h4)
theorem flat_parts {T : TypeId} {base : Option Addr} {n cap : Nat} {xs : List (List Int)} {A : Hp} (h : (gSl T gIL).ow [.slice base n cap] xs A) : ∃ (zs : List (RawC gIL.size × List Int)) (A0 : Hp) (As : List Hp), zs.map (·.2) = xs ∧ Ow (flRaw gIL.size gIL.pos) T (.slice base n cap) (zs.map (·.1)) A0 ∧ A.Perm (A0 ++ As.flatten) ∧ OwZ gIL zs As := by
 obtain ⟨v, ls, A0, As, e, ho, hp, hL⟩ := h
 cases e
 obtain ⟨e1, _⟩ := hL.len
 exact ⟨ls.zip xs, A0, As, List.map_snd_zip (by omega), by rw [List.map_fst_zip (by omega)]; exact ho, hp, .zip hL⟩
theorem OwZ.reads {γ : Type} {g : Gt γ} : ∀ {zs : List (RawC g.size × γ)} {As : List Hp}, OwZ g zs As → ∀ z ∈ zs, g.rd As.flatten z.1.1 z.2
 | [], _, _, z, hz => by cases hz
 | y :: zs, As, h, z, hz => by
  obtain ⟨A, Bs, rfl, h1, h2⟩ := h.cons_inv
  rw [List.flatten_cons]
  rcases List.mem_cons.1 hz with rfl | hz
  ·exact g.mono (fun p hp => List.mem_append_left _ hp) (g.owrd h1)
  exact g.mono (fun p hp => List.mem_append_right _ hp) (OwZ.reads h2 z hz)
theorem sortPairs_ct (base : Option Addr) (n cap : Nat) (xs : List (List Int)) {A : Hp} (ho : (gSl 27 gIL).ow [.slice base n cap] xs A) (hn : xs.length < 4611686018427387904) :
  CtR prog 177 [.slice base n cap, .func (.func 178) #[] #[]] A (fun _ => True)
   (fun v D => v = .tuple #[] ∧ ∃ xs', xs'.Perm xs ∧ (xs'.Pairwise fun a b => ¬ cmpL b a < 0) ∧ (gSl 27 gIL).ow [.slice base xs'.length cap] xs' D) := by
 obtain ⟨zs, A0, As, hz, h0, hp, hL⟩ := flat_parts ho
 have hlz : zs.length = xs.length := by rw [← hz, List.length_map]
 have h := sortM_ct laysPairs gIL rfl cmpL swo_cmpL 178 (enters_of func178 (by kernel_rfl) rfl) 27 pairCmp_ct h0 (by rw [hlz]; exact hn)
 refine ⟨h.1, fun E H w hs _ => ?_⟩
 have hs' : Sat E (A0 ++ (As.flatten ++ H)) w := by
  rw [← List.append_assoc]; exact hs.perm (hp.append_right H)
 refine (h.2 E (As.flatten ++ H) w hs' (fun z hz => gIL.mono (fun p hp => List.mem_append_left _ hp) (OwZ.reads hL z hz))).mono ?_
 rintro e w' ⟨v, A1, h1, ⟨h2, zs', h3, h4, h5⟩, h6⟩
 obtain ⟨Bs, h7, h8⟩ := OwZ.perm h3.symm hL
 refine ⟨v, A1 ++ Bs.flatten, h1, ⟨h2, zs'.map (·.2), by rw [← hz]; exact h3.map _, ?_, ?_⟩, ?_⟩
 ·rw [List.pairwise_map]
  exact h4.imp fun h => of_decide_eq_false h
 ·rw [List.length_map]
  exact h7.all h5 (.refl _)
 rw [List.append_assoc]
 exact h6.perm (List.Perm.append_left _ (h8.append_right H))
end
section
attribute [local irreducible] IntKind.wrap
abbrev ZP := RawC gIL.size × List Int
def gZ (H : Hp) : Gt ZP := (flZ gIL H).gt fun _ => default
theorem ld_Z {H H' : Hp} {l : List Value} {z : ZP} (h : (gZ H).rd H' l z) : ∃ b c, l = [.slice b z.2.length c] ∧ (gSl 3 gI).rd H [.slice b z.2.length c] z.2 ∧ z.1.1 = [.slice b z.2.length c] := by
 obtain ⟨h1, h2⟩ := h
 have h3 : (gSl 3 gI).rd H z.1.1 z.2 := h2
 obtain ⟨b, c, h4, h5⟩ := id h3
 rw [h4] at h3
 exact ⟨b, c, by rw [← h4]; exact h1, h3, h4⟩
theorem cp_short {zs : List ZP} (h : zs.length < 2) : cpK zs default zs.length = zs := by
 match zs, h with
 | [], _ => rfl
 | [z], _ => rfl
theorem cp_one {zs : List ZP} (h : 1 ≤ zs.length) : cpK zs default 1 = zs.take 1 := by
 match zs, h with
 | z :: r, _ => rfl
theorem keep_w {zs : List ZP} {k : Nat} (h1 : 1 ≤ k) (h : (zs[k]?.getD default).2 = (zs[((k : Int) - 1).toNat]?.getD default).2) : keepZ zs default k = false := by
 rw [show ((k : Int) - 1).toNat = k - 1 by omega] at h
 unfold keepZ
 rw [h, decide_eq_false (by omega : ¬ k = 0)]; simp
theorem keep_w2 {zs : List ZP} {k : Nat} (h : ¬ (zs[k]?.getD default).2 = (zs[((k : Int) - 1).toNat]?.getD default).2) : keepZ zs default k = true := by
 rw [show ((k : Int) - 1).toNat = k - 1 by omega] at h
 unfold keepZ
 rw [decide_eq_true h, Bool.or_true]
theorem cp_more {zs : List ZP} {k : Nat} (hk : k < zs.length) (hc : cpK zs default k = zs.take k) (h : ¬ (zs[k]?.getD default).2 = (zs[((k : Int) - 1).toNat]?.getD default).2) : cpK zs default (k + 1) = zs.take (k + 1) := by
 rw [cpK_yes (keep_w2 h), hc, ← List.take_append_getElem hk, List.getElem?_eq_getElem hk]; rfl
structure Cmp (zs : List ZP) (k j i : Nat) (cs : List ZP) : Prop where
 h1 : 1 ≤ j
 hj : k + j ≤ zs.length
 hi : k ≤ i ∧ i + 1 ≤ k + j
 len : cs.length = zs.length
 kept : cs.take i = cpK zs default (k + j)
 rest : ∀ q, k + j ≤ q + 1 → cs[q]? = zs[q]?
theorem cmp_init {zs : List ZP} {k : Nat} (h1 : 1 ≤ k) (hk : k < zs.length) (hc : cpK zs default k = zs.take k) (h : (zs[k]?.getD default).2 = (zs[((k : Int) - 1).toNat]?.getD default).2) : Cmp zs k 1 k zs :=
 ⟨Nat.le_refl _, by omega, by omega, rfl, by rw [cpK_no (keep_w h1 h), hc], fun _ _ => rfl⟩
theorem cmp_sub {H D : Hp} {b : Option Addr} {c : Nat} {zs : List ZP} {k j i : Nat} {cs : List ZP} (hC : Cmp zs k j i cs) (oD : (gSl 27 (gZ H)).ow [.slice b zs.length c] cs D) (hc : zs.length ≤ c) :
  ∃ ys, (rpSl (gZ H).toRp).rd D [.slice (subBase c ((k : Int)).toNat b ty27.size) (zs.length - ((k : Int)).toNat) (c - ((k : Int)).toNat)] ys ∧ ys.length = zs.length - k ∧ ∀ q, k + j ≤ k + q + 1 → ys[q]? = zs[k + q]? := by
 have h1 := hC.hj
 have h2 := hC.len
 refine ⟨(cs.take zs.length).drop ((k : Int)).toNat, rd_sub (l := ((k : Int)).toNat) (h := zs.length) (Gt.owrd _ oD) (by omega) (by omega) (by omega), ?_, fun q hq => ?_⟩
 ·rw [List.length_drop, List.length_take]; omega
 rw [Int.toNat_natCast, List.take_of_length_le (by omega), List.getElem?_drop]
 exact hC.rest _ (by omega)
theorem cmp_keep {zs ys : List ZP} {k j i : Nat} {cs : List ZP} (hC : Cmp zs k j i cs) (hj : k + j < zs.length) (hya : ∀ q, k + j ≤ k + q + 1 → ys[q]? = zs[k + q]?) (h : ¬ (ys[j]?.getD default).2 = (ys[((j : Int) - 1).toNat]?.getD default).2) : Cmp zs k (j + 1) (i + 1) (cs.set ((i : Int)).toNat (zs[k + j]?.getD default)) := by
 obtain ⟨h1, h2, h3, h4, h5, h6⟩ := hC
 rw [hya j (by omega), show ((j : Int) - 1).toNat = j - 1 by omega, hya (j - 1) (by omega), show k + (j - 1) = k + j - 1 by omega] at h
 have hk : keepZ zs default (k + j) = true := by unfold keepZ; rw [decide_eq_true h, Bool.or_true]
 refine ⟨by omega, by omega, by omega, by rw [List.length_set]; exact h4, ?_, fun q hq => ?_⟩
 ·rw [show k + (j + 1) = k + j + 1 by omega, cpK_yes hk, ← h5, Int.toNat_natCast]
  apply List.ext_getElem?
  intro q
  have hl : (cs.take i).length = i := by rw [List.length_take]; omega
  rcases Nat.lt_trichotomy q i with hq | hq | hq
  ·rw [List.getElem?_take_of_lt (by omega), List.getElem?_set_ne (by omega), List.getElem?_append_left (by omega), List.getElem?_take_of_lt hq]
  ·subst hq
   rw [List.getElem?_take_of_lt (by omega), List.getElem?_append_right (by omega), hl, Nat.sub_self, List.getElem?_set_self (by omega)]; rfl
  rw [List.getElem?_eq_none (by rw [List.length_take]; omega), List.getElem?_eq_none (by rw [List.length_append, hl]; simp; omega)]
 rw [Int.toNat_natCast, List.getElem?_set_ne (by omega)]; exact h6 q (by omega)
theorem cmp_skip {zs ys : List ZP} {k j i : Nat} {cs : List ZP} (hC : Cmp zs k j i cs) (hj : k + j < zs.length) (hya : ∀ q, k + j ≤ k + q + 1 → ys[q]? = zs[k + q]?) (h : (ys[j]?.getD default).2 = (ys[((j : Int) - 1).toNat]?.getD default).2) : Cmp zs k (j + 1) i cs := by
 obtain ⟨h1, h2, h3, h4, h5, h6⟩ := hC
 rw [hya j (by omega), show ((j : Int) - 1).toNat = j - 1 by omega, hya (j - 1) (by omega), show k + (j - 1) = k + j - 1 by omega] at h
 have hk : keepZ zs default (k + j) = false := by unfold keepZ; rw [h, decide_eq_false (by omega : ¬ k + j = 0)]; simp
 exact ⟨by omega, by omega, by omega, h4, by rw [show k + (j + 1) = k + j + 1 by omega, cpK_no hk]; exact h5, fun q hq => h6 q (by omega)⟩
theorem compactZ_ct (b : Option Addr) (m c : Nat) (zs : List ZP) (A : Hp) (hA : Ow (flRaw gIL.size gIL.pos) 27 (.slice b m c) (zs.map (·.1)) A) (hm : zs.length ≤ 1048576) :
  CtR prog 181 [.slice b m c, .func (.func 182) #[] #[]] A (fun H => ∀ z ∈ zs, gIL.rd H z.1.1 z.2)
   (fun v D => v = .slice b (cpK zs default zs.length).length c ∧ Ow (flRaw gIL.size gIL.pos) 27 (.slice b (cpK zs default zs.length).length c) ((cpK zs default zs.length).map (·.1)) D) := by
 refine CtR.intro G_ok [A] func181 rfl rfl rfl (by simp) fun E H hp => ?_
 have hZ : (gSl 27 (gZ H)).ow [.slice b m c] zs A := ow_fl (flZ_ow.2 ⟨hA, hp⟩)
 obtain ⟨rfl, hlm⟩ := rd_len (Gt.owrd _ hZ)
 have hcl := rd_cap (Gt.owrd _ hZ)
 clear hA
 refine ⟨fun q0 => ?_, fun q0 => ?_⟩
 ·simp at q0
  (rw [cp_short (by omega)]; exact ⟨_, ⟨rfl, (flZ_ow.1 (fl_ow hZ)).1⟩, rlB⟩)
 ·simp at q0
  apply loop_mod (α := (Nat)) G_ok [12, 13, 14, 15, 18, 19, 20, 21, 22, 23, 24, 25, 26, 27, 28, 29, 30, 31, 6, 7, 32, 33, 34, 35, 38, 39, 40, 41, 42, 43, 44, 45, 46, 47, 48, 49, 50, 51, 52, 53, 54, 55, 56, 57, 58, 5, 36, 37, 59, 60, 61, 62, 63, 64, 4, 16, 17] (fun z => [(5, .v (.int .i64 z)), (4, .v (.slice none 0 0))]) (fun z => []) (fun z => [A, H]) (fun z => zs.length - z) (fun z => 1 ≤ z ∧ z ≤ zs.length ∧ cpK zs default z = zs.take z) ((1))
  ·exact frI
  ·exact trivial
  ·exact ⟨Nat.le_refl _, by omega, cp_one (by omega)⟩
  ·exact .refl _
  rintro k hI
  obtain ⟨h1k, hk, hkc⟩ : 1 ≤ k ∧ k ≤ zs.length ∧ cpK zs default k = zs.take k := hI
  try dsimp only
  refine ⟨fun q1 => ?_, fun q1 => ?_⟩
  ·simp at q1
   refine draw G_ok mixed none (.q 0 (.q 1 (.q 2 (.q 3 (.q 4 (.q 5 (.q 6 (.q 7 (.q 8 (.q 9 (.f 10 (.nil)))))))))))) (by decide +kernel) ?_
   refine idx_rd (Gt.owrd _ hZ) ?_ ?_ fun b2 o2 hb2 => ?_
   ·omega
   ·omega
   refine load_allN default (k) rfl (Gt.owrd _ hZ) ?_ ?_ hb2 rfl (mem_at 0 rfl) fun l3 hl3 => ?_
   ·omega
   ·omega
   obtain ⟨u3, w3, rfl, k3, e3⟩ := ld_Z hl3
   refine idx_rd (Gt.owrd _ hZ) ?_ ?_ fun b4 o4 hb4 => ?_
   ·(simp (disch := omega) only [wrap_of]; omega)
   ·(simp (disch := omega) only [wrap_of]; omega)
   refine load_all default (Gt.owrd _ hZ) ?_ ?_ hb4 rfl (mem_at 0 rfl) fun l5 hl5 => ?_
   ·(simp (disch := omega) only [wrap_of]; omega)
   ·(simp (disch := omega) only [wrap_of]; omega)
   obtain ⟨u5, w5, rfl, k5, e5⟩ := ld_Z hl5
   refine call_val (pairEq_ct _ _ _ _) ⟨(Rp.mono _ (mem_at 1 rfl) k3), (Rp.mono _ (mem_at 1 rfl) k5)⟩ ?_
   rintro _ rfl
   refine VC.intro ?_ ?_
   ·exact fun _ h => h
   refine ⟨fun q7 => ?_, fun q7 => ?_⟩
   ·simp at q7
    simp (disch := omega) only [wrap_of] at q7
    refine VC.intro ?_ ?_
    ·omega
    apply loop_mod (α := (Nat) × (Nat) × (List ZP) × (Hp)) G_ok [32, 33, 34, 35, 38, 39, 40, 41, 42, 43, 44, 45, 46, 47, 48, 49, 50, 51, 52, 53, 54, 55, 56, 57, 58, 5, 36, 37, 7] (fun z => [(7, .v (.int .i64 z.1)), (5, .v (.int .i64 z.2.1))]) (fun z => []) (fun z => [z.2.2.2, H]) (fun z => zs.length - (k + z.1)) (fun z => Cmp zs k z.1 z.2.1 z.2.2.1 ∧ (gSl 27 (gZ H)).ow [.slice b zs.length c] z.2.2.1 z.2.2.2) ((1, k, zs, A))
    ·exact frI
    ·exact trivial
    ·try dsimp only
     exact ⟨cmp_init h1k (by omega) hkc (by assumption), hZ⟩
    ·exact .refl _
    rintro ⟨j, i, cs, D⟩ hI
    try dsimp only at hI
    obtain ⟨hC, oD⟩ := hI
    try dsimp only
    refine ⟨fun q8 => ?_, fun q8 => ?_⟩
    ·simp at q8
     obtain ⟨ys, rs2, hyl, hya⟩ := cmp_sub hC oD (by omega)
     have hjw : IntKind.i64.wrap ((j : Int) - 1) = ((j - 1 : Nat) : Int) := (by have := hC.h1; rw [wrap_of (by omega) (by omega)]; omega)
     have hjc := hC.h1
     have hic := hC.hi
     have hlc := hC.len
     refine draw G_ok mixed none (.q 0 (.q 1 (.q 2 (.q 3 (.q 4 (.q 5 (.q 6 (.q 7 (.q 8 (.q 9 (.f 10 (.q 11 (.nil))))))))))))) (by decide +kernel) ?_
     refine idx_rd rs2 ?_ ?_ fun b9 o9 hb9 => ?_
     ·omega
     ·omega
     refine load_allN default (j) rfl rs2 ?_ ?_ hb9 rfl (mem_at 0 rfl) fun l10 hl10 => ?_
     ·omega
     ·omega
     obtain ⟨u10, w10, rfl, k10, e10⟩ := ld_Z hl10
     refine idx_rd rs2 ?_ ?_ fun b11 o11 hb11 => ?_
     ·(simp (disch := omega) only [wrap_of]; omega)
     ·(simp (disch := omega) only [wrap_of]; omega)
     refine load_all default rs2 ?_ ?_ hb11 rfl (mem_at 0 rfl) fun l12 hl12 => ?_
     ·(simp (disch := omega) only [wrap_of]; omega)
     ·(simp (disch := omega) only [wrap_of]; omega)
     obtain ⟨u12, w12, rfl, k12, e12⟩ := ld_Z hl12
     refine call_val (pairEq_ct _ _ _ _) ⟨(Rp.mono _ (mem_at 1 rfl) k10), (Rp.mono _ (mem_at 1 rfl) k12)⟩ ?_
     rintro _ rfl
     refine VC.intro ?_ ?_
     ·exact fun _ h => h
     refine ⟨fun q14 => ?_, fun q14 => ?_⟩
     ·simp at q14
      simp (disch := omega) only [wrap_of] at q14
      refine idx_rd rs2 ?_ ?_ fun b15 o15 hb15 => ?_
      ·omega
      ·omega
      refine load_allN default (j) rfl rs2 ?_ ?_ hb15 rfl (mem_at 0 rfl) fun l16 hl16 => ?_
      ·omega
      ·omega
      obtain ⟨u16, w16, rfl, k16, e16⟩ := ld_Z hl16
      refine idx_rd (Gt.owrd _ oD) ?_ ?_ fun b17 o17 hb17 => ?_
      ·omega
      ·omega
      refine store_ow (f := flZ gIL H) (y := zs[k + j]?.getD default) 0 rfl (fl_ow oD) (by omega) (by omega) (by assumption) (by rw [← hya j (by omega)]; exact Eq.symm (by assumption)) (by rw [List.getElem?_eq_getElem (by omega)]; exact hp _ (List.getElem_mem _)) rfl fun A2 o2 => ?_
      apply loop_stepA (j + 1, i + 1, cs.set ((i : Int)).toNat (zs[k + j]?.getD default), A2)
      ·exact .refl _
      ·exact frI
      ·exact trivial
      ·try dsimp only
       exact ⟨cmp_keep hC (by omega) hya (by assumption), ow_fl o2⟩
      try dsimp only
      omega
     ·simp at q14
      simp (disch := omega) only [wrap_of] at q14
      apply loop_stepA (j + 1, i, cs, D)
      ·exact .refl _
      ·exact frI
      ·exact trivial
      ·try dsimp only
       exact ⟨cmp_skip hC (by omega) hya (by assumption), oD⟩
      try dsimp only
      omega
    ·simp at q8
     have hjc := hC.h1
     have hic := hC.hi
     have hlc := hC.len
     have hjj := hC.hj
     refine VC.intro ?_ ?_
     ·omega
     refine clear_ow G_ok 0 rfl (Ow.take (i := i) (fl_ow oD) (by omega)) (l := ((i : Int)).toNat) (h := zs.length) rfl (by omega) (by omega) (by omega) rfl rfl rfl rfl fun A2 o2 => ?_
     refine VC.intro ?_ ?_
     ·omega
     (have hkj : k + j = zs.length := (by omega); have hkp := hC.kept; rw [hkj] at hkp; have hkl : (cpK zs default zs.length).length = i := (by rw [← hkp, List.length_take]; omega); rw [hkl, ← hkp]; exact ⟨_, ⟨rfl, (flZ_ow.1 o2).1⟩, rlB⟩)
   ·simp at q7
    simp (disch := omega) only [wrap_of] at q7
    apply loop_stepA (k + 1)
    ·exact .refl _
    ·exact frI
    ·exact trivial
    ·exact ⟨by omega, by omega, cp_more (by omega) hkc (by assumption)⟩
    omega
  ·simp at q1
   (have hke : k = zs.length := (by omega); subst hke; rw [List.take_length] at hkc; rw [hkc]; exact ⟨_, ⟨rfl, (flZ_ow.1 (fl_ow hZ)).1⟩, rlB⟩)
theorem compactPairs_ct (b : Option Addr) (m c : Nat) (xs : List (List Int)) {A : Hp} (ho : (gSl 27 gIL).ow [.slice b m c] xs A) (hm : xs.length ≤ 1048576) (hs : xs.Pairwise fun a b => ¬ cmpL b a < 0) :
  CtR prog 181 [.slice b m c, .func (.func 182) #[] #[]] A (fun _ => True)
   (fun v D => ∃ xs', v = .slice b xs'.length c ∧ upL xs' ∧ (∀ r, r ∈ xs' ↔ r ∈ xs) ∧ (gSl 27 gIL).ow [.slice b xs'.length c] xs' D) := by
 obtain ⟨zs, A0, As, hz, h0, hp, hL⟩ := flat_parts ho
 have hlz : zs.length = xs.length := by rw [← hz, List.length_map]
 have h := compactZ_ct b m c zs A0 h0 (by omega)
 have hs' : zs.Pairwise fun a b => ¬ cmpL b.2 a.2 < 0 := by rw [← hz, List.pairwise_map] at hs; exact hs
 refine ⟨h.1, fun E H w hsat _ => ?_⟩
 have hs2 : Sat E (A0 ++ (As.flatten ++ H)) w := by
  rw [← List.append_assoc]; exact hsat.perm (hp.append_right H)
 refine (h.2 E (As.flatten ++ H) w hs2 (fun z hz => gIL.mono (fun p hp => List.mem_append_left _ hp) (OwZ.reads hL z hz))).mono ?_
 rintro e w' ⟨v, A1, h1, ⟨h2, h5⟩, h6⟩
 obtain ⟨Bs, L, h7, h8⟩ := OwZ.sub (by have := cpK_sub zs default zs.length (Nat.le_refl _); rw [List.take_length] at this; exact this) hL
 have hall := cpK_all (d := default) hs'
 refine ⟨v, A1 ++ Bs.flatten, h1, ⟨(cpK zs default zs.length).map (·.2), by rw [List.length_map]; exact h2, hall.1, by rw [← hz]; exact hall.2, ?_⟩, ?_⟩
 ·rw [List.length_map]
  exact h7.all h5 (.refl _)
 refine Sat.drop (B := L) (h6.perm ?_)
 rw [List.append_assoc]
 refine (List.Perm.append_left A1 (h8.append_right H)).trans ?_
 classical
 rw [List.perm_iff_count]
 intro a
 simp only [List.count_append]; omega
theorem Ow.clip {α : Type} {f : Fl α} {T : TypeId} {b : Option Addr} {n c : Nat} {xs : List α} {A : Hp} (h : Ow f T (.slice b n c) xs A) : Ow f T (.slice b n n) xs A := by
 obtain ⟨h1, h2, b0, c0, e, h3⟩ := h
 cases e
 refine ⟨h1, h2, b, xs.length, rfl, ?_⟩
 rcases h3 with ⟨rfl, rfl, rfl⟩ | ⟨bb, sp, h4, h5, h6, h7⟩
 ·exact .inl ⟨rfl, rfl, rfl⟩
 exact .inr ⟨bb, sp, h4, h5, Nat.le_refl _, by rw [Nat.sub_self, Nat.zero_mul]; exact Nat.zero_le _⟩
theorem clip_ow {α : Type} {g : Gt α} {T : TypeId} {b : Option Addr} {n c : Nat} {xs : List α} {A : Hp} (h : (gSl T g).ow [.slice b n c] xs A) : (gSl T g).ow [.slice b n n] xs A := by
 obtain ⟨v, ls, A0, As, e, ho, hp, hL⟩ := h
 cases e
 exact ⟨_, ls, A0, As, rfl, Ow.clip ho, hp, hL⟩
theorem addr_add0 (a : Addr) (sz : Nat) : a.add (0 * sz) = a := by
 rw [Nat.zero_mul]
 obtain ⟨x, y, z⟩ := a
 rfl
theorem sb_zero0 (c : Nat) (b : Option Addr) (sz : Nat) : subBase c 0 b sz = b := by
 rw [subBase_eq]
 split
 ·rfl
 cases b with
 | none => rfl
 | some a => rw [Option.map_some, addr_add0]
theorem clipPairs_ct (b : Option Addr) (n c : Nat) (h : n ≤ c) : Ct prog 180 [.slice b n c] [] (fun _ => True) (fun v A => v = .slice b n n ∧ A = []) := by
 refine Ct.intro0 G_ok func180 rfl rfl rfl fun E H hp => ?_
 refine VC.intro ?_ ?_
 ·omega
 refine VC.intro ?_ ?_
 ·omega
 exact ⟨[], ⟨by rw [sb_zero0]; simp, rfl⟩, .mem (by simp)⟩
end
section
attribute [local irreducible] IntKind.wrap namesM queryM nfaOf
def takeW (a : Nfa) (at' : Int) (w : Walk) : Bool := decide (w.atom = at') && (inR 0 ((a.ends.length : Int) - 1) w.state && (a.ends[w.state.toNat]?.getD false))
def pickW (a : Nfa) (at' : Int) (ws : List Walk) : List (List Int) := (ws.filter (takeW a at')).map fun w => [w.src, w.at']
theorem pick_yes {a : Nfa} {at' : Int} {ws : List Walk} {k : Nat} (hk : k < ws.length) (h : takeW a at' (ws[k]?.getD default) = true) : pickW a at' (ws.take (k + 1)) = pickW a at' (ws.take k) ++ [[(ws[k]?.getD default).src, (ws[k]?.getD default).at']] := by
 rw [List.getElem?_eq_getElem hk] at *
 unfold pickW
 rw [← List.take_append_getElem hk, List.filter_append, List.map_append, List.filter_cons_of_pos (by exact h)]; rfl
theorem pick_no {a : Nfa} {at' : Int} {ws : List Walk} {k : Nat} (hk : k < ws.length) (h : takeW a at' (ws[k]?.getD default) = false) : pickW a at' (ws.take (k + 1)) = pickW a at' (ws.take k) := by
 rw [List.getElem?_eq_getElem hk] at h
 unfold pickW
 rw [← List.take_append_getElem hk, List.filter_append, List.filter_cons_of_neg (by show ¬ takeW a at' ws[k] = true; rw [show takeW a at' ws[k] = false from h]; decide)]; simp
theorem pick_len (a : Nfa) (at' : Int) (ws : List Walk) : (pickW a at' ws).length ≤ ws.length := by
 unfold pickW; rw [List.length_map]; exact List.length_filter_le ..
theorem tw_no1 {a : Nfa} {at' : Int} {w : Walk} (h : ¬ w.atom = at') : takeW a at' w = false := by unfold takeW; rw [decide_eq_false h]; rfl
theorem tw_no2 {a : Nfa} {at' : Int} {w : Walk} (h : ¬ (0 ≤ w.state ∧ w.state < (a.ends.length : Int))) : takeW a at' w = false := by
 have : inR 0 ((a.ends.length : Int) - 1) w.state = false := by
  cases h2 : inR 0 ((a.ends.length : Int) - 1) w.state with
  | false => rfl
  | true => have := inR_iff.1 h2; omega
 unfold takeW; rw [this]; simp
theorem tw_no3 {a : Nfa} {at' : Int} {w : Walk} (h : (a.ends[w.state.toNat]?.getD false) = false) : takeW a at' w = false := by unfold takeW; rw [h]; simp
theorem tw_yes {a : Nfa} {at' : Int} {w : Walk} (h : w.atom = at') (h1 : 0 ≤ w.state ∧ w.state < (a.ends.length : Int)) (h2 : (a.ends[w.state.toNat]?.getD false) = true) : takeW a at' w = true := by
 unfold takeW; rw [decide_eq_true h, inR_iff.2 (by omega), h2]; rfl
noncomputable def pairsM (x : Query) (ws : List Walk) (at' : Int) : List (List Int) :=
 if queryM x = true ∧ inR 0 ((x.atoms.length : Int) - 1) at' = true then rowsI (zK (pickW ((nfasM x.atoms)[at'.toNat]?.getD default) at' ws)) else []
theorem pairs_no1 {x : Query} {ws : List Walk} {at' : Int} (h : queryM x = false) : pairsM x ws at' = [] := if_neg fun e => by rw [h] at e; cases e.1
theorem pairs_no2 {x : Query} {ws : List Walk} {at' : Int} (h : inR 0 ((x.atoms.length : Int) - 1) at' = false) : pairsM x ws at' = [] := if_neg fun e => by rw [h] at e; cases e.2
theorem pairs_yes {x : Query} {ws : List Walk} {at' : Int} (h : queryM x = true) (h2 : inR 0 ((x.atoms.length : Int) - 1) at' = true) : pairsM x ws at' = rowsI (zK (pickW ((nfasM x.atoms)[at'.toNat]?.getD default) at' ws)) := if_pos ⟨h, h2⟩
theorem pairs_done {x : Query} {ws : List Walk} {at' : Int} {ps xs' xs : List (List Int)} (h : queryM x = true) (h2 : inR 0 ((x.atoms.length : Int) - 1) at' = true) (hp : ps = pickW ((nfasM x.atoms)[at'.toNat]?.getD default) at' ws) (hs : xs'.Perm ps) (hu : upL xs) (hm : ∀ r, r ∈ xs ↔ r ∈ xs') : xs = pairsM x ws at' := by
 rw [pairs_yes h h2]
 refine up_unique hu (sortedR_up (zK_inv _).1) fun r => ?_
 rw [hm, zK_mem, ← hp]; exact hs.mem_iff
theorem isAtomV_ct (l : List Value) (q : Query) (i : Int) : Ct prog 73 [.agg ⟨l⟩, .int .i64 i] [] (fun H => gQuery.rd H l q) (fun v A => v = .bool (inR 0 ((q.atoms.length : Int) - 1) i) ∧ A = []) := by
 refine Ct.intro0 G_ok func73 rfl rfl rfl fun E H hp => ?_
 obtain ⟨b1p, c1p, b2p, c2p, b3p, c3p, rfl, h1p, h2p, h3p⟩ := gQuery_rd.1 hp
 refine ⟨fun x0 => ?_⟩
 refine ⟨fun q1 => ?_, fun q1 => ?_⟩
 ·simp at q1
  exact ⟨[], ⟨by unfold inR; rw [decide_eq_true (by omega : (0 : Int) ≤ i), Bool.true_and]; congr 1; rw [decide_eq_decide]; omega, rfl⟩, .mem (by simp)⟩
 ·simp at q1
  exact ⟨[], ⟨by unfold inR; rw [decide_eq_false (by omega : ¬ (0 : Int) ≤ i), Bool.false_and], rfl⟩, .mem (by simp)⟩
theorem litI2_ow {x : Nat} {T : TypeId} {a b : Int} (ha : okI a) (hb : okI b) : (gSl T gI).ow [.slice (some ⟨x, 0, none⟩) 2 2] [a, b] [(x, Obj.cells ⟨[.int .i64 a, .int .i64 b]⟩ T)] := by
 refine ow_fl (f := flInt) ⟨fun y hy => ?_, by simp, some ⟨x, 0, none⟩, 2, rfl, .inr ⟨x, [], rfl, rfl, Nat.le_refl _, Nat.zero_le _⟩⟩
 rcases List.mem_cons.1 hy with rfl | hy
 ·exact ha
 rw [List.mem_singleton.1 hy]; exact hb
theorem implPairsIn_ct (l : List Value) (b : Option Addr) (m c : Nat) (x : Query) (ws : List Walk) (at' : Int) (hx : gQuery.sz x ≤ 1048576) (hws : ws.length ≤ 1048576) :
  Ct prog 95 [.agg ⟨l⟩, .slice b m c, .int .i64 at'] [] (fun H => gQuery.rd H l x ∧ (gSl 164 gWalk).rd H [.slice b m c] ws)
   (fun v A => ∃ b c, v = .slice b (pairsM x ws at').length c ∧ (gSl 27 (gSl 3 gI)).ow [.slice b (pairsM x ws at').length c] (pairsM x ws at') A) := by
 refine Ct.intro0 G_ok func95 rfl rfl rfl fun E H hp => ?_
 obtain ⟨hp, hq⟩ := hp
 obtain ⟨rfl, hcl, hl⟩ := sl_len hq
 obtain ⟨b1p, c1p, b2p, c2p, b3p, c3p, rfl, h1p, h2p, h3p⟩ := gQuery_rd.1 hp
 have hal := atoms_len hx
 have hwA : IntKind.i64.wrap ((x.atoms.length : Int) - 1) = (x.atoms.length : Int) - 1 := wrap_of (by omega) (by omega)
 refine ⟨fun x0 => ?_⟩
 refine call_val (implQueryOk_ct _ (x) ?_) (Rp.mono _ (mem_at 0 rfl) hp) ?_
 ·trivial
 rintro _ rfl
 refine ⟨fun q2 => ?_, fun q2 => ?_⟩
 ·simp at q2
  (rw [pairs_no1 (by assumption)]; exact ⟨[], ⟨_, _, rfl, sl_nil _ _ _⟩, .mem (by simp)⟩)
 ·simp at q2
  refine call_val (isAtomV_ct _ x _) (Rp.mono _ (mem_at 0 rfl) hp) ?_
  rintro _ rfl
  refine ⟨fun q4 => ?_, fun q4 => ?_⟩
  ·simp at q4
   (rw [pairs_no2 (by assumption)]; exact ⟨[], ⟨_, _, rfl, sl_nil _ _ _⟩, .mem (by simp)⟩)
  ·simp at q4
   have hai := inR_iff.1 ‹inR 0 _ at' = true›
   refine call_new (automataOf_ct _ (x) ?_) (Rp.mono _ (mem_at 0 rfl) hp) ?_
   ·trivial
   rintro v5 A5 o5
   obtain ⟨b5, c5, rfl, o5⟩ := o5
   refine idx_rd (Gt.owrd _ o5) ?_ ?_ fun b6 o6 hb6 => ?_
   ·omega
   ·(rw [nfas_len]; omega)
   refine load_part default 2 (Gt.owrd _ o5) ?_ ?_ hb6 rfl (by decide) (mem_at 0 rfl) fun l7 hl7 => ?_
   ·omega
   ·(rw [nfas_len]; omega)
   obtain ⟨b1x7, c1x7, b2x7, c2x7, rfl, w0x7, h1x7, h2x7⟩ := gNfa_rd.1 hl7
   apply loop_mod (α := (Nat) × (List (List Int)) × (Hp) × (Option Addr) × (Nat)) G_ok [29, 30, 31, 10, 32, 33, 34, 35, 36, 37, 38, 39, 40, 41, 42, 43, 44, 45, 46, 47, 48, 49, 50, 51, 52, 53, 54, 55, 56, 57, 58, 59, 60, 61, 62, 8, 63, 28] (fun z => [(28, .v (.int .i64 z.1)), (8, .v (.slice z.2.2.2.1 z.2.1.length z.2.2.2.2))]) (fun z => [{ id := x0, cs := [Value.bool x.each, Value.slice b1p x.out.length c1p, Value.slice b2p x.atoms.length c2p, Value.slice b3p x.filters.length c3p], ty := (39 : Nat) }]) (fun z => [z.2.2.1, A5, H]) (fun z => ws.length - z.1) (fun z => z.1 ≤ ws.length ∧ z.2.1 = pickW ((nfasM x.atoms)[at'.toNat]?.getD default) at' (ws.take z.1) ∧ (gSl 27 (gSl 3 gI)).ow [.slice z.2.2.2.1 z.2.1.length z.2.2.2.2] z.2.1 z.2.2.1) ((0, [], [], none, 0))
   ·exact frI
   ·exact ⟨rfl, trivial⟩
   ·try dsimp only
    exact ⟨Nat.zero_le _, rfl, sl_nil _ _ _⟩
   ·exact .refl _
   rintro ⟨k, ps, D, lb, lc⟩ hI
   try dsimp only at hI
   obtain ⟨hk, hps, oD⟩ := hI
   try dsimp only
   refine ⟨fun q8 => ?_, fun q8 => ?_⟩
   ·simp at q8
    have hpl : ps.length ≤ ws.length := (by rw [hps]; exact Nat.le_trans (pick_len _ _ _) (by rw [List.length_take]; omega))
    refine idx_rd hq ?_ ?_ fun b9 o9 hb9 => ?_
    ·omega
    ·omega
    refine load_allN default (k) rfl hq ?_ ?_ hb9 rfl (mem_at 2 rfl) fun l10 hl10 => ?_
    ·omega
    ·omega
    obtain ⟨rfl, w0x10, w1x10, w2x10, w3x10⟩ := gWalk_rd.1 hl10
    refine ⟨fun x11 => ?_⟩
    refine ⟨fun q12 => ?_, fun q12 => ?_⟩
    ·simp at q12
     refine ⟨fun q13 => ?_, fun q13 => ?_⟩
     ·simp at q13
      refine ⟨fun q14 => ?_, fun q14 => ?_⟩
      ·simp at q14
       refine idx_rd h2x7 ?_ ?_ fun b15 o15 hb15 => ?_
       ·trivial
       ·trivial
       refine load_all false h2x7 ?_ ?_ hb15 rfl (mem_at 1 rfl) fun l16 hl16 => ?_
       ·trivial
       ·trivial
       obtain ⟨rfl, hw16⟩ := hl16
       refine ⟨fun q17 => ?_, fun q17 => ?_⟩
       ·refine ⟨fun x18 => ?_⟩
        refine ⟨fun x19 => ?_⟩
        refine gappend1 (g := (gSl 3 gI)) (T := (27 : TypeId)) G_ok D _ [A5, H] ?_ oD ((litI2_ow (a := (ws[k]?.getD default).src) (b := (ws[k]?.getD default).at') (by assumption) (by assumption))) (List.mem_of_getElem? (i := 0) rfl) rfl rfl rfl rfl rfl rfl rfl rfl ?_ fun b20 c20 A20 o20 => ?_
        ·exact .le fun a => by simp [List.count_cons, List.count_append, Blk.ent, St.hall, setR, zeros, List.append]; omega
        ·omega
        apply loop_stepA (k + 1, _, _, _, _)
        ·exact .refl _
        ·exact frI
        ·exact ⟨rfl, trivial⟩
        ·try dsimp only
         exact ⟨by omega, by rw [pick_yes (by omega) (tw_yes (by assumption) (by omega) (by assumption)), hps], by assumption⟩
        try dsimp only
        omega
       ·apply loop_stepA (k + 1, _, _, _, _)
        ·exact .refl _
        ·exact frI
        ·exact ⟨rfl, trivial⟩
        ·try dsimp only
         exact ⟨by omega, by rw [pick_no (by omega) (tw_no3 (by assumption))]; exact hps, by assumption⟩
        try dsimp only
        omega
      ·simp at q14
       apply loop_stepA (k + 1, _, _, _, _)
       ·exact .refl _
       ·exact frI
       ·exact ⟨rfl, trivial⟩
       ·try dsimp only
        exact ⟨by omega, by rw [pick_no (by omega) (tw_no2 (by omega))]; exact hps, by assumption⟩
       try dsimp only
       omega
     ·simp at q13
      apply loop_stepA (k + 1, _, _, _, _)
      ·exact .refl _
      ·exact frI
      ·exact ⟨rfl, trivial⟩
      ·try dsimp only
       exact ⟨by omega, by rw [pick_no (by omega) (tw_no2 (by omega))]; exact hps, by assumption⟩
      try dsimp only
      omega
    ·simp at q12
     apply loop_stepA (k + 1, _, _, _, _)
     ·exact .refl _
     ·exact frI
     ·exact ⟨rfl, trivial⟩
     ·try dsimp only
      exact ⟨by omega, by rw [pick_no (by omega) (tw_no1 (by assumption))]; exact hps, by assumption⟩
     try dsimp only
     omega
   ·simp at q8
    have hke : k = ws.length := (by omega)
    subst hke
    rw [List.take_length] at hps
    have hpl : ps.length ≤ ws.length := (by rw [hps]; exact pick_len _ _ _)
    refine callR_part (D) [A5, H] (sortPairs_ct _ _ _ _ oD ?_) ?_ trivial ?_
    ·omega
    ·exact .refl _
    rintro _ AS ⟨rfl, xs1, hp1, hs1, oS⟩
    have hl1 := hp1.length_eq
    rw [hl1] at oS
    refine ⟨[AS], by simp, ?_⟩
    refine callR_part (AS) [A5, H] (compactPairs_ct _ _ _ _ oS ?_ hs1) ?_ trivial ?_
    ·omega
    ·exact .refl _
    rintro _ AC ⟨xs2, rfl, hu2, hm2, oC⟩
    refine ⟨[AC], by simp, ?_⟩
    have hc2 := rd_cap (Gt.owrd _ oC)
    refine call_val (clipPairs_ct _ _ _ ?_) trivial ?_
    ·trivial
    rintro _ rfl
    (have he := pairs_done (ws := ws) (by assumption) (by assumption) hps hp1 hu2 hm2; subst he; exact ⟨_, ⟨_, _, rfl, clip_ow oC⟩, rlB⟩)
end
section
attribute [local irreducible] IntKind.wrap relAt
open Classical in
noncomputable def endsR (n : Nat) (R : Nat → Nat → Prop) (u : Nat) : List Int := ((List.range n).filter fun v => decide (R u v)).map fun v => ((v : Nat) : Int)
noncomputable def pairsR (n : Nat) (R : Nat → Nat → Prop) : List (List Int) := (List.range n).flatMap fun u => (endsR n R u).map fun w => [((u : Nat) : Int), w]
def prT (L : Nat → List Int) (u k : Nat) : List (List Int) := ((List.range u).flatMap fun u => (L u).map fun w => [((u : Nat) : Int), w]) ++ ((L u).take k).map fun w => [((u : Nat) : Int), w]
theorem prT_step {L : Nat → List Int} {u k : Nat} (h : k < (L u).length) : prT L u (k + 1) = prT L u k ++ [[((u : Nat) : Int), (L u)[k]?.getD 0]] := by
 unfold prT
 rw [← List.take_append_getElem h, List.map_append, List.append_assoc, List.getElem?_eq_getElem h]; rfl
theorem prT_next {L : Nat → List Int} {u k : Nat} (h : k = (L u).length) : prT L (u + 1) 0 = prT L u k := by
 subst h
 unfold prT
 rw [List.take_length, List.take_zero, List.map_nil, List.append_nil, List.range_succ, List.flatMap_append]
 simp
theorem prT_end {L : Nat → List Int} (n : Nat) : prT L n 0 = (List.range n).flatMap fun u => (L u).map fun w => [((u : Nat) : Int), w] := by
 unfold prT; rw [List.take_zero, List.map_nil, List.append_nil]
theorem flatMap_congr9 {α β : Type} {l : List α} {f g : α → List β} (h : ∀ a ∈ l, f a = g a) : l.flatMap f = l.flatMap g := by
 induction l with
 | nil => rfl
 | cons a l ih => rw [List.flatMap_cons, List.flatMap_cons, h a List.mem_cons_self, ih fun b hb => h b (List.mem_cons_of_mem _ hb)]
theorem bits_stop {s n : Nat} (h : s < 2 ^ n) (j : Nat) : bitsL s (n + j) = bitsL s n := by
 induction j with
 | zero => rfl
 | succ j ih =>
  rw [← ih]
  exact bitsL_no (Nat.testBit_lt_two_pow (Nat.lt_of_lt_of_le h (Nat.pow_le_pow_right (by omega) (Nat.le_add_right _ _))))
open Classical in
theorem bits_ends {n : Nat} {m : List Nat} {R : Nat → Nat → Prop} (h : RepI n m R) (hn : n ≤ 32) {u : Nat} (hu : u < n) : bitsL (m[u]?.getD 0) 32 = endsR n R u := by
 have h1 := bits_stop (h.small u) (32 - n)
 rw [show n + (32 - n) = 32 by omega] at h1
 rw [h1]
 unfold bitsL endsR
 congr 1
 refine List.filter_congr fun v hv => ?_
 have h2 := h.rows u v hu (List.mem_range.1 hv)
 unfold bt at h2
 rw [Bool.eq_iff_iff, h2, decide_eq_true_iff]
theorem prT_pairs {n : Nat} {m : List Nat} {R : Nat → Nat → Prop} (h : RepI n m R) (hn : n ≤ 32) : prT (fun u => bitsL (m[u]?.getD default) 32) n 0 = pairsR n R := by
 show prT (fun u => bitsL (m[u]?.getD 0) 32) n 0 = _
 rw [prT_end]
 unfold pairsR
 exact flatMap_congr9 fun u hu => by rw [bits_ends h hn (List.mem_range.1 hu)]
theorem bsl_rng {s k : Nat} : 0 ≤ ((bitsL s 32)[k]?.getD 0) ∧ ((bitsL s 32)[k]?.getD 0) < 32 := by
 by_cases h : k < (bitsL s 32).length
 ·rw [List.getElem?_eq_getElem h, Option.getD_some]
  have h1 := List.getElem_mem h
  unfold bitsL at h1
  obtain ⟨v, h2, h3⟩ := List.mem_map.1 h1
  have h4 := List.mem_range.1 (List.mem_filter.1 h2).1
  show 0 ≤ (bitsL s 32)[k] ∧ (bitsL s 32)[k] < 32
  unfold bitsL
  rw [← h3]; omega
 rw [List.getElem?_eq_none (by omega)]; simp
theorem reached_ct (lg lp : List Value) (g : Graph) (x : Path) (hg : graphOk g = true) (hx : pathOk x = true) :
  Ct prog 291 [.agg ⟨lg⟩, .agg ⟨lp⟩] [] (fun H => gGraph.rd H lg g ∧ gPath.rd H lp x)
   (fun v D => ∃ b c m, v = .slice b m.length c ∧ (gSl 274 gU).ow [.slice b m.length c] m D ∧ RepI g.size.toNat m (relAt g.edges g.size.toNat x.pieces (x.pieces.length - 1))) := by
 refine Ct.intro0 G_ok func291 rfl rfl rfl fun E H hp => ?_
 obtain ⟨hp, hq⟩ := hp
 obtain ⟨b1p, c1p, rfl, w0p, h1p⟩ := gGraph_rd.1 hp
 obtain ⟨b0r, c0r, rfl, h0r⟩ := gPath_rd.1 hq
 refine ⟨fun x0 => ?_⟩
 refine ⟨fun x1 => ?_⟩
 refine call_new (meaningOf_ct _ x x0 _ _ g hg hx) ⟨Rp.mono _ (mem_at 0 rfl) hq, (by simp [St.hall, Blk.ent, idOf]), Rp.mono _ (mem_at 0 rfl) h1p⟩ ?_
 rintro v2 A2 o2
 obtain ⟨bM, cM, mM, rfl, oM, hrM⟩ := o2
 exact ⟨_, ⟨_, _, _, rfl, oM, hrM⟩, rlB⟩
theorem implPathPairs_ct (lg lp : List Value) (g : Graph) (x : Path) (hg : graphOk g = true) (hx : pathOk x = true) :
  Ct prog 213 [.agg ⟨lg⟩, .agg ⟨lp⟩] [] (fun H => gGraph.rd H lg g ∧ gPath.rd H lp x)
   (fun v D => ∃ b c, v = .slice b (pairsR g.size.toNat (relAt g.edges g.size.toNat x.pieces (x.pieces.length - 1))).length c ∧ (gSl 27 (gSl 3 gI)).ow [.slice b (pairsR g.size.toNat (relAt g.edges g.size.toNat x.pieces (x.pieces.length - 1))).length c] (pairsR g.size.toNat (relAt g.edges g.size.toNat x.pieces (x.pieces.length - 1))) D) := by
 refine Ct.intro0 G_ok func213 rfl rfl rfl fun E H hp => ?_
 obtain ⟨hp, hq⟩ := hp
 obtain ⟨hg1, hg2, hE⟩ := g_parts hg
 obtain ⟨n, hn⟩ : ∃ n : Nat, g.size.toNat = n := ⟨_, rfl⟩
 rw [hn]
 obtain ⟨b1p, c1p, rfl, w0p, h1p⟩ := gGraph_rd.1 hp
 obtain ⟨b0r, c0r, rfl, h0r⟩ := gPath_rd.1 hq
 refine ⟨fun x0 => ?_⟩
 refine ⟨fun x1 => ?_⟩
 refine call_val (implGraphOk_ct _ (g)) (Rp.mono _ (mem_at 0 rfl) hp) ?_
 rintro _ rfl
 refine ⟨fun q3 => ?_, fun q3 => ?_⟩
 ·simp at q3
  (rw [‹graphOk g = false›] at hg; cases hg)
 ·simp at q3
  refine call_val (implPathOk_ct _ (x)) (Rp.mono _ (mem_at 0 rfl) hq) ?_
  rintro _ rfl
  refine ⟨fun q5 => ?_, fun q5 => ?_⟩
  ·simp at q5
   (rw [‹pathOk x = false›] at hx; cases hx)
  ·simp at q5
   refine call_new (reached_ct _ _ g x hg hx) ⟨(Rp.mono _ (mem_at 0 rfl) hp), (Rp.mono _ (mem_at 0 rfl) hq)⟩ ?_
   rintro v6 A6 o6
   obtain ⟨bM, cM, m, rfl, oM, hrM⟩ := o6
   rw [hn] at hrM
   have hml := hrM.len
   have hlt : ∀ u : Nat, m[u]?.getD 0 < 4294967296 := small_lt hrM.small (by omega)
   apply loop_mod (α := (Nat) × (List (List Int)) × (Hp) × (Option Addr) × (Nat)) G_ok [23, 24, 25, 26, 6, 7, 27, 28, 29, 30, 31, 32, 33, 9, 34, 35, 36, 37, 38, 39, 5, 40, 41, 22] (fun z => [(22, .v (.int .i64 z.1)), (5, .v (.slice z.2.2.2.1 z.2.1.length z.2.2.2.2))]) (fun z => [{ id := x0, cs := [Value.int IntKind.i64 g.size, Value.slice b1p g.edges.length c1p], ty := (88 : Nat) }, { id := x1, cs := [Value.slice b0r x.pieces.length c0r], ty := (269 : Nat) }]) (fun z => [z.2.2.1, A6, H]) (fun z => m.length - z.1) (fun z => z.1 ≤ m.length ∧ z.2.1 = prT (fun u => bitsL (m[u]?.getD default) 32) z.1 0 ∧ z.2.1.length ≤ 32 * z.1 ∧ (gSl 27 (gSl 3 gI)).ow [.slice z.2.2.2.1 z.2.1.length z.2.2.2.2] z.2.1 z.2.2.1) ((0, [], [], none, 0))
   ·exact frI
   ·exact ⟨rfl, rfl, trivial⟩
   ·try dsimp only
    exact ⟨Nat.zero_le _, rfl, by simp, sl_nil _ _ _⟩
   ·exact .refl _
   rintro ⟨u, ps, D, lb, lc⟩ hI
   try dsimp only at hI
   obtain ⟨hu, hps, hpl, oD⟩ := hI
   try dsimp only
   refine ⟨fun q7 => ?_, fun q7 => ?_⟩
   ·simp at q7
    refine idx_rd (Gt.owrd _ oM) ?_ ?_ fun b8 o8 hb8 => ?_
    ·omega
    ·omega
    refine load_allN default (u) rfl (Gt.owrd _ oM) ?_ ?_ hb8 rfl (mem_at 1 rfl) fun l9 hl9 => ?_
    ·omega
    ·omega
    obtain ⟨rfl, hw9⟩ := hl9; simp only [flU] at hw9
    refine call_new (bitsIn_ct _ ?_) trivial ?_
    ·trivial
    rintro v10 A10 o10
    obtain ⟨b10, c10, rfl, o10⟩ := o10
    apply loop_mod (α := (Nat) × (List (List Int)) × (Hp) × (Option Addr) × (Nat)) G_ok [31, 32, 33, 9, 34, 35, 36, 37, 38, 39, 5, 40, 30] (fun z => [(30, .v (.int .i64 z.1)), (5, .v (.slice z.2.2.2.1 z.2.1.length z.2.2.2.2))]) (fun z => [{ id := x0, cs := [Value.int IntKind.i64 g.size, Value.slice b1p g.edges.length c1p], ty := (88 : Nat) }, { id := x1, cs := [Value.slice b0r x.pieces.length c0r], ty := (269 : Nat) }]) (fun z => [z.2.2.1, A10, A6, H]) (fun z => (bitsL (m[u]?.getD default) 32).length - z.1) (fun z => z.1 ≤ (bitsL (m[u]?.getD default) 32).length ∧ z.2.1 = prT (fun u => bitsL (m[u]?.getD default) 32) u z.1 ∧ z.2.1.length ≤ 32 * u + z.1 ∧ (gSl 27 (gSl 3 gI)).ow [.slice z.2.2.2.1 z.2.1.length z.2.2.2.2] z.2.1 z.2.2.1) ((0, ps, D, lb, lc))
    ·exact frI
    ·exact ⟨rfl, rfl, trivial⟩
    ·try dsimp only
     exact ⟨Nat.zero_le _, hps, by omega, oD⟩
    ·exact rlA
    rintro ⟨k, ps1, D1, lb1, lc1⟩ hI
    try dsimp only at hI
    obtain ⟨hk, hps1, hpl1, oD1⟩ := hI
    try dsimp only
    refine ⟨fun q11 => ?_, fun q11 => ?_⟩
    ·simp at q11
     have hbl := bitsL_len (m[u]?.getD default) 32
     have hbd : (bitsL (m[u]?.getD default) 32).length = (bitsL (m[u]?.getD 0) 32).length := rfl
     refine idx_rd (Gt.owrd _ o10) ?_ ?_ fun b12 o12 hb12 => ?_
     ·omega
     ·omega
     refine load_allN 0 (k) rfl (Gt.owrd _ o10) ?_ ?_ hb12 rfl (mem_at 1 rfl) fun l13 hl13 => ?_
     ·omega
     ·omega
     obtain ⟨rfl, hw13⟩ := hl13; simp only [flStr, flInt, okI] at hw13
     refine ⟨fun x14 => ?_⟩
     refine ⟨fun x15 => ?_⟩
     refine gappend1 (g := (gSl 3 gI)) (T := (27 : TypeId)) G_ok D1 _ [A10, A6, H] ?_ oD1 ((litI2_ow (a := ((u : Nat) : Int)) (b := ((bitsL (m[u]?.getD default) 32)[k]?.getD 0)) (by unfold okI; omega) (by have := bsl_rng (s := m[u]?.getD default) (k := k); unfold okI; omega))) (List.mem_of_getElem? (i := 0) rfl) rfl rfl rfl rfl rfl rfl rfl rfl ?_ fun b16 c16 A16 o16 => ?_
     ·exact .le fun a => by simp [List.count_cons, List.count_append, Blk.ent, St.hall, setR, zeros, List.append]; omega
     ·omega
     apply loop_stepA (k + 1, _, _, _, _)
     ·exact .refl _
     ·exact frI
     ·exact ⟨rfl, rfl, trivial⟩
     ·try dsimp only
      exact ⟨by omega, by rw [prT_step (by omega), ← hps1], by rw [List.length_append, List.length_singleton]; omega, by assumption⟩
     try dsimp only
     omega
    ·simp at q11
     have hbl := bitsL_len (m[u]?.getD default) 32
     have hbd : (bitsL (m[u]?.getD default) 32).length = (bitsL (m[u]?.getD 0) 32).length := rfl
     apply loop_stepA (u + 1, _, _, _, _)
     ·exact .sub (by repeat (first | exact .slnil | apply List.Sublist.cons_cons | apply List.Sublist.cons))
     ·exact frI
     ·exact ⟨rfl, rfl, trivial⟩
     ·try dsimp only
      exact ⟨by omega, by rw [prT_next (k := k) (by omega)]; exact hps1, by omega, oD1⟩
     try dsimp only
     omega
   ·simp at q7
    (have hue : u = n := (by omega); subst hue; rw [prT_pairs hrM (by omega)] at hps; subst hps; exact ⟨_, ⟨_, _, rfl, oD⟩, rlB⟩)
end
end Go.Proofs.YtjgehblllhkdbaaGreat
