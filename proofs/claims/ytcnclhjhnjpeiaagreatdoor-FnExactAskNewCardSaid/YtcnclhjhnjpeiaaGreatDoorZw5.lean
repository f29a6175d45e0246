/-
 Parts of the law, put together. Conditions: none.
-/
import Derived.Test.YtcnclhjhnjpeiaaGreatDoorZw4
set_option maxHeartbeats 8000000
set_option linter.unusedSimpArgs false
set_option linter.unusedVariables false
namespace Go.Proofs.YtcnclhjhnjpeiaaGreatDoor
open Go.SX Go.Proofs
open Tryz
section
attribute [local irreducible] IntKind.wrap atomM
theorem toL_nil8 {s : ByteArray} : s.toList = [] ↔ s.size = 0 := by
 have e : (ByteArray.empty).toList = [] := by simp
 constructor
 ·intro h
  have h2 : s = ByteArray.empty := str_inj.1 (h.trans e.symm)
  rw [h2]; rfl
 intro h
 have h2 := by_size s
 rw [h] at h2
 have h3 : s = ByteArray.empty := by_inj.1 (by rw [List.length_eq_zero_iff.1 h2]; rfl)
 rw [h3, e]
theorem lit2_ow {x : Nat} {a b : ByteArray} (h1 : a.size ≤ 9223372036854775807) (h2 : b.size ≤ 9223372036854775807) : (gSl 9 gS).ow [.slice (some ⟨x, 0, none⟩) 2 2] [a, b] [(x, Obj.cells ⟨[.string a, .string b]⟩ 9)] :=
 ow_fl (Ow.lit (f := flStr) (T := 9) (b := x) (xs := [a, b]) (fun y hy => (List.mem_cons.1 hy).elim (fun e => by rw [e]; exact h1) (fun hy => by rw [List.mem_singleton.1 hy]; exact h2)) (by simp))
def twoN (o : List ByteArray) (a b : ByteArray) : Nat → List ByteArray
 | 0 => o
 | 1 => addN o a
 | _ + 2 => addN (addN o a) b
theorem twoN_step {o : List ByteArray} {a b : ByteArray} {j : Nat} (h : j < 2) : twoN o a b (j + 1) = addN (twoN o a b j) ([a, b][j]?.getD ByteArray.empty) := by
 rcases (by omega : j = 0 ∨ j = 1) with rfl | rfl <;> rfl
theorem twoN_len (o : List ByteArray) (a b : ByteArray) {j : Nat} (h : j ≤ 2) : (twoN o a b j).length ≤ o.length + j := by
 rcases (by omega : j = 0 ∨ j = 1 ∨ j = 2) with rfl | rfl | rfl
 ·exact Nat.le_refl _
 ·exact addN_len o a
 have h1 := addN_len o a
 have h2 := addN_len (addN o a) b
 show (addN (addN o a) b).length ≤ _; omega
theorem implNamesOf_ct (l : List Value) (x : Query) (hx : x.atoms.length ≤ 1048576) : Ct prog 100 [.agg ⟨l⟩] [] (fun H => gQuery.rd H l x) (fun v A => ∃ b c, v = .slice b (namesM x.atoms).length c ∧ (gSl 9 gS).ow [.slice b (namesM x.atoms).length c] (namesM x.atoms) A) := by
 refine Ct.intro0 G_ok func100 rfl rfl rfl fun E H hp => ?_
 obtain ⟨b1p, c1p, b2p, c2p, b3p, c3p, rfl, h1p, h2p, h3p⟩ := gQuery_rd.1 hp
 refine ⟨fun x0 => ?_⟩
 apply loop_mod (α := (Nat) × (List ByteArray) × (Hp) × (Option Addr) × (Nat)) G_ok [12, 13, 14, 5, 15, 16, 17, 18, 19, 20, 21, 22, 23, 24, 7, 25, 26, 27, 28, 29, 30, 31, 32, 3, 33, 34, 11] (fun z => [(11, .v (.int .i64 z.1)), (3, .v (.slice z.2.2.2.1 z.2.1.length z.2.2.2.2))]) (fun z => [{ id := x0, cs := [Value.bool x.each, Value.slice b1p x.out.length c1p, Value.slice b2p x.atoms.length c2p, Value.slice b3p x.filters.length c3p], ty := (37 : Nat) }]) (fun z => [z.2.2.1, H]) (fun z => x.atoms.length - z.1) (fun z => z.1 ≤ x.atoms.length ∧ z.2.1 = namesM (x.atoms.take z.1) ∧ (gSl 9 gS).ow [.slice z.2.2.2.1 z.2.1.length z.2.2.2.2] z.2.1 z.2.2.1) ((0, [], [], _, 0))
 ·exact frI
 ·exact ⟨rfl, trivial⟩
 ·try dsimp only
  exact ⟨Nat.zero_le _, rfl, sl_nil _ _ _⟩
 ·exact .refl _
 rintro ⟨k, o, A, lb, lc⟩ hI
 try dsimp only at hI
 obtain ⟨hk, ho, oA⟩ := hI
 try dsimp only
 refine ⟨fun q1 => ?_, fun q1 => ?_⟩
 ·simp at q1
  have hlen := namesM_len x.atoms k (by omega)
  have hol : o.length ≤ 2 * k := (by rw [ho]; exact hlen)
  refine idx_rd h2p ?_ ?_ fun b2 o2 hb2 => ?_
  ·omega
  ·omega
  refine load_allN default (k) rfl h2p ?_ ?_ hb2 rfl (mem_at 1 rfl) fun l3 hl3 => ?_
  ·omega
  ·omega
  obtain ⟨rfl, w0x3, w1x3, w2x3⟩ := gAtom_rd.1 hl3
  refine ⟨fun x4 => ?_⟩
  refine ⟨fun x5 => ?_⟩
  apply loop_mod (α := (Nat) × (List ByteArray) × (Hp) × (Option Addr) × (Nat)) G_ok [22, 23, 24, 7, 25, 26, 27, 28, 29, 30, 31, 32, 3, 33, 21] (fun z => [(21, .v (.int .i64 z.1)), (3, .v (.slice z.2.2.2.1 z.2.1.length z.2.2.2.2))]) (fun z => [{ id := x0, cs := [Value.bool x.each, Value.slice b1p x.out.length c1p, Value.slice b2p x.atoms.length c2p, Value.slice b3p x.filters.length c3p], ty := (37 : Nat) }, { id := x4, cs := [Value.string (x.atoms[k]?.getD default).from', Value.string (x.atoms[k]?.getD default).path, Value.string (x.atoms[k]?.getD default).to], ty := (154 : Nat) }]) (fun z => [z.2.2.1, [(x5, Obj.cells ⟨[.string (x.atoms[k]?.getD default).from', .string (x.atoms[k]?.getD default).to]⟩ 9)], H]) (fun z => 2 - z.1) (fun z => z.1 ≤ 2 ∧ z.2.1 = twoN o (x.atoms[k]?.getD default).from' (x.atoms[k]?.getD default).to z.1 ∧ (gSl 9 gS).ow [.slice z.2.2.2.1 z.2.1.length z.2.2.2.2] z.2.1 z.2.2.1) ((0, o, A, lb, lc))
  ·exact frI
  ·exact ⟨rfl, rfl, trivial⟩
  ·try dsimp only
   exact ⟨Nat.zero_le _, rfl, oA⟩
  ·exact .le fun a => by simp [List.count_cons, List.count_append, Blk.ent, St.hall, setR, zeros, List.append]; omega
  rintro ⟨j, o2, A2, lb2, lc2⟩ hI
  try dsimp only at hI
  obtain ⟨hj, ho2, oA2⟩ := hI
  try dsimp only
  refine ⟨fun q6 => ?_, fun q6 => ?_⟩
  ·simp at q6
   have hlit := lit2_ow (x := x5) (a := (x.atoms[k]?.getD default).from') (b := (x.atoms[k]?.getD default).to) (by assumption) (by assumption)
   have hlen2 : o2.length ≤ 2 * k + 2 := (by have := twoN_len o (x.atoms[k]?.getD default).from' (x.atoms[k]?.getD default).to (j := j) (by omega); rw [ho2]; omega)
   refine idx_rd (Gt.owrd _ hlit) ?_ ?_ fun b7 o7 hb7 => ?_
   ·omega
   ·trivial
   refine load_allN ByteArray.empty (j) rfl (Gt.owrd _ hlit) ?_ ?_ hb7 rfl (mem_at 1 rfl) fun l8 hl8 => ?_
   ·omega
   ·trivial
   obtain ⟨rfl, hw8⟩ := hl8; simp only [flStr, flInt, okI] at hw8
   refine call_val (sContainsS_ct _ _ _ (o2) _) (Rp.mono _ (mem_at 0 rfl) (Gt.owrd _ oA2)) ?_
   rintro _ rfl
   refine ⟨fun q10 => ?_, fun q10 => ?_⟩
   ·simp at q10
    refine ⟨fun x11 => ?_⟩
    refine gappend1 (g := gS) (T := (9 : TypeId)) G_ok A2 [] [[(x5, Obj.cells { toList := [Value.string (x.atoms[k]?.getD default).from', Value.string (x.atoms[k]?.getD default).to] } (9 : TypeId))], H] ?_ oA2 (gS_ow ?_) (List.mem_of_getElem? (i := 0) rfl) rfl rfl rfl rfl rfl rfl rfl rfl ?_ fun b12 c12 A12 o12 => ?_
    ·exact .tl
    ·trivial
    ·omega
    apply loop_stepA (j + 1, _, _, _, _)
    ·exact .refl _
    ·exact frI
    ·exact ⟨rfl, rfl, trivial⟩
    ·try dsimp only
     exact ⟨by omega, by rw [twoN_step (by omega), ← ho2, addN_no (by assumption)], by assumption⟩
    try dsimp only
    omega
   ·simp at q10
    apply loop_stepA (j + 1, _, _, _, _)
    ·exact .refl _
    ·exact frI
    ·exact ⟨rfl, rfl, trivial⟩
    ·try dsimp only
     exact ⟨by omega, by rw [twoN_step (by omega), ← ho2, addN_yes (by assumption)], by assumption⟩
    try dsimp only
    omega
  ·simp at q6
   apply loop_stepA (k + 1, _, _, _, _)
   ·exact .sub (by repeat (first | exact .slnil | apply List.Sublist.cons_cons | apply List.Sublist.cons))
   ·exact frI
   ·exact ⟨rfl, trivial⟩
   ·try dsimp only
    (have hje : j = 2 := (by omega); subst hje; exact ⟨by omega, by rw [ho2, ho, namesM_step (by omega)]; rfl, by assumption⟩)
   try dsimp only
   omega
 ·simp at q1
  (have hke : k = x.atoms.length := (by omega); subst hke; rw [List.take_length] at ho; subst ho; exact ⟨_, ⟨_, _, rfl, by assumption⟩, rlB⟩)
def distM (l : List ByteArray) : Bool := allK (fun i => !hasS (l.take i) (l[i]?.getD ByteArray.empty)) l.length
theorem dist_no {l : List ByteArray} {k : Nat} (hk : k < l.length) (h : hasS (l.take k) (l[k]?.getD ByteArray.empty) = true) : distM l = false := by
 unfold distM; rw [allK_no (p := fun i => !hasS (l.take i) (l[i]?.getD ByteArray.empty)) (k := k) (by simp [h]) _ hk]
theorem dist_no2 {l : List ByteArray} {k : Nat} (hk : k < l.length) (h : hasS ((l.take ((k : Nat) : Int).toNat).drop 0) (l[k]?.getD ByteArray.empty) = true) : distM l = false := dist_no hk h
theorem dist_step {l : List ByteArray} {k : Nat} (h : hasS ((l.take ((k : Nat) : Int).toNat).drop 0) (l[k]?.getD ByteArray.empty) = false) : (!hasS (l.take k) (l[k]?.getD ByteArray.empty)) = true := by
 have h : hasS (l.take k) (l[k]?.getD ByteArray.empty) = false := h
 rw [h]; rfl
theorem areDistinct_ct (b : Option Addr) (m c : Nat) (xs : List ByteArray) : Ct prog 146 [.slice b m c] [] (fun H => (gSl 9 gS).rd H [.slice b m c] xs) (fun v A => v = .bool (distM xs) ∧ A = []) := by
 refine Ct.intro0 G_ok func146 rfl rfl rfl fun E H hp => ?_
 obtain ⟨rfl, hcl, hl⟩ := sl_len hp
 apply loop_mod (α := (Nat)) G_ok [8, 9, 10, 11, 3, 4, 12, 13, 14, 15, 16, 2, 17, 7] (fun z => [(7, .v (.int .i64 z))]) (fun z => []) (fun z => [H]) (fun z => xs.length - z) (fun z => z ≤ xs.length ∧ allK (fun i => !hasS (xs.take i) (xs[i]?.getD ByteArray.empty)) z = true) ((0))
 ·exact frI
 ·exact trivial
 ·exact ⟨Nat.zero_le _, rfl⟩
 ·exact .refl _
 rintro k hI
 try dsimp only at hI
 obtain ⟨hk, ha⟩ := hI
 try dsimp only
 refine ⟨fun q0 => ?_, fun q0 => ?_⟩
 ·simp at q0
  refine idx_rd hp ?_ ?_ fun b1 o1 hb1 => ?_
  ·omega
  ·omega
  refine load_allN ByteArray.empty (k) rfl hp ?_ ?_ hb1 rfl (mem_at 0 rfl) fun l2 hl2 => ?_
  ·omega
  ·omega
  obtain ⟨rfl, hw2⟩ := hl2; simp only [flStr, flInt, okI] at hw2
  refine VC.intro ?_ ?_
  ·omega
  refine call_val (sContainsS_ct _ _ _ ((xs.take ((k : Nat) : Int).toNat).drop 0) _) (Rp.mono _ (mem_at 0 rfl) (rd_sub (r := gS.toRp) (l := 0) (h := ((k : Nat) : Int).toNat) hp (by omega) (by omega))) ?_
  rintro _ rfl
  refine ⟨fun q4 => ?_, fun q4 => ?_⟩
  ·simp at q4
   exact ⟨[], ⟨by rw [dist_no2 (k := k) (by omega) (by assumption)], rfl⟩, .mem (by simp)⟩
  ·simp at q4
   apply loop_stepA (k + 1)
   ·exact .refl _
   ·exact frI
   ·exact trivial
   ·exact ⟨by omega, allK_step ha (dist_step (by assumption))⟩
   omega
 ·simp at q0
  (have hke : k = xs.length := (by omega); subst hke; exact ⟨[], ⟨congrArg Value.bool ha.symm, rfl⟩, .mem (by simp)⟩)
def inAll (l s : List ByteArray) : Bool := allK (fun i => hasS l (s[i]?.getD ByteArray.empty)) s.length
theorem inAll_no {l s : List ByteArray} {k : Nat} (hk : k < s.length) (h : hasS l (s[k]?.getD ByteArray.empty) = false) : inAll l s = false := by
 unfold inAll; rw [allK_no (p := fun i => hasS l (s[i]?.getD ByteArray.empty)) (k := k) h _ hk]
theorem containsAll_ct (b : Option Addr) (m c : Nat) (b2 : Option Addr) (m2 c2 : Nat) (xs ys : List ByteArray) : Ct prog 147 [.slice b m c, .slice b2 m2 c2] [] (fun H => (gSl 9 gS).rd H [.slice b m c] xs ∧ (gSl 9 gS).rd H [.slice b2 m2 c2] ys) (fun v A => v = .bool (inAll xs ys) ∧ A = []) := by
 refine Ct.intro0 G_ok func147 rfl rfl rfl fun E H hp => ?_
 obtain ⟨hp, hq⟩ := hp
 obtain ⟨rfl, hcl, hl⟩ := sl_len hp
 obtain ⟨rfl, hcl2, hl2⟩ := sl_len hq
 apply loop_mod (α := (Nat)) G_ok [10, 11, 12, 6, 13, 14, 15, 16, 4, 17, 9] (fun z => [(9, .v (.int .i64 z))]) (fun z => []) (fun z => [H]) (fun z => ys.length - z) (fun z => z ≤ ys.length ∧ allK (fun i => hasS xs (ys[i]?.getD ByteArray.empty)) z = true) ((0))
 ·exact frI
 ·exact trivial
 ·exact ⟨Nat.zero_le _, rfl⟩
 ·exact .refl _
 rintro k hI
 try dsimp only at hI
 obtain ⟨hk, ha⟩ := hI
 try dsimp only
 refine ⟨fun q0 => ?_, fun q0 => ?_⟩
 ·simp at q0
  refine idx_rd hq ?_ ?_ fun b1 o1 hb1 => ?_
  ·omega
  ·omega
  refine load_allN ByteArray.empty (k) rfl hq ?_ ?_ hb1 rfl (mem_at 0 rfl) fun l2 hl2 => ?_
  ·omega
  ·omega
  obtain ⟨rfl, hw2⟩ := hl2; simp only [flStr, flInt, okI] at hw2
  refine call_val (sContainsS_ct _ _ _ (xs) _) (Rp.mono _ (mem_at 0 rfl) hp) ?_
  rintro _ rfl
  refine ⟨fun q4 => ?_, fun q4 => ?_⟩
  ·simp at q4
   exact ⟨[], ⟨by rw [inAll_no (k := k) (by omega) (by assumption)], rfl⟩, .mem (by simp)⟩
  ·simp at q4
   apply loop_stepA (k + 1)
   ·exact .refl _
   ·exact frI
   ·exact trivial
   ·exact ⟨by omega, allK_step ha (by assumption)⟩
   omega
 ·simp at q0
  (have hke : k = ys.length := (by omega); subst hke; exact ⟨[], ⟨congrArg Value.bool ha.symm, rfl⟩, .mem (by simp)⟩)
theorem isOp_ct (n : Int) : Ct prog 180 [.int .i64 n] [] (fun _ => True) (fun v A => v = .bool (inR 1 2 n) ∧ A = []) := by
 refine Ct.intro0 G_ok func180 rfl rfl rfl fun E H hp => ?_
 refine ⟨fun q0 => ?_, fun q0 => ?_⟩
 ·simp at q0
  exact ⟨[], ⟨congrArg Value.bool (by unfold inR; rw [Bool.eq_iff_iff]; simp; omega), rfl⟩, .mem (by simp)⟩
 ·simp at q0
  exact ⟨[], ⟨congrArg Value.bool (by unfold inR; rw [Bool.eq_iff_iff]; simp; omega), rfl⟩, .mem (by simp)⟩
def filterM (ns : List ByteArray) (f : Filter) : Bool := hasS ns f.left && (inR 1 2 f.op && (if f.right.size = 0 then inR 0 99 f.num else decide (f.num = 0) && hasS ns f.right))
theorem filterOk_ct (l : List Value) (b : Option Addr) (m c : Nat) (f : Filter) (ns : List ByteArray) : Ct prog 148 [.agg ⟨l⟩, .slice b m c] [] (fun H => gFilter.rd H l f ∧ (gSl 9 gS).rd H [.slice b m c] ns) (fun v A => v = .bool (filterM ns f) ∧ A = []) := by
 refine Ct.intro0 G_ok func148 rfl rfl rfl fun E H hp => ?_
 obtain ⟨hp, hq⟩ := hp
 obtain ⟨rfl, w0p, w1p, w2p, w3p⟩ := gFilter_rd.1 hp
 refine ⟨fun x0 => ?_⟩
 refine call_val (sContainsS_ct _ _ _ (ns) _) (Rp.mono _ (mem_at 0 rfl) hq) ?_
 rintro _ rfl
 refine ⟨fun q2 => ?_, fun q2 => ?_⟩
 ·simp at q2
  exact ⟨[], ⟨congrArg Value.bool (by unfold filterM; rw [‹hasS ns f.left = false›]; rfl), rfl⟩, .mem (by simp)⟩
 ·simp at q2
  refine call_val (isOp_ct _) trivial ?_
  rintro _ rfl
  refine ⟨fun q4 => ?_, fun q4 => ?_⟩
  ·simp at q4
   exact ⟨[], ⟨congrArg Value.bool (by unfold filterM; rw [‹inR 1 2 f.op = false›]; simp), rfl⟩, .mem (by simp)⟩
  ·simp at q4
   refine ⟨fun q5 => ?_, fun q5 => ?_⟩
   ·simp at q5
    have iq5 := toL_nil8.1 q5
    refine ⟨fun q6 => ?_, fun q6 => ?_⟩
    ·simp at q6
     exact ⟨[], ⟨congrArg Value.bool (by unfold filterM; rw [‹hasS ns f.left = true›, ‹inR 1 2 f.op = true›, if_pos (by assumption)]; unfold inR; rw [Bool.eq_iff_iff]; simp; omega), rfl⟩, .mem (by simp)⟩
    ·simp at q6
     exact ⟨[], ⟨congrArg Value.bool (by unfold filterM; rw [‹hasS ns f.left = true›, ‹inR 1 2 f.op = true›, if_pos (by assumption)]; unfold inR; rw [Bool.eq_iff_iff]; simp; omega), rfl⟩, .mem (by simp)⟩
   ·simp at q5
    have iq5 := mt toL_nil8.2 q5
    refine ⟨fun q7 => ?_, fun q7 => ?_⟩
    ·simp at q7
     refine call_val (sContainsS_ct _ _ _ (ns) _) (Rp.mono _ (mem_at 0 rfl) hq) ?_
     rintro _ rfl
     exact ⟨[], ⟨congrArg Value.bool (by unfold filterM; rw [‹hasS ns f.left = true›, ‹inR 1 2 f.op = true›, if_neg (by assumption), decide_eq_true (by assumption)]; rfl), rfl⟩, .mem (by simp)⟩
    ·simp at q7
     exact ⟨[], ⟨congrArg Value.bool (by unfold filterM; rw [‹hasS ns f.left = true›, ‹inR 1 2 f.op = true›, if_neg (by assumption), decide_eq_false (by assumption)]; rfl), rfl⟩, .mem (by simp)⟩
end
section
attribute [local irreducible] IntKind.wrap atomM namesM
def queryP (x : Query) : Prop := (1 ≤ x.atoms.length ∧ x.atoms.length ≤ 4 ∧ x.filters.length ≤ 3 ∧ 1 ≤ x.out.length ∧ x.out.length ≤ 4 ∧ (namesM x.atoms).length ≤ 4) ∧
 (∀ k, k < x.atoms.length → atomM (x.atoms[k]?.getD default) = true) ∧ distM x.out = true ∧ inAll (namesM x.atoms) x.out = true ∧ ∀ k, k < x.filters.length → filterM (namesM x.atoms) (x.filters[k]?.getD default) = true
open Classical in
noncomputable def queryM (x : Query) : Bool := decide (queryP x)
open Classical in
theorem q_no {x : Query} (h : ¬ queryP x) : queryM x = false := by unfold queryM; exact decide_eq_false h
open Classical in
theorem q_yes {x : Query} (h : queryP x) : queryM x = true := by unfold queryM; exact decide_eq_true h
theorem sz_at8 {α : Type} (g : Gt α) (z : α) : ∀ (xs : List α) (k : Nat), k < xs.length → g.sz (xs[k]?.getD z) + 1 ≤ szL g xs
 | [], k, h => absurd h (by simp)
 | x :: r, 0, _ => by rw [show szL g (x :: r) = 1 + g.sz x + szL g r from rfl]; show g.sz x + 1 ≤ _; omega
 | x :: r, k + 1, h => by
  have := sz_at8 g z r k (by simpa using h)
  rw [show szL g (x :: r) = 1 + g.sz x + szL g r from rfl]
  show g.sz (r[k]?.getD z) + 1 ≤ _; omega
theorem atoms_path {x : Query} (h : gQuery.sz x ≤ 1048576) {k : Nat} (hk : k < x.atoms.length) : (x.atoms[k]?.getD default).path.size ≤ 1048576 := by
 have h1 := gQuery_sz x
 have h2 := sz_at8 gAtom default x.atoms k hk
 have h3 := gAtom_sz (x.atoms[k]?.getD default)
 omega
theorem ff {b : Bool} (h1 : b = true) (h2 : b = false) : False := by rw [h1] at h2; cases h2
theorem implQueryOk_ct (l : List Value) (x : Query) (hx : gQuery.sz x ≤ 1048576) : Ct prog 99 [.agg ⟨l⟩] [] (fun H => gQuery.rd H l x) (fun v A => v = .bool (queryM x) ∧ A = []) := by
 refine Ct.intro0 G_ok func99 rfl rfl rfl fun E H hp => ?_
 obtain ⟨b1p, c1p, b2p, c2p, b3p, c3p, rfl, h1p, h2p, h3p⟩ := gQuery_rd.1 hp
 have ez := gQuery_sz x
 have en1 := len_szL gS x.out
 have en2 := len_szL gAtom x.atoms
 have en3 := len_szL gFilter x.filters
 refine ⟨fun x0 => ?_⟩
 refine ⟨fun q1 => ?_, fun q1 => ?_⟩
 ·simp at q1
  exact ⟨[], ⟨by rw [q_no fun h => by (have := h.1; omega)], rfl⟩, .mem (by simp)⟩
 ·simp at q1
  refine ⟨fun q2 => ?_, fun q2 => ?_⟩
  ·simp at q2
   exact ⟨[], ⟨by rw [q_no fun h => by (have := h.1; omega)], rfl⟩, .mem (by simp)⟩
  ·simp at q2
   refine ⟨fun q3 => ?_, fun q3 => ?_⟩
   ·simp at q3
    exact ⟨[], ⟨by rw [q_no fun h => by (have := h.1; omega)], rfl⟩, .mem (by simp)⟩
   ·simp at q3
    apply loop_mod (α := (Nat)) G_ok [28, 29, 30, 4, 31, 32, 33, 2, 34, 27] (fun z => [(27, .v (.int .i64 z))]) (fun z => [{ id := x0, cs := [Value.bool x.each, Value.slice b1p x.out.length c1p, Value.slice b2p x.atoms.length c2p, Value.slice b3p x.filters.length c3p], ty := (37 : Nat) }]) (fun z => [H]) (fun z => x.atoms.length - z) (fun z => z ≤ x.atoms.length ∧ allK (fun i => atomM (x.atoms[i]?.getD default)) z = true) ((0))
    ·exact frI
    ·exact ⟨rfl, trivial⟩
    ·exact ⟨Nat.zero_le _, rfl⟩
    ·exact .refl _
    rintro k hI
    try dsimp only at hI
    obtain ⟨hk, ha⟩ := hI
    try dsimp only
    refine ⟨fun q4 => ?_, fun q4 => ?_⟩
    ·simp at q4
     refine idx_rd h2p ?_ ?_ fun b5 o5 hb5 => ?_
     ·omega
     ·omega
     refine load_allN default (k) rfl h2p ?_ ?_ hb5 rfl (mem_at 0 rfl) fun l6 hl6 => ?_
     ·omega
     ·omega
     obtain ⟨rfl, w0x6, w1x6, w2x6⟩ := gAtom_rd.1 hl6
     refine ⟨fun x7 => ?_⟩
     refine call_val (atomOk_ct _ (x.atoms[k]?.getD default) ?_) (Rp.mono _ (mem_at 0 rfl) hl6) ?_
     ·exact Nat.le_trans (atoms_path hx (by omega)) (by decide)
     rintro _ rfl
     refine ⟨fun q9 => ?_, fun q9 => ?_⟩
     ·simp at q9
      exact ⟨[], ⟨by rw [q_no fun h => ff (h.2.1 k (by omega)) (by assumption)], rfl⟩, .mem (by simp)⟩
     ·simp at q9
      apply loop_stepA (k + 1)
      ·exact .refl _
      ·exact frI
      ·exact ⟨rfl, trivial⟩
      ·exact ⟨by omega, allK_step ha (by assumption)⟩
      omega
    ·simp at q4
     refine call_new (implNamesOf_ct _ x ?_) (Rp.mono _ (mem_at 0 rfl) hp) ?_
     ·omega
     rintro v10 A10 o10
     obtain ⟨bN, cN, rfl, oN⟩ := o10
     have rN := Gt.owrd _ oN
     refine ⟨fun q11 => ?_, fun q11 => ?_⟩
     ·simp at q11
      exact ⟨[], ⟨by rw [q_no fun h => by (have := h.1; omega)], rfl⟩, .mem (by simp)⟩
     ·simp at q11
      refine ⟨fun q12 => ?_, fun q12 => ?_⟩
      ·simp at q12
       exact ⟨[], ⟨by rw [q_no fun h => by (have := h.1; omega)], rfl⟩, .mem (by simp)⟩
      ·simp at q12
       refine ⟨fun q13 => ?_, fun q13 => ?_⟩
       ·simp at q13
        exact ⟨[], ⟨by rw [q_no fun h => by (have := h.1; omega)], rfl⟩, .mem (by simp)⟩
       ·simp at q13
        refine call_val (areDistinct_ct _ _ _ (x.out)) (Rp.mono _ (mem_at 1 rfl) h1p) ?_
        rintro _ rfl
        refine ⟨fun q15 => ?_, fun q15 => ?_⟩
        ·simp at q15
         exact ⟨[], ⟨by rw [q_no fun h => ff h.2.2.1 (by assumption)], rfl⟩, .mem (by simp)⟩
        ·simp at q15
         refine call_val (containsAll_ct _ _ _ _ _ _ (namesM x.atoms) (x.out)) ⟨(Rp.mono _ (mem_at 0 rfl) rN), (Rp.mono _ (mem_at 1 rfl) h1p)⟩ ?_
         rintro _ rfl
         refine ⟨fun q17 => ?_, fun q17 => ?_⟩
         ·simp at q17
          exact ⟨[], ⟨by rw [q_no fun h => ff h.2.2.2.1 (by assumption)], rfl⟩, .mem (by simp)⟩
         ·simp at q17
          apply loop_mod (α := (Nat)) G_ok [67, 68, 69, 7, 70, 71, 72, 73, 2, 74, 66] (fun z => [(66, .v (.int .i64 z))]) (fun z => [{ id := x0, cs := [Value.bool x.each, Value.slice b1p x.out.length c1p, Value.slice b2p x.atoms.length c2p, Value.slice b3p x.filters.length c3p], ty := (37 : Nat) }]) (fun z => [A10, H]) (fun z => x.filters.length - z) (fun z => z ≤ x.filters.length ∧ allK (fun i => filterM (namesM x.atoms) (x.filters[i]?.getD default)) z = true) ((0))
          ·exact frI
          ·exact ⟨rfl, trivial⟩
          ·exact ⟨Nat.zero_le _, rfl⟩
          ·exact .refl _
          rintro j hI
          try dsimp only at hI
          obtain ⟨hj, hf⟩ := hI
          try dsimp only
          refine ⟨fun q18 => ?_, fun q18 => ?_⟩
          ·simp at q18
           refine idx_rd h3p ?_ ?_ fun b19 o19 hb19 => ?_
           ·omega
           ·omega
           refine load_allN default (j) rfl h3p ?_ ?_ hb19 rfl (mem_at 1 rfl) fun l20 hl20 => ?_
           ·omega
           ·omega
           obtain ⟨rfl, w0x20, w1x20, w2x20, w3x20⟩ := gFilter_rd.1 hl20
           refine ⟨fun x21 => ?_⟩
           refine call_val (filterOk_ct _ _ _ _ (x.filters[j]?.getD default) (namesM x.atoms)) ⟨(Rp.mono _ (mem_at 1 rfl) hl20), (Rp.mono _ (mem_at 0 rfl) rN)⟩ ?_
           rintro _ rfl
           refine ⟨fun q23 => ?_, fun q23 => ?_⟩
           ·simp at q23
            exact ⟨[], ⟨by rw [q_no fun h => ff (h.2.2.2.2 j (by omega)) (by assumption)], rfl⟩, .mem (by simp)⟩
           ·simp at q23
            apply loop_stepA (j + 1)
            ·exact .refl _
            ·exact frI
            ·exact ⟨rfl, trivial⟩
            ·exact ⟨by omega, allK_step hf (by assumption)⟩
            omega
          ·simp at q18
           (have hke : k = x.atoms.length := (by omega); have hje : j = x.filters.length := (by omega); rw [hke] at ha; rw [hje] at hf; exact ⟨[], ⟨by rw [q_yes ⟨by omega, fun i hi => allK_at ha i hi, by assumption, by assumption, fun i hi => allK_at hf i hi⟩], rfl⟩, .mem (by simp)⟩)
theorem q_last {x : Query} (h1 : 1 ≤ x.atoms.length ∧ x.atoms.length ≤ 4 ∧ x.filters.length ≤ 3 ∧ 1 ≤ x.out.length ∧ x.out.length ≤ 4) (h2 : allK (fun i => atomM (x.atoms[i]?.getD default)) x.atoms.length = true) (h3 : allK (fun i => hasS (namesM x.atoms) (x.out[i]?.getD ByteArray.empty)) x.out.length = true) (h4 : allK (fun i => !hasS (x.out.take i) (x.out[i]?.getD ByteArray.empty)) x.out.length = true) (h5 : allK (fun i => filterM (namesM x.atoms) (x.filters[i]?.getD default)) x.filters.length = true) : queryM x = decide (((namesM x.atoms).length : Int) ≤ 4) := by
 by_cases h : (namesM x.atoms).length ≤ 4
 ·rw [q_yes ⟨by omega, fun i hi => allK_at h2 i hi, h4, h3, fun i hi => allK_at h5 i hi⟩, decide_eq_true (by omega)]
 rw [q_no fun e => h e.1.2.2.2.2.2, decide_eq_false (by omega)]
theorem f_no1 {ns : List ByteArray} {f : Filter} (h : hasS ns f.left = false) : filterM ns f = false := by unfold filterM; rw [h]; rfl
theorem f_no2 {ns : List ByteArray} {f : Filter} (h : inR 1 2 f.op = false) : filterM ns f = false := by unfold filterM; rw [h]; simp
theorem f_no3 {ns : List ByteArray} {f : Filter} (h0 : ¬ f.right.size = 0) (h : hasS ns f.right = false) : filterM ns f = false := by unfold filterM; rw [if_neg h0, h]; simp
theorem f_no4 {ns : List ByteArray} {f : Filter} (h0 : ¬ f.right.size = 0) (h : ¬ f.num = 0) : filterM ns f = false := by unfold filterM; rw [if_neg h0, decide_eq_false h]; simp
theorem f_no5 {ns : List ByteArray} {f : Filter} (h : inR 0 99 f.num = false) : filterM ns f = false := by
 unfold filterM
 have h1 : ¬ f.num = 0 := fun e => by rw [e] at h; exact absurd h (by decide)
 rw [h, decide_eq_false h1]; simp
theorem f_yes1 {ns : List ByteArray} {f : Filter} (h1 : hasS ns f.left = true) (h2 : inR 1 2 f.op = true) (h0 : f.right.size = 0) (h : inR 0 99 f.num = true) : filterM ns f = true := by unfold filterM; rw [h1, h2, if_pos h0, h]; rfl
theorem f_yes2 {ns : List ByteArray} {f : Filter} (h1 : hasS ns f.left = true) (h2 : inR 1 2 f.op = true) (h0 : ¬ f.right.size = 0) (h : hasS ns f.right = true) (h3 : f.num = 0) : filterM ns f = true := by unfold filterM; rw [h1, h2, if_neg h0, h, decide_eq_true h3]; rfl
theorem specQueryOk_ct (l : List Value) (x : Query) (hx : gQuery.sz x ≤ 1048576) : Ct prog 45 [.agg ⟨l⟩] [] (fun H => gQuery.rd H l x) (fun v A => v = .bool (queryM x) ∧ A = []) := by
 refine Ct.intro0 G_ok func45 rfl rfl rfl fun E H hp => ?_
 obtain ⟨b1p, c1p, b2p, c2p, b3p, c3p, rfl, h1p, h2p, h3p⟩ := gQuery_rd.1 hp
 have ez := gQuery_sz x
 have en1 := len_szL gS x.out
 have en2 := len_szL gAtom x.atoms
 have en3 := len_szL gFilter x.filters
 have hco := (sl_len h1p).2.1
 refine ⟨fun x0 => ?_⟩
 refine call_val (l01In_ct _ _ _) trivial ?_
 rintro _ rfl
 refine ⟨fun q2 => ?_, fun q2 => ?_⟩
 ·simp at q2
  have iq2 := mt inR_iff.2 (Bool.eq_false_iff.1 q2)
  exact ⟨[], ⟨by rw [q_no fun h => by (have := h.1; omega)], rfl⟩, .mem (by simp)⟩
 ·simp at q2
  have iq2 := inR_iff.1 q2
  refine ⟨fun q3 => ?_, fun q3 => ?_⟩
  ·simp at q3
   exact ⟨[], ⟨by rw [q_no fun h => by (have := h.1; omega)], rfl⟩, .mem (by simp)⟩
  ·simp at q3
   refine call_val (l01In_ct _ _ _) trivial ?_
   rintro _ rfl
   refine ⟨fun q5 => ?_, fun q5 => ?_⟩
   ·simp at q5
    have iq5 := mt inR_iff.2 (Bool.eq_false_iff.1 q5)
    exact ⟨[], ⟨by rw [q_no fun h => by (have := h.1; omega)], rfl⟩, .mem (by simp)⟩
   ·simp at q5
    have iq5 := inR_iff.1 q5
    apply loop_mod (α := (Nat)) G_ok [26, 27, 28, 29, 30, 33, 34, 35, 36, 37, 38, 39, 2, 31, 32, 3] (fun z => [(3, .v (.int .i64 z))]) (fun z => [{ id := x0, cs := [Value.bool x.each, Value.slice b1p x.out.length c1p, Value.slice b2p x.atoms.length c2p, Value.slice b3p x.filters.length c3p], ty := (37 : Nat) }]) (fun z => [H]) (fun z => x.atoms.length - z) (fun z => z ≤ x.atoms.length ∧ allK (fun i => atomM (x.atoms[i]?.getD default)) z = true) ((0))
    ·exact frI
    ·exact ⟨rfl, trivial⟩
    ·exact ⟨Nat.zero_le _, rfl⟩
    ·exact .refl _
    rintro k hI
    try dsimp only at hI
    obtain ⟨hk, ha⟩ := hI
    try dsimp only
    refine ⟨fun q6 => ?_, fun q6 => ?_⟩
    ·simp at q6
     refine idx_rd h2p ?_ ?_ fun b7 o7 hb7 => ?_
     ·omega
     ·omega
     refine load_allN default (k) rfl h2p ?_ ?_ hb7 rfl (mem_at 0 rfl) fun l8 hl8 => ?_
     ·omega
     ·omega
     obtain ⟨rfl, w0x8, w1x8, w2x8⟩ := gAtom_rd.1 hl8
     refine call_val (l08Atom_ct _ (x.atoms[k]?.getD default) ?_) (Rp.mono _ (mem_at 0 rfl) hl8) ?_
     ·exact Nat.le_trans (atoms_path hx (by omega)) (by decide)
     rintro _ rfl
     refine ⟨fun q10 => ?_, fun q10 => ?_⟩
     ·simp at q10
      exact ⟨[], ⟨by rw [q_no fun h => ff (h.2.1 k (by omega)) (by assumption)], rfl⟩, .mem (by simp)⟩
     ·simp at q10
      apply loop_stepA (k + 1)
      ·exact .refl _
      ·exact frI
      ·exact ⟨rfl, trivial⟩
      ·exact ⟨by omega, allK_step ha (by assumption)⟩
      omega
    ·simp at q6
     refine call_new (specNamesOf_ct _ x ?_) (Rp.mono _ (mem_at 0 rfl) hp) ?_
     ·omega
     rintro v11 A11 o11
     obtain ⟨bN, cN, rfl, oN⟩ := o11
     have rN := Gt.owrd _ oN
     apply loop_mod (α := (Nat)) G_ok [42, 43, 44, 45, 46, 49, 50, 51, 52, 53, 54, 55, 56, 57, 58, 59, 60, 61, 62, 63, 64, 65, 66, 67, 68, 2, 47, 48, 5] (fun z => [(5, .v (.int .i64 z))]) (fun z => [{ id := x0, cs := [Value.bool x.each, Value.slice b1p x.out.length c1p, Value.slice b2p x.atoms.length c2p, Value.slice b3p x.filters.length c3p], ty := (37 : Nat) }]) (fun z => [A11, H]) (fun z => x.out.length - z) (fun z => z ≤ x.out.length ∧ allK (fun i => hasS (namesM x.atoms) (x.out[i]?.getD ByteArray.empty)) z = true ∧ allK (fun i => !hasS (x.out.take i) (x.out[i]?.getD ByteArray.empty)) z = true) ((0))
     ·exact frI
     ·exact ⟨rfl, trivial⟩
     ·exact ⟨Nat.zero_le _, rfl, rfl⟩
     ·exact .refl _
     rintro i hI
     try dsimp only at hI
     obtain ⟨hi, hb, hc⟩ := hI
     try dsimp only
     refine ⟨fun q12 => ?_, fun q12 => ?_⟩
     ·simp at q12
      refine draw G_ok mixed none (.q 0 (.q 1 (.q 2 (.q 3 (.q 4 (.q 5 (.f 6 (.q 7 (.q 8 (.q 9 (.q 10 (.q 11 (.q 12 (.q 13 (.q 14 (.q 15 (.q 16 (.q 17 (.f 18 (.q 19 (.nil))))))))))))))))))))) (by decide +kernel) ?_
      refine idx_rd h1p ?_ ?_ fun b13 o13 hb13 => ?_
      ·omega
      ·omega
      refine load_allN ByteArray.empty (i) rfl h1p ?_ ?_ hb13 rfl (mem_at 1 rfl) fun l14 hl14 => ?_
      ·omega
      ·omega
      obtain ⟨rfl, hw14⟩ := hl14; simp only [flStr, flInt, okI] at hw14
      refine call_val (l08In_ct _ _ _ (namesM x.atoms) _) (Rp.mono _ (mem_at 0 rfl) rN) ?_
      rintro _ rfl
      refine VC.intro ?_ ?_
      ·exact fun _ h => h
      refine ⟨fun q16 => ?_, fun q16 => ?_⟩
      ·simp at q16
       exact ⟨[], ⟨by rw [q_no fun h => ff h.2.2.2.1 (inAll_no (k := i) (by omega) (by assumption))], rfl⟩, .mem (by simp)⟩
      ·simp at q16
       have hsub : (gSl 9 gS).rd H [.slice (subBase c1p 0 b1p ty9.size) (((i : Nat) : Int).toNat - 0) (c1p - 0)] ((x.out.take ((i : Nat) : Int).toNat).drop 0) := rd_sub (r := gS.toRp) (l := 0) (h := ((i : Nat) : Int).toNat) h1p (by omega) (by omega)
       refine VC.intro ?_ ?_
       ·omega
       refine idx_rd h1p ?_ ?_ fun b17 o17 hb17 => ?_
       ·omega
       ·omega
       refine load_allN ByteArray.empty (i) rfl h1p ?_ ?_ hb17 rfl (mem_at 1 rfl) fun l18 hl18 => ?_
       ·omega
       ·omega
       obtain ⟨rfl, hw18⟩ := hl18; simp only [flStr, flInt, okI] at hw18
       refine call_val (l08In_ct _ _ _ (List.drop (0 : Nat) (List.take (↑i : Int).toNat x.out)) _) (Rp.mono _ (mem_at 1 rfl) hsub) ?_
       rintro _ rfl
       refine VC.intro ?_ ?_
       ·exact fun _ h => h
       refine ⟨fun q20 => ?_, fun q20 => ?_⟩
       ·simp at q20
        exact ⟨[], ⟨by rw [q_no fun h => ff h.2.2.1 (dist_no2 (k := i) (by omega) (by assumption))], rfl⟩, .mem (by simp)⟩
       ·simp at q20
        apply loop_stepA (i + 1)
        ·exact .refl _
        ·exact frI
        ·exact ⟨rfl, trivial⟩
        ·exact ⟨by omega, allK_step hb (by assumption), allK_step hc (dist_step (by assumption))⟩
        omega
     ·simp at q12
      apply loop_mod (α := (Nat)) G_ok [69, 70, 71, 72, 73, 76, 77, 78, 79, 80, 7, 81, 82, 83, 84, 85, 86, 87, 88, 89, 90, 91, 92, 93, 94, 95, 96, 97, 98, 99, 100, 101, 102, 103, 104, 105, 106, 107, 108, 109, 110, 111, 112, 113, 114, 2, 74, 75, 6] (fun z => [(6, .v (.int .i64 z))]) (fun z => [{ id := x0, cs := [Value.bool x.each, Value.slice b1p x.out.length c1p, Value.slice b2p x.atoms.length c2p, Value.slice b3p x.filters.length c3p], ty := (37 : Nat) }]) (fun z => [A11, H]) (fun z => x.filters.length - z) (fun z => z ≤ x.filters.length ∧ allK (fun i => filterM (namesM x.atoms) (x.filters[i]?.getD default)) z = true) ((0))
      ·exact frI
      ·exact ⟨rfl, trivial⟩
      ·exact ⟨Nat.zero_le _, rfl⟩
      ·exact .refl _
      rintro j hI
      try dsimp only at hI
      obtain ⟨hj, hf⟩ := hI
      try dsimp only
      refine ⟨fun q21 => ?_, fun q21 => ?_⟩
      ·simp at q21
       refine idx_rd h3p ?_ ?_ fun b22 o22 hb22 => ?_
       ·omega
       ·omega
       refine load_allN default (j) rfl h3p ?_ ?_ hb22 rfl (mem_at 1 rfl) fun l23 hl23 => ?_
       ·omega
       ·omega
       obtain ⟨rfl, w0x23, w1x23, w2x23, w3x23⟩ := gFilter_rd.1 hl23
       refine ⟨fun x24 => ?_⟩
       refine call_val (l08In_ct _ _ _ (namesM x.atoms) _) (Rp.mono _ (mem_at 0 rfl) rN) ?_
       rintro _ rfl
       refine ⟨fun q26 => ?_, fun q26 => ?_⟩
       ·simp at q26
        exact ⟨[], ⟨by rw [q_no fun h => ff (h.2.2.2.2 j (by omega)) (f_no1 (by assumption))], rfl⟩, .mem (by simp)⟩
       ·simp at q26
        refine call_val (l01In_ct _ _ _) trivial ?_
        rintro _ rfl
        refine ⟨fun q28 => ?_, fun q28 => ?_⟩
        ·simp at q28
         have iq28 := mt inR_iff.2 (Bool.eq_false_iff.1 q28)
         exact ⟨[], ⟨by rw [q_no fun h => ff (h.2.2.2.2 j (by omega)) (f_no2 (by assumption))], rfl⟩, .mem (by simp)⟩
        ·simp at q28
         have iq28 := inR_iff.1 q28
         refine ⟨fun q29 => ?_, fun q29 => ?_⟩
         ·simp at q29
          have iq29 := mt toL_nil8.2 q29
          refine call_val (l08In_ct _ _ _ (namesM x.atoms) _) (Rp.mono _ (mem_at 0 rfl) rN) ?_
          rintro _ rfl
          refine ⟨fun q31 => ?_, fun q31 => ?_⟩
          ·simp at q31
           exact ⟨[], ⟨by rw [q_no fun h => ff (h.2.2.2.2 j (by omega)) (f_no3 (by assumption) (by assumption))], rfl⟩, .mem (by simp)⟩
          ·simp at q31
           refine ⟨fun q32 => ?_, fun q32 => ?_⟩
           ·simp at q32
            exact ⟨[], ⟨by rw [q_no fun h => ff (h.2.2.2.2 j (by omega)) (f_no4 (by assumption) (by assumption))], rfl⟩, .mem (by simp)⟩
           ·simp at q32
            refine call_val (l01In_ct _ _ _) trivial ?_
            rintro _ rfl
            refine ⟨fun q34 => ?_, fun q34 => ?_⟩
            ·simp at q34
             have iq34 := mt inR_iff.2 (Bool.eq_false_iff.1 q34)
             exfalso; omega
            ·simp at q34
             have iq34 := inR_iff.1 q34
             apply loop_stepA (j + 1)
             ·exact .refl _
             ·exact frI
             ·exact ⟨rfl, trivial⟩
             ·exact ⟨by omega, allK_step hf (f_yes2 (by assumption) (by assumption) (by assumption) (by assumption) (by assumption))⟩
             omega
         ·simp at q29
          have iq29 := toL_nil8.1 q29
          refine call_val (l01In_ct _ _ _) trivial ?_
          rintro _ rfl
          refine ⟨fun q36 => ?_, fun q36 => ?_⟩
          ·simp at q36
           have iq36 := mt inR_iff.2 (Bool.eq_false_iff.1 q36)
           exact ⟨[], ⟨by rw [q_no fun h => ff (h.2.2.2.2 j (by omega)) (f_no5 (by assumption))], rfl⟩, .mem (by simp)⟩
          ·simp at q36
           have iq36 := inR_iff.1 q36
           apply loop_stepA (j + 1)
           ·exact .refl _
           ·exact frI
           ·exact ⟨rfl, trivial⟩
           ·exact ⟨by omega, allK_step hf (f_yes1 (by assumption) (by assumption) (by assumption) (by assumption))⟩
           omega
      ·simp at q21
       (have hke : k = x.atoms.length := (by omega); have hie : i = x.out.length := (by omega); have hje : j = x.filters.length := (by omega); rw [hke] at ha; rw [hie] at hb hc; rw [hje] at hf; exact ⟨[], ⟨by rw [q_last (by omega) ha hb hc hf], rfl⟩, .mem (by simp)⟩)
end
section
attribute [local irreducible] IntKind.wrap namesM queryM
def shK (s : List Int) (k : Nat) : Bool := allK (fun i => inR 1 8 (s[i]?.getD 0)) k
def prodK (s : List Int) : Nat → Int
 | 0 => 1
 | k + 1 => prodK s k * (s[k]?.getD 0)
theorem prod_rng {s : List Int} : ∀ {k : Nat}, shK s k = true → 1 ≤ prodK s k ∧ prodK s k ≤ 8 ^ k
 | 0, _ => by show (1 : Int) ≤ 1 ∧ (1 : Int) ≤ 8 ^ 0; decide
 | k + 1, h => by
  have h1 : shK s k = true := by
   unfold shK at h ⊢; unfold allK at h; rw [Bool.and_eq_true] at h; exact h.1
  have h2 := inR_iff.1 (allK_at h k (by omega))
  have ih := prod_rng h1
  show 1 ≤ prodK s k * (s[k]?.getD 0) ∧ prodK s k * (s[k]?.getD 0) ≤ 8 ^ (k + 1)
  rw [Int.pow_succ]
  exact ⟨Int.le_trans (by decide : (1 : Int) ≤ 1 * 1) (Int.mul_le_mul ih.1 h2.1 (by decide) (by omega)), Int.mul_le_mul ih.2 h2.2 (by omega) (Int.le_trans (by decide) (Int.le_trans ih.1 ih.2))⟩
theorem prod_4 {s : List Int} {k : Nat} (h : shK s k = true) (hk : k ≤ 4) : 1 ≤ prodK s k ∧ prodK s k ≤ 4096 := by
 have h1 := prod_rng h
 rcases (by omega : k = 0 ∨ k = 1 ∨ k = 2 ∨ k = 3 ∨ k = 4) with rfl | rfl | rfl | rfl | rfl <;> (refine ⟨h1.1, Int.le_trans h1.2 (by decide)⟩)
theorem prod_mono {s : List Int} {j : Nat} : ∀ {k : Nat}, shK s k = true → j ≤ k → prodK s j ≤ prodK s k
 | 0, _, hj => by rw [show j = 0 by omega]; exact Int.le_refl _
 | k + 1, h, hj => by
  have h1 : shK s k = true := by
   unfold shK at h ⊢; unfold allK at h; rw [Bool.and_eq_true] at h; exact h.1
  have h2 := inR_iff.1 (allK_at h k (by omega))
  have ih := prod_rng h1
  have h3 : prodK s k ≤ prodK s (k + 1) := by
   show prodK s k ≤ prodK s k * (s[k]?.getD 0)
   have := Int.mul_le_mul_of_nonneg_left h2.1 (by omega : (0 : Int) ≤ prodK s k)
   rw [Int.mul_one] at this; exact this
  rcases (by omega : j ≤ k ∨ j = k + 1) with h4 | rfl
  ·exact Int.le_trans (prod_mono h1 h4) h3
  exact Int.le_refl _
theorem prod_step {p v : Int} (h1 : 1 ≤ p ∧ p ≤ 8 ^ 8) (h2 : 1 ≤ v ∧ v ≤ 8) : 1 ≤ p * v ∧ p * v ≤ 8 ^ 9 :=
 ⟨Int.le_trans (by decide : (1 : Int) ≤ 1 * 1) (Int.mul_le_mul h1.1 h2.1 (by decide) (by omega)), Int.le_trans (Int.mul_le_mul h1.2 h2.2 (by omega) (by decide)) (by decide)⟩
def shOk (s : List Int) : Bool := shK s s.length && decide (prodK s s.length ≤ 8)
theorem shOk_no1 {s : List Int} {k : Nat} (hk : k < s.length) (h : ¬ (1 ≤ (s[k]?.getD 0) ∧ (s[k]?.getD 0) ≤ 8)) : shOk s = false := by
 unfold shOk shK
 rw [allK_no (p := fun i => inR 1 8 (s[i]?.getD 0)) (k := k) (by rw [Bool.eq_false_iff, Ne, inR_iff]; exact h) _ hk]; rfl
theorem shOk_no2 {s : List Int} {k : Nat} (hk : k ≤ s.length) (h : ¬ prodK s k ≤ 8) : shOk s = false := by
 cases e : shOk s with
 | false => rfl
 | true =>
  unfold shOk at e
  rw [Bool.and_eq_true, decide_eq_true_iff] at e
  exact absurd (Int.le_trans (prod_mono e.1 hk) e.2) h
theorem shOk_yes {s : List Int} (h : shK s s.length = true) (h1 : prodK s s.length ≤ 8) : shOk s = true := by unfold shOk; rw [h, decide_eq_true h1]; rfl
theorem shK_step {s : List Int} {k : Nat} (h : shK s k = true) (h1 : 1 ≤ (s[k]?.getD 0) ∧ (s[k]?.getD 0) ≤ 8) : shK s (k + 1) = true := allK_step h (inR_iff.2 h1)
theorem shK_all {s : List Int} (h : shOk s = true) : shK s s.length = true := by unfold shOk at h; rw [Bool.and_eq_true] at h; exact h.1
theorem shK_le {s : List Int} {n k : Nat} (h : shK s n = true) (hk : k ≤ n) : shK s k = true := by
 induction n with
 | zero => rw [show k = 0 by omega]; rfl
 | succ n ih =>
  rcases (by omega : k ≤ n ∨ k = n + 1) with h1 | rfl
  ·exact ih (by unfold shK at h ⊢; unfold allK at h; rw [Bool.and_eq_true] at h; exact h.1) h1
  exact h
def cellsM (s : List Int) : Int := if 1 ≤ s.length ∧ s.length ≤ 4 ∧ shOk s = true then prodK s s.length else 0
theorem cells_no1 {s : List Int} (h : ¬ (1 ≤ s.length ∧ s.length ≤ 4)) : cellsM s = 0 := if_neg fun e => h ⟨e.1, e.2.1⟩
theorem cells_no2 {s : List Int} (h : shOk s = false) : cellsM s = 0 := if_neg fun e => by rw [h] at e; cases e.2.2
theorem cells_yes {s : List Int} (h1 : 1 ≤ s.length ∧ s.length ≤ 4) (h : shOk s = true) : cellsM s = prodK s s.length := if_pos ⟨h1.1, h1.2, h⟩
theorem implCellsOf_ct (b : Option Addr) (m c : Nat) (xs : List Int) : Ct prog 103 [.slice b m c] [] (fun H => (gSl 3 gI).rd H [.slice b m c] xs) (fun v A => v = .int .i64 (cellsM xs) ∧ A = []) := by
 refine Ct.intro0 G_ok func103 rfl rfl rfl fun E H hp => ?_
 obtain ⟨rfl, hcl, hl⟩ := sl_len hp
 refine ⟨fun q0 => ?_, fun q0 => ?_⟩
 ·simp at q0
  exact ⟨[], ⟨by rw [cells_no1 (by omega)], rfl⟩, .mem (by simp)⟩
 ·simp at q0
  refine ⟨fun q1 => ?_, fun q1 => ?_⟩
  ·simp at q1
   exact ⟨[], ⟨by rw [cells_no1 (by omega)], rfl⟩, .mem (by simp)⟩
  ·simp at q1
   apply loop_mod (α := (Nat) × (Int)) G_ok [17, 18, 19, 5, 20, 21, 22, 23, 24, 25, 2, 26, 27, 28, 3, 29, 16] (fun z => [(16, .v (.int .i64 z.1)), (3, .v (.int .i64 z.2))]) (fun z => []) (fun z => [H]) (fun z => xs.length - z.1) (fun z => z.1 ≤ xs.length ∧ shK xs z.1 = true ∧ z.2 = prodK xs z.1) ((0, 1))
   ·repeat' (first | exact trivial | refine ⟨⟨_, rfl, by first | rfl | exact inc_eq _ (by omega) | (refine sl_eq ?_; simp; done) | rw [wrap_of (x := p * (xs[k]?.getD 0)) (by omega) (by omega)], by first | exact trivial | simp [SV.ok]⟩, ?_⟩)
   ·exact trivial
   ·try dsimp only
    exact ⟨Nat.zero_le _, rfl, rfl⟩
   ·exact .refl _
   rintro ⟨k, p⟩ hI
   obtain ⟨hk, ha, hpp⟩ : k ≤ xs.length ∧ shK xs k = true ∧ p = prodK xs k := hI
   try dsimp only
   refine ⟨fun q2 => ?_, fun q2 => ?_⟩
   ·simp at q2
    have hpr := prod_4 ha (by omega)
    rw [← hpp] at hpr
    refine idx_rd hp ?_ ?_ fun b3 o3 hb3 => ?_
    ·omega
    ·omega
    refine load_allN 0 (k) rfl hp ?_ ?_ hb3 rfl (mem_at 0 rfl) fun l4 hl4 => ?_
    ·omega
    ·omega
    obtain ⟨rfl, hw4⟩ := hl4; simp only [flStr, flInt, okI] at hw4
    refine ⟨fun q5 => ?_, fun q5 => ?_⟩
    ·simp at q5
     exact ⟨[], ⟨by rw [cells_no2 (shOk_no1 (k := k) (by omega) (by omega))], rfl⟩, .mem (by simp)⟩
    ·simp at q5
     refine ⟨fun q6 => ?_, fun q6 => ?_⟩
     ·simp at q6
      exact ⟨[], ⟨by rw [cells_no2 (shOk_no1 (k := k) (by omega) (by omega))], rfl⟩, .mem (by simp)⟩
     ·simp at q6
      have hps := prod_step (p := p) (v := xs[k]?.getD 0) ⟨hpr.1, by omega⟩ (by omega)
      apply loop_stepA (k + 1, p * (xs[k]?.getD 0))
      ·exact .refl _
      ·repeat' (first | exact trivial | refine ⟨⟨_, rfl, by first | rfl | exact inc_eq _ (by omega) | (refine sl_eq ?_; simp; done) | rw [wrap_of (x := p * (xs[k]?.getD 0)) (by omega) (by omega)], by first | exact trivial | simp [SV.ok]⟩, ?_⟩)
      ·exact trivial
      ·try dsimp only
       exact ⟨by omega, shK_step ha (by omega), by rw [hpp]; rfl⟩
      try dsimp only
      omega
   ·simp at q2
    have hpr := prod_4 ha (by omega)
    rw [← hpp] at hpr
    refine ⟨fun q7 => ?_, fun q7 => ?_⟩
    ·simp at q7
     exact ⟨[], ⟨by rw [cells_no2 (shOk_no2 (k := k) (by omega) (by rw [← hpp]; omega))], rfl⟩, .mem (by simp)⟩
    ·simp at q7
     (have hke : k = xs.length := (by omega); subst hke; exact ⟨[], ⟨by rw [cells_yes (by omega) (shOk_yes ha (by rw [← hpp]; omega)), ← hpp], rfl⟩, .mem (by simp)⟩)
theorem beq_dec {a b : Int} : (a == b) = decide (a = b) := by rw [Bool.eq_iff_iff, beq_iff_eq, decide_eq_true_iff]
theorem l13Number_ct (b : Option Addr) (m c : Nat) (xs : List Int) (n : Int) : Ct prog 143 [.slice b m c, .int .i64 n] [] (fun H => (gSl 3 gI).rd H [.slice b m c] xs) (fun v A => v = .bool (shOk xs && decide ((xs.length : Int) = n)) ∧ A = []) := by
 refine Ct.intro0 G_ok func143 rfl rfl rfl fun E H hp => ?_
 obtain ⟨rfl, hcl, hl⟩ := sl_len hp
 apply loop_mod (α := (Nat) × (Int)) G_ok [7, 8, 9, 10, 13, 14, 15, 16, 17, 18, 4, 19, 20, 21, 22, 23, 24, 5, 25, 26, 11, 12, 6] (fun z => [(6, .v (.int .i64 z.1)), (5, .v (.int .i64 z.2))]) (fun z => []) (fun z => [H]) (fun z => xs.length - z.1) (fun z => z.1 ≤ xs.length ∧ shK xs z.1 = true ∧ z.2 = prodK xs z.1 ∧ 1 ≤ z.2 ∧ z.2 ≤ 8) ((0, 1))
 ·repeat' (first | exact trivial | refine ⟨⟨_, rfl, by first | rfl | exact inc_eq _ (by omega) | (refine sl_eq ?_; simp; done) | rw [wrap_of (x := p * (xs[k]?.getD 0)) (by omega) (by omega)], by first | exact trivial | simp [SV.ok]⟩, ?_⟩)
 ·exact trivial
 ·try dsimp only
  exact ⟨Nat.zero_le _, rfl, rfl, by decide, by decide⟩
 ·exact .refl _
 rintro ⟨k, p⟩ hI
 try dsimp only at hI
 obtain ⟨hk, ha, hpp, hp1, hp8⟩ := hI
 try dsimp only
 refine ⟨fun q0 => ?_, fun q0 => ?_⟩
 ·simp at q0
  refine idx_rd hp ?_ ?_ fun b1 o1 hb1 => ?_
  ·omega
  ·omega
  refine load_allN 0 (k) rfl hp ?_ ?_ hb1 rfl (mem_at 0 rfl) fun l2 hl2 => ?_
  ·omega
  ·omega
  obtain ⟨rfl, hw2⟩ := hl2; simp only [flStr, flInt, okI] at hw2
  refine call_val (l01In_ct _ _ _) trivial ?_
  rintro _ rfl
  refine ⟨fun q4 => ?_, fun q4 => ?_⟩
  ·simp at q4
   have iq4 := mt inR_iff.2 (Bool.eq_false_iff.1 q4)
   exact ⟨[], ⟨by rw [shOk_no1 (k := k) (by omega) (by omega)]; rfl, rfl⟩, .mem (by simp)⟩
  ·simp at q4
   have iq4 := inR_iff.1 q4
   have hps := prod_step (p := p) (v := xs[k]?.getD 0) ⟨hp1, by omega⟩ (by omega)
   refine idx_rd hp ?_ ?_ fun b5 o5 hb5 => ?_
   ·omega
   ·omega
   refine load_allN 0 (k) rfl hp ?_ ?_ hb5 rfl (mem_at 0 rfl) fun l6 hl6 => ?_
   ·omega
   ·omega
   obtain ⟨rfl, hw6⟩ := hl6; simp only [flStr, flInt, okI] at hw6
   refine ⟨fun q7 => ?_, fun q7 => ?_⟩
   ·simp at q7
    simp (disch := omega) only [wrap_of] at q7
    exact ⟨[], ⟨by rw [shOk_no2 (s := xs) (k := k + 1) (by omega) (by show ¬ prodK xs k * (xs[k]?.getD 0) ≤ 8; rw [← hpp]; omega)]; rfl, rfl⟩, .mem (by simp)⟩
   ·simp at q7
    simp (disch := omega) only [wrap_of] at q7
    apply loop_stepA (k + 1, p * (xs[k]?.getD 0))
    ·exact .refl _
    ·repeat' (first | exact trivial | refine ⟨⟨_, rfl, by first | rfl | exact inc_eq _ (by omega) | (refine sl_eq ?_; simp; done) | rw [wrap_of (x := p * (xs[k]?.getD 0)) (by omega) (by omega)], by first | exact trivial | simp [SV.ok]⟩, ?_⟩)
    ·exact trivial
    ·try dsimp only
     exact ⟨by omega, shK_step ha (by omega), by rw [hpp]; rfl, by omega, by omega⟩
    try dsimp only
    omega
 ·simp at q0
  (have hke : k = xs.length := (by omega); subst hke; exact ⟨[], ⟨by rw [shOk_yes ha (by rw [← hpp]; omega), Bool.true_and]; first | rfl | (rw [beq_dec]), rfl⟩, .mem (by simp)⟩)
end
section
attribute [local irreducible] IntKind.wrap queryM
theorem specCellsOf_ct (b : Option Addr) (m c : Nat) (xs : List Int) : Ct prog 91 [.slice b m c] [] (fun H => (gSl 3 gI).rd H [.slice b m c] xs) (fun v A => v = .int .i64 (cellsM xs) ∧ A = []) := by
 refine Ct.intro0 G_ok func91 rfl rfl rfl fun E H hp => ?_
 obtain ⟨rfl, hcl, hl⟩ := sl_len hp
 refine call_val (l01In_ct _ _ _) trivial ?_
 rintro _ rfl
 refine ⟨fun q1 => ?_, fun q1 => ?_⟩
 ·simp at q1
  have iq1 := mt inR_iff.2 (Bool.eq_false_iff.1 q1)
  exact ⟨[], ⟨by rw [cells_no1 (by omega)], rfl⟩, .mem (by simp)⟩
 ·simp at q1
  have iq1 := inR_iff.1 q1
  refine call_val (l13Number_ct _ _ _ (xs) _) (Rp.mono _ (mem_at 0 rfl) hp) ?_
  rintro _ rfl
  refine ⟨fun q3 => ?_, fun q3 => ?_⟩
  ·simp at q3
   exact ⟨[], ⟨by rw [cells_no2 (by assumption)], rfl⟩, .mem (by simp)⟩
  ·simp at q3
   apply loop_mod (α := (Nat) × (Int)) G_ok [16, 17, 18, 19, 22, 23, 24, 25, 26, 27, 3, 20, 21, 4] (fun z => [(4, .v (.int .i64 z.1)), (3, .v (.int .i64 z.2))]) (fun z => []) (fun z => [H]) (fun z => xs.length - z.1) (fun z => z.1 ≤ xs.length ∧ z.2 = prodK xs z.1) ((0, 1))
   ·repeat' (first | exact trivial | refine ⟨⟨_, rfl, by first | rfl | exact inc_eq _ (by omega) | (refine sl_eq ?_; simp; done) | rw [wrap_of (x := p * (xs[k]?.getD 0)) (by omega) (by omega)], by first | exact trivial | simp [SV.ok]⟩, ?_⟩)
   ·exact trivial
   ·try dsimp only
    exact ⟨Nat.zero_le _, rfl⟩
   ·exact .refl _
   rintro ⟨k, p⟩ hI
   obtain ⟨hk, hpp⟩ : k ≤ xs.length ∧ p = prodK xs k := hI
   try dsimp only
   refine ⟨fun q4 => ?_, fun q4 => ?_⟩
   ·simp at q4
    have hyes : shOk xs = true := (by assumption)
    have hsk := shK_all hyes
    have hpr := prod_4 (k := k) (shK_le hsk (by omega)) (by omega)
    rw [← hpp] at hpr
    have hvk := inR_iff.1 (allK_at hsk k (by omega))
    have hps := prod_step (p := p) (v := xs[k]?.getD 0) ⟨hpr.1, by omega⟩ (by omega)
    refine idx_rd hp ?_ ?_ fun b5 o5 hb5 => ?_
    ·omega
    ·omega
    refine load_allN 0 (k) rfl hp ?_ ?_ hb5 rfl (mem_at 0 rfl) fun l6 hl6 => ?_
    ·omega
    ·omega
    obtain ⟨rfl, hw6⟩ := hl6; simp only [flStr, flInt, okI] at hw6
    apply loop_stepA (k + 1, p * (xs[k]?.getD 0))
    ·exact .refl _
    ·repeat' (first | exact trivial | refine ⟨⟨_, rfl, by first | rfl | exact inc_eq _ (by omega) | (refine sl_eq ?_; simp; done) | rw [wrap_of (x := p * (xs[k]?.getD 0)) (by omega) (by omega)], by first | exact trivial | simp [SV.ok]⟩, ?_⟩)
    ·exact trivial
    ·try dsimp only
     exact ⟨by omega, by rw [hpp]; rfl⟩
    try dsimp only
    omega
   ·simp at q4
    (have hke : k = xs.length := (by omega); subst hke; exact ⟨[], ⟨by rw [cells_yes (by omega) (by assumption), ← hpp], rfl⟩, .mem (by simp)⟩)
theorem addN_pos (l : List ByteArray) (s : ByteArray) : 1 ≤ (addN l s).length := by
 unfold addN
 split
 ·rename_i h
  cases l with
  | nil => exact absurd h (by show ¬ (false = true); decide)
  | cons a r => simp
 simp
theorem names_pos {ats : List Atom} (h : 1 ≤ ats.length) : 1 ≤ (namesM ats).length := by
 have e := namesM_step (ats := ats) (k := ats.length - 1) (by omega)
 rw [show ats.length - 1 + 1 = ats.length by omega, List.take_length] at e
 rw [e]; exact addN_pos _ _
theorem query_names {x : Query} (h : queryM x = true) : 1 ≤ (namesM x.atoms).length ∧ (namesM x.atoms).length ≤ 4 := by
 have h1 : queryP x := by
  apply Classical.byContradiction
  intro e
  rw [q_no e] at h; cases h
 exact ⟨names_pos h1.1.1, h1.1.2.2.2.2.2⟩
attribute [local irreducible] namesM
noncomputable def sharesM (x : Query) (s : List Int) : Bool := queryM x && (shOk s && decide (s.length = (namesM x.atoms).length))
theorem shares_no1 {x : Query} {s : List Int} (h : queryM x = false) : sharesM x s = false := by unfold sharesM; rw [h]; rfl
theorem shares_no2 {x : Query} {s : List Int} (h : ¬ s.length = (namesM x.atoms).length) : sharesM x s = false := by unfold sharesM; rw [decide_eq_false h]; simp
theorem shares_val {x : Query} {s : List Int} (h : queryM x = true) (h1 : s.length = (namesM x.atoms).length) : sharesM x s = decide (0 < cellsM s) := by
 have hn := query_names h
 unfold sharesM
 rw [h, decide_eq_true h1, Bool.true_and, Bool.and_true]
 cases e : shOk s with
 | false => rw [cells_no2 e]; rfl
 | true =>
  rw [cells_yes (by omega) e]
  have := prod_rng (shK_all e)
  rw [decide_eq_true (by omega)]
theorem atoms_len {x : Query} (h : gQuery.sz x ≤ 1048576) : x.atoms.length ≤ 1048576 := by
 have h1 := gQuery_sz x
 have h2 := len_szL gAtom x.atoms
 omega
theorem implSharesOk_ct (l : List Value) (b : Option Addr) (m c : Nat) (x : Query) (s : List Int) (hx : gQuery.sz x ≤ 1048576) : Ct prog 105 [.agg ⟨l⟩, .slice b m c] [] (fun H => gQuery.rd H l x ∧ (gSl 3 gI).rd H [.slice b m c] s) (fun v A => v = .bool (sharesM x s) ∧ A = []) := by
 refine Ct.intro0 G_ok func105 rfl rfl rfl fun E H hp => ?_
 obtain ⟨hp, hq⟩ := hp
 obtain ⟨rfl, hcl, hl⟩ := sl_len hq
 obtain ⟨b1p, c1p, b2p, c2p, b3p, c3p, rfl, h1p, h2p, h3p⟩ := gQuery_rd.1 hp
 have hal := atoms_len hx
 refine ⟨fun x0 => ?_⟩
 refine call_val (implQueryOk_ct _ (x) ?_) (Rp.mono _ (mem_at 0 rfl) hp) ?_
 ·trivial
 rintro _ rfl
 refine ⟨fun q2 => ?_, fun q2 => ?_⟩
 ·refine call_new (implNamesOf_ct _ (x) ?_) (Rp.mono _ (mem_at 0 rfl) hp) ?_
  ·trivial
  rintro v3 A3 o3
  obtain ⟨b3, c3, rfl, o3⟩ := o3
  refine ⟨fun q4 => ?_, fun q4 => ?_⟩
  ·simp at q4
   refine call_val (implCellsOf_ct _ _ _ (s)) (Rp.mono _ (mem_at 1 rfl) hq) ?_
   rintro _ rfl
   exact ⟨[], ⟨congrArg Value.bool (shares_val (by assumption) (by omega)).symm, rfl⟩, .mem (by simp)⟩
  ·simp at q4
   exact ⟨[], ⟨by rw [shares_no2 (by omega)], rfl⟩, .mem (by simp)⟩
 ·exact ⟨[], ⟨by rw [shares_no1 (by assumption)], rfl⟩, .mem (by simp)⟩
theorem specSharesOk_ct (l : List Value) (b : Option Addr) (m c : Nat) (x : Query) (s : List Int) (hx : gQuery.sz x ≤ 1048576) : Ct prog 95 [.agg ⟨l⟩, .slice b m c] [] (fun H => gQuery.rd H l x ∧ (gSl 3 gI).rd H [.slice b m c] s) (fun v A => v = .bool (sharesM x s) ∧ A = []) := by
 refine Ct.intro0 G_ok func95 rfl rfl rfl fun E H hp => ?_
 obtain ⟨hp, hq⟩ := hp
 obtain ⟨rfl, hcl, hl⟩ := sl_len hq
 obtain ⟨b1p, c1p, b2p, c2p, b3p, c3p, rfl, h1p, h2p, h3p⟩ := gQuery_rd.1 hp
 have hal := atoms_len hx
 refine ⟨fun x0 => ?_⟩
 refine call_val (specQueryOk_ct _ (x) ?_) (Rp.mono _ (mem_at 0 rfl) hp) ?_
 ·trivial
 rintro _ rfl
 refine ⟨fun q2 => ?_, fun q2 => ?_⟩
 ·refine call_new (specNamesOf_ct _ (x) ?_) (Rp.mono _ (mem_at 0 rfl) hp) ?_
  ·trivial
  rintro v3 A3 o3
  obtain ⟨b3, c3, rfl, o3⟩ := o3
  refine call_val (l13Number_ct _ _ _ (s) _) (Rp.mono _ (mem_at 1 rfl) hq) ?_
  rintro _ rfl
  exact ⟨[], ⟨congrArg Value.bool (by unfold sharesM; rw [‹queryM x = true›, Bool.true_and]; congr 1; rw [decide_eq_decide]; omega), rfl⟩, .mem (by simp)⟩
 ·exact ⟨[], ⟨by rw [shares_no1 (by assumption)], rfl⟩, .mem (by simp)⟩
end
section
def digV (b : Nat) : Nat → Nat → List Int
 | 0, _ => []
 | n + 1, j => digV b n (j / b) ++ [((j % b : Nat) : Int)]
def valV (b : Nat) (xs : List Int) : Nat := xs.foldl (fun a d => a * b + d.toNat) 0
theorem val_fold (b : Nat) : ∀ (ys : List Int) (a : Nat), ys.foldl (fun a d => a * b + d.toNat) a = a * b ^ ys.length + valV b ys
 | [], a => by show a = a * b ^ 0 + 0; rw [Nat.pow_zero]; omega
 | y :: ys, a => by
  have h1 := val_fold b ys (a * b + y.toNat)
  have h2 := val_fold b ys (0 * b + y.toNat)
  show ys.foldl _ (a * b + y.toNat) = _
  rw [h1]
  show _ = a * b ^ (ys.length + 1) + ys.foldl _ (0 * b + y.toNat)
  rw [h2, Nat.pow_succ, Nat.zero_mul, Nat.zero_add, Nat.add_mul, Nat.add_assoc, Nat.mul_assoc, Nat.mul_comm b]
theorem val_app (b : Nat) (xs ys : List Int) : valV b (xs ++ ys) = valV b xs * b ^ ys.length + valV b ys := by
 show (xs ++ ys).foldl _ 0 = _
 rw [List.foldl_append, val_fold]; rfl
theorem val_one (b : Nat) (x : Int) : valV b [x] = x.toNat := by show 0 * b + x.toNat = _; omega
theorem val_zero (b : Nat) : ∀ k, valV b (List.replicate k 0) = 0
 | 0 => rfl
 | k + 1 => by rw [List.replicate_succ', val_app, val_zero b k, val_one]; simp
theorem val_top {b : Nat} (hb : 1 ≤ b) : ∀ k, valV b (List.replicate k ((b : Int) - 1)) + 1 = b ^ k
 | 0 => rfl
 | k + 1 => by
  have ih := val_top hb k
  rw [List.replicate_succ', val_app, val_one, List.length_singleton, Nat.pow_one, Nat.pow_succ, ← ih, Nat.add_mul]
  omega
def rngV (b : Nat) (v : List Int) : Prop := ∀ x ∈ v, 0 ≤ x ∧ x < b
theorem digV_len (b : Nat) : ∀ n j, (digV b n j).length = n
 | 0, _ => rfl
 | n + 1, j => by show (digV b n (j / b) ++ _).length = _; rw [List.length_append, digV_len b n, List.length_singleton]
theorem digV_rng {b : Nat} (hb : 1 ≤ b) : ∀ n j, rngV b (digV b n j)
 | 0, _ => fun x hx => nomatch hx
 | n + 1, j => fun x hx => by
  rcases List.mem_append.1 hx with h | h
  ·exact digV_rng hb n _ x h
  rw [List.mem_singleton.1 h]
  have := Nat.mod_lt j (show b > 0 by omega)
  omega
theorem digV_val {b : Nat} (hb : 1 ≤ b) : ∀ n j, j < b ^ n → valV b (digV b n j) = j
 | 0, j, h => by rw [Nat.pow_zero] at h; show 0 = j; omega
 | n + 1, j, h => by
  show valV b (digV b n (j / b) ++ _) = j
  rw [val_app, val_one, List.length_singleton, Nat.pow_one, digV_val hb n (j / b) (by rw [Nat.div_lt_iff_lt_mul (by omega), ← Nat.pow_succ]; exact h), Int.toNat_natCast]
  have := Nat.div_add_mod j b
  rw [Nat.mul_comm]; exact this
theorem val_lt {b : Nat} : ∀ v : List Int, rngV b v → valV b v < b ^ v.length
 | [], _ => by show 0 < 1; omega
 | x :: v, h => by
  have ih := val_lt v fun y hy => h y (List.mem_cons_of_mem _ hy)
  have hx := h x List.mem_cons_self
  rw [show x :: v = [x] ++ v from rfl, val_app, val_one, List.length_append, List.length_singleton, Nat.add_comm 1, Nat.pow_succ]
  have h2 : (x.toNat + 1) * b ^ v.length ≤ b * b ^ v.length := Nat.mul_le_mul_right _ (by omega)
  rw [Nat.add_mul] at h2
  rw [Nat.mul_comm _ b]; omega
theorem dig_val {b : Nat} : ∀ (n : Nat) (v : List Int), v.length = n → rngV b v → digV b n (valV b v) = v
 | 0, v, hl, _ => by rw [List.length_eq_zero_iff.1 hl]; rfl
 | n + 1, v, hl, h => by
  have hne : v ≠ [] := fun e => by rw [e] at hl; cases hl
  have hv : v = v.dropLast ++ [v.getLast hne] := (List.dropLast_concat_getLast hne).symm
  have hx := h (v.getLast hne) (List.getLast_mem hne)
  have hlt : (v.getLast hne).toNat < b := by omega
  have hd : v.dropLast.length = n := by rw [List.length_dropLast]; omega
  have ih := dig_val n v.dropLast hd fun y hy => h y ((List.dropLast_sublist v).subset hy)
  generalize v.getLast hne = x at *
  generalize v.dropLast = w at *
  subst hv
  show digV b n (valV b (w ++ [x]) / b) ++ [((valV b (w ++ [x]) % b : Nat) : Int)] = w ++ [x]
  rw [val_app, val_one, List.length_singleton, Nat.pow_one]
  have h1 : (valV b w * b + x.toNat) / b = valV b w := by
   rw [Nat.mul_comm, Nat.mul_add_div (by omega), Nat.div_eq_of_lt hlt, Nat.add_zero]
  have h2 : (valV b w * b + x.toNat) % b = x.toNat := by
   rw [Nat.mul_comm, Nat.mul_add_mod, Nat.mod_eq_of_lt hlt]
  rw [h1, h2, ih, Int.toNat_of_nonneg hx.1]
def stepV (b : Nat) (v : List Int) (k : Nat) (w : List Int) : Prop := k ≤ v.length ∧ v.drop (v.length - k) = List.replicate k ((b : Int) - 1) ∧ w = v.take (v.length - k) ++ List.replicate k 0
theorem step_zero (b : Nat) (v : List Int) : stepV b v 0 v := ⟨Nat.zero_le _, by simp, by simp⟩
theorem step_len {b : Nat} {v w : List Int} {k : Nat} (h : stepV b v k w) : w.length = v.length := by
 have h1 := h.1
 rw [h.2.2, List.length_append, List.length_take, List.length_replicate]; omega
theorem split_at9 {v : List Int} {p : Nat} (h : p < v.length) : v = v.take p ++ ((v[p]?.getD 0) :: v.drop (p + 1)) := by
 rw [List.getElem?_eq_getElem h]
 show v = v.take p ++ (v[p] :: v.drop (p + 1))
 rw [List.getElem_cons_drop, List.take_append_drop]
theorem step_at {b : Nat} {v w : List Int} {k : Nat} (h : stepV b v k w) {p : Nat} (hp : p + k + 1 = v.length) : w[p]?.getD 0 = v[p]?.getD 0 := by
 rw [h.2.2, show v.length - k = p + 1 by omega, List.getElem?_append_left (by rw [List.length_take]; omega), List.getElem?_take_of_lt (by omega)]
theorem step_set {b : Nat} {v w : List Int} {k : Nat} (h : stepV b v k w) {p : Nat} (hp : p + k + 1 = v.length) (y : Int) : w.set p y = v.take p ++ (y :: List.replicate k 0) := by
 have h1 : v.take (p + 1) = v.take p ++ [v[p]?.getD 0] := by
  rw [← List.take_append_getElem (by omega : p < v.length), List.getElem?_eq_getElem (by omega)]; rfl
 rw [h.2.2, show v.length - k = p + 1 by omega, h1, List.append_assoc, List.set_append_right _ _ (by rw [List.length_take]; omega), List.length_take, show p - min p v.length = 0 by omega]
 rfl
theorem step_more {b : Nat} {v w : List Int} {k : Nat} (h : stepV b v k w) {p : Nat} (hp : p + k + 1 = v.length) (e : v[p]?.getD 0 = (b : Int) - 1) : stepV b v (k + 1) (w.set p 0) := by
 refine ⟨by omega, ?_, ?_⟩
 ·rw [show v.length - (k + 1) = p by omega, List.replicate_succ]
  have h2 := h.2.1
  rw [show v.length - k = p + 1 by omega] at h2
  rw [← h2, ← e]
  have h3 := congrArg (List.drop p) (split_at9 (v := v) (p := p) (by omega))
  rw [List.drop_append_of_le_length (by rw [List.length_take]; omega), List.drop_take, Nat.sub_self, List.take_zero, List.nil_append] at h3
  exact h3
 rw [step_set h hp, show v.length - (k + 1) = p by omega, List.replicate_succ]
theorem step_next {b n j : Nat} {w : List Int} {k : Nat} (hb : 1 ≤ b) (hj : j < b ^ n) (h : stepV b (digV b n j) k w) {p : Nat} (hp : p + k + 1 = n) (e : (digV b n j)[p]?.getD 0 + 1 < (b : Int)) :
  w.set p ((digV b n j)[p]?.getD 0 + 1) = digV b n (j + 1) ∧ j + 1 < b ^ n := by
 have hl := digV_len b n j
 have hr := digV_rng hb n j
 have hv := digV_val hb n j hj
 rw [step_set h (by omega)]
 have h2 := h.2.1
 generalize digV b n j = v at *
 rw [show v.length - k = p + 1 by omega] at h2
 have hs := split_at9 (v := v) (p := p) (by omega)
 rw [h2] at hs
 have hx : 0 ≤ v[p]?.getD 0 := (hr _ (by rw [List.getElem?_eq_getElem (by omega)]; exact List.getElem_mem _)).1
 have ht : rngV b (v.take p) := fun y hy => hr y (List.mem_of_mem_take hy)
 have hlt : (v.take p).length = p := by rw [List.length_take]; omega
 have hv2 : valV b v = valV b (v.take p) * b ^ (k + 1) + ((v[p]?.getD 0).toNat * b ^ k + valV b (List.replicate k ((b : Int) - 1))) := by
  conv => lhs; rw [hs]
  rw [show (v.take p ++ (v[p]?.getD 0) :: List.replicate k ((b : Int) - 1)) = v.take p ++ ([v[p]?.getD 0] ++ List.replicate k ((b : Int) - 1)) from rfl, val_app, val_app, val_one, List.length_append, List.length_replicate, List.length_singleton, Nat.add_comm 1]
 have hv3 : valV b (v.take p ++ ((v[p]?.getD 0 + 1) :: List.replicate k 0)) = valV b (v.take p) * b ^ (k + 1) + ((v[p]?.getD 0).toNat + 1) * b ^ k := by
  rw [show (v.take p ++ (v[p]?.getD 0 + 1) :: List.replicate k 0) = v.take p ++ ([v[p]?.getD 0 + 1] ++ List.replicate k 0) from rfl, val_app, val_app, val_one, val_zero, List.length_append, List.length_replicate, List.length_singleton, Nat.add_comm 1, show (v[p]?.getD 0 + 1).toNat = (v[p]?.getD 0).toNat + 1 by omega]; rfl
 have htop := val_top hb k
 have hj1 : valV b (v.take p ++ ((v[p]?.getD 0 + 1) :: List.replicate k 0)) = j + 1 := by
  rw [hv3, ← hv, hv2, Nat.add_mul]; omega
 have hrr : rngV b (v.take p ++ ((v[p]?.getD 0 + 1) :: List.replicate k 0)) := fun y hy => by
  rcases List.mem_append.1 hy with h | h
  ·exact ht y h
  rcases List.mem_cons.1 h with rfl | h
  ·omega
  rw [List.eq_of_mem_replicate h]; omega
 have hll : (v.take p ++ ((v[p]?.getD 0 + 1) :: List.replicate k 0)).length = n := by rw [List.length_append, List.length_cons, List.length_replicate]; omega
 have hd := dig_val n _ hll hrr
 have hb2 := val_lt _ hrr
 rw [hj1] at hd hb2
 rw [hll] at hb2
 exact ⟨hd.symm, hb2⟩
theorem step_last {b n j : Nat} {w : List Int} (hb : 1 ≤ b) (hj : j < b ^ n) (h : stepV b (digV b n j) n w) : j + 1 = b ^ n := by
 have hl := digV_len b n j
 have hv := digV_val hb n j hj
 have h2 := h.2.1
 rw [hl, Nat.sub_self, List.drop_zero] at h2
 rw [← hv, h2]
 exact val_top hb n
theorem dig_zero {b : Nat} : ∀ n, digV b n 0 = List.replicate n 0
 | 0 => rfl
 | n + 1 => by
  show digV b n (0 / b) ++ [((0 % b : Nat) : Int)] = _
  rw [Nat.zero_div, dig_zero n, Nat.zero_mod, List.replicate_succ']; rfl
end
section
attribute [local irreducible] namesM queryM
def cprod (ns : List ByteArray) (a : Atom) (s : List Int) : Nat → Int
 | 0 => 1
 | k + 1 => if ¬ (ns[k]?.getD ByteArray.empty) = a.from' ∧ ¬ (ns[k]?.getD ByteArray.empty) = a.to then cprod ns a s k * (s[k]?.getD 0) else cprod ns a s k
def csum (ns : List ByteArray) (ats : List Atom) (s : List Int) : Nat → Int
 | 0 => 0
 | i + 1 => csum ns ats s i + cprod ns (ats[i]?.getD default) s ns.length
def shR (n : Nat) (s : List Int) : Prop := ∀ y ∈ s, 1 ≤ y ∧ y ≤ n
theorem shR_at {n : Nat} {s : List Int} (h : shR n s) {k : Nat} (hk : k < s.length) : 1 ≤ s[k]?.getD 0 ∧ s[k]?.getD 0 ≤ n := h _ (by rw [List.getElem?_eq_getElem hk]; exact List.getElem_mem hk)
theorem cprod_rng {ns : List ByteArray} {a : Atom} {s : List Int} (h : shR 8 s) : ∀ k, k ≤ s.length → 1 ≤ cprod ns a s k ∧ cprod ns a s k ≤ (8 : Int) ^ k
 | 0, _ => ⟨Int.le_refl _, Int.le_refl _⟩
 | k + 1, hk => by
  have ih := cprod_rng (ns := ns) (a := a) h k (by omega)
  have h1 := shR_at h (k := k) (by omega)
  unfold cprod
  have h8 : (8 : Int) ^ (k + 1) = (8 : Int) ^ k * 8 := Int.pow_succ ..
  split
  ·have h2 : 1 * 1 ≤ cprod ns a s k * (s[k]?.getD 0) := Int.mul_le_mul ih.1 h1.1 (by omega) (by omega)
   have h3 : cprod ns a s k * (s[k]?.getD 0) ≤ (8 : Int) ^ k * 8 := Int.mul_le_mul ih.2 h1.2 (by omega) (by omega)
   omega
  omega
theorem cprod_4 {ns : List ByteArray} {a : Atom} {s : List Int} (h : shR 8 s) {k : Nat} (hk : k ≤ s.length) (h4 : k ≤ 4) : 1 ≤ cprod ns a s k ∧ cprod ns a s k ≤ 4096 := by
 have h1 := cprod_rng (ns := ns) (a := a) h k hk
 have h2 : (8 : Int) ^ k ≤ 4096 := by rcases (by omega : k = 0 ∨ k = 1 ∨ k = 2 ∨ k = 3 ∨ k = 4) with rfl | rfl | rfl | rfl | rfl <;> decide
 omega
theorem csum_rng {ns : List ByteArray} {ats : List Atom} {s : List Int} (h : shR 8 s) (hn : ns.length = s.length) (h4 : ns.length ≤ 4) : ∀ i, 0 ≤ csum ns ats s i ∧ csum ns ats s i ≤ 4096 * (i : Int)
 | 0 => ⟨Int.le_refl _, Int.le_refl _⟩
 | i + 1 => by
  have ih := csum_rng (ats := ats) h hn h4 i
  have h1 := cprod_4 (ns := ns) (a := ats[i]?.getD default) h (k := ns.length) (by omega) h4
  unfold csum
  omega
def costM (x : Query) (s : List Int) : Int := csum (namesM x.atoms) x.atoms s x.atoms.length
def shV (n m j : Nat) : List Int := (digV n m j).map (· + 1)
theorem shV_len (n m j : Nat) : (shV n m j).length = m := by unfold shV; rw [List.length_map, digV_len]
theorem shV_rng {n : Nat} (hn : 1 ≤ n) (m j : Nat) : shR n (shV n m j) := fun y hy => by
 obtain ⟨z, hz, rfl⟩ := List.mem_map.1 hy
 have := digV_rng hn m j z hz
 show 1 ≤ z + 1 ∧ z + 1 ≤ (n : Int)
 omega
def betV (x : Query) (n : Nat) (b c : List Int) : Prop := (¬ cellsM c = 0 ∧ cellsM c ≤ n ∧ cellsM b ≤ cellsM c) ∧ (cellsM b < cellsM c ∨ costM x c ≤ costM x b)
instance (x : Query) (n : Nat) (b c : List Int) : Decidable (betV x n b c) := by unfold betV; exact inferInstance
def bestK (x : Query) (n m : Nat) : Nat → List Int
 | 0 => shV n m 0
 | j + 1 => if betV x n (bestK x n m j) (shV n m j) then shV n m j else bestK x n m j
theorem best_yes {x : Query} {n m j : Nat} (h : betV x n (bestK x n m j) (shV n m j)) : bestK x n m (j + 1) = shV n m j := if_pos h
theorem best_no {x : Query} {n m j : Nat} (h : ¬ betV x n (bestK x n m j) (shV n m j)) : bestK x n m (j + 1) = bestK x n m j := if_neg h
theorem best_seen (x : Query) (n m : Nat) : ∀ j, ∃ i, (i < j ∨ i = 0) ∧ bestK x n m j = shV n m i
 | 0 => ⟨0, .inr rfl, rfl⟩
 | j + 1 => by
  by_cases h : betV x n (bestK x n m j) (shV n m j)
  ·exact ⟨j, .inl (by omega), best_yes h⟩
  obtain ⟨i, hi, e⟩ := best_seen x n m j
  exact ⟨i, by omega, by rw [best_no h, e]⟩
theorem best_len (x : Query) (n m j : Nat) : (bestK x n m j).length = m := by
 obtain ⟨i, _, e⟩ := best_seen x n m j
 rw [e, shV_len]
theorem best_rng (x : Query) {n : Nat} (hn : 1 ≤ n) (m j : Nat) : shR n (bestK x n m j) := by
 obtain ⟨i, _, e⟩ := best_seen x n m j
 rw [e]; exact shV_rng hn m i
theorem val_cons (b : Nat) (x : Int) (u : List Int) : valV b (x :: u) = x.toNat * b ^ u.length + valV b u := by
 rw [show x :: u = [x] ++ u from rfl, val_app, val_one]
theorem lex_val {b : Nat} : ∀ u w : List Int, u.length = w.length → rngV b u → rngV b w → valV b u < valV b w → cmpL u w < 0
 | [], [], _, _, _, h => absurd h (Nat.lt_irrefl _)
 | [], _ :: _, hl, _, _, _ => by cases hl
 | _ :: _, [], hl, _, _, _ => by cases hl
 | x :: u, y :: w, hl, hu, hw, h => by
  have hl' : u.length = w.length := by simpa using hl
  have hx := hu x List.mem_cons_self
  have hy := hw y List.mem_cons_self
  have hu' : rngV b u := fun z hz => hu z (List.mem_cons_of_mem _ hz)
  have hw' : rngV b w := fun z hz => hw z (List.mem_cons_of_mem _ hz)
  rw [val_cons, val_cons, hl'] at h
  unfold cmpL
  by_cases h1 : x < y
  ·rw [if_pos h1]; decide
  rw [if_neg h1]
  by_cases h2 : y < x
  ·exfalso
   have h3 := val_lt w hw'
   have h4 : (y.toNat + 1) * b ^ w.length ≤ x.toNat * b ^ w.length := Nat.mul_le_mul_right _ (by omega)
   rw [Nat.add_mul] at h4
   omega
  rw [if_neg h2]
  have h3 : x = y := by omega
  subst h3
  exact lex_val u w hl' hu' hw' (by omega)
theorem lex_map : ∀ u w : List Int, cmpL (u.map (· + 1)) (w.map (· + 1)) = cmpL u w
 | [], [] => rfl
 | [], _ :: _ => rfl
 | _ :: _, [] => rfl
 | x :: u, y :: w => by
  show (if x + 1 < y + 1 then (-1 : Int) else if y + 1 < x + 1 then 1 else cmpL (u.map (· + 1)) (w.map (· + 1))) = (if x < y then (-1 : Int) else if y < x then 1 else cmpL u w)
  rw [lex_map u w]
  by_cases h1 : x < y
  ·rw [if_pos h1, if_pos (by omega)]
  rw [if_neg h1, if_neg (by omega)]
  by_cases h2 : y < x
  ·rw [if_pos h2, if_pos (by omega)]
  rw [if_neg h2, if_neg (by omega)]
theorem sh_less {n m i j : Nat} (hn : 1 ≤ n) (hij : i < j) (hj : j < n ^ m) : cmpL (shV n m i) (shV n m j) < 0 := by
 unfold shV
 rw [lex_map]
 refine lex_val _ _ (by rw [digV_len, digV_len]) (digV_rng hn m i) (digV_rng hn m j) ?_
 rw [digV_val hn m i (by omega), digV_val hn m j hj]; exact hij
theorem best_less {x : Query} {n m j : Nat} (hn : 1 ≤ n) (h1 : 1 ≤ j) (hj : j < n ^ m) : cmpL (bestK x n m j) (shV n m j) < 0 := by
 obtain ⟨i, hi, e⟩ := best_seen x n m j
 rw [e]
 exact sh_less hn (by omega) hj
theorem sh_zero (n m : Nat) : shV n m 0 = List.replicate m 1 := by
 unfold shV
 rw [dig_zero, List.map_replicate]; rfl
theorem cells_ones {m : Nat} (h : 1 ≤ m ∧ m ≤ 4) : cellsM (List.replicate m 1) = 1 := by
 rcases (by omega : m = 1 ∨ m = 2 ∨ m = 3 ∨ m = 4) with rfl | rfl | rfl | rfl <;> decide
theorem best_cells {x : Query} {n m : Nat} (h : 1 ≤ m ∧ m ≤ 4) : ∀ j, 1 ≤ cellsM (bestK x n m j)
 | 0 => by
  show 1 ≤ cellsM (shV n m 0)
  rw [sh_zero, cells_ones h]; exact Int.le_refl _
 | j + 1 => by
  have ih := best_cells (x := x) (n := n) h j
  by_cases hb : betV x n (bestK x n m j) (shV n m j)
  ·rw [best_yes hb]; have := hb.1.2.2; omega
  rw [best_no hb]; exact ih
theorem best_one (x : Query) (n m : Nat) : bestK x n m 1 = shV n m 0 := by
 by_cases hb : betV x n (bestK x n m 0) (shV n m 0)
 ·exact best_yes hb
 exact best_no hb
noncomputable def sharesForM (x : Query) (n : Int) : List Int := if queryM x = true ∧ 1 ≤ n ∧ n ≤ 8 then bestK x n.toNat (namesM x.atoms).length (n.toNat ^ (namesM x.atoms).length) else []
end
section
attribute [local irreducible] IntKind.wrap namesM queryM
theorem cp_yes {ns : List ByteArray} {a : Atom} {s : List Int} {k : Nat} (hs : shR 8 s) (hk : k < s.length) (h4 : s.length ≤ 4) (h1 : ¬ (ns[k]?.getD ByteArray.empty) = a.from') (h2 : ¬ (ns[k]?.getD ByteArray.empty) = a.to) : IntKind.i64.wrap (cprod ns a s k * (s[k]?.getD 0)) = cprod ns a s (k + 1) := by
 have h3 := cprod_4 (ns := ns) (a := a) hs (k := k + 1) (by omega) (by omega)
 have e : cprod ns a s (k + 1) = cprod ns a s k * (s[k]?.getD 0) := by
  show (if _ then _ else _) = _
  rw [if_pos ⟨h1, h2⟩]
 rw [e] at h3 ⊢
 exact wrap_of (by omega) (by omega)
theorem cp_no1 {ns : List ByteArray} {a : Atom} {s : List Int} {k : Nat} (h : (ns[k]?.getD ByteArray.empty) = a.from') : cprod ns a s k = cprod ns a s (k + 1) := by
 show _ = (if _ then _ else _)
 rw [if_neg (fun e => e.1 h)]
theorem cp_no2 {ns : List ByteArray} {a : Atom} {s : List Int} {k : Nat} (h : (ns[k]?.getD ByteArray.empty) = a.to) : cprod ns a s k = cprod ns a s (k + 1) := by
 show _ = (if _ then _ else _)
 rw [if_neg (fun e => e.2 h)]
theorem cs_next {ns : List ByteArray} {ats : List Atom} {s : List Int} {i : Nat} (hs : shR 8 s) (hn : ns.length = s.length) (h4 : s.length ≤ 4) (hi : i ≤ 100) : IntKind.i64.wrap (csum ns ats s i + cprod ns (ats[i]?.getD default) s ns.length) = csum ns ats s (i + 1) := by
 have h1 := csum_rng (ats := ats) hs hn (by omega) i
 have h2 := cprod_4 (ns := ns) (a := ats[i]?.getD default) hs (k := ns.length) (by omega) (by omega)
 exact wrap_of (by omega) (by omega)
theorem atoms_4 {x : Query} (h : queryM x = true) : x.atoms.length ≤ 4 := by
 have hP : queryP x := by
  apply Classical.byContradiction
  intro e
  rw [q_no e] at h; cases h
 exact hP.1.2.1
theorem implCostIn_ct (l : List Value) (b : Option Addr) (m c : Nat) (x : Query) (s : List Int) (hq : queryM x = true) (hs : shR 8 s) (hn : (namesM x.atoms).length = s.length) :
  Ct prog 104 [.agg ⟨l⟩, .slice b m c] [] (fun H => gQuery.rd H l x ∧ (gSl 3 gI).rd H [.slice b m c] s) (fun v A => v = .int .i64 (costM x s) ∧ A = []) := by
 refine Ct.intro0 G_ok func104 rfl rfl rfl fun E H hp => ?_
 obtain ⟨hp, hp2⟩ := hp
 obtain ⟨b1p, c1p, b2p, c2p, b3p, c3p, rfl, h1p, h2p, h3p⟩ := gQuery_rd.1 hp
 obtain ⟨rfl, hcl, hl⟩ := sl_len hp2
 have ha4 := atoms_4 hq
 have hn4 := (query_names hq).2
 refine ⟨fun x0 => ?_⟩
 apply loop_mod (α := (Nat)) G_ok [15, 16, 17, 7, 8, 18, 19, 20, 21, 22, 23, 24, 25, 9, 10, 26, 27, 28, 29, 30, 31, 32, 33, 34, 35, 36, 37, 38, 39, 40, 41, 42, 43, 44, 45, 5, 46, 14] (fun z => [(14, .v (.int .i64 z)), (5, .v (.int .i64 (csum (namesM x.atoms) x.atoms s z)))]) (fun z => [{ id := x0, cs := [Value.bool x.each, Value.slice b1p x.out.length c1p, Value.slice b2p x.atoms.length c2p, Value.slice b3p x.filters.length c3p], ty := (37 : Nat) }]) (fun z => [H]) (fun z => x.atoms.length - z) (fun z => z ≤ x.atoms.length) (0)
 ·repeat' (first | exact trivial | refine ⟨⟨_, rfl, by first | rfl | exact inc_eq _ (by omega) | (refine sl_eq ?_; simp; done) | exact congrArg (fun v => SV.v (Value.int .i64 v)) (cp_yes hs (by omega) (by omega) (by assumption) (by assumption)) | exact congrArg (fun v => Value.int .i64 v) (cp_yes hs (by omega) (by omega) (by assumption) (by assumption)) | exact congrArg (fun v => SV.v (Value.int .i64 v)) (cp_no1 (by assumption)) | exact congrArg (fun v => Value.int .i64 v) (cp_no1 (by assumption)) | exact congrArg (fun v => SV.v (Value.int .i64 v)) (cp_no2 (by assumption)) | exact congrArg (fun v => Value.int .i64 v) (cp_no2 (by assumption)) | exact congrArg (fun v => SV.v (Value.int .i64 v)) (cs_next hs hn (by omega) (by omega)) | exact congrArg (fun v => Value.int .i64 v) (cs_next hs hn (by omega) (by omega)), by first | exact trivial | simp [SV.ok]⟩, ?_⟩)
 ·exact ⟨rfl, trivial⟩
 ·exact Nat.zero_le _
 ·exact .refl _
 rintro k hI
 obtain hk : k ≤ x.atoms.length := hI
 try dsimp only
 refine ⟨fun q1 => ?_, fun q1 => ?_⟩
 ·simp at q1
  refine idx_rd h2p ?_ ?_ fun b2 o2 hb2 => ?_
  ·omega
  ·omega
  refine load_allN default (k) rfl h2p ?_ ?_ hb2 rfl (mem_at 0 rfl) fun l3 hl3 => ?_
  ·omega
  ·omega
  obtain ⟨rfl, w0x3, w1x3, w2x3⟩ := gAtom_rd.1 hl3
  refine ⟨fun x4 => ?_⟩
  refine call_new (implNamesOf_ct _ (x) ?_) (Rp.mono _ (mem_at 0 rfl) hp) ?_
  ·omega
  rintro v5 A5 o5
  obtain ⟨b5, c5, rfl, o5⟩ := o5
  apply loop_mod (α := (Nat)) G_ok [22, 23, 24, 25, 9, 10, 26, 27, 28, 29, 30, 31, 32, 33, 34, 35, 36, 37, 38, 39, 40, 41, 8, 42, 21] (fun z => [(21, .v (.int .i64 z)), (8, .v (.int .i64 (cprod (namesM x.atoms) (x.atoms[k]?.getD default) s z)))]) (fun z => [{ id := x0, cs := [Value.bool x.each, Value.slice b1p x.out.length c1p, Value.slice b2p x.atoms.length c2p, Value.slice b3p x.filters.length c3p], ty := (37 : Nat) }, { id := x4, cs := [Value.string (x.atoms[k]?.getD default).from', Value.string (x.atoms[k]?.getD default).path, Value.string (x.atoms[k]?.getD default).to], ty := (154 : Nat) }]) (fun z => [A5, H]) (fun z => (namesM x.atoms).length - z) (fun z => z ≤ (namesM x.atoms).length) (0)
  ·repeat' (first | exact trivial | refine ⟨⟨_, rfl, by first | rfl | exact inc_eq _ (by omega) | (refine sl_eq ?_; simp; done) | exact congrArg (fun v => SV.v (Value.int .i64 v)) (cp_yes hs (by omega) (by omega) (by assumption) (by assumption)) | exact congrArg (fun v => Value.int .i64 v) (cp_yes hs (by omega) (by omega) (by assumption) (by assumption)) | exact congrArg (fun v => SV.v (Value.int .i64 v)) (cp_no1 (by assumption)) | exact congrArg (fun v => Value.int .i64 v) (cp_no1 (by assumption)) | exact congrArg (fun v => SV.v (Value.int .i64 v)) (cp_no2 (by assumption)) | exact congrArg (fun v => Value.int .i64 v) (cp_no2 (by assumption)) | exact congrArg (fun v => SV.v (Value.int .i64 v)) (cs_next hs hn (by omega) (by omega)) | exact congrArg (fun v => Value.int .i64 v) (cs_next hs hn (by omega) (by omega)), by first | exact trivial | simp [SV.ok]⟩, ?_⟩)
  ·exact ⟨rfl, rfl, trivial⟩
  ·exact Nat.zero_le _
  ·exact .refl _
  rintro i hI
  obtain hi : i ≤ (namesM x.atoms).length := hI
  try dsimp only
  refine ⟨fun q6 => ?_, fun q6 => ?_⟩
  ·simp at q6
   refine idx_rd (Gt.owrd _ o5) ?_ ?_ fun b7 o7 hb7 => ?_
   ·omega
   ·omega
   refine load_allN ByteArray.empty (i) rfl (Gt.owrd _ o5) ?_ ?_ hb7 rfl (mem_at 0 rfl) fun l8 hl8 => ?_
   ·omega
   ·omega
   obtain ⟨rfl, hw8⟩ := hl8; simp only [flStr, flInt, okI] at hw8
   refine ⟨fun q9 => ?_, fun q9 => ?_⟩
   ·simp at q9
    simp only [str_inj, u8_inj, u8_wrap] at q9
    refine ⟨fun q10 => ?_, fun q10 => ?_⟩
    ·simp at q10
     simp only [str_inj, u8_inj, u8_wrap] at q10
     refine idx_rd hp2 ?_ ?_ fun b11 o11 hb11 => ?_
     ·omega
     ·omega
     refine load_allN 0 (i) rfl hp2 ?_ ?_ hb11 rfl (mem_at 1 rfl) fun l12 hl12 => ?_
     ·omega
     ·omega
     obtain ⟨rfl, hw12⟩ := hl12; simp only [flStr, flInt, okI] at hw12
     apply loop_stepA (i + 1)
     ·exact .refl _
     ·repeat' (first | exact trivial | refine ⟨⟨_, rfl, by first | rfl | exact inc_eq _ (by omega) | (refine sl_eq ?_; simp; done) | exact congrArg (fun v => SV.v (Value.int .i64 v)) (cp_yes hs (by omega) (by omega) (by assumption) (by assumption)) | exact congrArg (fun v => Value.int .i64 v) (cp_yes hs (by omega) (by omega) (by assumption) (by assumption)) | exact congrArg (fun v => SV.v (Value.int .i64 v)) (cp_no1 (by assumption)) | exact congrArg (fun v => Value.int .i64 v) (cp_no1 (by assumption)) | exact congrArg (fun v => SV.v (Value.int .i64 v)) (cp_no2 (by assumption)) | exact congrArg (fun v => Value.int .i64 v) (cp_no2 (by assumption)) | exact congrArg (fun v => SV.v (Value.int .i64 v)) (cs_next hs hn (by omega) (by omega)) | exact congrArg (fun v => Value.int .i64 v) (cs_next hs hn (by omega) (by omega)), by first | exact trivial | simp [SV.ok]⟩, ?_⟩)
     ·exact ⟨rfl, rfl, trivial⟩
     ·trivial
     omega
    ·simp at q10
     simp only [str_inj, u8_inj, u8_wrap] at q10
     apply loop_stepA (i + 1)
     ·exact .refl _
     ·repeat' (first | exact trivial | refine ⟨⟨_, rfl, by first | rfl | exact inc_eq _ (by omega) | (refine sl_eq ?_; simp; done) | exact congrArg (fun v => SV.v (Value.int .i64 v)) (cp_yes hs (by omega) (by omega) (by assumption) (by assumption)) | exact congrArg (fun v => Value.int .i64 v) (cp_yes hs (by omega) (by omega) (by assumption) (by assumption)) | exact congrArg (fun v => SV.v (Value.int .i64 v)) (cp_no1 (by assumption)) | exact congrArg (fun v => Value.int .i64 v) (cp_no1 (by assumption)) | exact congrArg (fun v => SV.v (Value.int .i64 v)) (cp_no2 (by assumption)) | exact congrArg (fun v => Value.int .i64 v) (cp_no2 (by assumption)) | exact congrArg (fun v => SV.v (Value.int .i64 v)) (cs_next hs hn (by omega) (by omega)) | exact congrArg (fun v => Value.int .i64 v) (cs_next hs hn (by omega) (by omega)), by first | exact trivial | simp [SV.ok]⟩, ?_⟩)
     ·exact ⟨rfl, rfl, trivial⟩
     ·trivial
     omega
   ·simp at q9
    simp only [str_inj, u8_inj, u8_wrap] at q9
    apply loop_stepA (i + 1)
    ·exact .refl _
    ·repeat' (first | exact trivial | refine ⟨⟨_, rfl, by first | rfl | exact inc_eq _ (by omega) | (refine sl_eq ?_; simp; done) | exact congrArg (fun v => SV.v (Value.int .i64 v)) (cp_yes hs (by omega) (by omega) (by assumption) (by assumption)) | exact congrArg (fun v => Value.int .i64 v) (cp_yes hs (by omega) (by omega) (by assumption) (by assumption)) | exact congrArg (fun v => SV.v (Value.int .i64 v)) (cp_no1 (by assumption)) | exact congrArg (fun v => Value.int .i64 v) (cp_no1 (by assumption)) | exact congrArg (fun v => SV.v (Value.int .i64 v)) (cp_no2 (by assumption)) | exact congrArg (fun v => Value.int .i64 v) (cp_no2 (by assumption)) | exact congrArg (fun v => SV.v (Value.int .i64 v)) (cs_next hs hn (by omega) (by omega)) | exact congrArg (fun v => Value.int .i64 v) (cs_next hs hn (by omega) (by omega)), by first | exact trivial | simp [SV.ok]⟩, ?_⟩)
    ·exact ⟨rfl, rfl, trivial⟩
    ·trivial
    omega
  ·simp at q6
   obtain rfl : i = (namesM x.atoms).length := by omega
   apply loop_stepA (k + 1)
   ·exact .sub (by repeat (first | exact .slnil | apply List.Sublist.cons_cons | apply List.Sublist.cons))
   ·repeat' (first | exact trivial | refine ⟨⟨_, rfl, by first | rfl | exact inc_eq _ (by omega) | (refine sl_eq ?_; simp; done) | exact congrArg (fun v => SV.v (Value.int .i64 v)) (cp_yes hs (by omega) (by omega) (by assumption) (by assumption)) | exact congrArg (fun v => Value.int .i64 v) (cp_yes hs (by omega) (by omega) (by assumption) (by assumption)) | exact congrArg (fun v => SV.v (Value.int .i64 v)) (cp_no1 (by assumption)) | exact congrArg (fun v => Value.int .i64 v) (cp_no1 (by assumption)) | exact congrArg (fun v => SV.v (Value.int .i64 v)) (cp_no2 (by assumption)) | exact congrArg (fun v => Value.int .i64 v) (cp_no2 (by assumption)) | exact congrArg (fun v => SV.v (Value.int .i64 v)) (cs_next hs hn (by omega) (by omega)) | exact congrArg (fun v => Value.int .i64 v) (cs_next hs hn (by omega) (by omega)), by first | exact trivial | simp [SV.ok]⟩, ?_⟩)
   ·exact ⟨rfl, trivial⟩
   ·trivial
   omega
 ·simp at q1
  (have hke : k = x.atoms.length := (by omega); subst hke; exact ⟨[], ⟨rfl, rfl⟩, .mem (by simp)⟩)
theorem l13Cost_ct (l : List Value) (b2 : Option Addr) (m2 c2 : Nat) (b : Option Addr) (m c : Nat) (x : Query) (s : List Int) (hq : queryM x = true) (hs : shR 8 s) (hn : (namesM x.atoms).length = s.length) :
  Ct prog 92 [.agg ⟨l⟩, .slice b2 m2 c2, .slice b m c] [] (fun H => gQuery.rd H l x ∧ (gSl 9 gS).rd H [.slice b2 m2 c2] (namesM x.atoms) ∧ (gSl 3 gI).rd H [.slice b m c] s) (fun v A => v = .int .i64 (costM x s) ∧ A = []) := by
 refine Ct.intro0 G_ok func92 rfl rfl rfl fun E H hp => ?_
 obtain ⟨hp, hp3, hp2⟩ := hp
 obtain ⟨b1p, c1p, b2p, c2p, b3p, c3p, rfl, h1p, h2p, h3p⟩ := gQuery_rd.1 hp
 obtain ⟨rfl, hcl, hl⟩ := sl_len hp2
 obtain ⟨rfl, hcl3, hl3⟩ := sl_len hp3
 have ha4 := atoms_4 hq
 have hn4 := (query_names hq).2
 refine ⟨fun x0 => ?_⟩
 apply loop_mod (α := (Nat)) G_ok [11, 12, 13, 14, 15, 9, 10, 18, 19, 20, 21, 24, 25, 26, 27, 28, 29, 30, 31, 32, 33, 34, 35, 36, 37, 38, 39, 40, 41, 42, 43, 44, 45, 46, 47, 48, 49, 50, 51, 52, 53, 22, 23, 54, 55, 56, 7, 16, 17, 8] (fun z => [(8, .v (.int .i64 z)), (7, .v (.int .i64 (csum (namesM x.atoms) x.atoms s z)))]) (fun z => [{ id := x0, cs := [Value.bool x.each, Value.slice b1p x.out.length c1p, Value.slice b2p x.atoms.length c2p, Value.slice b3p x.filters.length c3p], ty := (37 : Nat) }]) (fun z => [H]) (fun z => x.atoms.length - z) (fun z => z ≤ x.atoms.length) (0)
 ·repeat' (first | exact trivial | refine ⟨⟨_, rfl, by first | rfl | exact inc_eq _ (by omega) | (refine sl_eq ?_; simp; done) | exact congrArg (fun v => SV.v (Value.int .i64 v)) (cp_yes hs (by omega) (by omega) (by assumption) (by assumption)) | exact congrArg (fun v => Value.int .i64 v) (cp_yes hs (by omega) (by omega) (by assumption) (by assumption)) | exact congrArg (fun v => SV.v (Value.int .i64 v)) (cp_no1 (by assumption)) | exact congrArg (fun v => Value.int .i64 v) (cp_no1 (by assumption)) | exact congrArg (fun v => SV.v (Value.int .i64 v)) (cp_no2 (by assumption)) | exact congrArg (fun v => Value.int .i64 v) (cp_no2 (by assumption)) | exact congrArg (fun v => SV.v (Value.int .i64 v)) (cs_next hs hn (by omega) (by omega)) | exact congrArg (fun v => Value.int .i64 v) (cs_next hs hn (by omega) (by omega)), by first | exact trivial | simp [SV.ok]⟩, ?_⟩)
 ·exact ⟨rfl, trivial⟩
 ·exact Nat.zero_le _
 ·exact .refl _
 rintro k hI
 obtain hk : k ≤ x.atoms.length := hI
 try dsimp only
 refine ⟨fun q1 => ?_, fun q1 => ?_⟩
 ·simp at q1
  apply loop_mod (α := (Nat)) G_ok [18, 19, 20, 21, 24, 25, 26, 27, 28, 29, 30, 31, 32, 33, 34, 35, 36, 37, 38, 39, 40, 41, 42, 43, 44, 45, 46, 47, 48, 49, 50, 51, 52, 53, 9, 22, 23, 10] (fun z => [(10, .v (.int .i64 z)), (9, .v (.int .i64 (cprod (namesM x.atoms) (x.atoms[k]?.getD default) s z)))]) (fun z => [{ id := x0, cs := [Value.bool x.each, Value.slice b1p x.out.length c1p, Value.slice b2p x.atoms.length c2p, Value.slice b3p x.filters.length c3p], ty := (37 : Nat) }]) (fun z => [H]) (fun z => (namesM x.atoms).length - z) (fun z => z ≤ (namesM x.atoms).length) (0)
  ·repeat' (first | exact trivial | refine ⟨⟨_, rfl, by first | rfl | exact inc_eq _ (by omega) | (refine sl_eq ?_; simp; done) | exact congrArg (fun v => SV.v (Value.int .i64 v)) (cp_yes hs (by omega) (by omega) (by assumption) (by assumption)) | exact congrArg (fun v => Value.int .i64 v) (cp_yes hs (by omega) (by omega) (by assumption) (by assumption)) | exact congrArg (fun v => SV.v (Value.int .i64 v)) (cp_no1 (by assumption)) | exact congrArg (fun v => Value.int .i64 v) (cp_no1 (by assumption)) | exact congrArg (fun v => SV.v (Value.int .i64 v)) (cp_no2 (by assumption)) | exact congrArg (fun v => Value.int .i64 v) (cp_no2 (by assumption)) | exact congrArg (fun v => SV.v (Value.int .i64 v)) (cs_next hs hn (by omega) (by omega)) | exact congrArg (fun v => Value.int .i64 v) (cs_next hs hn (by omega) (by omega)), by first | exact trivial | simp [SV.ok]⟩, ?_⟩)
  ·exact ⟨rfl, trivial⟩
  ·exact Nat.zero_le _
  ·exact .refl _
  rintro i hI
  obtain hi : i ≤ (namesM x.atoms).length := hI
  try dsimp only
  refine ⟨fun q2 => ?_, fun q2 => ?_⟩
  ·simp at q2
   refine draw G_ok mixed none (.q 0 (.q 1 (.q 2 (.q 3 (.q 4 (.q 5 (.q 6 (.q 7 (.q 8 (.q 9 (.q 10 (.q 11 (.q 12 (.q 13 (.q 14 (.q 15 (.q 16 (.q 17 (.q 18 (.q 19 (.q 20 (.q 21 (.q 22 (.q 23 (.nil))))))))))))))))))))))))) (by decide +kernel) ?_
   refine idx_rd hp3 ?_ ?_ fun b3 o3 hb3 => ?_
   ·omega
   ·omega
   refine load_allN ByteArray.empty (i) rfl hp3 ?_ ?_ hb3 rfl (mem_at 0 rfl) fun l4 hl4 => ?_
   ·omega
   ·omega
   obtain ⟨rfl, hw4⟩ := hl4; simp only [flStr, flInt, okI] at hw4
   refine idx_rd h2p ?_ ?_ fun b5 o5 hb5 => ?_
   ·omega
   ·omega
   refine load_partN default (k) 0 rfl h2p ?_ ?_ hb5 rfl (by decide) (mem_at 0 rfl) fun l6 hl6 => ?_
   ·omega
   ·omega
   obtain ⟨rfl, w0x6, w1x6, w2x6⟩ := gAtom_rd.1 hl6
   refine ⟨fun q7 => ?_, fun q7 => ?_⟩
   ·simp at q7
    simp only [str_inj, u8_inj, u8_wrap] at q7
    refine idx_rd hp3 ?_ ?_ fun b8 o8 hb8 => ?_
    ·omega
    ·omega
    refine load_allN ByteArray.empty (i) rfl hp3 ?_ ?_ hb8 rfl (mem_at 0 rfl) fun l9 hl9 => ?_
    ·omega
    ·omega
    obtain ⟨rfl, hw9⟩ := hl9; simp only [flStr, flInt, okI] at hw9
    refine idx_rd h2p ?_ ?_ fun b10 o10 hb10 => ?_
    ·omega
    ·omega
    refine load_partN default (k) 2 rfl h2p ?_ ?_ hb10 rfl (by decide) (mem_at 0 rfl) fun l11 hl11 => ?_
    ·omega
    ·omega
    obtain ⟨rfl, w0x11, w1x11, w2x11⟩ := gAtom_rd.1 hl11
    refine ⟨fun q12 => ?_, fun q12 => ?_⟩
    ·simp at q12
     simp only [str_inj, u8_inj, u8_wrap] at q12
     refine idx_rd hp2 ?_ ?_ fun b13 o13 hb13 => ?_
     ·omega
     ·omega
     refine load_allN 0 (i) rfl hp2 ?_ ?_ hb13 rfl (mem_at 0 rfl) fun l14 hl14 => ?_
     ·omega
     ·omega
     obtain ⟨rfl, hw14⟩ := hl14; simp only [flStr, flInt, okI] at hw14
     apply loop_stepA (i + 1)
     ·exact .refl _
     ·repeat' (first | exact trivial | refine ⟨⟨_, rfl, by first | rfl | exact inc_eq _ (by omega) | (refine sl_eq ?_; simp; done) | exact congrArg (fun v => SV.v (Value.int .i64 v)) (cp_yes hs (by omega) (by omega) (by assumption) (by assumption)) | exact congrArg (fun v => Value.int .i64 v) (cp_yes hs (by omega) (by omega) (by assumption) (by assumption)) | exact congrArg (fun v => SV.v (Value.int .i64 v)) (cp_no1 (by assumption)) | exact congrArg (fun v => Value.int .i64 v) (cp_no1 (by assumption)) | exact congrArg (fun v => SV.v (Value.int .i64 v)) (cp_no2 (by assumption)) | exact congrArg (fun v => Value.int .i64 v) (cp_no2 (by assumption)) | exact congrArg (fun v => SV.v (Value.int .i64 v)) (cs_next hs hn (by omega) (by omega)) | exact congrArg (fun v => Value.int .i64 v) (cs_next hs hn (by omega) (by omega)), by first | exact trivial | simp [SV.ok]⟩, ?_⟩)
     ·exact ⟨rfl, trivial⟩
     ·trivial
     omega
    ·simp at q12
     simp only [str_inj, u8_inj, u8_wrap] at q12
     apply loop_stepA (i + 1)
     ·exact .refl _
     ·repeat' (first | exact trivial | refine ⟨⟨_, rfl, by first | rfl | exact inc_eq _ (by omega) | (refine sl_eq ?_; simp; done) | exact congrArg (fun v => SV.v (Value.int .i64 v)) (cp_yes hs (by omega) (by omega) (by assumption) (by assumption)) | exact congrArg (fun v => Value.int .i64 v) (cp_yes hs (by omega) (by omega) (by assumption) (by assumption)) | exact congrArg (fun v => SV.v (Value.int .i64 v)) (cp_no1 (by assumption)) | exact congrArg (fun v => Value.int .i64 v) (cp_no1 (by assumption)) | exact congrArg (fun v => SV.v (Value.int .i64 v)) (cp_no2 (by assumption)) | exact congrArg (fun v => Value.int .i64 v) (cp_no2 (by assumption)) | exact congrArg (fun v => SV.v (Value.int .i64 v)) (cs_next hs hn (by omega) (by omega)) | exact congrArg (fun v => Value.int .i64 v) (cs_next hs hn (by omega) (by omega)), by first | exact trivial | simp [SV.ok]⟩, ?_⟩)
     ·exact ⟨rfl, trivial⟩
     ·trivial
     omega
   ·simp at q7
    simp only [str_inj, u8_inj, u8_wrap] at q7
    apply loop_stepA (i + 1)
    ·exact .refl _
    ·repeat' (first | exact trivial | refine ⟨⟨_, rfl, by first | rfl | exact inc_eq _ (by omega) | (refine sl_eq ?_; simp; done) | exact congrArg (fun v => SV.v (Value.int .i64 v)) (cp_yes hs (by omega) (by omega) (by assumption) (by assumption)) | exact congrArg (fun v => Value.int .i64 v) (cp_yes hs (by omega) (by omega) (by assumption) (by assumption)) | exact congrArg (fun v => SV.v (Value.int .i64 v)) (cp_no1 (by assumption)) | exact congrArg (fun v => Value.int .i64 v) (cp_no1 (by assumption)) | exact congrArg (fun v => SV.v (Value.int .i64 v)) (cp_no2 (by assumption)) | exact congrArg (fun v => Value.int .i64 v) (cp_no2 (by assumption)) | exact congrArg (fun v => SV.v (Value.int .i64 v)) (cs_next hs hn (by omega) (by omega)) | exact congrArg (fun v => Value.int .i64 v) (cs_next hs hn (by omega) (by omega)), by first | exact trivial | simp [SV.ok]⟩, ?_⟩)
    ·exact ⟨rfl, trivial⟩
    ·trivial
    omega
  ·simp at q2
   obtain rfl : i = (namesM x.atoms).length := by omega
   apply loop_stepA (k + 1)
   ·exact .refl _
   ·repeat' (first | exact trivial | refine ⟨⟨_, rfl, by first | rfl | exact inc_eq _ (by omega) | (refine sl_eq ?_; simp; done) | exact congrArg (fun v => SV.v (Value.int .i64 v)) (cp_yes hs (by omega) (by omega) (by assumption) (by assumption)) | exact congrArg (fun v => Value.int .i64 v) (cp_yes hs (by omega) (by omega) (by assumption) (by assumption)) | exact congrArg (fun v => SV.v (Value.int .i64 v)) (cp_no1 (by assumption)) | exact congrArg (fun v => Value.int .i64 v) (cp_no1 (by assumption)) | exact congrArg (fun v => SV.v (Value.int .i64 v)) (cp_no2 (by assumption)) | exact congrArg (fun v => Value.int .i64 v) (cp_no2 (by assumption)) | exact congrArg (fun v => SV.v (Value.int .i64 v)) (cs_next hs hn (by omega) (by omega)) | exact congrArg (fun v => Value.int .i64 v) (cs_next hs hn (by omega) (by omega)), by first | exact trivial | simp [SV.ok]⟩, ?_⟩)
   ·exact ⟨rfl, trivial⟩
   ·trivial
   omega
 ·simp at q1
  (have hke : k = x.atoms.length := (by omega); subst hke; exact ⟨[], ⟨rfl, rfl⟩, .mem (by simp)⟩)
def upV (w : List Int) : List Int := w.map (· + 1)
theorem upV_len (w : List Int) : (upV w).length = w.length := List.length_map _
theorem upV_at {w : List Int} {p : Nat} (h : p < w.length) : (upV w)[p]?.getD 0 = (w[p]?.getD 0) + 1 := by
 unfold upV
 rw [List.getElem?_map, List.getElem?_eq_getElem h]; rfl
theorem upV_set (w : List Int) (p : Nat) (y : Int) : (upV w).set p (y + 1) = upV (w.set p y) := by unfold upV; rw [List.map_set]
theorem dig_at {n m j : Nat} (hn : 1 ≤ n) {p : Nat} (hp : p < m) : 0 ≤ (digV n m j)[p]?.getD 0 ∧ (digV n m j)[p]?.getD 0 < n := by
 have hl := digV_len n m j
 have h := digV_rng hn m j ((digV n m j)[p]'(by omega)) (List.getElem_mem _)
 rw [List.getElem?_eq_getElem (by omega)]; exact h
theorem ns_at {n m j p : Nat} {w : List Int} (hn : 1 ≤ n ∧ n ≤ 8) (h1 : 1 ≤ p) (hp : p ≤ m) (hS : stepV n (digV n m j) (m - p) w) : (upV w)[p - 1]?.getD 0 = (digV n m j)[p - 1]?.getD 0 + 1 ∧ IntKind.i64.wrap ((upV w)[p - 1]?.getD 0 + 1) = (digV n m j)[p - 1]?.getD 0 + 1 + 1 := by
 have hl := digV_len n m j
 have hwl := step_len hS
 have hwv := step_at hS (p := p - 1) (by omega)
 have hv := dig_at (m := m) (j := j) hn.1 (p := p - 1) (by omega)
 have e : (upV w)[p - 1]?.getD 0 = (digV n m j)[p - 1]?.getD 0 + 1 := by rw [upV_at (by omega), hwv]
 exact ⟨e, by rw [e, wrap_of (by omega) (by omega)]⟩
theorem ns_set {n m j p : Nat} {w : List Int} (hn : 1 ≤ n ∧ n ≤ 8) (h1 : 1 ≤ p) (hp : p ≤ m) (hS : stepV n (digV n m j) (m - p) w) : ((upV w).set (p - 1) (IntKind.i64.wrap ((upV w)[p - 1]?.getD 0 + 1)))[p - 1]?.getD 0 = (digV n m j)[p - 1]?.getD 0 + 1 + 1 := by
 have hl := digV_len n m j
 have hwl := step_len hS
 rw [(ns_at hn h1 hp hS).2, List.getElem?_set_self (by rw [upV_len]; omega)]; rfl
theorem ns_yes {n m j p : Nat} {w : List Int} (hn : 1 ≤ n ∧ n ≤ 8) (hj : j < n ^ m) (h1 : 1 ≤ p) (hp : p ≤ m) (hS : stepV n (digV n m j) (m - p) w) (h : ((upV w).set (p - 1) (IntKind.i64.wrap ((upV w)[p - 1]?.getD 0 + 1)))[p - 1]?.getD 0 ≤ (n : Int)) :
  (upV w).set (p - 1) (IntKind.i64.wrap ((upV w)[p - 1]?.getD 0 + 1)) = shV n m (j + 1) ∧ j + 1 < n ^ m := by
 rw [ns_set hn h1 hp hS] at h
 rw [(ns_at hn h1 hp hS).2, upV_set]
 have h2 := step_next hn.1 hj hS (p := p - 1) (by omega) (by omega)
 exact ⟨by rw [h2.1]; rfl, h2.2⟩
theorem ns_no {n m j p : Nat} {w : List Int} (hn : 1 ≤ n ∧ n ≤ 8) (h1 : 1 ≤ p) (hp : p ≤ m) (hS : stepV n (digV n m j) (m - p) w) (h : (n : Int) < ((upV w).set (p - 1) (IntKind.i64.wrap ((upV w)[p - 1]?.getD 0 + 1)))[p - 1]?.getD 0) :
  stepV n (digV n m j) (m - (p - 1)) (w.set (p - 1) 0) := by
 have hl := digV_len n m j
 rw [ns_set hn h1 hp hS] at h
 have hv := dig_at (m := m) (j := j) hn.1 (p := p - 1) (by omega)
 rw [show m - (p - 1) = m - p + 1 by omega]
 exact step_more hS (by omega) (by omega)
theorem ns_one (w : List Int) (p : Nat) (y : Int) : ((upV w).set p y).set p 1 = upV (w.set p 0) := by rw [List.set_set, ← upV_set]; rfl
theorem nextShares_ct (bs : Option Addr) (cp : Nat) (n m j : Nat) (A : Hp) (ho : (gSl 3 gI).ow [.slice bs m cp] (shV n m j) A) (hn : 1 ≤ n ∧ n ≤ 8) (hj : j < n ^ m) :
  CtR prog 102 [.slice bs m cp, .int .i64 n] A (fun _ => True)
   (fun v D => ∃ w, v = .bool (decide (j + 1 < n ^ m)) ∧ (j + 1 < n ^ m → w = shV n m (j + 1)) ∧ w.length = m ∧ (gSl 3 gI).ow [.slice bs m cp] w D) := by
 refine CtR.intro G_ok [A] func102 rfl rfl rfl (by simp) fun E H _ => ?_
 have hl := digV_len n m j
 obtain ⟨_, hcs, hls⟩ := sl_len (Gt.owrd _ ho)
 have hsl := shV_len n m j
 apply loop_mod (α := (Nat) × (List Int) × (Hp)) G_ok [9, 10, 13, 14, 15, 16, 17, 18, 19, 20, 21, 22, 23, 24, 4, 25, 26, 27, 11, 12, 5] (fun z => [(5, .v (.int .i64 ((z.1 : Int) - 1)))]) (fun z => []) (fun z => [z.2.2, H]) (fun z => z.1) (fun z => z.1 ≤ m ∧ stepV n (digV n m j) (m - z.1) z.2.1 ∧ (gSl 3 gI).ow [.slice bs m cp] (upV z.2.1) z.2.2) ((m, digV n m j, A))
 ·repeat' (first | exact trivial | refine ⟨⟨_, rfl, by first | rfl | exact inc_eq _ (by omega) | (refine sl_eq ?_; simp; done) | exact congrArg (fun v => SV.v (Value.int .i64 v)) hwp | exact congrArg (fun v => Value.int .i64 v) hwp | exact congrArg (fun v => SV.v (Value.int .i64 v)) (wrap_of (by omega) (by omega)) | exact congrArg (fun v => Value.int .i64 v) (wrap_of (by omega) (by omega)), by first | exact trivial | simp [SV.ok]⟩, ?_⟩)
 ·exact trivial
 ·try dsimp only
  exact ⟨Nat.le_refl _, by rw [Nat.sub_self]; exact step_zero _ _, ho⟩
 ·exact .refl _
 rintro ⟨p, w, W⟩ hI
 try dsimp only at hI
 obtain ⟨hp, hS, oW⟩ := hI
 try dsimp only
 refine ⟨fun q0 => ?_, fun q0 => ?_⟩
 ·simp at q0
  have hq : ((p : Int) - 1).toNat = p - 1 := (by omega)
  have hwl := step_len hS
  have hul := upV_len w
  have hwv : (upV w)[((p : Int) - 1).toNat]?.getD 0 = (digV n m j)[p - 1]?.getD 0 + 1 := (by rw [hq]; exact (ns_at hn (by omega) hp hS).1)
  have hv := dig_at (m := m) (j := j) hn.1 (p := p - 1) (by omega)
  have hwp : IntKind.i64.wrap ((p : Int) - 1 - 1) = ((p - 1 : Nat) : Int) - 1 := (by rw [wrap_of (by omega) (by omega)]; omega)
  refine idx_rd (Gt.owrd _ oW) ?_ ?_ fun b1 o1 hb1 => ?_
  ·omega
  ·omega
  refine load_all 0 (Gt.owrd _ oW) ?_ ?_ hb1 rfl (mem_at 0 rfl) fun l2 hl2 => ?_
  ·omega
  ·omega
  obtain ⟨rfl, hw2⟩ := hl2; simp only [flStr, flInt, okI] at hw2
  refine idx_rd (Gt.owrd _ oW) ?_ ?_ fun b3 o3 hb3 => ?_
  ·omega
  ·omega
  refine gstoreN (Fld.id _) 0 (Int.toNat ((↑p : Int) - (1 : Int))) 0 rfl (Int.toNat_of_nonneg ?_).symm oW ?_ ?_ hb3 rfl gI_pl _ (gI_ow ?_) fun A4 o4 => ?_
  ·omega
  ·omega
  ·omega
  ·exact okI_wrap _
  refine idx_rd (Gt.owrd _ o4) ?_ ?_ fun b5 o5 hb5 => ?_
  ·omega
  ·simp; omega
  refine load_all 0 (Gt.owrd _ o4) ?_ ?_ hb5 rfl (mem_at 0 rfl) fun l6 hl6 => ?_
  ·omega
  ·simp; omega
  obtain ⟨rfl, hw6⟩ := hl6; simp only [flStr, flInt, okI] at hw6
  refine ⟨fun q7 => ?_, fun q7 => ?_⟩
  ·simp at q7
   (obtain ⟨e1, e2⟩ := ns_yes hn hj (by omega) hp hS (by assumption); rw [hq, e1] at o4; exact ⟨A4, ⟨_, by rw [decide_eq_true e2], fun _ => rfl, shV_len _ _ _, o4⟩, rlB⟩)
  ·simp at q7
   refine idx_rd (Gt.owrd _ o4) ?_ ?_ fun b8 o8 hb8 => ?_
   ·omega
   ·simp; omega
   refine gstoreN (Fld.id _) 0 (Int.toNat ((↑p : Int) - (1 : Int))) 0 rfl (Int.toNat_of_nonneg ?_).symm o4 ?_ ?_ hb8 rfl gI_pl _ (gI_ow ?_) fun A9 o9 => ?_
   ·omega
   ·omega
   ·simp; omega
   ·trivial
   apply loop_stepA (p - 1, w.set (p - 1) 0, _)
   ·exact .refl _
   ·repeat' (first | exact trivial | refine ⟨⟨_, rfl, by first | rfl | exact inc_eq _ (by omega) | (refine sl_eq ?_; simp; done) | exact congrArg (fun v => SV.v (Value.int .i64 v)) hwp | exact congrArg (fun v => Value.int .i64 v) hwp | exact congrArg (fun v => SV.v (Value.int .i64 v)) (wrap_of (by omega) (by omega)) | exact congrArg (fun v => Value.int .i64 v) (wrap_of (by omega) (by omega)), by first | exact trivial | simp [SV.ok]⟩, ?_⟩)
   ·exact trivial
   ·try dsimp only
    exact ⟨by omega, ns_no hn (by omega) hp hS (by assumption), by have e9 := ns_one w (p - 1) (IntKind.i64.wrap ((upV w)[p - 1]?.getD 0 + 1)); rw [← e9, ← hq]; assumption⟩
   try dsimp only
   omega
 ·simp at q0
  (have hp0 : p = 0 := (by omega); subst hp0; exact ⟨W, ⟨upV w, by rw [decide_eq_false (by have := step_last hn.1 hj hS; omega)], fun e => absurd e (by have := step_last hn.1 hj hS; omega), by rw [upV_len, step_len hS, hl], oW⟩, rlB⟩)
end
section
attribute [local irreducible] IntKind.wrap namesM queryM cellsM costM bestK shV
def onesV (m i : Nat) : List Int := List.replicate i 1 ++ List.replicate (m - i) 0
theorem ones_zero (m : Nat) : onesV m 0 = List.replicate m 0 := by unfold onesV; simp
theorem ones_all (m : Nat) : onesV m m = List.replicate m 1 := by unfold onesV; simp
theorem ones_len {m i : Nat} (h : i ≤ m) : (onesV m i).length = m := by unfold onesV; simp; omega
theorem ones_set {m i : Nat} (h : i < m) : (onesV m i).set i 1 = onesV m (i + 1) := by
 unfold onesV
 rw [List.set_append_right _ _ (by rw [List.length_replicate]; exact Nat.le_refl _), List.length_replicate, Nat.sub_self, show m - i = (m - (i + 1)) + 1 by omega, List.replicate_succ]
 show _ ++ (1 :: _) = _
 rw [List.replicate_succ' , List.append_assoc]; rfl
theorem sf_no {x : Query} {n : Int} (h : ¬ (queryM x = true ∧ 1 ≤ n ∧ n ≤ 8)) : sharesForM x n = [] := if_neg h
theorem sf_yes {x : Query} {n : Int} (h : queryM x = true ∧ 1 ≤ n ∧ n ≤ 8) : sharesForM x n = bestK x n.toNat (namesM x.atoms).length (n.toNat ^ (namesM x.atoms).length) := if_pos h
theorem szIq : ∀ l : List Int, szL gI l = l.length
 | [] => rfl
 | a :: r => by show 1 + gI.sz a + szL gI r = r.length + 1; rw [szIq r, show gI.sz a = 0 from rfl]; omega
theorem ones_make {x b : Nat} (m : Nat) (hm : m ≤ 4) : (gSl 3 gI).ow [.slice (some ⟨x, 0, none⟩) ((m : Nat) : Int).toNat ((m : Nat) : Int).toNat] (onesV m 0) [(x, Obj.cells ⟨zeros ((m : Nat) : Int).toNat [.int .i64 0]⟩ 3)] := by
 rw [ones_zero]
 exact gmake (g := gI) (T := 3) (z := 0) (gI_ow (x := 0) (by unfold okI; omega)) (Nat.le_refl _) (by show m ≤ _; omega)
theorem sf_leaf {b : Option Addr} {k c : Nat} {A : Hp} {m o : List Int} (h : m = o) (hk : k = o.length) (ow : (gSl 3 gI).ow [.slice b k c] o A) : ∃ b' c', Value.slice b k c = .slice b' m.length c' ∧ (gSl 3 gI).ow [.slice b' m.length c'] m A := by
 subst h; subst hk; exact ⟨b, c, rfl, ow⟩
section
attribute [local semireducible] bestK
theorem best_0 (x : Query) (n m : Nat) : bestK x n m 0 = shV n m 0 := rfl
end
def sfI (x : Query) (n j : Nat) (mo : Bool) (w bs : List Int) : Prop := ((mo = true → j < n ^ (namesM x.atoms).length ∧ w = shV n (namesM x.atoms).length j) ∧ (mo = false → j = n ^ (namesM x.atoms).length)) ∧ bs = bestK x n (namesM x.atoms).length j ∧ w.length = (namesM x.atoms).length
theorem sfI_0 {x : Query} {n : Nat} (hn : 1 ≤ n) : sfI x n 0 true (shV n (namesM x.atoms).length 0) (shV n (namesM x.atoms).length 0) :=
 ⟨⟨fun _ => ⟨Nat.pow_pos hn, rfl⟩, fun h => by cases h⟩, (best_0 _ _ _).symm, shV_len _ _ _⟩
theorem sfI_more {x : Query} {n j : Nat} {w' : List Int} (hj : j < n ^ (namesM x.atoms).length) (h1 : j + 1 < n ^ (namesM x.atoms).length → w' = shV n (namesM x.atoms).length (j + 1)) (h2 : w'.length = (namesM x.atoms).length) {bs : List Int} (hb : bs = bestK x n (namesM x.atoms).length (j + 1)) : sfI x n (j + 1) (decide (j + 1 < n ^ (namesM x.atoms).length)) w' bs :=
 ⟨⟨fun h => ⟨of_decide_eq_true h, h1 (of_decide_eq_true h)⟩, fun h => by have := of_decide_eq_false h; omega⟩, hb, h2⟩
theorem bet_yes {x : Query} {n j : Nat} {bs : List Int} (hb : bs = bestK x n (namesM x.atoms).length j) (h : betV x n bs (shV n (namesM x.atoms).length j)) : shV n (namesM x.atoms).length j = bestK x n (namesM x.atoms).length (j + 1) := by
 rw [best_yes (by rw [← hb]; exact h)]
theorem bet_no {x : Query} {n j : Nat} {bs : List Int} (hb : bs = bestK x n (namesM x.atoms).length j) (h : ¬ betV x n bs (shV n (namesM x.atoms).length j)) : bs = bestK x n (namesM x.atoms).length (j + 1) := by
 rw [best_no (by rw [← hb]; exact h)]; exact hb
theorem shR_8 {n : Nat} {s : List Int} (h : n ≤ 8) (hs : shR n s) : shR 8 s := fun y hy => by have := hs y hy; omega
theorem sfI_end {x : Query} {n j : Nat} {mo : Bool} {w bs : List Int} (h : sfI x n j mo w bs) (hm : mo = false) (hq : queryM x = true) (h1 : (1 : Int) ≤ n ∧ (n : Int) ≤ 8) : sharesForM x (n : Int) = bs := by
 rw [sf_yes ⟨hq, h1⟩, h.2.1, h.1.2 hm]; rfl
def sgI (x : Query) (n j : Nat) (w bs : List Int) : Prop := (j < n ^ (namesM x.atoms).length ∧ w = shV n (namesM x.atoms).length j) ∧ ((j = 0 ∧ bs = []) ∨ (0 < j ∧ bs = bestK x n (namesM x.atoms).length j))
theorem sgI_0 {x : Query} {n : Nat} (hn : 1 ≤ n) : sgI x n 0 (shV n (namesM x.atoms).length 0) [] := ⟨⟨Nat.pow_pos hn, rfl⟩, .inl ⟨rfl, rfl⟩⟩
theorem sg_len {x : Query} {n j : Nat} {w bs : List Int} (h : sgI x n j w bs) : bs.length = 0 ∨ bs.length = (namesM x.atoms).length := by
 rcases h.2 with h2 | h2
 ·rw [h2.2]; exact .inl rfl
 rw [h2.2]; exact .inr (best_len _ _ _ _)
theorem sg_rng {x : Query} {n j : Nat} {w bs : List Int} (hn : 1 ≤ n ∧ n ≤ 8) (h : sgI x n j w bs) : shR 8 bs := by
 rcases h.2 with h2 | h2
 ·rw [h2.2]; exact fun y hy => by cases hy
 rw [h2.2]; exact shR_8 hn.2 (best_rng x hn.1 _ _)
theorem sg_yes {x : Query} {n j : Nat} {bs : List Int} (hm : 1 ≤ (namesM x.atoms).length ∧ (namesM x.atoms).length ≤ 4) (hn : 1 ≤ n ∧ n ≤ 8) (h : sgI x n j (shV n (namesM x.atoms).length j) bs)
  (hc : 0 < cellsM (shV n (namesM x.atoms).length j) ∧ cellsM (shV n (namesM x.atoms).length j) ≤ n) (h2 : bs.length = 0 ∨ cellsM bs < cellsM (shV n (namesM x.atoms).length j) ∨ (cellsM (shV n (namesM x.atoms).length j) = cellsM bs ∧ costM x (shV n (namesM x.atoms).length j) ≤ costM x bs)) :
  shV n (namesM x.atoms).length j = bestK x n (namesM x.atoms).length (j + 1) := by
 rcases h.2 with h3 | h3
 ·obtain ⟨rfl, _⟩ := h3
  rw [Nat.zero_add, best_one]
 have hl := best_len x n (namesM x.atoms).length j
 rw [← h3.2] at hl
 refine bet_yes h3.2 ?_
 unfold betV
 omega
theorem sg_no {x : Query} {n j : Nat} {bs : List Int} (hm : 1 ≤ (namesM x.atoms).length ∧ (namesM x.atoms).length ≤ 4) (hn : 1 ≤ n ∧ n ≤ 8) (h : sgI x n j (shV n (namesM x.atoms).length j) bs)
  (h2 : cellsM (shV n (namesM x.atoms).length j) ≤ 0 ∨ (n : Int) < cellsM (shV n (namesM x.atoms).length j) ∨ (¬ bs.length = 0 ∧ (cellsM (shV n (namesM x.atoms).length j) < cellsM bs ∨ (cellsM (shV n (namesM x.atoms).length j) = cellsM bs ∧ (costM x bs < costM x (shV n (namesM x.atoms).length j) ∨ rowLess bs (shV n (namesM x.atoms).length j) = false))))) :
  bs = bestK x n (namesM x.atoms).length (j + 1) := by
 rcases h.2 with h3 | h3
 ·exfalso
  obtain ⟨rfl, rfl⟩ := h3
  have h4 : cellsM (shV n (namesM x.atoms).length 0) = 1 := by rw [sh_zero, cells_ones hm]
  rw [h4] at h2
  simp at h2
  omega
 refine bet_no h3.2 ?_
 have hb1 : 1 ≤ cellsM bs := by rw [h3.2]; exact best_cells hm j
 have hr : rowLess bs (shV n (namesM x.atoms).length j) = true := by
  rw [h3.2]
  exact decide_eq_true (best_less hn.1 h3.1 h.1.1)
 rw [hr] at h2
 unfold betV
 simp at h2
 omega
section
attribute [local semireducible] shV
theorem sh_up (n m j : Nat) : shV n m j = upV (digV n m j) := rfl
end
theorem nt_no {n m j p : Nat} {u : List Int} (hn : 1 ≤ n ∧ n ≤ 8) (h1 : 1 ≤ p) (hp : p ≤ m) (hS : stepV n (digV n m j) (m - p) u) (h : (upV u)[p - 1]?.getD 0 = (n : Int)) : stepV n (digV n m j) (m - (p - 1)) (u.set (p - 1) 0) := by
 have hl := digV_len n m j
 rw [(ns_at hn h1 hp hS).1] at h
 rw [show m - (p - 1) = m - p + 1 by omega]
 exact step_more hS (by omega) (by omega)
theorem nt_yes {n m j p : Nat} {u : List Int} (hn : 1 ≤ n ∧ n ≤ 8) (hj : j < n ^ m) (h1 : 1 ≤ p) (hp : p ≤ m) (hS : stepV n (digV n m j) (m - p) u) (h : ¬ (upV u)[p - 1]?.getD 0 = (n : Int)) :
  (upV u).set (p - 1) (IntKind.i64.wrap ((upV u)[p - 1]?.getD 0 + 1)) = shV n m (j + 1) ∧ j + 1 < n ^ m := by
 have hv := dig_at (m := m) (j := j) hn.1 (p := p - 1) (by omega)
 rw [(ns_at hn h1 hp hS).1] at h
 rw [(ns_at hn h1 hp hS).2, upV_set]
 have h2 := step_next hn.1 hj hS (p := p - 1) (by omega) (by omega)
 exact ⟨by rw [h2.1, sh_up], h2.2⟩
theorem nt_one (u : List Int) (p : Nat) : (upV u).set p 1 = upV (u.set p 0) := upV_set u p 0
theorem sg_next {x : Query} {n j : Nat} {bs : List Int} (h : j + 1 < n ^ (namesM x.atoms).length) (hb : bs = bestK x n (namesM x.atoms).length (j + 1)) : sgI x n (j + 1) (shV n (namesM x.atoms).length (j + 1)) bs := ⟨⟨h, rfl⟩, .inr ⟨by omega, hb⟩⟩
theorem sg_end {x : Query} {n j p : Nat} {u bs : List Int} (hb : bs = bestK x n (namesM x.atoms).length (j + 1)) (hn : 1 ≤ n ∧ n ≤ 8) (hj : j < n ^ (namesM x.atoms).length) (hS : stepV n (digV n (namesM x.atoms).length j) ((namesM x.atoms).length - p) u) (hp : p = 0) (hq : queryM x = true) : sharesForM x (n : Int) = bs := by
 subst hp
 have h1 := step_last hn.1 hj hS
 rw [sf_yes ⟨hq, by omega, by omega⟩, hb, h1]; rfl
theorem implSharesFor_ct (l : List Value) (x : Query) (n : Int) (hx : gQuery.sz x ≤ 1048576) :
  Ct prog 52 [.agg ⟨l⟩, .int .i64 n] [] (fun H => gQuery.rd H l x) (fun v A => ∃ b c, v = .slice b (sharesForM x n).length c ∧ (gSl 3 gI).ow [.slice b (sharesForM x n).length c] (sharesForM x n) A) := by
 refine Ct.intro0 G_ok func52 rfl rfl rfl fun E H hp => ?_
 obtain ⟨b1p, c1p, b2p, c2p, b3p, c3p, rfl, h1p, h2p, h3p⟩ := gQuery_rd.1 hp
 refine ⟨fun x0 => ?_⟩
 refine ⟨fun q1 => ?_, fun q1 => ?_⟩
 ·simp at q1
  exact ⟨[], sf_leaf (o := []) (sf_no (by omega)) rfl (sl_nil _ _ _), rlB⟩
 ·simp at q1
  refine ⟨fun q2 => ?_, fun q2 => ?_⟩
  ·simp at q2
   exact ⟨[], sf_leaf (o := []) (sf_no (by omega)) rfl (sl_nil _ _ _), rlB⟩
  ·simp at q2
   refine call_val (implQueryOk_ct _ (x) ?_) (Rp.mono _ (mem_at 0 rfl) hp) ?_
   ·trivial
   rintro _ rfl
   refine ⟨fun q4 => ?_, fun q4 => ?_⟩
   ·simp at q4
    exact ⟨[], sf_leaf (o := []) (sf_no (fun e => by rw [‹queryM x = false›] at e; cases e.1)) rfl (sl_nil _ _ _), rlB⟩
   ·simp at q4
    (have ha44 := atoms_4 q4; have hqn4 := query_names q4)
    obtain ⟨nn, rfl⟩ : ∃ nn : Nat, n = (nn : Int) := ⟨n.toNat, by omega⟩
    refine call_new (implNamesOf_ct _ (x) ?_) (Rp.mono _ (mem_at 0 rfl) hp) ?_
    ·omega
    rintro v5 A5 o5
    obtain ⟨b5, c5, rfl, o5⟩ := o5
    refine VCmake.intro ?_ ?_ ?_ ?_ fun x6 => ?_
    ·omega
    ·omega
    ·omega
    ·omega
    apply loop_mod (α := (Nat) × (Hp)) G_ok [28, 29, 6, 30, 31, 32, 33, 27] (fun z => [(27, .v (.int .i64 z.1))]) (fun z => [{ id := x0, cs := [Value.bool x.each, Value.slice b1p x.out.length c1p, Value.slice b2p x.atoms.length c2p, Value.slice b3p x.filters.length c3p], ty := (37 : Nat) }]) (fun z => [z.2, A5, H]) (fun z => (namesM x.atoms).length - z.1) (fun z => z.1 ≤ (namesM x.atoms).length ∧ (gSl 3 gI).ow [.slice (some ⟨x6, 0, none⟩) (((namesM x.atoms).length : Nat) : Int).toNat (((namesM x.atoms).length : Nat) : Int).toNat] (onesV (namesM x.atoms).length z.1) z.2) ((0, _))
    ·exact frI
    ·exact ⟨rfl, trivial⟩
    ·try dsimp only
     exact ⟨Nat.zero_le _, ones_make (b := 0) _ (by omega)⟩
    ·exact .refl _
    rintro ⟨i, W⟩ hI
    try dsimp only at hI
    obtain ⟨hi, oW⟩ := hI
    try dsimp only
    refine ⟨fun q7 => ?_, fun q7 => ?_⟩
    ·simp at q7
     have hol := ones_len (m := (namesM x.atoms).length) (i := i) (by omega)
     refine idx_rd (Gt.owrd _ oW) ?_ ?_ fun b8 o8 hb8 => ?_
     ·omega
     ·omega
     refine gstoreN (Fld.id _) 0 (i) 0 rfl rfl oW ?_ ?_ hb8 rfl gI_pl _ (gI_ow ?_) fun A9 o9 => ?_
     ·omega
     ·omega
     ·trivial
     apply loop_stepA (i + 1, _)
     ·exact .refl _
     ·exact frI
     ·exact ⟨rfl, trivial⟩
     ·try dsimp only
      exact ⟨by omega, by rw [← ones_set (by omega)]; assumption⟩
     try dsimp only
     omega
    ·simp at q7
     obtain rfl : i = (namesM x.atoms).length := by omega
     rw [ones_all, ← sh_zero nn] at oW
     have hsl0 := shV_len nn (namesM x.atoms).length 0
     refine call_new (cloneI_ct _ _ _ (shV nn (namesM x.atoms).length (0 : Nat)) ?_) (Rp.mono _ (mem_at 0 rfl) (Gt.owrd _ oW)) ?_
     ·(rw [szIq]; omega)
     rintro v10 A10 o10
     obtain ⟨b10, c10, rfl, o10⟩ := o10
     apply loop_mod (α := (Nat) × (Bool) × (List Int) × (Hp) × (List Int) × (Hp) × (Option Addr) × (Nat)) G_ok [36, 40, 41, 9, 42, 43, 44, 45, 46, 47, 48, 49, 50, 51, 52, 53, 54, 55, 56, 57, 58, 59, 60, 61, 62, 63, 64, 65, 66, 67, 68, 69, 7, 37, 38, 39, 8] (fun z => [(8, .v (.bool z.2.1)), (7, .v (.slice z.2.2.2.2.2.2.1 z.2.2.2.2.1.length z.2.2.2.2.2.2.2))]) (fun z => [{ id := x0, cs := [Value.bool x.each, Value.slice b1p x.out.length c1p, Value.slice b2p x.atoms.length c2p, Value.slice b3p x.filters.length c3p], ty := (37 : Nat) }]) (fun z => [z.2.2.2.2.2.1, z.2.2.2.1, A5, H]) (fun z => nn ^ (namesM x.atoms).length - z.1) (fun z => sfI x nn z.1 z.2.1 z.2.2.1 z.2.2.2.2.1 ∧ (gSl 3 gI).ow [.slice (some ⟨x6, 0, none⟩) (((namesM x.atoms).length : Nat) : Int).toNat (((namesM x.atoms).length : Nat) : Int).toNat] z.2.2.1 z.2.2.2.1 ∧ (gSl 3 gI).ow [.slice z.2.2.2.2.2.2.1 z.2.2.2.2.1.length z.2.2.2.2.2.2.2] z.2.2.2.2.1 z.2.2.2.2.2.1) ((0, true, shV nn (namesM x.atoms).length 0, W, shV nn (namesM x.atoms).length 0, A10, b10, c10))
     ·exact frI
     ·exact ⟨rfl, trivial⟩
     ·try dsimp only
      exact ⟨sfI_0 (by omega), oW, by assumption⟩
     ·exact .refl _
     rintro ⟨j, mo, w, W, bs, B, bb, bc⟩ hI
     try dsimp only at hI
     obtain ⟨hI, oW, oB⟩ := hI
     try dsimp only
     refine ⟨fun q11 => ?_, fun q11 => ?_⟩
     ·obtain ⟨⟨hI1, hI2⟩, hIb, hIw⟩ := hI
      obtain ⟨hj, rfl⟩ := hI1 (by assumption)
      have hr1 := shR_8 (by omega) (shV_rng (n := nn) (by omega) (namesM x.atoms).length j)
      have hr2 : shR 8 bs := (by rw [hIb]; exact shR_8 (by omega) (best_rng x (by omega) _ _))
      have hbl : bs.length = (namesM x.atoms).length := (by rw [hIb]; exact best_len _ _ _ _)
      have hsj := shV_len nn (namesM x.atoms).length j
      refine call_val (implCellsOf_ct _ _ _ (shV nn (namesM x.atoms).length j)) (Rp.mono _ (mem_at 1 rfl) (Gt.owrd _ oW)) ?_
      rintro _ rfl
      refine ⟨fun q13 => ?_, fun q13 => ?_⟩
      ·simp at q13
       refine callR_part (W) [B, A5, H] (nextShares_ct _ _ nn (namesM x.atoms).length j _ oW (by omega) hj) ?_ trivial ?_
       ·exact rlA
       rintro _ A14 ⟨w14, rfl, hw14, hwl14, o14⟩
       refine ⟨[A14], by simp, ?_⟩
       apply loop_stepI (j + 1, _, _, _, _, _, _, _)
       ·exact frI
       ·exact ⟨rfl, trivial⟩
       ·try dsimp only
        exact ⟨sfI_more hj (by assumption) (by assumption) (bet_no hIb (by unfold betV; omega)), by assumption, by assumption⟩
       ·exact rlA
       try dsimp only
       omega
      ·simp at q13
       refine ⟨fun q15 => ?_, fun q15 => ?_⟩
       ·simp at q15
        refine callR_part (W) [B, A5, H] (nextShares_ct _ _ nn (namesM x.atoms).length j _ oW (by omega) hj) ?_ trivial ?_
        ·exact rlA
        rintro _ A16 ⟨w16, rfl, hw16, hwl16, o16⟩
        refine ⟨[A16], by simp, ?_⟩
        apply loop_stepI (j + 1, _, _, _, _, _, _, _)
        ·exact frI
        ·exact ⟨rfl, trivial⟩
        ·try dsimp only
         exact ⟨sfI_more hj (by assumption) (by assumption) (bet_no hIb (by unfold betV; omega)), by assumption, by assumption⟩
        ·exact rlA
        try dsimp only
        omega
       ·simp at q15
        refine call_val (implCellsOf_ct _ _ _ (bs)) (Rp.mono _ (mem_at 0 rfl) (Gt.owrd _ oB)) ?_
        rintro _ rfl
        refine ⟨fun q18 => ?_, fun q18 => ?_⟩
        ·simp at q18
         refine callR_part (W) [B, A5, H] (nextShares_ct _ _ nn (namesM x.atoms).length j _ oW (by omega) hj) ?_ trivial ?_
         ·exact rlA
         rintro _ A19 ⟨w19, rfl, hw19, hwl19, o19⟩
         refine ⟨[A19], by simp, ?_⟩
         apply loop_stepI (j + 1, _, _, _, _, _, _, _)
         ·exact frI
         ·exact ⟨rfl, trivial⟩
         ·try dsimp only
          exact ⟨sfI_more hj (by assumption) (by assumption) (bet_no hIb (by unfold betV; omega)), by assumption, by assumption⟩
         ·exact rlA
         try dsimp only
         omega
        ·simp at q18
         refine draw G_ok mixed none (.q 0 (.q 1 (.f 2 (.q 3 (.q 4 (.q 5 (.q 6 (.q 8 (.q 9 (.f 7 (.f 10 (.q 11 (.q 12 (.nil)))))))))))))) (by decide +kernel) ?_
         refine call_val (implCellsOf_ct _ _ _ (bs)) (Rp.mono _ (mem_at 0 rfl) (Gt.owrd _ oB)) ?_
         rintro _ rfl
         refine ⟨fun q21 => ?_, fun q21 => ?_⟩
         ·simp at q21
          refine call_new (cloneI_ct _ _ _ (shV nn (namesM x.atoms).length j) ?_) (Rp.mono _ (mem_at 1 rfl) (Gt.owrd _ oW)) ?_
          ·(rw [szIq]; omega)
          rintro v22 A22 o22
          obtain ⟨b22, c22, rfl, o22⟩ := o22
          refine callR_part (W) [A22, B, A5, H] (nextShares_ct _ _ nn (namesM x.atoms).length j _ oW (by omega) hj) ?_ trivial ?_
          ·exact rlA
          rintro _ A23 ⟨w23, rfl, hw23, hwl23, o23⟩
          refine ⟨[A23], by simp, ?_⟩
          apply loop_stepI (j + 1, _, _, _, _, _, _, _)
          ·exact frI
          ·exact ⟨rfl, trivial⟩
          ·try dsimp only
           exact ⟨sfI_more hj (by assumption) (by assumption) (bet_yes hIb (by unfold betV; omega)), by assumption, by assumption⟩
          ·exact rlA
          try dsimp only
          omega
         ·simp at q21
          refine call_val (implCostIn_ct _ _ _ _ (x) (shV nn (namesM x.atoms).length j) ?_ ?_ ?_) ⟨(Rp.mono _ (mem_at 3 rfl) hp), (Rp.mono _ (mem_at 1 rfl) (Gt.owrd _ oW))⟩ ?_
          ·trivial
          ·trivial
          ·omega
          rintro _ rfl
          refine VC.intro ?_ ?_
          ·exact fun _ h => h
          refine call_val (implCostIn_ct _ _ _ _ (x) (bs) ?_ ?_ ?_) ⟨(Rp.mono _ (mem_at 3 rfl) hp), (Rp.mono _ (mem_at 0 rfl) (Gt.owrd _ oB))⟩ ?_
          ·trivial
          ·trivial
          ·omega
          rintro _ rfl
          refine VC.intro ?_ ?_
          ·exact fun _ h => h
          refine ⟨fun q26 => ?_, fun q26 => ?_⟩
          ·simp at q26
           refine call_new (cloneI_ct _ _ _ (shV nn (namesM x.atoms).length j) ?_) (Rp.mono _ (mem_at 1 rfl) (Gt.owrd _ oW)) ?_
           ·(rw [szIq]; omega)
           rintro v27 A27 o27
           obtain ⟨b27, c27, rfl, o27⟩ := o27
           refine callR_part (W) [A27, B, A5, H] (nextShares_ct _ _ nn (namesM x.atoms).length j _ oW (by omega) hj) ?_ trivial ?_
           ·exact rlA
           rintro _ A28 ⟨w28, rfl, hw28, hwl28, o28⟩
           refine ⟨[A28], by simp, ?_⟩
           apply loop_stepI (j + 1, _, _, _, _, _, _, _)
           ·exact frI
           ·exact ⟨rfl, trivial⟩
           ·try dsimp only
            exact ⟨sfI_more hj (by assumption) (by assumption) (bet_yes hIb (by unfold betV; omega)), by assumption, by assumption⟩
           ·exact rlA
           try dsimp only
           omega
          ·simp at q26
           refine callR_part (W) [B, A5, H] (nextShares_ct _ _ nn (namesM x.atoms).length j _ oW (by omega) hj) ?_ trivial ?_
           ·exact rlA
           rintro _ A29 ⟨w29, rfl, hw29, hwl29, o29⟩
           refine ⟨[A29], by simp, ?_⟩
           apply loop_stepI (j + 1, _, _, _, _, _, _, _)
           ·exact frI
           ·exact ⟨rfl, trivial⟩
           ·try dsimp only
            exact ⟨sfI_more hj (by assumption) (by assumption) (bet_no hIb (by unfold betV; omega)), by assumption, by assumption⟩
           ·exact rlA
           try dsimp only
           omega
     ·exact ⟨B, sf_leaf (sfI_end hI (by assumption) (by assumption) (by omega)) rfl oB, rlA⟩
theorem specSharesFor_ct (l : List Value) (x : Query) (n : Int) (hx : gQuery.sz x ≤ 1048576) :
  Ct prog 48 [.agg ⟨l⟩, .int .i64 n] [] (fun H => gQuery.rd H l x) (fun v A => ∃ b c, v = .slice b (sharesForM x n).length c ∧ (gSl 3 gI).ow [.slice b (sharesForM x n).length c] (sharesForM x n) A) := by
 refine Ct.intro0 G_ok func48 rfl rfl rfl fun E H hp => ?_
 obtain ⟨b1p, c1p, b2p, c2p, b3p, c3p, rfl, h1p, h2p, h3p⟩ := gQuery_rd.1 hp
 refine ⟨fun x0 => ?_⟩
 refine call_val (specQueryOk_ct _ (x) ?_) (Rp.mono _ (mem_at 0 rfl) hp) ?_
 ·trivial
 rintro _ rfl
 refine ⟨fun q2 => ?_, fun q2 => ?_⟩
 ·simp at q2
  refine ⟨fun x3 => ?_⟩
  exact ⟨[], sf_leaf (o := []) (sf_no (fun e => by rw [‹queryM x = false›] at e; cases e.1)) rfl (sl_nil _ _ _), rlB⟩
 ·simp at q2
  (have ha42 := atoms_4 q2; have hqn2 := query_names q2)
  refine call_val (l01In_ct _ _ _) trivial ?_
  rintro _ rfl
  refine ⟨fun q5 => ?_, fun q5 => ?_⟩
  ·simp at q5
   refine ⟨fun x6 => ?_⟩
   exact ⟨[], sf_leaf (o := []) (sf_no (fun e => absurd ((inR_iff.2 e.2).symm.trans ‹inR 1 8 n = false›) (by decide))) rfl (sl_nil _ _ _), rlB⟩
  ·simp at q5
   have iq5 := inR_iff.1 q5
   obtain ⟨nn, rfl⟩ : ∃ nn : Nat, n = (nn : Int) := ⟨n.toNat, by omega⟩
   refine call_new (specNamesOf_ct _ (x) ?_) (Rp.mono _ (mem_at 0 rfl) hp) ?_
   ·omega
   rintro v7 A7 o7
   obtain ⟨b7, c7, rfl, o7⟩ := o7
   refine ⟨fun x8 => ?_⟩
   refine VCmake.intro ?_ ?_ ?_ ?_ fun x9 => ?_
   ·omega
   ·omega
   ·omega
   ·omega
   apply loop_mod (α := (Nat) × (Hp)) G_ok [28, 29, 30, 31, 34, 35, 36, 32, 33, 8] (fun z => [(8, .v (.int .i64 z.1))]) (fun z => [{ id := x0, cs := [Value.bool x.each, Value.slice b1p x.out.length c1p, Value.slice b2p x.atoms.length c2p, Value.slice b3p x.filters.length c3p], ty := (37 : Nat) }]) (fun z => [z.2, [(x8, Obj.cells { toList := zeros (0 : Nat) [Value.int IntKind.i64 (0 : Int)] } (3 : TypeId))], A7, H]) (fun z => (namesM x.atoms).length - z.1) (fun z => z.1 ≤ (namesM x.atoms).length ∧ (gSl 3 gI).ow [.slice (some ⟨x9, 0, none⟩) (((namesM x.atoms).length : Nat) : Int).toNat (((namesM x.atoms).length : Nat) : Int).toNat] (onesV (namesM x.atoms).length z.1) z.2) ((0, _))
   ·repeat' (first | exact trivial | refine ⟨⟨_, rfl, by first | rfl | exact inc_eq _ (by omega) | (refine sl_eq ?_; simp; done) | exact congrArg (fun v => SV.v (Value.int .i64 v)) hwp | exact congrArg (fun v => Value.int .i64 v) hwp | exact congrArg (fun v => SV.v (Value.int .i64 v)) (wrap_of (by omega) (by omega)) | exact congrArg (fun v => Value.int .i64 v) (wrap_of (by omega) (by omega)), by first | exact trivial | simp [SV.ok]⟩, ?_⟩)
   ·exact ⟨rfl, trivial⟩
   ·try dsimp only
    exact ⟨Nat.zero_le _, ones_make (b := 0) _ (by omega)⟩
   ·exact .refl _
   rintro ⟨i, W⟩ hI
   try dsimp only at hI
   obtain ⟨hi, oW⟩ := hI
   try dsimp only
   refine ⟨fun q10 => ?_, fun q10 => ?_⟩
   ·simp at q10
    have hol := ones_len (m := (namesM x.atoms).length) (i := i) (by omega)
    refine idx_rd (Gt.owrd _ oW) ?_ ?_ fun b11 o11 hb11 => ?_
    ·omega
    ·omega
    refine gstoreN (Fld.id _) 0 (i) 0 rfl rfl oW ?_ ?_ hb11 rfl gI_pl _ (gI_ow ?_) fun A12 o12 => ?_
    ·omega
    ·omega
    ·trivial
    apply loop_stepA (i + 1, _)
    ·exact .refl _
    ·repeat' (first | exact trivial | refine ⟨⟨_, rfl, by first | rfl | exact inc_eq _ (by omega) | (refine sl_eq ?_; simp; done) | exact congrArg (fun v => SV.v (Value.int .i64 v)) hwp | exact congrArg (fun v => Value.int .i64 v) hwp | exact congrArg (fun v => SV.v (Value.int .i64 v)) (wrap_of (by omega) (by omega)) | exact congrArg (fun v => Value.int .i64 v) (wrap_of (by omega) (by omega)), by first | exact trivial | simp [SV.ok]⟩, ?_⟩)
    ·exact ⟨rfl, trivial⟩
    ·try dsimp only
     exact ⟨by omega, by rw [← ones_set (by omega)]; assumption⟩
    try dsimp only
    omega
   ·simp at q10
    obtain rfl : i = (namesM x.atoms).length := by omega
    rw [ones_all, ← sh_zero nn] at oW
    have hsl0 := shV_len nn (namesM x.atoms).length 0
    apply loop_mod (α := (Nat) × (List Int) × (Hp) × (List Int) × (Hp) × (Option Addr) × (Nat)) G_ok [37, 38, 9, 39, 40, 41, 42, 43, 44, 45, 46, 47, 48, 49, 50, 51, 52, 53, 54, 10, 55, 56, 57, 58, 59, 60, 61, 62, 63, 11, 64, 65, 66, 67, 68, 69, 70, 71, 72, 73, 74, 75, 76, 77, 78, 79, 80, 81, 82, 83, 84, 85, 86, 87, 88, 89, 90, 91, 92, 93, 94, 95, 96, 97, 6, 98, 99, 100, 12, 101, 102, 103, 104, 105, 106, 107, 108, 109, 110, 111, 112, 113, 114, 115, 116, 117, 118, 4, 119, 120, 121, 122, 123, 124] (fun z => [(6, .v (.slice z.2.2.2.2.2.1 z.2.2.2.1.length z.2.2.2.2.2.2)), (4, .v (.slice none 0 0))]) (fun z => [{ id := x0, cs := [Value.bool x.each, Value.slice b1p x.out.length c1p, Value.slice b2p x.atoms.length c2p, Value.slice b3p x.filters.length c3p], ty := (37 : Nat) }]) (fun z => [z.2.2.2.2.1, z.2.2.1, A7, H]) (fun z => nn ^ (namesM x.atoms).length - z.1) (fun z => sgI x nn z.1 z.2.1 z.2.2.2.1 ∧ (gSl 3 gI).ow [.slice (some ⟨x9, 0, none⟩) (((namesM x.atoms).length : Nat) : Int).toNat (((namesM x.atoms).length : Nat) : Int).toNat] z.2.1 z.2.2.1 ∧ (gSl 3 gI).ow [.slice z.2.2.2.2.2.1 z.2.2.2.1.length z.2.2.2.2.2.2] z.2.2.2.1 z.2.2.2.2.1) ((0, shV nn (namesM x.atoms).length 0, W, [], [], some ⟨x8, 0, none⟩, 0))
    ·repeat' (first | exact trivial | refine ⟨⟨_, rfl, by first | rfl | exact inc_eq _ (by omega) | (refine sl_eq ?_; simp; done) | exact congrArg (fun v => SV.v (Value.int .i64 v)) hwp | exact congrArg (fun v => Value.int .i64 v) hwp | exact congrArg (fun v => SV.v (Value.int .i64 v)) (wrap_of (by omega) (by omega)) | exact congrArg (fun v => Value.int .i64 v) (wrap_of (by omega) (by omega)), by first | exact trivial | simp [SV.ok]⟩, ?_⟩)
    ·exact ⟨rfl, trivial⟩
    ·try dsimp only
     exact ⟨sgI_0 (by omega), oW, sl_nil _ _ _⟩
    ·exact rlA
    rintro ⟨j, w, W, bs, B, bb, bc⟩ hI
    try dsimp only at hI
    obtain ⟨hI, oW, oB⟩ := hI
    try dsimp only
    obtain ⟨⟨hj, rfl⟩, hI2⟩ := id hI
    have hr1 := shR_8 (by omega) (shV_rng (n := nn) (by omega) (namesM x.atoms).length j)
    have hr2 : shR 8 bs := sg_rng (by omega) hI
    have hbl := sg_len hI
    have hsj := shV_len nn (namesM x.atoms).length j
    refine call_val (specCellsOf_ct _ _ _ (shV nn (namesM x.atoms).length j)) (Rp.mono _ (mem_at 1 rfl) (Gt.owrd _ oW)) ?_
    rintro _ rfl
    refine ⟨fun q14 => ?_, fun q14 => ?_⟩
    ·simp at q14
     refine ⟨fun q15 => ?_, fun q15 => ?_⟩
     ·simp at q15
      refine ⟨fun q16 => ?_, fun q16 => ?_⟩
      ·simp at q16
       refine ⟨fun q17 => ?_, fun q17 => ?_⟩
       ·simp at q17
        exact absurd q17 (by rw [‹bs = []›]; exact Nat.lt_irrefl _)
       ·simp at q17
        have hb1 := sg_yes (by assumption) (by omega) hI ⟨by assumption, by assumption⟩ (by first | exact .inl (by rw [‹bs = []›]; rfl) | exact .inr (.inl (by assumption)) | exact .inr (.inr ⟨by assumption, by omega⟩))
        refine draw G_ok mixed none (.q 0 (.q 1 (.q 2 (.q 3 (.q 4 (.q 5 (.q 6 (.q 8 (.q 9 (.q 10 (.f 7 (.f 11 (.q 12 (.q 13 (.q 14 (.q 15 (.q 16 (.q 18 (.q 19 (.q 20 (.f 17 (.f 21 (.q 22 (.q 23 (.q 24 (.q 25 (.f 26 (.q 27 (.q 28 (.q 29 (.q 30 (.nil)))))))))))))))))))))))))))))))) (by decide +kernel) ?_
        refine ⟨fun x18 => ?_⟩
        refine append_allN (g := gI) (T := (3 : TypeId)) G_ok (by repeat (first | exact fl_plain | apply plain_iso | apply plain_pair)) [] [[(x18, Obj.cells { toList := zeros (0 : Nat) [Value.int IntKind.i64 (0 : Int)] } (3 : TypeId))], B, W, A7, H] 2 ?_ (sl_nil _ _ _) rfl (Gt.owrd _ oW) rfl rfl rfl rfl rfl rfl rfl rfl ?_ fun b19 c19 A19 o19 => ?_
        ·exact .refl _
        ·simp; omega
        apply loop_mod (α := (Nat) × (List Int) × (Hp)) G_ok [101, 102, 103, 104, 105, 106, 107, 108, 109, 110, 111, 112, 113, 114, 115, 12] (fun z => [(12, .v (.int .i64 ((z.1 : Int) - 1)))]) (fun z => [{ id := x0, cs := [Value.bool x.each, Value.slice b1p x.out.length c1p, Value.slice b2p x.atoms.length c2p, Value.slice b3p x.filters.length c3p], ty := (37 : Nat) }]) (fun z => [A19, z.2.2, A7, H]) (fun z => z.1) (fun z => z.1 ≤ (namesM x.atoms).length ∧ stepV nn (digV nn (namesM x.atoms).length j) ((namesM x.atoms).length - z.1) z.2.1 ∧ (gSl 3 gI).ow [.slice (some ⟨x9, 0, none⟩) (((namesM x.atoms).length : Nat) : Int).toNat (((namesM x.atoms).length : Nat) : Int).toNat] (upV z.2.1) z.2.2) (((namesM x.atoms).length, digV nn (namesM x.atoms).length j, W))
        ·repeat' (first | exact trivial | refine ⟨⟨_, rfl, by first | rfl | exact inc_eq _ (by omega) | (refine sl_eq ?_; simp; done) | exact congrArg (fun v => SV.v (Value.int .i64 v)) hwp | exact congrArg (fun v => Value.int .i64 v) hwp | exact congrArg (fun v => SV.v (Value.int .i64 v)) (wrap_of (by omega) (by omega)) | exact congrArg (fun v => Value.int .i64 v) (wrap_of (by omega) (by omega)), by first | exact trivial | simp [SV.ok]⟩, ?_⟩)
        ·exact ⟨rfl, trivial⟩
        ·try dsimp only
         exact ⟨Nat.le_refl _, by rw [Nat.sub_self]; exact step_zero _ _, by rw [← sh_up]; exact oW⟩
        ·exact rlA
        rintro ⟨p, u, W1⟩ hI
        try dsimp only at hI
        obtain ⟨hp, hS, oW1⟩ := hI
        try dsimp only
        refine ⟨fun q20 => ?_, fun q20 => ?_⟩
        ·simp at q20
         have hq : ((p : Int) - 1).toNat = p - 1 := (by omega)
         have hwl := step_len hS
         have hdl := digV_len nn (namesM x.atoms).length j
         have hul := upV_len u
         have hwv : (upV u)[((p : Int) - 1).toNat]?.getD 0 = (digV nn (namesM x.atoms).length j)[p - 1]?.getD 0 + 1 := (by rw [hq]; exact (ns_at (by omega) (by omega) hp hS).1)
         have hv := dig_at (n := nn) (m := (namesM x.atoms).length) (j := j) (by omega) (p := p - 1) (by omega)
         have hwp : IntKind.i64.wrap ((p : Int) - 1 - 1) = ((p - 1 : Nat) : Int) - 1 := (by rw [wrap_of (by omega) (by omega)]; omega)
         refine idx_rd (Gt.owrd _ oW1) ?_ ?_ fun b21 o21 hb21 => ?_
         ·omega
         ·omega
         refine load_all 0 (Gt.owrd _ oW1) ?_ ?_ hb21 rfl (mem_at 1 rfl) fun l22 hl22 => ?_
         ·omega
         ·omega
         obtain ⟨rfl, hw22⟩ := hl22; simp only [flStr, flInt, okI] at hw22
         refine ⟨fun q23 => ?_, fun q23 => ?_⟩
         ·simp at q23
          refine idx_rd (Gt.owrd _ oW1) ?_ ?_ fun b24 o24 hb24 => ?_
          ·omega
          ·omega
          refine gstoreN (Fld.id _) 0 (Int.toNat ((↑p : Int) - (1 : Int))) 1 rfl (Int.toNat_of_nonneg ?_).symm oW1 ?_ ?_ hb24 rfl gI_pl _ (gI_ow ?_) fun A25 o25 => ?_
          ·omega
          ·omega
          ·omega
          ·trivial
          apply loop_stepA (p - 1, u.set (p - 1) 0, _)
          ·exact .refl _
          ·repeat' (first | exact trivial | refine ⟨⟨_, rfl, by first | rfl | exact inc_eq _ (by omega) | (refine sl_eq ?_; simp; done) | exact congrArg (fun v => SV.v (Value.int .i64 v)) hwp | exact congrArg (fun v => Value.int .i64 v) hwp | exact congrArg (fun v => SV.v (Value.int .i64 v)) (wrap_of (by omega) (by omega)) | exact congrArg (fun v => Value.int .i64 v) (wrap_of (by omega) (by omega)), by first | exact trivial | simp [SV.ok]⟩, ?_⟩)
          ·exact ⟨rfl, trivial⟩
          ·try dsimp only
           exact ⟨by omega, nt_no (by omega) (by omega) hp hS (by assumption), by rw [← nt_one, ← hq]; assumption⟩
          try dsimp only
          omega
         ·simp at q23
          refine ⟨fun q26 => ?_, fun q26 => ?_⟩
          ·simp at q26
           exfalso; omega
          ·simp at q26
           refine idx_rd (Gt.owrd _ oW1) ?_ ?_ fun b27 o27 hb27 => ?_
           ·omega
           ·omega
           refine load_all 0 (Gt.owrd _ oW1) ?_ ?_ hb27 rfl (mem_at 1 rfl) fun l28 hl28 => ?_
           ·omega
           ·omega
           obtain ⟨rfl, hw28⟩ := hl28; simp only [flStr, flInt, okI] at hw28
           refine idx_rd (Gt.owrd _ oW1) ?_ ?_ fun b29 o29 hb29 => ?_
           ·omega
           ·omega
           refine gstoreN (Fld.id _) 0 (Int.toNat ((↑p : Int) - (1 : Int))) 1 rfl (Int.toNat_of_nonneg ?_).symm oW1 ?_ ?_ hb29 rfl gI_pl _ (gI_ow ?_) fun A30 o30 => ?_
           ·omega
           ·omega
           ·omega
           ·exact okI_wrap _
           apply loop_stepI (j + 1, _, _, _, _, _, _)
           ·repeat' (first | exact trivial | refine ⟨⟨_, rfl, by first | rfl | exact inc_eq _ (by omega) | (refine sl_eq ?_; simp; done) | exact congrArg (fun v => SV.v (Value.int .i64 v)) hwp | exact congrArg (fun v => Value.int .i64 v) hwp | exact congrArg (fun v => SV.v (Value.int .i64 v)) (wrap_of (by omega) (by omega)) | exact congrArg (fun v => Value.int .i64 v) (wrap_of (by omega) (by omega)), by first | exact trivial | simp [SV.ok]⟩, ?_⟩)
           ·exact ⟨rfl, trivial⟩
           ·try dsimp only
            (obtain ⟨e1, e2⟩ := nt_yes (by omega) hj (by omega) hp hS (by assumption); exact ⟨sg_next e2 hb1, by rw [← e1, ← hq]; assumption, by assumption⟩)
           ·exact .refl _
           try dsimp only
           omega
        ·simp at q20
         refine ⟨fun q31 => ?_, fun q31 => ?_⟩
         ·simp at q31
          exact ⟨_, sf_leaf (sg_end hb1 (by omega) hj hS (by omega) (by assumption)) rfl (by assumption), rlA⟩
         ·simp at q31
          exfalso; omega
      ·simp at q16
       refine call_val (specCellsOf_ct _ _ _ (bs)) (Rp.mono _ (mem_at 0 rfl) (Gt.owrd _ oB)) ?_
       rintro _ rfl
       refine ⟨fun q33 => ?_, fun q33 => ?_⟩
       ·simp at q33
        refine call_val (specCellsOf_ct _ _ _ (bs)) (Rp.mono _ (mem_at 0 rfl) (Gt.owrd _ oB)) ?_
        rintro _ rfl
        refine draw G_ok mixed none (.q 0 (.q 1 (.q 2 (.q 3 (.q 4 (.q 5 (.q 6 (.q 8 (.q 9 (.q 10 (.f 7 (.f 11 (.q 12 (.q 13 (.q 14 (.q 15 (.q 16 (.q 18 (.q 19 (.q 20 (.f 17 (.f 21 (.q 22 (.q 23 (.q 24 (.q 25 (.f 26 (.q 27 (.q 28 (.q 29 (.q 30 (.nil)))))))))))))))))))))))))))))))) (by decide +kernel) ?_
        refine ⟨fun q35 => ?_, fun q35 => ?_⟩
        ·simp at q35
         have hb1 := sg_yes (by assumption) (by omega) hI ⟨by assumption, by assumption⟩ (by first | exact .inl (by rw [‹bs = []›]; rfl) | exact .inr (.inl (by assumption)) | exact .inr (.inr ⟨by assumption, by omega⟩))
         refine ⟨fun x36 => ?_⟩
         refine append_allN (g := gI) (T := (3 : TypeId)) G_ok (by repeat (first | exact fl_plain | apply plain_iso | apply plain_pair)) [] [[(x36, Obj.cells { toList := zeros (0 : Nat) [Value.int IntKind.i64 (0 : Int)] } (3 : TypeId))], B, W, A7, H] 2 ?_ (sl_nil _ _ _) rfl (Gt.owrd _ oW) rfl rfl rfl rfl rfl rfl rfl rfl ?_ fun b37 c37 A37 o37 => ?_
         ·exact .refl _
         ·simp; omega
         apply loop_mod (α := (Nat) × (List Int) × (Hp)) G_ok [101, 102, 103, 104, 105, 106, 107, 108, 109, 110, 111, 112, 113, 114, 115, 12] (fun z => [(12, .v (.int .i64 ((z.1 : Int) - 1)))]) (fun z => [{ id := x0, cs := [Value.bool x.each, Value.slice b1p x.out.length c1p, Value.slice b2p x.atoms.length c2p, Value.slice b3p x.filters.length c3p], ty := (37 : Nat) }]) (fun z => [A37, z.2.2, A7, H]) (fun z => z.1) (fun z => z.1 ≤ (namesM x.atoms).length ∧ stepV nn (digV nn (namesM x.atoms).length j) ((namesM x.atoms).length - z.1) z.2.1 ∧ (gSl 3 gI).ow [.slice (some ⟨x9, 0, none⟩) (((namesM x.atoms).length : Nat) : Int).toNat (((namesM x.atoms).length : Nat) : Int).toNat] (upV z.2.1) z.2.2) (((namesM x.atoms).length, digV nn (namesM x.atoms).length j, W))
         ·repeat' (first | exact trivial | refine ⟨⟨_, rfl, by first | rfl | exact inc_eq _ (by omega) | (refine sl_eq ?_; simp; done) | exact congrArg (fun v => SV.v (Value.int .i64 v)) hwp | exact congrArg (fun v => Value.int .i64 v) hwp | exact congrArg (fun v => SV.v (Value.int .i64 v)) (wrap_of (by omega) (by omega)) | exact congrArg (fun v => Value.int .i64 v) (wrap_of (by omega) (by omega)), by first | exact trivial | simp [SV.ok]⟩, ?_⟩)
         ·exact ⟨rfl, trivial⟩
         ·try dsimp only
          exact ⟨Nat.le_refl _, by rw [Nat.sub_self]; exact step_zero _ _, by rw [← sh_up]; exact oW⟩
         ·exact rlA
         rintro ⟨p, u, W1⟩ hI
         try dsimp only at hI
         obtain ⟨hp, hS, oW1⟩ := hI
         try dsimp only
         refine ⟨fun q38 => ?_, fun q38 => ?_⟩
         ·simp at q38
          have hq : ((p : Int) - 1).toNat = p - 1 := (by omega)
          have hwl := step_len hS
          have hdl := digV_len nn (namesM x.atoms).length j
          have hul := upV_len u
          have hwv : (upV u)[((p : Int) - 1).toNat]?.getD 0 = (digV nn (namesM x.atoms).length j)[p - 1]?.getD 0 + 1 := (by rw [hq]; exact (ns_at (by omega) (by omega) hp hS).1)
          have hv := dig_at (n := nn) (m := (namesM x.atoms).length) (j := j) (by omega) (p := p - 1) (by omega)
          have hwp : IntKind.i64.wrap ((p : Int) - 1 - 1) = ((p - 1 : Nat) : Int) - 1 := (by rw [wrap_of (by omega) (by omega)]; omega)
          refine idx_rd (Gt.owrd _ oW1) ?_ ?_ fun b39 o39 hb39 => ?_
          ·omega
          ·omega
          refine load_all 0 (Gt.owrd _ oW1) ?_ ?_ hb39 rfl (mem_at 1 rfl) fun l40 hl40 => ?_
          ·omega
          ·omega
          obtain ⟨rfl, hw40⟩ := hl40; simp only [flStr, flInt, okI] at hw40
          refine ⟨fun q41 => ?_, fun q41 => ?_⟩
          ·simp at q41
           refine idx_rd (Gt.owrd _ oW1) ?_ ?_ fun b42 o42 hb42 => ?_
           ·omega
           ·omega
           refine gstoreN (Fld.id _) 0 (Int.toNat ((↑p : Int) - (1 : Int))) 1 rfl (Int.toNat_of_nonneg ?_).symm oW1 ?_ ?_ hb42 rfl gI_pl _ (gI_ow ?_) fun A43 o43 => ?_
           ·omega
           ·omega
           ·omega
           ·trivial
           apply loop_stepA (p - 1, u.set (p - 1) 0, _)
           ·exact .refl _
           ·repeat' (first | exact trivial | refine ⟨⟨_, rfl, by first | rfl | exact inc_eq _ (by omega) | (refine sl_eq ?_; simp; done) | exact congrArg (fun v => SV.v (Value.int .i64 v)) hwp | exact congrArg (fun v => Value.int .i64 v) hwp | exact congrArg (fun v => SV.v (Value.int .i64 v)) (wrap_of (by omega) (by omega)) | exact congrArg (fun v => Value.int .i64 v) (wrap_of (by omega) (by omega)), by first | exact trivial | simp [SV.ok]⟩, ?_⟩)
           ·exact ⟨rfl, trivial⟩
           ·try dsimp only
            exact ⟨by omega, nt_no (by omega) (by omega) hp hS (by assumption), by rw [← nt_one, ← hq]; assumption⟩
           try dsimp only
           omega
          ·simp at q41
           refine ⟨fun q44 => ?_, fun q44 => ?_⟩
           ·simp at q44
            exfalso; omega
           ·simp at q44
            refine idx_rd (Gt.owrd _ oW1) ?_ ?_ fun b45 o45 hb45 => ?_
            ·omega
            ·omega
            refine load_all 0 (Gt.owrd _ oW1) ?_ ?_ hb45 rfl (mem_at 1 rfl) fun l46 hl46 => ?_
            ·omega
            ·omega
            obtain ⟨rfl, hw46⟩ := hl46; simp only [flStr, flInt, okI] at hw46
            refine idx_rd (Gt.owrd _ oW1) ?_ ?_ fun b47 o47 hb47 => ?_
            ·omega
            ·omega
            refine gstoreN (Fld.id _) 0 (Int.toNat ((↑p : Int) - (1 : Int))) 1 rfl (Int.toNat_of_nonneg ?_).symm oW1 ?_ ?_ hb47 rfl gI_pl _ (gI_ow ?_) fun A48 o48 => ?_
            ·omega
            ·omega
            ·omega
            ·exact okI_wrap _
            apply loop_stepI (j + 1, _, _, _, _, _, _)
            ·repeat' (first | exact trivial | refine ⟨⟨_, rfl, by first | rfl | exact inc_eq _ (by omega) | (refine sl_eq ?_; simp; done) | exact congrArg (fun v => SV.v (Value.int .i64 v)) hwp | exact congrArg (fun v => Value.int .i64 v) hwp | exact congrArg (fun v => SV.v (Value.int .i64 v)) (wrap_of (by omega) (by omega)) | exact congrArg (fun v => Value.int .i64 v) (wrap_of (by omega) (by omega)), by first | exact trivial | simp [SV.ok]⟩, ?_⟩)
            ·exact ⟨rfl, trivial⟩
            ·try dsimp only
             (obtain ⟨e1, e2⟩ := nt_yes (by omega) hj (by omega) hp hS (by assumption); exact ⟨sg_next e2 hb1, by rw [← e1, ← hq]; assumption, by assumption⟩)
            ·exact .refl _
            try dsimp only
            omega
         ·simp at q38
          refine ⟨fun q49 => ?_, fun q49 => ?_⟩
          ·simp at q49
           exact ⟨_, sf_leaf (sg_end hb1 (by omega) hj hS (by omega) (by assumption)) rfl (by assumption), rlA⟩
          ·simp at q49
           exfalso; omega
        ·simp at q35
         refine ⟨fun q50 => ?_, fun q50 => ?_⟩
         ·simp at q50
          refine call_val (l13Cost_ct _ _ _ _ _ _ _ (x) (shV nn (namesM x.atoms).length j) ?_ ?_ ?_) ⟨(Rp.mono _ (mem_at 3 rfl) hp), (Rp.mono _ (mem_at 2 rfl) (Gt.owrd _ o7)), (Rp.mono _ (mem_at 1 rfl) (Gt.owrd _ oW))⟩ ?_
          ·trivial
          ·trivial
          ·omega
          rintro _ rfl
          refine VC.intro ?_ ?_
          ·exact fun _ h => h
          refine call_val (l13Cost_ct _ _ _ _ _ _ _ (x) (bs) ?_ ?_ ?_) ⟨(Rp.mono _ (mem_at 3 rfl) hp), (Rp.mono _ (mem_at 2 rfl) (Gt.owrd _ o7)), (Rp.mono _ (mem_at 0 rfl) (Gt.owrd _ oB))⟩ ?_
          ·trivial
          ·trivial
          ·omega
          rintro _ rfl
          refine VC.intro ?_ ?_
          ·exact fun _ h => h
          refine ⟨fun q53 => ?_, fun q53 => ?_⟩
          ·simp at q53
           have hb1 := sg_yes (by assumption) (by omega) hI ⟨by assumption, by assumption⟩ (by first | exact .inl (by rw [‹bs = []›]; rfl) | exact .inr (.inl (by assumption)) | exact .inr (.inr ⟨by assumption, by omega⟩))
           refine ⟨fun x54 => ?_⟩
           refine append_allN (g := gI) (T := (3 : TypeId)) G_ok (by repeat (first | exact fl_plain | apply plain_iso | apply plain_pair)) [] [[(x54, Obj.cells { toList := zeros (0 : Nat) [Value.int IntKind.i64 (0 : Int)] } (3 : TypeId))], B, W, A7, H] 2 ?_ (sl_nil _ _ _) rfl (Gt.owrd _ oW) rfl rfl rfl rfl rfl rfl rfl rfl ?_ fun b55 c55 A55 o55 => ?_
           ·exact .refl _
           ·simp; omega
           apply loop_mod (α := (Nat) × (List Int) × (Hp)) G_ok [101, 102, 103, 104, 105, 106, 107, 108, 109, 110, 111, 112, 113, 114, 115, 12] (fun z => [(12, .v (.int .i64 ((z.1 : Int) - 1)))]) (fun z => [{ id := x0, cs := [Value.bool x.each, Value.slice b1p x.out.length c1p, Value.slice b2p x.atoms.length c2p, Value.slice b3p x.filters.length c3p], ty := (37 : Nat) }]) (fun z => [A55, z.2.2, A7, H]) (fun z => z.1) (fun z => z.1 ≤ (namesM x.atoms).length ∧ stepV nn (digV nn (namesM x.atoms).length j) ((namesM x.atoms).length - z.1) z.2.1 ∧ (gSl 3 gI).ow [.slice (some ⟨x9, 0, none⟩) (((namesM x.atoms).length : Nat) : Int).toNat (((namesM x.atoms).length : Nat) : Int).toNat] (upV z.2.1) z.2.2) (((namesM x.atoms).length, digV nn (namesM x.atoms).length j, W))
           ·repeat' (first | exact trivial | refine ⟨⟨_, rfl, by first | rfl | exact inc_eq _ (by omega) | (refine sl_eq ?_; simp; done) | exact congrArg (fun v => SV.v (Value.int .i64 v)) hwp | exact congrArg (fun v => Value.int .i64 v) hwp | exact congrArg (fun v => SV.v (Value.int .i64 v)) (wrap_of (by omega) (by omega)) | exact congrArg (fun v => Value.int .i64 v) (wrap_of (by omega) (by omega)), by first | exact trivial | simp [SV.ok]⟩, ?_⟩)
           ·exact ⟨rfl, trivial⟩
           ·try dsimp only
            exact ⟨Nat.le_refl _, by rw [Nat.sub_self]; exact step_zero _ _, by rw [← sh_up]; exact oW⟩
           ·exact rlA
           rintro ⟨p, u, W1⟩ hI
           try dsimp only at hI
           obtain ⟨hp, hS, oW1⟩ := hI
           try dsimp only
           refine ⟨fun q56 => ?_, fun q56 => ?_⟩
           ·simp at q56
            have hq : ((p : Int) - 1).toNat = p - 1 := (by omega)
            have hwl := step_len hS
            have hdl := digV_len nn (namesM x.atoms).length j
            have hul := upV_len u
            have hwv : (upV u)[((p : Int) - 1).toNat]?.getD 0 = (digV nn (namesM x.atoms).length j)[p - 1]?.getD 0 + 1 := (by rw [hq]; exact (ns_at (by omega) (by omega) hp hS).1)
            have hv := dig_at (n := nn) (m := (namesM x.atoms).length) (j := j) (by omega) (p := p - 1) (by omega)
            have hwp : IntKind.i64.wrap ((p : Int) - 1 - 1) = ((p - 1 : Nat) : Int) - 1 := (by rw [wrap_of (by omega) (by omega)]; omega)
            refine idx_rd (Gt.owrd _ oW1) ?_ ?_ fun b57 o57 hb57 => ?_
            ·omega
            ·omega
            refine load_all 0 (Gt.owrd _ oW1) ?_ ?_ hb57 rfl (mem_at 1 rfl) fun l58 hl58 => ?_
            ·omega
            ·omega
            obtain ⟨rfl, hw58⟩ := hl58; simp only [flStr, flInt, okI] at hw58
            refine ⟨fun q59 => ?_, fun q59 => ?_⟩
            ·simp at q59
             refine idx_rd (Gt.owrd _ oW1) ?_ ?_ fun b60 o60 hb60 => ?_
             ·omega
             ·omega
             refine gstoreN (Fld.id _) 0 (Int.toNat ((↑p : Int) - (1 : Int))) 1 rfl (Int.toNat_of_nonneg ?_).symm oW1 ?_ ?_ hb60 rfl gI_pl _ (gI_ow ?_) fun A61 o61 => ?_
             ·omega
             ·omega
             ·omega
             ·trivial
             apply loop_stepA (p - 1, u.set (p - 1) 0, _)
             ·exact .refl _
             ·repeat' (first | exact trivial | refine ⟨⟨_, rfl, by first | rfl | exact inc_eq _ (by omega) | (refine sl_eq ?_; simp; done) | exact congrArg (fun v => SV.v (Value.int .i64 v)) hwp | exact congrArg (fun v => Value.int .i64 v) hwp | exact congrArg (fun v => SV.v (Value.int .i64 v)) (wrap_of (by omega) (by omega)) | exact congrArg (fun v => Value.int .i64 v) (wrap_of (by omega) (by omega)), by first | exact trivial | simp [SV.ok]⟩, ?_⟩)
             ·exact ⟨rfl, trivial⟩
             ·try dsimp only
              exact ⟨by omega, nt_no (by omega) (by omega) hp hS (by assumption), by rw [← nt_one, ← hq]; assumption⟩
             try dsimp only
             omega
            ·simp at q59
             refine ⟨fun q62 => ?_, fun q62 => ?_⟩
             ·simp at q62
              exfalso; omega
             ·simp at q62
              refine idx_rd (Gt.owrd _ oW1) ?_ ?_ fun b63 o63 hb63 => ?_
              ·omega
              ·omega
              refine load_all 0 (Gt.owrd _ oW1) ?_ ?_ hb63 rfl (mem_at 1 rfl) fun l64 hl64 => ?_
              ·omega
              ·omega
              obtain ⟨rfl, hw64⟩ := hl64; simp only [flStr, flInt, okI] at hw64
              refine idx_rd (Gt.owrd _ oW1) ?_ ?_ fun b65 o65 hb65 => ?_
              ·omega
              ·omega
              refine gstoreN (Fld.id _) 0 (Int.toNat ((↑p : Int) - (1 : Int))) 1 rfl (Int.toNat_of_nonneg ?_).symm oW1 ?_ ?_ hb65 rfl gI_pl _ (gI_ow ?_) fun A66 o66 => ?_
              ·omega
              ·omega
              ·omega
              ·exact okI_wrap _
              apply loop_stepI (j + 1, _, _, _, _, _, _)
              ·repeat' (first | exact trivial | refine ⟨⟨_, rfl, by first | rfl | exact inc_eq _ (by omega) | (refine sl_eq ?_; simp; done) | exact congrArg (fun v => SV.v (Value.int .i64 v)) hwp | exact congrArg (fun v => Value.int .i64 v) hwp | exact congrArg (fun v => SV.v (Value.int .i64 v)) (wrap_of (by omega) (by omega)) | exact congrArg (fun v => Value.int .i64 v) (wrap_of (by omega) (by omega)), by first | exact trivial | simp [SV.ok]⟩, ?_⟩)
              ·exact ⟨rfl, trivial⟩
              ·try dsimp only
               (obtain ⟨e1, e2⟩ := nt_yes (by omega) hj (by omega) hp hS (by assumption); exact ⟨sg_next e2 hb1, by rw [← e1, ← hq]; assumption, by assumption⟩)
              ·exact .refl _
              try dsimp only
              omega
           ·simp at q56
            refine ⟨fun q67 => ?_, fun q67 => ?_⟩
            ·simp at q67
             exact ⟨_, sf_leaf (sg_end hb1 (by omega) hj hS (by omega) (by assumption)) rfl (by assumption), rlA⟩
            ·simp at q67
             exfalso; omega
          ·simp at q53
           refine call_val (l13Cost_ct _ _ _ _ _ _ _ (x) (shV nn (namesM x.atoms).length j) ?_ ?_ ?_) ⟨(Rp.mono _ (mem_at 3 rfl) hp), (Rp.mono _ (mem_at 2 rfl) (Gt.owrd _ o7)), (Rp.mono _ (mem_at 1 rfl) (Gt.owrd _ oW))⟩ ?_
           ·trivial
           ·trivial
           ·omega
           rintro _ rfl
           refine VC.intro ?_ ?_
           ·exact fun _ h => h
           refine call_val (l13Cost_ct _ _ _ _ _ _ _ (x) (bs) ?_ ?_ ?_) ⟨(Rp.mono _ (mem_at 3 rfl) hp), (Rp.mono _ (mem_at 2 rfl) (Gt.owrd _ o7)), (Rp.mono _ (mem_at 0 rfl) (Gt.owrd _ oB))⟩ ?_
           ·trivial
           ·trivial
           ·omega
           rintro _ rfl
           refine VC.intro ?_ ?_
           ·exact fun _ h => h
           refine ⟨fun q70 => ?_, fun q70 => ?_⟩
           ·simp at q70
            refine call_val (specRowLess_ct _ _ _ _ _ _ (bs) (shV nn (namesM x.atoms).length j)) ⟨(Rp.mono _ (mem_at 0 rfl) (Gt.owrd _ oB)), (Rp.mono _ (mem_at 1 rfl) (Gt.owrd _ oW))⟩ ?_
            rintro _ rfl
            refine VC.intro ?_ ?_
            ·exact fun _ h => h
            refine ⟨fun q72 => ?_, fun q72 => ?_⟩
            ·have hb1 := sg_yes (by assumption) (by omega) hI ⟨by assumption, by assumption⟩ (by first | exact .inl (by rw [‹bs = []›]; rfl) | exact .inr (.inl (by assumption)) | exact .inr (.inr ⟨by assumption, by omega⟩))
             refine ⟨fun x73 => ?_⟩
             refine append_allN (g := gI) (T := (3 : TypeId)) G_ok (by repeat (first | exact fl_plain | apply plain_iso | apply plain_pair)) [] [[(x73, Obj.cells { toList := zeros (0 : Nat) [Value.int IntKind.i64 (0 : Int)] } (3 : TypeId))], B, W, A7, H] 2 ?_ (sl_nil _ _ _) rfl (Gt.owrd _ oW) rfl rfl rfl rfl rfl rfl rfl rfl ?_ fun b74 c74 A74 o74 => ?_
             ·exact .refl _
             ·simp; omega
             apply loop_mod (α := (Nat) × (List Int) × (Hp)) G_ok [101, 102, 103, 104, 105, 106, 107, 108, 109, 110, 111, 112, 113, 114, 115, 12] (fun z => [(12, .v (.int .i64 ((z.1 : Int) - 1)))]) (fun z => [{ id := x0, cs := [Value.bool x.each, Value.slice b1p x.out.length c1p, Value.slice b2p x.atoms.length c2p, Value.slice b3p x.filters.length c3p], ty := (37 : Nat) }]) (fun z => [A74, z.2.2, A7, H]) (fun z => z.1) (fun z => z.1 ≤ (namesM x.atoms).length ∧ stepV nn (digV nn (namesM x.atoms).length j) ((namesM x.atoms).length - z.1) z.2.1 ∧ (gSl 3 gI).ow [.slice (some ⟨x9, 0, none⟩) (((namesM x.atoms).length : Nat) : Int).toNat (((namesM x.atoms).length : Nat) : Int).toNat] (upV z.2.1) z.2.2) (((namesM x.atoms).length, digV nn (namesM x.atoms).length j, W))
             ·repeat' (first | exact trivial | refine ⟨⟨_, rfl, by first | rfl | exact inc_eq _ (by omega) | (refine sl_eq ?_; simp; done) | exact congrArg (fun v => SV.v (Value.int .i64 v)) hwp | exact congrArg (fun v => Value.int .i64 v) hwp | exact congrArg (fun v => SV.v (Value.int .i64 v)) (wrap_of (by omega) (by omega)) | exact congrArg (fun v => Value.int .i64 v) (wrap_of (by omega) (by omega)), by first | exact trivial | simp [SV.ok]⟩, ?_⟩)
             ·exact ⟨rfl, trivial⟩
             ·try dsimp only
              exact ⟨Nat.le_refl _, by rw [Nat.sub_self]; exact step_zero _ _, by rw [← sh_up]; exact oW⟩
             ·exact rlA
             rintro ⟨p, u, W1⟩ hI
             try dsimp only at hI
             obtain ⟨hp, hS, oW1⟩ := hI
             try dsimp only
             refine ⟨fun q75 => ?_, fun q75 => ?_⟩
             ·simp at q75
              have hq : ((p : Int) - 1).toNat = p - 1 := (by omega)
              have hwl := step_len hS
              have hdl := digV_len nn (namesM x.atoms).length j
              have hul := upV_len u
              have hwv : (upV u)[((p : Int) - 1).toNat]?.getD 0 = (digV nn (namesM x.atoms).length j)[p - 1]?.getD 0 + 1 := (by rw [hq]; exact (ns_at (by omega) (by omega) hp hS).1)
              have hv := dig_at (n := nn) (m := (namesM x.atoms).length) (j := j) (by omega) (p := p - 1) (by omega)
              have hwp : IntKind.i64.wrap ((p : Int) - 1 - 1) = ((p - 1 : Nat) : Int) - 1 := (by rw [wrap_of (by omega) (by omega)]; omega)
              refine idx_rd (Gt.owrd _ oW1) ?_ ?_ fun b76 o76 hb76 => ?_
              ·omega
              ·omega
              refine load_all 0 (Gt.owrd _ oW1) ?_ ?_ hb76 rfl (mem_at 1 rfl) fun l77 hl77 => ?_
              ·omega
              ·omega
              obtain ⟨rfl, hw77⟩ := hl77; simp only [flStr, flInt, okI] at hw77
              refine ⟨fun q78 => ?_, fun q78 => ?_⟩
              ·simp at q78
               refine idx_rd (Gt.owrd _ oW1) ?_ ?_ fun b79 o79 hb79 => ?_
               ·omega
               ·omega
               refine gstoreN (Fld.id _) 0 (Int.toNat ((↑p : Int) - (1 : Int))) 1 rfl (Int.toNat_of_nonneg ?_).symm oW1 ?_ ?_ hb79 rfl gI_pl _ (gI_ow ?_) fun A80 o80 => ?_
               ·omega
               ·omega
               ·omega
               ·trivial
               apply loop_stepA (p - 1, u.set (p - 1) 0, _)
               ·exact .refl _
               ·repeat' (first | exact trivial | refine ⟨⟨_, rfl, by first | rfl | exact inc_eq _ (by omega) | (refine sl_eq ?_; simp; done) | exact congrArg (fun v => SV.v (Value.int .i64 v)) hwp | exact congrArg (fun v => Value.int .i64 v) hwp | exact congrArg (fun v => SV.v (Value.int .i64 v)) (wrap_of (by omega) (by omega)) | exact congrArg (fun v => Value.int .i64 v) (wrap_of (by omega) (by omega)), by first | exact trivial | simp [SV.ok]⟩, ?_⟩)
               ·exact ⟨rfl, trivial⟩
               ·try dsimp only
                exact ⟨by omega, nt_no (by omega) (by omega) hp hS (by assumption), by rw [← nt_one, ← hq]; assumption⟩
               try dsimp only
               omega
              ·simp at q78
               refine ⟨fun q81 => ?_, fun q81 => ?_⟩
               ·simp at q81
                exfalso; omega
               ·simp at q81
                refine idx_rd (Gt.owrd _ oW1) ?_ ?_ fun b82 o82 hb82 => ?_
                ·omega
                ·omega
                refine load_all 0 (Gt.owrd _ oW1) ?_ ?_ hb82 rfl (mem_at 1 rfl) fun l83 hl83 => ?_
                ·omega
                ·omega
                obtain ⟨rfl, hw83⟩ := hl83; simp only [flStr, flInt, okI] at hw83
                refine idx_rd (Gt.owrd _ oW1) ?_ ?_ fun b84 o84 hb84 => ?_
                ·omega
                ·omega
                refine gstoreN (Fld.id _) 0 (Int.toNat ((↑p : Int) - (1 : Int))) 1 rfl (Int.toNat_of_nonneg ?_).symm oW1 ?_ ?_ hb84 rfl gI_pl _ (gI_ow ?_) fun A85 o85 => ?_
                ·omega
                ·omega
                ·omega
                ·exact okI_wrap _
                apply loop_stepI (j + 1, _, _, _, _, _, _)
                ·repeat' (first | exact trivial | refine ⟨⟨_, rfl, by first | rfl | exact inc_eq _ (by omega) | (refine sl_eq ?_; simp; done) | exact congrArg (fun v => SV.v (Value.int .i64 v)) hwp | exact congrArg (fun v => Value.int .i64 v) hwp | exact congrArg (fun v => SV.v (Value.int .i64 v)) (wrap_of (by omega) (by omega)) | exact congrArg (fun v => Value.int .i64 v) (wrap_of (by omega) (by omega)), by first | exact trivial | simp [SV.ok]⟩, ?_⟩)
                ·exact ⟨rfl, trivial⟩
                ·try dsimp only
                 (obtain ⟨e1, e2⟩ := nt_yes (by omega) hj (by omega) hp hS (by assumption); exact ⟨sg_next e2 hb1, by rw [← e1, ← hq]; assumption, by assumption⟩)
                ·exact .refl _
                try dsimp only
                omega
             ·simp at q75
              refine ⟨fun q86 => ?_, fun q86 => ?_⟩
              ·simp at q86
               exact ⟨_, sf_leaf (sg_end hb1 (by omega) hj hS (by omega) (by assumption)) rfl (by assumption), rlA⟩
              ·simp at q86
               exfalso; omega
            ·have hb1 := sg_no (by assumption) (by omega) hI (by first | exact .inl (by assumption) | exact .inr (.inl (by assumption)) | exact .inr (.inr ⟨by omega, .inr ⟨by assumption, .inr (by assumption)⟩⟩) | exact .inr (.inr ⟨by omega, .inr ⟨by assumption, .inl (by omega)⟩⟩) | exact .inr (.inr ⟨by omega, .inl (by omega)⟩))
             apply loop_mod (α := (Nat) × (List Int) × (Hp)) G_ok [101, 102, 103, 104, 105, 106, 107, 108, 109, 110, 111, 112, 113, 114, 115, 12] (fun z => [(12, .v (.int .i64 ((z.1 : Int) - 1)))]) (fun z => [{ id := x0, cs := [Value.bool x.each, Value.slice b1p x.out.length c1p, Value.slice b2p x.atoms.length c2p, Value.slice b3p x.filters.length c3p], ty := (37 : Nat) }]) (fun z => [B, z.2.2, A7, H]) (fun z => z.1) (fun z => z.1 ≤ (namesM x.atoms).length ∧ stepV nn (digV nn (namesM x.atoms).length j) ((namesM x.atoms).length - z.1) z.2.1 ∧ (gSl 3 gI).ow [.slice (some ⟨x9, 0, none⟩) (((namesM x.atoms).length : Nat) : Int).toNat (((namesM x.atoms).length : Nat) : Int).toNat] (upV z.2.1) z.2.2) (((namesM x.atoms).length, digV nn (namesM x.atoms).length j, W))
             ·repeat' (first | exact trivial | refine ⟨⟨_, rfl, by first | rfl | exact inc_eq _ (by omega) | (refine sl_eq ?_; simp; done) | exact congrArg (fun v => SV.v (Value.int .i64 v)) hwp | exact congrArg (fun v => Value.int .i64 v) hwp | exact congrArg (fun v => SV.v (Value.int .i64 v)) (wrap_of (by omega) (by omega)) | exact congrArg (fun v => Value.int .i64 v) (wrap_of (by omega) (by omega)), by first | exact trivial | simp [SV.ok]⟩, ?_⟩)
             ·exact ⟨rfl, trivial⟩
             ·try dsimp only
              exact ⟨Nat.le_refl _, by rw [Nat.sub_self]; exact step_zero _ _, by rw [← sh_up]; exact oW⟩
             ·exact .refl _
             rintro ⟨p, u, W1⟩ hI
             try dsimp only at hI
             obtain ⟨hp, hS, oW1⟩ := hI
             try dsimp only
             refine ⟨fun q87 => ?_, fun q87 => ?_⟩
             ·simp at q87
              have hq : ((p : Int) - 1).toNat = p - 1 := (by omega)
              have hwl := step_len hS
              have hdl := digV_len nn (namesM x.atoms).length j
              have hul := upV_len u
              have hwv : (upV u)[((p : Int) - 1).toNat]?.getD 0 = (digV nn (namesM x.atoms).length j)[p - 1]?.getD 0 + 1 := (by rw [hq]; exact (ns_at (by omega) (by omega) hp hS).1)
              have hv := dig_at (n := nn) (m := (namesM x.atoms).length) (j := j) (by omega) (p := p - 1) (by omega)
              have hwp : IntKind.i64.wrap ((p : Int) - 1 - 1) = ((p - 1 : Nat) : Int) - 1 := (by rw [wrap_of (by omega) (by omega)]; omega)
              refine idx_rd (Gt.owrd _ oW1) ?_ ?_ fun b88 o88 hb88 => ?_
              ·omega
              ·omega
              refine load_all 0 (Gt.owrd _ oW1) ?_ ?_ hb88 rfl (mem_at 1 rfl) fun l89 hl89 => ?_
              ·omega
              ·omega
              obtain ⟨rfl, hw89⟩ := hl89; simp only [flStr, flInt, okI] at hw89
              refine ⟨fun q90 => ?_, fun q90 => ?_⟩
              ·simp at q90
               refine idx_rd (Gt.owrd _ oW1) ?_ ?_ fun b91 o91 hb91 => ?_
               ·omega
               ·omega
               refine gstoreN (Fld.id _) 0 (Int.toNat ((↑p : Int) - (1 : Int))) 1 rfl (Int.toNat_of_nonneg ?_).symm oW1 ?_ ?_ hb91 rfl gI_pl _ (gI_ow ?_) fun A92 o92 => ?_
               ·omega
               ·omega
               ·omega
               ·trivial
               apply loop_stepA (p - 1, u.set (p - 1) 0, _)
               ·exact .refl _
               ·repeat' (first | exact trivial | refine ⟨⟨_, rfl, by first | rfl | exact inc_eq _ (by omega) | (refine sl_eq ?_; simp; done) | exact congrArg (fun v => SV.v (Value.int .i64 v)) hwp | exact congrArg (fun v => Value.int .i64 v) hwp | exact congrArg (fun v => SV.v (Value.int .i64 v)) (wrap_of (by omega) (by omega)) | exact congrArg (fun v => Value.int .i64 v) (wrap_of (by omega) (by omega)), by first | exact trivial | simp [SV.ok]⟩, ?_⟩)
               ·exact ⟨rfl, trivial⟩
               ·try dsimp only
                exact ⟨by omega, nt_no (by omega) (by omega) hp hS (by assumption), by rw [← nt_one, ← hq]; assumption⟩
               try dsimp only
               omega
              ·simp at q90
               refine ⟨fun q93 => ?_, fun q93 => ?_⟩
               ·simp at q93
                exfalso; omega
               ·simp at q93
                refine idx_rd (Gt.owrd _ oW1) ?_ ?_ fun b94 o94 hb94 => ?_
                ·omega
                ·omega
                refine load_all 0 (Gt.owrd _ oW1) ?_ ?_ hb94 rfl (mem_at 1 rfl) fun l95 hl95 => ?_
                ·omega
                ·omega
                obtain ⟨rfl, hw95⟩ := hl95; simp only [flStr, flInt, okI] at hw95
                refine idx_rd (Gt.owrd _ oW1) ?_ ?_ fun b96 o96 hb96 => ?_
                ·omega
                ·omega
                refine gstoreN (Fld.id _) 0 (Int.toNat ((↑p : Int) - (1 : Int))) 1 rfl (Int.toNat_of_nonneg ?_).symm oW1 ?_ ?_ hb96 rfl gI_pl _ (gI_ow ?_) fun A97 o97 => ?_
                ·omega
                ·omega
                ·omega
                ·exact okI_wrap _
                apply loop_stepI (j + 1, _, _, _, _, _, _)
                ·repeat' (first | exact trivial | refine ⟨⟨_, rfl, by first | rfl | exact inc_eq _ (by omega) | (refine sl_eq ?_; simp; done) | exact congrArg (fun v => SV.v (Value.int .i64 v)) hwp | exact congrArg (fun v => Value.int .i64 v) hwp | exact congrArg (fun v => SV.v (Value.int .i64 v)) (wrap_of (by omega) (by omega)) | exact congrArg (fun v => Value.int .i64 v) (wrap_of (by omega) (by omega)), by first | exact trivial | simp [SV.ok]⟩, ?_⟩)
                ·exact ⟨rfl, trivial⟩
                ·try dsimp only
                 (obtain ⟨e1, e2⟩ := nt_yes (by omega) hj (by omega) hp hS (by assumption); exact ⟨sg_next e2 hb1, by rw [← e1, ← hq]; assumption, by assumption⟩)
                ·exact .refl _
                try dsimp only
                omega
             ·simp at q87
              refine ⟨fun q98 => ?_, fun q98 => ?_⟩
              ·simp at q98
               exact ⟨_, sf_leaf (sg_end hb1 (by omega) hj hS (by omega) (by assumption)) rfl (by assumption), rlA⟩
              ·simp at q98
               exfalso; omega
           ·simp at q70
            have hb1 := sg_no (by assumption) (by omega) hI (by first | exact .inl (by assumption) | exact .inr (.inl (by assumption)) | exact .inr (.inr ⟨by omega, .inr ⟨by assumption, .inr (by assumption)⟩⟩) | exact .inr (.inr ⟨by omega, .inr ⟨by assumption, .inl (by omega)⟩⟩) | exact .inr (.inr ⟨by omega, .inl (by omega)⟩))
            apply loop_mod (α := (Nat) × (List Int) × (Hp)) G_ok [101, 102, 103, 104, 105, 106, 107, 108, 109, 110, 111, 112, 113, 114, 115, 12] (fun z => [(12, .v (.int .i64 ((z.1 : Int) - 1)))]) (fun z => [{ id := x0, cs := [Value.bool x.each, Value.slice b1p x.out.length c1p, Value.slice b2p x.atoms.length c2p, Value.slice b3p x.filters.length c3p], ty := (37 : Nat) }]) (fun z => [B, z.2.2, A7, H]) (fun z => z.1) (fun z => z.1 ≤ (namesM x.atoms).length ∧ stepV nn (digV nn (namesM x.atoms).length j) ((namesM x.atoms).length - z.1) z.2.1 ∧ (gSl 3 gI).ow [.slice (some ⟨x9, 0, none⟩) (((namesM x.atoms).length : Nat) : Int).toNat (((namesM x.atoms).length : Nat) : Int).toNat] (upV z.2.1) z.2.2) (((namesM x.atoms).length, digV nn (namesM x.atoms).length j, W))
            ·repeat' (first | exact trivial | refine ⟨⟨_, rfl, by first | rfl | exact inc_eq _ (by omega) | (refine sl_eq ?_; simp; done) | exact congrArg (fun v => SV.v (Value.int .i64 v)) hwp | exact congrArg (fun v => Value.int .i64 v) hwp | exact congrArg (fun v => SV.v (Value.int .i64 v)) (wrap_of (by omega) (by omega)) | exact congrArg (fun v => Value.int .i64 v) (wrap_of (by omega) (by omega)), by first | exact trivial | simp [SV.ok]⟩, ?_⟩)
            ·exact ⟨rfl, trivial⟩
            ·try dsimp only
             exact ⟨Nat.le_refl _, by rw [Nat.sub_self]; exact step_zero _ _, by rw [← sh_up]; exact oW⟩
            ·exact .refl _
            rintro ⟨p, u, W1⟩ hI
            try dsimp only at hI
            obtain ⟨hp, hS, oW1⟩ := hI
            try dsimp only
            refine ⟨fun q99 => ?_, fun q99 => ?_⟩
            ·simp at q99
             have hq : ((p : Int) - 1).toNat = p - 1 := (by omega)
             have hwl := step_len hS
             have hdl := digV_len nn (namesM x.atoms).length j
             have hul := upV_len u
             have hwv : (upV u)[((p : Int) - 1).toNat]?.getD 0 = (digV nn (namesM x.atoms).length j)[p - 1]?.getD 0 + 1 := (by rw [hq]; exact (ns_at (by omega) (by omega) hp hS).1)
             have hv := dig_at (n := nn) (m := (namesM x.atoms).length) (j := j) (by omega) (p := p - 1) (by omega)
             have hwp : IntKind.i64.wrap ((p : Int) - 1 - 1) = ((p - 1 : Nat) : Int) - 1 := (by rw [wrap_of (by omega) (by omega)]; omega)
             refine idx_rd (Gt.owrd _ oW1) ?_ ?_ fun b100 o100 hb100 => ?_
             ·omega
             ·omega
             refine load_all 0 (Gt.owrd _ oW1) ?_ ?_ hb100 rfl (mem_at 1 rfl) fun l101 hl101 => ?_
             ·omega
             ·omega
             obtain ⟨rfl, hw101⟩ := hl101; simp only [flStr, flInt, okI] at hw101
             refine ⟨fun q102 => ?_, fun q102 => ?_⟩
             ·simp at q102
              refine idx_rd (Gt.owrd _ oW1) ?_ ?_ fun b103 o103 hb103 => ?_
              ·omega
              ·omega
              refine gstoreN (Fld.id _) 0 (Int.toNat ((↑p : Int) - (1 : Int))) 1 rfl (Int.toNat_of_nonneg ?_).symm oW1 ?_ ?_ hb103 rfl gI_pl _ (gI_ow ?_) fun A104 o104 => ?_
              ·omega
              ·omega
              ·omega
              ·trivial
              apply loop_stepA (p - 1, u.set (p - 1) 0, _)
              ·exact .refl _
              ·repeat' (first | exact trivial | refine ⟨⟨_, rfl, by first | rfl | exact inc_eq _ (by omega) | (refine sl_eq ?_; simp; done) | exact congrArg (fun v => SV.v (Value.int .i64 v)) hwp | exact congrArg (fun v => Value.int .i64 v) hwp | exact congrArg (fun v => SV.v (Value.int .i64 v)) (wrap_of (by omega) (by omega)) | exact congrArg (fun v => Value.int .i64 v) (wrap_of (by omega) (by omega)), by first | exact trivial | simp [SV.ok]⟩, ?_⟩)
              ·exact ⟨rfl, trivial⟩
              ·try dsimp only
               exact ⟨by omega, nt_no (by omega) (by omega) hp hS (by assumption), by rw [← nt_one, ← hq]; assumption⟩
              try dsimp only
              omega
             ·simp at q102
              refine ⟨fun q105 => ?_, fun q105 => ?_⟩
              ·simp at q105
               exfalso; omega
              ·simp at q105
               refine idx_rd (Gt.owrd _ oW1) ?_ ?_ fun b106 o106 hb106 => ?_
               ·omega
               ·omega
               refine load_all 0 (Gt.owrd _ oW1) ?_ ?_ hb106 rfl (mem_at 1 rfl) fun l107 hl107 => ?_
               ·omega
               ·omega
               obtain ⟨rfl, hw107⟩ := hl107; simp only [flStr, flInt, okI] at hw107
               refine idx_rd (Gt.owrd _ oW1) ?_ ?_ fun b108 o108 hb108 => ?_
               ·omega
               ·omega
               refine gstoreN (Fld.id _) 0 (Int.toNat ((↑p : Int) - (1 : Int))) 1 rfl (Int.toNat_of_nonneg ?_).symm oW1 ?_ ?_ hb108 rfl gI_pl _ (gI_ow ?_) fun A109 o109 => ?_
               ·omega
               ·omega
               ·omega
               ·exact okI_wrap _
               apply loop_stepI (j + 1, _, _, _, _, _, _)
               ·repeat' (first | exact trivial | refine ⟨⟨_, rfl, by first | rfl | exact inc_eq _ (by omega) | (refine sl_eq ?_; simp; done) | exact congrArg (fun v => SV.v (Value.int .i64 v)) hwp | exact congrArg (fun v => Value.int .i64 v) hwp | exact congrArg (fun v => SV.v (Value.int .i64 v)) (wrap_of (by omega) (by omega)) | exact congrArg (fun v => Value.int .i64 v) (wrap_of (by omega) (by omega)), by first | exact trivial | simp [SV.ok]⟩, ?_⟩)
               ·exact ⟨rfl, trivial⟩
               ·try dsimp only
                (obtain ⟨e1, e2⟩ := nt_yes (by omega) hj (by omega) hp hS (by assumption); exact ⟨sg_next e2 hb1, by rw [← e1, ← hq]; assumption, by assumption⟩)
               ·exact .refl _
               try dsimp only
               omega
            ·simp at q99
             refine ⟨fun q110 => ?_, fun q110 => ?_⟩
             ·simp at q110
              exact ⟨_, sf_leaf (sg_end hb1 (by omega) hj hS (by omega) (by assumption)) rfl (by assumption), rlA⟩
             ·simp at q110
              exfalso; omega
         ·simp at q50
          have hb1 := sg_no (by assumption) (by omega) hI (by first | exact .inl (by assumption) | exact .inr (.inl (by assumption)) | exact .inr (.inr ⟨by omega, .inr ⟨by assumption, .inr (by assumption)⟩⟩) | exact .inr (.inr ⟨by omega, .inr ⟨by assumption, .inl (by omega)⟩⟩) | exact .inr (.inr ⟨by omega, .inl (by omega)⟩))
          apply loop_mod (α := (Nat) × (List Int) × (Hp)) G_ok [101, 102, 103, 104, 105, 106, 107, 108, 109, 110, 111, 112, 113, 114, 115, 12] (fun z => [(12, .v (.int .i64 ((z.1 : Int) - 1)))]) (fun z => [{ id := x0, cs := [Value.bool x.each, Value.slice b1p x.out.length c1p, Value.slice b2p x.atoms.length c2p, Value.slice b3p x.filters.length c3p], ty := (37 : Nat) }]) (fun z => [B, z.2.2, A7, H]) (fun z => z.1) (fun z => z.1 ≤ (namesM x.atoms).length ∧ stepV nn (digV nn (namesM x.atoms).length j) ((namesM x.atoms).length - z.1) z.2.1 ∧ (gSl 3 gI).ow [.slice (some ⟨x9, 0, none⟩) (((namesM x.atoms).length : Nat) : Int).toNat (((namesM x.atoms).length : Nat) : Int).toNat] (upV z.2.1) z.2.2) (((namesM x.atoms).length, digV nn (namesM x.atoms).length j, W))
          ·repeat' (first | exact trivial | refine ⟨⟨_, rfl, by first | rfl | exact inc_eq _ (by omega) | (refine sl_eq ?_; simp; done) | exact congrArg (fun v => SV.v (Value.int .i64 v)) hwp | exact congrArg (fun v => Value.int .i64 v) hwp | exact congrArg (fun v => SV.v (Value.int .i64 v)) (wrap_of (by omega) (by omega)) | exact congrArg (fun v => Value.int .i64 v) (wrap_of (by omega) (by omega)), by first | exact trivial | simp [SV.ok]⟩, ?_⟩)
          ·exact ⟨rfl, trivial⟩
          ·try dsimp only
           exact ⟨Nat.le_refl _, by rw [Nat.sub_self]; exact step_zero _ _, by rw [← sh_up]; exact oW⟩
          ·exact .refl _
          rintro ⟨p, u, W1⟩ hI
          try dsimp only at hI
          obtain ⟨hp, hS, oW1⟩ := hI
          try dsimp only
          refine ⟨fun q111 => ?_, fun q111 => ?_⟩
          ·simp at q111
           have hq : ((p : Int) - 1).toNat = p - 1 := (by omega)
           have hwl := step_len hS
           have hdl := digV_len nn (namesM x.atoms).length j
           have hul := upV_len u
           have hwv : (upV u)[((p : Int) - 1).toNat]?.getD 0 = (digV nn (namesM x.atoms).length j)[p - 1]?.getD 0 + 1 := (by rw [hq]; exact (ns_at (by omega) (by omega) hp hS).1)
           have hv := dig_at (n := nn) (m := (namesM x.atoms).length) (j := j) (by omega) (p := p - 1) (by omega)
           have hwp : IntKind.i64.wrap ((p : Int) - 1 - 1) = ((p - 1 : Nat) : Int) - 1 := (by rw [wrap_of (by omega) (by omega)]; omega)
           refine idx_rd (Gt.owrd _ oW1) ?_ ?_ fun b112 o112 hb112 => ?_
           ·omega
           ·omega
           refine load_all 0 (Gt.owrd _ oW1) ?_ ?_ hb112 rfl (mem_at 1 rfl) fun l113 hl113 => ?_
           ·omega
           ·omega
           obtain ⟨rfl, hw113⟩ := hl113; simp only [flStr, flInt, okI] at hw113
           refine ⟨fun q114 => ?_, fun q114 => ?_⟩
           ·simp at q114
            refine idx_rd (Gt.owrd _ oW1) ?_ ?_ fun b115 o115 hb115 => ?_
            ·omega
            ·omega
            refine gstoreN (Fld.id _) 0 (Int.toNat ((↑p : Int) - (1 : Int))) 1 rfl (Int.toNat_of_nonneg ?_).symm oW1 ?_ ?_ hb115 rfl gI_pl _ (gI_ow ?_) fun A116 o116 => ?_
            ·omega
            ·omega
            ·omega
            ·trivial
            apply loop_stepA (p - 1, u.set (p - 1) 0, _)
            ·exact .refl _
            ·repeat' (first | exact trivial | refine ⟨⟨_, rfl, by first | rfl | exact inc_eq _ (by omega) | (refine sl_eq ?_; simp; done) | exact congrArg (fun v => SV.v (Value.int .i64 v)) hwp | exact congrArg (fun v => Value.int .i64 v) hwp | exact congrArg (fun v => SV.v (Value.int .i64 v)) (wrap_of (by omega) (by omega)) | exact congrArg (fun v => Value.int .i64 v) (wrap_of (by omega) (by omega)), by first | exact trivial | simp [SV.ok]⟩, ?_⟩)
            ·exact ⟨rfl, trivial⟩
            ·try dsimp only
             exact ⟨by omega, nt_no (by omega) (by omega) hp hS (by assumption), by rw [← nt_one, ← hq]; assumption⟩
            try dsimp only
            omega
           ·simp at q114
            refine ⟨fun q117 => ?_, fun q117 => ?_⟩
            ·simp at q117
             exfalso; omega
            ·simp at q117
             refine idx_rd (Gt.owrd _ oW1) ?_ ?_ fun b118 o118 hb118 => ?_
             ·omega
             ·omega
             refine load_all 0 (Gt.owrd _ oW1) ?_ ?_ hb118 rfl (mem_at 1 rfl) fun l119 hl119 => ?_
             ·omega
             ·omega
             obtain ⟨rfl, hw119⟩ := hl119; simp only [flStr, flInt, okI] at hw119
             refine idx_rd (Gt.owrd _ oW1) ?_ ?_ fun b120 o120 hb120 => ?_
             ·omega
             ·omega
             refine gstoreN (Fld.id _) 0 (Int.toNat ((↑p : Int) - (1 : Int))) 1 rfl (Int.toNat_of_nonneg ?_).symm oW1 ?_ ?_ hb120 rfl gI_pl _ (gI_ow ?_) fun A121 o121 => ?_
             ·omega
             ·omega
             ·omega
             ·exact okI_wrap _
             apply loop_stepI (j + 1, _, _, _, _, _, _)
             ·repeat' (first | exact trivial | refine ⟨⟨_, rfl, by first | rfl | exact inc_eq _ (by omega) | (refine sl_eq ?_; simp; done) | exact congrArg (fun v => SV.v (Value.int .i64 v)) hwp | exact congrArg (fun v => Value.int .i64 v) hwp | exact congrArg (fun v => SV.v (Value.int .i64 v)) (wrap_of (by omega) (by omega)) | exact congrArg (fun v => Value.int .i64 v) (wrap_of (by omega) (by omega)), by first | exact trivial | simp [SV.ok]⟩, ?_⟩)
             ·exact ⟨rfl, trivial⟩
             ·try dsimp only
              (obtain ⟨e1, e2⟩ := nt_yes (by omega) hj (by omega) hp hS (by assumption); exact ⟨sg_next e2 hb1, by rw [← e1, ← hq]; assumption, by assumption⟩)
             ·exact .refl _
             try dsimp only
             omega
          ·simp at q111
           refine ⟨fun q122 => ?_, fun q122 => ?_⟩
           ·simp at q122
            exact ⟨_, sf_leaf (sg_end hb1 (by omega) hj hS (by omega) (by assumption)) rfl (by assumption), rlA⟩
           ·simp at q122
            exfalso; omega
       ·simp at q33
        exact absurd q33 (by assumption)
     ·simp at q15
      have hb1 := sg_no (by assumption) (by omega) hI (by first | exact .inl (by assumption) | exact .inr (.inl (by assumption)) | exact .inr (.inr ⟨by omega, .inr ⟨by assumption, .inr (by assumption)⟩⟩) | exact .inr (.inr ⟨by omega, .inr ⟨by assumption, .inl (by omega)⟩⟩) | exact .inr (.inr ⟨by omega, .inl (by omega)⟩))
      apply loop_mod (α := (Nat) × (List Int) × (Hp)) G_ok [101, 102, 103, 104, 105, 106, 107, 108, 109, 110, 111, 112, 113, 114, 115, 12] (fun z => [(12, .v (.int .i64 ((z.1 : Int) - 1)))]) (fun z => [{ id := x0, cs := [Value.bool x.each, Value.slice b1p x.out.length c1p, Value.slice b2p x.atoms.length c2p, Value.slice b3p x.filters.length c3p], ty := (37 : Nat) }]) (fun z => [B, z.2.2, A7, H]) (fun z => z.1) (fun z => z.1 ≤ (namesM x.atoms).length ∧ stepV nn (digV nn (namesM x.atoms).length j) ((namesM x.atoms).length - z.1) z.2.1 ∧ (gSl 3 gI).ow [.slice (some ⟨x9, 0, none⟩) (((namesM x.atoms).length : Nat) : Int).toNat (((namesM x.atoms).length : Nat) : Int).toNat] (upV z.2.1) z.2.2) (((namesM x.atoms).length, digV nn (namesM x.atoms).length j, W))
      ·repeat' (first | exact trivial | refine ⟨⟨_, rfl, by first | rfl | exact inc_eq _ (by omega) | (refine sl_eq ?_; simp; done) | exact congrArg (fun v => SV.v (Value.int .i64 v)) hwp | exact congrArg (fun v => Value.int .i64 v) hwp | exact congrArg (fun v => SV.v (Value.int .i64 v)) (wrap_of (by omega) (by omega)) | exact congrArg (fun v => Value.int .i64 v) (wrap_of (by omega) (by omega)), by first | exact trivial | simp [SV.ok]⟩, ?_⟩)
      ·exact ⟨rfl, trivial⟩
      ·try dsimp only
       exact ⟨Nat.le_refl _, by rw [Nat.sub_self]; exact step_zero _ _, by rw [← sh_up]; exact oW⟩
      ·exact .refl _
      rintro ⟨p, u, W1⟩ hI
      try dsimp only at hI
      obtain ⟨hp, hS, oW1⟩ := hI
      try dsimp only
      refine ⟨fun q123 => ?_, fun q123 => ?_⟩
      ·simp at q123
       have hq : ((p : Int) - 1).toNat = p - 1 := (by omega)
       have hwl := step_len hS
       have hdl := digV_len nn (namesM x.atoms).length j
       have hul := upV_len u
       have hwv : (upV u)[((p : Int) - 1).toNat]?.getD 0 = (digV nn (namesM x.atoms).length j)[p - 1]?.getD 0 + 1 := (by rw [hq]; exact (ns_at (by omega) (by omega) hp hS).1)
       have hv := dig_at (n := nn) (m := (namesM x.atoms).length) (j := j) (by omega) (p := p - 1) (by omega)
       have hwp : IntKind.i64.wrap ((p : Int) - 1 - 1) = ((p - 1 : Nat) : Int) - 1 := (by rw [wrap_of (by omega) (by omega)]; omega)
       refine idx_rd (Gt.owrd _ oW1) ?_ ?_ fun b124 o124 hb124 => ?_
       ·omega
       ·omega
       refine load_all 0 (Gt.owrd _ oW1) ?_ ?_ hb124 rfl (mem_at 1 rfl) fun l125 hl125 => ?_
       ·omega
       ·omega
       obtain ⟨rfl, hw125⟩ := hl125; simp only [flStr, flInt, okI] at hw125
       refine ⟨fun q126 => ?_, fun q126 => ?_⟩
       ·simp at q126
        refine idx_rd (Gt.owrd _ oW1) ?_ ?_ fun b127 o127 hb127 => ?_
        ·omega
        ·omega
        refine gstoreN (Fld.id _) 0 (Int.toNat ((↑p : Int) - (1 : Int))) 1 rfl (Int.toNat_of_nonneg ?_).symm oW1 ?_ ?_ hb127 rfl gI_pl _ (gI_ow ?_) fun A128 o128 => ?_
        ·omega
        ·omega
        ·omega
        ·trivial
        apply loop_stepA (p - 1, u.set (p - 1) 0, _)
        ·exact .refl _
        ·repeat' (first | exact trivial | refine ⟨⟨_, rfl, by first | rfl | exact inc_eq _ (by omega) | (refine sl_eq ?_; simp; done) | exact congrArg (fun v => SV.v (Value.int .i64 v)) hwp | exact congrArg (fun v => Value.int .i64 v) hwp | exact congrArg (fun v => SV.v (Value.int .i64 v)) (wrap_of (by omega) (by omega)) | exact congrArg (fun v => Value.int .i64 v) (wrap_of (by omega) (by omega)), by first | exact trivial | simp [SV.ok]⟩, ?_⟩)
        ·exact ⟨rfl, trivial⟩
        ·try dsimp only
         exact ⟨by omega, nt_no (by omega) (by omega) hp hS (by assumption), by rw [← nt_one, ← hq]; assumption⟩
        try dsimp only
        omega
       ·simp at q126
        refine ⟨fun q129 => ?_, fun q129 => ?_⟩
        ·simp at q129
         exfalso; omega
        ·simp at q129
         refine idx_rd (Gt.owrd _ oW1) ?_ ?_ fun b130 o130 hb130 => ?_
         ·omega
         ·omega
         refine load_all 0 (Gt.owrd _ oW1) ?_ ?_ hb130 rfl (mem_at 1 rfl) fun l131 hl131 => ?_
         ·omega
         ·omega
         obtain ⟨rfl, hw131⟩ := hl131; simp only [flStr, flInt, okI] at hw131
         refine idx_rd (Gt.owrd _ oW1) ?_ ?_ fun b132 o132 hb132 => ?_
         ·omega
         ·omega
         refine gstoreN (Fld.id _) 0 (Int.toNat ((↑p : Int) - (1 : Int))) 1 rfl (Int.toNat_of_nonneg ?_).symm oW1 ?_ ?_ hb132 rfl gI_pl _ (gI_ow ?_) fun A133 o133 => ?_
         ·omega
         ·omega
         ·omega
         ·exact okI_wrap _
         apply loop_stepI (j + 1, _, _, _, _, _, _)
         ·repeat' (first | exact trivial | refine ⟨⟨_, rfl, by first | rfl | exact inc_eq _ (by omega) | (refine sl_eq ?_; simp; done) | exact congrArg (fun v => SV.v (Value.int .i64 v)) hwp | exact congrArg (fun v => Value.int .i64 v) hwp | exact congrArg (fun v => SV.v (Value.int .i64 v)) (wrap_of (by omega) (by omega)) | exact congrArg (fun v => Value.int .i64 v) (wrap_of (by omega) (by omega)), by first | exact trivial | simp [SV.ok]⟩, ?_⟩)
         ·exact ⟨rfl, trivial⟩
         ·try dsimp only
          (obtain ⟨e1, e2⟩ := nt_yes (by omega) hj (by omega) hp hS (by assumption); exact ⟨sg_next e2 hb1, by rw [← e1, ← hq]; assumption, by assumption⟩)
         ·exact .refl _
         try dsimp only
         omega
      ·simp at q123
       refine ⟨fun q134 => ?_, fun q134 => ?_⟩
       ·simp at q134
        exact ⟨_, sf_leaf (sg_end hb1 (by omega) hj hS (by omega) (by assumption)) rfl (by assumption), rlA⟩
       ·simp at q134
        exfalso; omega
    ·simp at q14
     have hb1 := sg_no (by assumption) (by omega) hI (by first | exact .inl (by assumption) | exact .inr (.inl (by assumption)) | exact .inr (.inr ⟨by omega, .inr ⟨by assumption, .inr (by assumption)⟩⟩) | exact .inr (.inr ⟨by omega, .inr ⟨by assumption, .inl (by omega)⟩⟩) | exact .inr (.inr ⟨by omega, .inl (by omega)⟩))
     apply loop_mod (α := (Nat) × (List Int) × (Hp)) G_ok [101, 102, 103, 104, 105, 106, 107, 108, 109, 110, 111, 112, 113, 114, 115, 12] (fun z => [(12, .v (.int .i64 ((z.1 : Int) - 1)))]) (fun z => [{ id := x0, cs := [Value.bool x.each, Value.slice b1p x.out.length c1p, Value.slice b2p x.atoms.length c2p, Value.slice b3p x.filters.length c3p], ty := (37 : Nat) }]) (fun z => [B, z.2.2, A7, H]) (fun z => z.1) (fun z => z.1 ≤ (namesM x.atoms).length ∧ stepV nn (digV nn (namesM x.atoms).length j) ((namesM x.atoms).length - z.1) z.2.1 ∧ (gSl 3 gI).ow [.slice (some ⟨x9, 0, none⟩) (((namesM x.atoms).length : Nat) : Int).toNat (((namesM x.atoms).length : Nat) : Int).toNat] (upV z.2.1) z.2.2) (((namesM x.atoms).length, digV nn (namesM x.atoms).length j, W))
     ·repeat' (first | exact trivial | refine ⟨⟨_, rfl, by first | rfl | exact inc_eq _ (by omega) | (refine sl_eq ?_; simp; done) | exact congrArg (fun v => SV.v (Value.int .i64 v)) hwp | exact congrArg (fun v => Value.int .i64 v) hwp | exact congrArg (fun v => SV.v (Value.int .i64 v)) (wrap_of (by omega) (by omega)) | exact congrArg (fun v => Value.int .i64 v) (wrap_of (by omega) (by omega)), by first | exact trivial | simp [SV.ok]⟩, ?_⟩)
     ·exact ⟨rfl, trivial⟩
     ·try dsimp only
      exact ⟨Nat.le_refl _, by rw [Nat.sub_self]; exact step_zero _ _, by rw [← sh_up]; exact oW⟩
     ·exact .refl _
     rintro ⟨p, u, W1⟩ hI
     try dsimp only at hI
     obtain ⟨hp, hS, oW1⟩ := hI
     try dsimp only
     refine ⟨fun q135 => ?_, fun q135 => ?_⟩
     ·simp at q135
      have hq : ((p : Int) - 1).toNat = p - 1 := (by omega)
      have hwl := step_len hS
      have hdl := digV_len nn (namesM x.atoms).length j
      have hul := upV_len u
      have hwv : (upV u)[((p : Int) - 1).toNat]?.getD 0 = (digV nn (namesM x.atoms).length j)[p - 1]?.getD 0 + 1 := (by rw [hq]; exact (ns_at (by omega) (by omega) hp hS).1)
      have hv := dig_at (n := nn) (m := (namesM x.atoms).length) (j := j) (by omega) (p := p - 1) (by omega)
      have hwp : IntKind.i64.wrap ((p : Int) - 1 - 1) = ((p - 1 : Nat) : Int) - 1 := (by rw [wrap_of (by omega) (by omega)]; omega)
      refine idx_rd (Gt.owrd _ oW1) ?_ ?_ fun b136 o136 hb136 => ?_
      ·omega
      ·omega
      refine load_all 0 (Gt.owrd _ oW1) ?_ ?_ hb136 rfl (mem_at 1 rfl) fun l137 hl137 => ?_
      ·omega
      ·omega
      obtain ⟨rfl, hw137⟩ := hl137; simp only [flStr, flInt, okI] at hw137
      refine ⟨fun q138 => ?_, fun q138 => ?_⟩
      ·simp at q138
       refine idx_rd (Gt.owrd _ oW1) ?_ ?_ fun b139 o139 hb139 => ?_
       ·omega
       ·omega
       refine gstoreN (Fld.id _) 0 (Int.toNat ((↑p : Int) - (1 : Int))) 1 rfl (Int.toNat_of_nonneg ?_).symm oW1 ?_ ?_ hb139 rfl gI_pl _ (gI_ow ?_) fun A140 o140 => ?_
       ·omega
       ·omega
       ·omega
       ·trivial
       apply loop_stepA (p - 1, u.set (p - 1) 0, _)
       ·exact .refl _
       ·repeat' (first | exact trivial | refine ⟨⟨_, rfl, by first | rfl | exact inc_eq _ (by omega) | (refine sl_eq ?_; simp; done) | exact congrArg (fun v => SV.v (Value.int .i64 v)) hwp | exact congrArg (fun v => Value.int .i64 v) hwp | exact congrArg (fun v => SV.v (Value.int .i64 v)) (wrap_of (by omega) (by omega)) | exact congrArg (fun v => Value.int .i64 v) (wrap_of (by omega) (by omega)), by first | exact trivial | simp [SV.ok]⟩, ?_⟩)
       ·exact ⟨rfl, trivial⟩
       ·try dsimp only
        exact ⟨by omega, nt_no (by omega) (by omega) hp hS (by assumption), by rw [← nt_one, ← hq]; assumption⟩
       try dsimp only
       omega
      ·simp at q138
       refine ⟨fun q141 => ?_, fun q141 => ?_⟩
       ·simp at q141
        exfalso; omega
       ·simp at q141
        refine idx_rd (Gt.owrd _ oW1) ?_ ?_ fun b142 o142 hb142 => ?_
        ·omega
        ·omega
        refine load_all 0 (Gt.owrd _ oW1) ?_ ?_ hb142 rfl (mem_at 1 rfl) fun l143 hl143 => ?_
        ·omega
        ·omega
        obtain ⟨rfl, hw143⟩ := hl143; simp only [flStr, flInt, okI] at hw143
        refine idx_rd (Gt.owrd _ oW1) ?_ ?_ fun b144 o144 hb144 => ?_
        ·omega
        ·omega
        refine gstoreN (Fld.id _) 0 (Int.toNat ((↑p : Int) - (1 : Int))) 1 rfl (Int.toNat_of_nonneg ?_).symm oW1 ?_ ?_ hb144 rfl gI_pl _ (gI_ow ?_) fun A145 o145 => ?_
        ·omega
        ·omega
        ·omega
        ·exact okI_wrap _
        apply loop_stepI (j + 1, _, _, _, _, _, _)
        ·repeat' (first | exact trivial | refine ⟨⟨_, rfl, by first | rfl | exact inc_eq _ (by omega) | (refine sl_eq ?_; simp; done) | exact congrArg (fun v => SV.v (Value.int .i64 v)) hwp | exact congrArg (fun v => Value.int .i64 v) hwp | exact congrArg (fun v => SV.v (Value.int .i64 v)) (wrap_of (by omega) (by omega)) | exact congrArg (fun v => Value.int .i64 v) (wrap_of (by omega) (by omega)), by first | exact trivial | simp [SV.ok]⟩, ?_⟩)
        ·exact ⟨rfl, trivial⟩
        ·try dsimp only
         (obtain ⟨e1, e2⟩ := nt_yes (by omega) hj (by omega) hp hS (by assumption); exact ⟨sg_next e2 hb1, by rw [← e1, ← hq]; assumption, by assumption⟩)
        ·exact .refl _
        try dsimp only
        omega
     ·simp at q135
      refine ⟨fun q146 => ?_, fun q146 => ?_⟩
      ·simp at q146
       exact ⟨_, sf_leaf (sg_end hb1 (by omega) hj hS (by omega) (by assumption)) rfl (by assumption), rlA⟩
      ·simp at q146
       exfalso; omega
end
section
open Go.SX Go.Proofs Go.RowKit
theorem sizeBuilder : (prog.info? 194).map (·.size) = some 2 := by kernel_rfl
theorem liesBuilder : liesAt prog prog.depth 194 (2 / prog.cellsOf 194) 0 194 1 = true := by kernel_rfl
set_option maxRecDepth 100000 in
theorem copyCheck_used (b : Nat) (w : World) (h0 : w.cell? ⟨b, 0, none⟩ = some (.pointer (some ⟨b, 0, none⟩))) :
  Calls prog 169 #[.pointer (some ⟨b, 0, none⟩)] w fun e w' => e = .returned (.tuple #[]) ∧ w' = w := by
 obtain ⟨j, hj, _⟩ := Option.map_eq_some_iff.1 sizeBuilder
 have mixed := mixed
 have t194 := underlying194; have a194 := Tryz.isAgg194; have z194 := Tryz.sizeOf194; have v194 := Tryz.zeroValue194; have u194 := run_underlying underlying194
 have t192 := underlying192; have a192 := Tryz.isAgg192; have z192 := Tryz.sizeOf192; have v192 := Tryz.zeroValue192; have u192 := run_underlying underlying192
 have t9 := underlying9; have a9 := Tryz.isAgg9; have z9 := Tryz.sizeOf9; have v9 := Tryz.zeroValue9; have u9 := run_underlying underlying9
 have t4 := underlying4; have a4 := Tryz.isAgg4; have z4 := Tryz.sizeOf4; have v4 := Tryz.zeroValue4; have u4 := run_underlying underlying4
 have t274 := underlying274; have a274 := Tryz.isAgg274; have z274 := Tryz.sizeOf274; have v274 := Tryz.zeroValue274; have u274 := run_underlying underlying274
 go_enter func169, Tryz.ntmps169
 go_wp2
 rw [Lib.run_neq_ptr_same w _ underlying192 hj]
 go_wp2
 go_end0
 exact ⟨rfl, rfl⟩
set_option maxRecDepth 100000 in
theorem copyCheck_fresh (b : Nat) (w : World) (h0 : w.cell? ⟨b, 0, none⟩ = some (.pointer none)) (hsh : w.shape? b = some (194, 2)) (hfz : w.frozen? ⟨b, 0, none⟩ = false) :
  Calls prog 169 #[.pointer (some ⟨b, 0, none⟩)] w fun e w' => e = .returned (.tuple #[]) ∧ w' = w.setCell ⟨b, 0, none⟩ (.pointer (some ⟨b, 0, none⟩)) := by
 obtain ⟨j, hj, hjs⟩ := Option.map_eq_some_iff.1 sizeBuilder
 have mixed := mixed
 have t194 := underlying194; have a194 := Tryz.isAgg194; have z194 := Tryz.sizeOf194; have v194 := Tryz.zeroValue194; have u194 := run_underlying underlying194
 have t192 := underlying192; have a192 := Tryz.isAgg192; have z192 := Tryz.sizeOf192; have v192 := Tryz.zeroValue192; have u192 := run_underlying underlying192
 have t9 := underlying9; have a9 := Tryz.isAgg9; have z9 := Tryz.sizeOf9; have v9 := Tryz.zeroValue9; have u9 := run_underlying underlying9
 have t4 := underlying4; have a4 := Tryz.isAgg4; have z4 := Tryz.sizeOf4; have v4 := Tryz.zeroValue4; have u4 := run_underlying underlying4
 have t274 := underlying274; have a274 := Tryz.isAgg274; have z274 := Tryz.sizeOf274; have v274 := Tryz.zeroValue274; have u274 := run_underlying underlying274
 go_enter func169, Tryz.ntmps169
 go_wp2
 rw [Lib.run_to_unsafe w ⟨b, 0, none⟩ underlying192 underlying274 hj (by rw [hjs]; decide) hsh (Nat.zero_lt_succ 1)]
 simp only [Result.andThen]
 rw [Oper.upon_value]
 go_wp2
 rw [run_callFunc_extern func191 (by kernel_rfl) (by kernel_rfl) (by kernel_rfl) (e := Extern.AbiNoEscape.same) (by kernel_rfl)]
 rw [Lib.run_noEscape]
 simp only [Result.andThen]
 rw [Oper.upon_value]
 go_wp2
 rw [Lib.run_from_unsafe w ⟨b, 0, none⟩ underlying274 underlying192 hj hsh liesBuilder]
 simp only [Result.andThen]
 rw [Oper.upon_value]
 go_wp2
 go_end0
 exact ⟨rfl, rfl⟩
theorem copyCheck_ct (b : Nat) (ad v : Value) (ha : ad = .pointer none ∨ ad = .pointer (some ⟨b, 0, none⟩)) :
  CtR prog 169 [.pointer (some ⟨b, 0, none⟩)] [(b, Obj.cells ⟨[ad, v]⟩ 194)] (fun _ => True) (fun r A => r = .tuple #[] ∧ A = [(b, Obj.cells ⟨[.pointer (some ⟨b, 0, none⟩), v]⟩ 194)]) := by
 refine ⟨⟨_, func169, by decide +kernel, rfl⟩, fun E H w hs _ => ?_⟩
 have hmem : (b, Obj.cells ⟨[ad, v]⟩ 194) ∈ ([(b, Obj.cells ⟨[ad, v]⟩ 194)] : Hp) ++ H := List.mem_append_left _ (List.mem_singleton.2 rfl)
 have hc := hs.cell hmem 0
 have hheap := hs.mem _ _ hmem
 rcases ha with rfl | rfl
 ·refine (copyCheck_fresh b w (by rw [hc]; rfl) (by simp [World.shape?, hheap]) (by simp [World.frozen?, hheap])).mono ?_
  rintro e w' ⟨rfl, rfl⟩
  refine ⟨_, _, rfl, ⟨rfl, rfl⟩, ?_⟩
  refine Sat.upd (A := []) hs rfl rfl rfl ?_ ?_
  ·show (w.heap.modify b _)[b]? = _
   rw [Array.getElem?_modify, if_pos rfl, hheap]; rfl
  intro i hne
  simp only [World.setCell, Array.getElem?_modify]
  rw [if_neg (fun e => hne e.symm)]
 refine (copyCheck_used b w (by rw [hc]; rfl)).mono ?_
 rintro e w' ⟨rfl, rfl⟩
 exact ⟨_, _, rfl, ⟨rfl, rfl⟩, hs⟩
theorem WriteString_ct (b : Nat) (ad : Value) (base : Option Addr) (m cap : Nat) (xs : List UInt8) (A : Hp) (s : ByteArray) (ha : ad = .pointer none ∨ ad = .pointer (some ⟨b, 0, none⟩)) (ho : (gSl 5 gY).ow [.slice base m cap] xs A) (hz : Bz base cap) (hl : xs.length + s.size ≤ 1073741824) :
  CtR prog 135 [.pointer (some ⟨b, 0, none⟩), .string s] ((b, Obj.cells ⟨[ad, .slice base m cap]⟩ 194) :: A) (fun _ => True) (fun r A' => r = .tuple #[.int .i64 s.size, .nilIface] ∧
   ∃ base' cap' B, A' = (b, Obj.cells ⟨[.pointer (some ⟨b, 0, none⟩), .slice base' (xs ++ s.data.toList).length cap']⟩ 194) :: B ∧ (gSl 5 gY).ow [.slice base' (xs ++ s.data.toList).length cap'] (xs ++ s.data.toList) B ∧ Bz base' cap') := by
 obtain ⟨rfl, hcl, hll⟩ := sl_len (Gt.owrd _ ho)
 refine CtR.introB G_ok [.p 0 0, .v (.string s)] [⟨b, [ad, .slice base xs.length cap], 194⟩] [A] func135 rfl rfl rfl rfl (by simp [SV.ok]) (by simp [Blk.ent]) fun E H hp => ?_
 have ha' := ha
 refine callR_blk 0 ([]) [A, H] rfl ?_ (copyCheck_ct _ _ _ (by first | exact .inl rfl | exact .inr rfl | assumption)) trivial ?_
 ·exact .refl _
 rintro _ A0 ⟨rfl, rfl⟩
 refine ⟨_, _, [], rfl, perm0, ?_⟩
 refine append_str G_ok 0 rfl ho hz rfl rfl rfl rfl rfl rfl rfl rfl ?_ fun b1 c1 A1 o1 z1 => ?_
 ·trivial
 exact ⟨_, ⟨rfl, _, _, _, rfl, ‹_›, ‹_›⟩, .le fun a => by simp [List.count_cons, Blk.ent, setR, idOf]⟩
theorem String_ct (b : Nat) (ad : Value) (base : Option Addr) (m cap : Nat) (xs : List UInt8) (A : Hp) (ho : (gSl 5 gY).ow [.slice base m cap] xs A) (hz : Bz base cap) :
  CtR prog 136 [.pointer (some ⟨b, 0, none⟩)] ((b, Obj.cells ⟨[ad, .slice base m cap]⟩ 194) :: A) (fun _ => True) (fun r A' => r = .string ⟨xs.toArray⟩ ∧ A' = [(b, Obj.cells ⟨[ad, .slice base m cap]⟩ 194)]) := by
 obtain ⟨rfl, hcl, hll⟩ := sl_len (Gt.owrd _ ho)
 refine CtR.introB G_ok [.p 0 0] [⟨b, [ad, .slice base xs.length cap], 194⟩] [A] func136 rfl rfl rfl rfl (by simp [SV.ok]) (by simp [Blk.ent]) fun E H hp => ?_
 refine draw G_ok mixed (some 10) (.q 0 (.q 1 (.q 2 (.q 3 (.q 5 (.q 6 (.q 7 (.q 8 (.q 9 (.f 4 (.tl 10 (.f 11 (.nil))))))))))))) (by decide +kernel) ?_
 refine sliceData rfl hz ?_
 refine VC.intro ?_ ?_
 ·exact fun _ h => h
 refine unsafeStr G_ok 0 rfl ho rfl rfl rfl (by kernel_rfl) ?_
 exact ⟨_, ⟨rfl, rfl⟩, .le fun a => by simp [List.count_cons, Blk.ent, setR]⟩
end
end Go.Proofs.YtcnclhjhnjpeiaaGreatDoor
namespace Go.SX
section
variable {P : Program} {E : World}
theorem call_noZero {fi : FuncId} {fn : Func} {tI tS e : TypeId} {bl : List Blk} {R : List Hp} {K : Value → List Blk → List Hp → Prop}
  (hf : P.funcs[fi]? = some fn) (hname : (fn.name == "runtime.NumGoroutine") = false) (hb : fn.body.isNone = true) (hn : Extern.findNext fn = none) (he : Extern.find fn = some (Extern.BytealgMakeNoZero.makeNoZero #[tI] #[tS]))
  (ht : P.underlying tS = some (.slice e)) {z : Int} (h0 : 0 ≤ z) (hN : z ≤ 1073741824)
  (hk : ∀ a cs, z.toNat ≤ cs.length → K (.slice (some ⟨a, 0, none⟩) z.toNat cs.length) bl ([(a, Obj.cells ⟨cs⟩ e)] :: R)) :
  VCcall P E fi [.int .i64 z] ⟨[], bl, R⟩ K := by
 refine .ext fun w hs => ?_
 have hdrew : ∀ {H : Hp} {w : World}, Sat E H w → Sat E H { w with drawn := w.drawn + 1 } := fun h => ⟨h.os, h.out, h.tape, h.mem, h.nodup, Nat.le_trans h.dr (Nat.le_succ _)⟩
 obtain ⟨cs, h1, h2, _⟩ := Lib.run_makeNoZero (P := P) w #[tI] tS e ht z.toNat (by omega)
 have hrun := run_callFunc_extern hf hname hb hn he #[.int .i64 (z.toNat : Int)] w
 rw [h1, Result.andThen_ok, Int.toNat_of_nonneg h0] at hrun
 obtain ⟨cs⟩ := cs
 refine ⟨_, _, bl, _, hrun, ?_, rfl, hk w.heap.size cs h2⟩
 have h3 := (hdrew (hdrew hs)).push (Obj.cells ⟨cs⟩ e)
 exact h3.perm (by simpa [St.hall] using List.perm_middle.symm)
variable {Γ : Ty} {n : Nat}
theorem copy_nil (hΓ : TyOk P Γ) {dst : Option Nat} {d s : Operand} {dT sT e ty : TypeId} {pos : String} {after : Array Edge} {guard : Option (Nat × Bool)} {fr : Fr} {bl : List Blk} {R : List Hp} {K : St → Prop} {ti : TI} {b1 : Option Addr} {dl dc : Nat}
  (hd1 : getK fr d fun sv => sv = .v (.slice b1 dl dc)) (hs1 : getK fr s fun sv => sv = .v (.slice none 0 0)) (hsT : undOf Γ dT = some (.slice e)) (ht : tyOf Γ e = some ti)
  (hk : putK n fr dst (.v (.int .i64 0)) fun fr => K ⟨fr, bl, R⟩) : VCraw P E n ⟨dst, .call ⟨.builtin .copy, #[d, s], #[dT, sT]⟩, ty, pos, after, guard⟩ ⟨fr, bl, R⟩ K := by
 refine ⟨fun a w hr Q => ?_⟩
 obtain ⟨sv, g1, _, rfl⟩ := getK_sound hr hd1
 obtain ⟨sv, g2, _, rfl⟩ := getK_sound hr hs1
 have h1 : (Builtin.copy_ #[dT, sT] ty #[.slice b1 dl dc, .slice none 0 0]).run P w = .ok (.int .i64 0) w := by
  have hu := undOf_ok hΓ hsT
  unfold Builtin.copy_
  simp only [List.getElem?_toArray, List.getElem?_cons_zero, List.getElem?_cons_succ, Sem.run_bind, run_underlying hu, Result.andThen_ok, ty_size hΓ ht, Sem.run_pure, Builtin.lenOf]
  rw [show Nat.min 0 dl = 0 from Nat.zero_min dl]
  cases b1 <;> rfl
 refine wp_value (s := .v _) (v := .int .i64 0) ?_ hr rfl trivial hk
 simp only [execOp, resolve, invoke, builtin, Sem.run_bind, Sem.run_pure, Result.andThen_ok]
 rw [show (#[d, s] : Array Operand).map a.eval = #[a.eval d, a.eval s] from by simp, g1, g2]
 simp only [SV.den]
 rw [h1]; rfl
end
end Go.SX
namespace Go.Proofs.YtcnclhjhnjpeiaaGreatDoor
open Go.SX Go.Proofs
open Tryz
section
attribute [local irreducible] IntKind.wrap
def joinQ : List ByteArray → List UInt8
 | [] => []
 | x :: r => by' x ++ r.flatMap fun s => [44, 32] ++ by' s
theorem joinQ_one {xs : List ByteArray} (h : 0 < xs.length) : joinQ (xs.take 1) = by' (xs[0]?.getD ByteArray.empty) := by
 cases xs with
 | nil => cases h
 | cons x r => show by' x ++ [] = _; rw [List.append_nil]; rfl
theorem joinQ_step {xs : List ByteArray} {k : Nat} (h0 : 0 < k) (hk : k < xs.length) : joinQ (xs.take (k + 1)) = joinQ (xs.take k) ++ [44, 32] ++ by' (xs[k]?.getD ByteArray.empty) := by
 cases xs with
 | nil => cases hk
 | cons x r =>
  obtain ⟨j, rfl⟩ : ∃ j, k = j + 1 := ⟨k - 1, by omega⟩
  have hj : j < r.length := by simpa using hk
  show by' x ++ (r.take (j + 1)).flatMap _ = (by' x ++ (r.take j).flatMap _) ++ [44, 32] ++ by' (((x :: r)[j + 1]?).getD ByteArray.empty)
  rw [← List.take_append_getElem hj, List.flatMap_append, List.getElem?_cons_succ, List.getElem?_eq_getElem hj]
  simp
def lenK (xs : List ByteArray) : Nat → Nat
 | 0 => 0
 | k + 1 => lenK xs k + (xs[k]?.getD ByteArray.empty).size
theorem lenK_le {xs : List ByteArray} (hs : ∀ s ∈ xs, s.size ≤ 1000) : ∀ {k : Nat}, k ≤ xs.length → lenK xs k ≤ 1000 * k
 | 0, _ => Nat.le_refl _
 | k + 1, h => by
  have h1 := lenK_le hs (k := k) (by omega)
  have h2 := hs xs[k] (List.getElem_mem h)
  show lenK xs k + _ ≤ _
  rw [List.getElem?_eq_getElem h]
  have h3 : ((some xs[k]).getD ByteArray.empty) = xs[k] := rfl
  rw [h3]; omega
theorem sz_at {xs : List ByteArray} (hs : ∀ s ∈ xs, s.size ≤ 1000) (k : Nat) : (xs[k]?.getD ByteArray.empty).size ≤ 1000 := by
 by_cases h : k < xs.length
 ·rw [List.getElem?_eq_getElem h]; exact hs _ (List.getElem_mem h)
 rw [List.getElem?_eq_none (by omega)]; exact Nat.zero_le _
theorem room_ow {a : Nat} {cs : List Value} {e : TypeId} : (gSl e gY).ow [.slice (some ⟨a, 0, none⟩) 0 cs.length] [] [(a, Obj.cells ⟨cs⟩ e)] :=
 ⟨_, [], [(a, Obj.cells ⟨cs⟩ e)], [], rfl, ⟨fun x hx => (by simp at hx), by simp, some ⟨a, 0, none⟩, cs.length, rfl, .inr ⟨a, cs, rfl, by simp, Nat.zero_le _, by show (cs.length - 0) * 1 ≤ cs.length; omega⟩⟩, by simp, .nil⟩
theorem join_first {xs : List ByteArray} {s : ByteArray} (h : 0 < xs.length) (hs : s = tx (joinQ (xs.take 0))) : s ++ xs[0]?.getD ByteArray.empty = tx (joinQ (xs.take (0 + 1))) := by
 rw [show xs.take (0 + 1) = xs.take 1 from rfl, joinQ_one h, tx_by, hs]
 apply by_inj.1
 rw [by_app, by_tx, List.take_zero]; rfl
theorem join_next {xs : List ByteArray} {s : ByteArray} {k : Nat} (h : k < xs.length) (h0 : 0 < k) (hs : s = tx (joinQ (xs.take k))) : s ++ (⟨#[44, 32]⟩ : ByteArray) ++ xs[k]?.getD ByteArray.empty = tx (joinQ (xs.take (k + 1))) := by
 rw [joinQ_step h0 h, tx_app, tx_app, tx_by, hs]; rfl
theorem join_single {xs : List ByteArray} (h : xs.length = 1) : xs[0]?.getD ByteArray.empty = tx (joinQ xs) := by
 have h1 := joinQ_one (xs := xs) (by omega)
 rw [List.take_of_length_le (by omega)] at h1
 rw [h1, tx_by]
theorem join_b {xs : List ByteArray} {j : Nat} (hj : j < xs.length - 1) : joinQ (xs.take (j + 1)) ++ [44, 32] ++ ((xs.drop 1)[j]?.getD ByteArray.empty).data.toList = joinQ (xs.take (j + 1 + 1)) := by
 rw [joinQ_step (k := j + 1) (by omega) (by omega), List.getElem?_drop, Nat.add_comm 1 j]; rfl
theorem join_bz {xs : List ByteArray} {o : List UInt8} {j : Nat} (hs : ∀ s ∈ xs, s.size ≤ 1000) (ho : o.length ≤ 1002 * (j + 1)) : (o ++ [44, 32] ++ ((xs.drop 1)[j]?.getD ByteArray.empty).data.toList).length ≤ 1002 * (j + 1 + 1) := by
 have h := sz_at hs (1 + j)
 rw [List.getElem?_drop, List.length_append, List.length_append, show (xs[1 + j]?.getD ByteArray.empty).data.toList.length = (xs[1 + j]?.getD ByteArray.empty).size from by_size _]
 simp only [List.length_cons, List.length_nil]; omega
theorem join_no {n : Nat} (h2 : 2 ≤ n) (hn : n ≤ 1000) : ¬ IntKind.i64.wrap (Int.tdiv 9223372036854775807 ((n : Int) - 1)) ≤ (((⟨#[44, 32]⟩ : ByteArray).size : Nat) : Int) := by
 have h0 : (0 : Int) < (n : Int) - 1 := by omega
 have h3 : (3 : Int) ≤ 9223372036854775807 / ((n : Int) - 1) := (Int.le_ediv_iff_mul_le h0).2 (by omega)
 have h4 : 9223372036854775807 / ((n : Int) - 1) ≤ 9223372036854775807 := Int.ediv_le_self _ (by decide)
 rw [Int.tdiv_eq_ediv_of_nonneg (by decide), wrap_of (by omega) h4, show (⟨#[44, 32]⟩ : ByteArray).size = 2 from rfl]
 omega
theorem join_n0 {n : Nat} (h : 1 ≤ n) (hn : n ≤ 1000) : IntKind.i64.wrap (0 + IntKind.i64.wrap ((((⟨#[44, 32]⟩ : ByteArray).size : Nat) : Int) * IntKind.i64.wrap ((n : Int) - 1))) = 2 * ((n : Int) - 1) + ((0 : Nat) : Int) := by
 rw [show (⟨#[44, 32]⟩ : ByteArray).size = 2 from rfl, wrap_of (x := (n : Int) - 1) (by omega) (by omega), wrap_of (x := ((2 : Nat) : Int) * ((n : Int) - 1)) (by omega) (by omega), wrap_of (by omega) (by omega)]
 omega
theorem join_n1 {n L z : Nat} (hn : n ≤ 1000) (hL : L ≤ 1000000) (hz : z ≤ 1000) : IntKind.i64.wrap (2 * ((n : Int) - 1) + (L : Nat) + (z : Nat)) = 2 * ((n : Int) - 1) + ((L + z : Nat) : Int) := by
 rw [wrap_of (by omega) (by omega)]; omega
theorem sb_zero (c a sz : Nat) : subBase c 0 (some ⟨a, 0, none⟩) sz = some ⟨a, 0, none⟩ := by
 rw [subBase_eq]
 split
 ·rfl
 rw [Nat.zero_mul]; rfl
theorem noZero_ct {E : World} {bl : List Blk} {R : List Hp} {K : Value → List Blk → List Hp → Prop} {z : Int} (h0 : 0 ≤ z) (hN : z ≤ 1073741824)
  (hk : ∀ a cs, z.toNat ≤ cs.length → K (.slice (some ⟨a, 0, none⟩) z.toNat cs.length) bl ([(a, Obj.cells ⟨cs⟩ 5)] :: R)) : VCcall prog E 216 [.int .i64 z] ⟨[], bl, R⟩ K :=
 call_noZero (tI := 3) (tS := 131) func216 (by kernel_rfl) (by kernel_rfl) (by kernel_rfl) (by kernel_rfl) underlying131 h0 hN hk
theorem grow_ct (b : Nat) (n : Int) (h0 : 0 < n) (hn : n ≤ 1048576) :
  CtR prog 199 [.pointer (some ⟨b, 0, none⟩), .int .i64 n] [(b, Obj.cells ⟨[.pointer (some ⟨b, 0, none⟩), .slice none 0 0]⟩ 194)] (fun _ => True) (fun r A' => r = .tuple #[] ∧
   ∃ base' cap' B, A' = (b, Obj.cells ⟨[.pointer (some ⟨b, 0, none⟩), .slice base' 0 cap']⟩ 194) :: B ∧ (gSl 5 gY).ow [.slice base' 0 cap'] [] B ∧ Bz base' cap') := by
 refine CtR.introB G_ok [.p 0 0, .v (.int .i64 n)] [⟨b, [.pointer (some ⟨b, 0, none⟩), .slice none 0 0], 194⟩] [] func199 rfl rfl rfl rfl (by simp [SV.ok]) (by simp [Blk.ent]) fun E H hp => ?_
 refine draw G_ok mixed none (.q 0 (.q 1 (.q 2 (.q 3 (.q 6 (.q 9 (.q 10 (.q 11 (.q 12 (.q 13 (.f 4 (.q 5 (.q 7 (.f 8 (.q 14 (.q 15 (.nil))))))))))))))))) (by decide +kernel) ?_
 refine VC.intro ?_ ?_
 ·exact fun _ h => h
 refine noZero_ct ?_ ?_ fun a0 cs0 hc0 => ?_
 ·(simp (disch := omega) only [wrap_of]; omega)
 ·(simp (disch := omega) only [wrap_of]; omega)
 refine VC.intro ?_ ?_
 ·exact keep_new
 refine VC.intro ?_ ?_
 ·omega
 refine copy_nil G_ok rfl rfl rfl rfl ?_
 (rw [sb_zero]; exact ⟨_, ⟨rfl, some ⟨a0, 0, none⟩, cs0.length, [(a0, Obj.cells ⟨cs0⟩ 5)], rfl, room_ow, .inr (by simp (disch := omega) only [wrap_of] at hc0; omega)⟩, .le fun a => by simp [List.count_cons, Blk.ent, setR, idOf]⟩)
theorem Grow_ct (b : Nat) (ad : Value) (n : Int) (ha : ad = .pointer none ∨ ad = .pointer (some ⟨b, 0, none⟩)) (h0 : 0 ≤ n) (hn : n ≤ 1048576) :
  CtR prog 182 [.pointer (some ⟨b, 0, none⟩), .int .i64 n] [(b, Obj.cells ⟨[ad, .slice none 0 0]⟩ 194)] (fun _ => True) (fun r A' => r = .tuple #[] ∧
   ∃ base' cap' B, A' = (b, Obj.cells ⟨[.pointer (some ⟨b, 0, none⟩), .slice base' 0 cap']⟩ 194) :: B ∧ (gSl 5 gY).ow [.slice base' 0 cap'] [] B ∧ Bz base' cap') := by
 refine CtR.introB G_ok [.p 0 0, .v (.int .i64 n)] [⟨b, [ad, .slice none 0 0], 194⟩] [] func182 rfl rfl rfl rfl (by simp [SV.ok]) (by simp [Blk.ent]) fun E H hp => ?_
 have ha' := ha
 refine callR_blk 0 ([]) [H] rfl ?_ (copyCheck_ct _ _ _ (by first | exact .inl rfl | exact .inr rfl | assumption)) trivial ?_
 ·exact .refl _
 rintro _ A0 ⟨rfl, rfl⟩
 refine ⟨_, _, [], rfl, perm0, ?_⟩
 refine ⟨fun q1 => ?_, fun q1 => ?_⟩
 ·simp at q1
  exfalso; omega
 ·simp at q1
  refine draw G_ok mixed none (.q 0 (.q 1 (.q 2 (.q 3 (.q 5 (.q 6 (.q 7 (.q 8 (.q 9 (.q 11 (.f 4 (.q 10 (.q 12 (.nil)))))))))))))) (by decide +kernel) ?_
  refine VC.intro ?_ ?_
  ·exact fun _ h => h
  refine ⟨fun q2 => ?_, fun q2 => ?_⟩
  ·simp at q2
   simp (disch := omega) only [wrap_of] at q2
   refine callR_blk 0 ([]) [H] rfl ?_ (grow_ct _ _ ?_ ?_) trivial ?_
   ·exact .refl _
   ·trivial
   ·trivial
   rintro _ A3 ⟨rfl, bb3, bc3, B3, rfl, o3, z3⟩
   refine ⟨_, _, [B3], rfl, perm1, ?_⟩
   exact ⟨_, ⟨rfl, _, _, _, rfl, ‹_›, ‹_›⟩, .le fun a => by simp [List.count_cons, Blk.ent, setR, idOf]⟩
  ·simp at q2
   simp (disch := omega) only [wrap_of] at q2
   exact ⟨_, ⟨rfl, _, _, [], rfl, sl_nil _ _ _, .inl ⟨rfl, rfl⟩⟩, .le fun a => by simp [List.count_cons, Blk.ent, setR, idOf]⟩
theorem l08Join_ct (b : Option Addr) (m c : Nat) (xs : List ByteArray) (hn : xs.length ≤ 1000) (hs : ∀ s ∈ xs, s.size ≤ 1000) : Ct prog 144 [.slice b m c] [] (fun H => (gSl 9 gS).rd H [.slice b m c] xs) (fun v A => v = .string (tx (joinQ xs)) ∧ A = []) := by
 refine Ct.intro0 G_ok func144 rfl rfl rfl fun E H hp => ?_
 obtain ⟨rfl, hcl, hl⟩ := sl_len hp
 have him : IntKind.i64.max = 9223372036854775807 := rfl
 have hl2 : (⟨#[44, 32]⟩ : ByteArray).size = 2 := rfl
 apply loop_mod (α := (Nat) × (ByteArray)) G_ok [5, 6, 7, 8, 11, 12, 13, 14, 3, 15, 16, 17, 18, 19, 20, 9, 10, 4] (fun z => [(4, .v (.int .i64 z.1)), (3, .v (.string z.2))]) (fun z => []) (fun z => [H]) (fun z => xs.length - z.1) (fun z => z.1 ≤ xs.length ∧ z.2 = tx (joinQ (xs.take z.1)) ∧ z.2.size ≤ 1002 * z.1) ((0, _))
 ·exact frI
 ·exact trivial
 ·try dsimp only
  exact ⟨Nat.zero_le _, rfl, Nat.zero_le _⟩
 ·exact .refl _
 rintro ⟨k, s⟩ hI
 try dsimp only at hI
 obtain ⟨hk, ho, hol⟩ := hI
 try dsimp only
 refine ⟨fun q0 => ?_, fun q0 => ?_⟩
 ·simp at q0
  have hsz := sz_at hs k
  refine ⟨fun q1 => ?_, fun q1 => ?_⟩
  ·simp at q1
   refine VC.intro ?_ ?_
   ·omega
   refine idx_rd hp ?_ ?_ fun b2 o2 hb2 => ?_
   ·omega
   ·omega
   refine load_allN ByteArray.empty (k) rfl hp ?_ ?_ hb2 rfl (mem_at 0 rfl) fun l3 hl3 => ?_
   ·omega
   ·omega
   obtain ⟨rfl, hw3⟩ := hl3; simp only [flStr, flInt, okI] at hw3
   refine VC.intro ?_ ?_
   ·simp; omega
   apply loop_stepA (k + 1, _)
   ·exact .refl _
   ·exact frI
   ·exact trivial
   ·try dsimp only
    exact ⟨by omega, join_next (by assumption) (by assumption) ho, by simp only [ByteArray.size_append]; omega⟩
   try dsimp only
   omega
  ·simp at q1
   refine idx_rd hp ?_ ?_ fun b4 o4 hb4 => ?_
   ·omega
   ·omega
   refine load_allN ByteArray.empty (k) rfl hp ?_ ?_ hb4 rfl (mem_at 0 rfl) fun l5 hl5 => ?_
   ·omega
   ·omega
   obtain ⟨rfl, hw5⟩ := hl5; simp only [flStr, flInt, okI] at hw5
   refine VC.intro ?_ ?_
   ·omega
   apply loop_stepA (k + 1, _)
   ·exact .refl _
   ·exact frI
   ·exact trivial
   ·try dsimp only
    (have hk0 : k = 0 := (by assumption); subst hk0; exact ⟨by omega, join_first (by omega) ho, by simp only [ByteArray.size_append]; omega⟩)
   try dsimp only
   omega
 ·simp at q0
  obtain rfl : k = xs.length := by omega
  rw [List.take_length] at ho
  exact ⟨[], ⟨by rw [ho], rfl⟩, .mem (by simp)⟩
theorem join_ct (b : Option Addr) (m c : Nat) (xs : List ByteArray) (hn : xs.length ≤ 1000) (hs : ∀ s ∈ xs, s.size ≤ 1000) : Ct prog 150 [.slice b m c, .string ⟨#[44, 32]⟩] [] (fun H => (gSl 9 gS).rd H [.slice b m c] xs) (fun v A => v = .string (tx (joinQ xs)) ∧ A = []) := by
 refine Ct.intro0 G_ok func150 rfl rfl rfl fun E H hp => ?_
 obtain ⟨rfl, hcl, hl⟩ := sl_len hp
 have him : IntKind.i64.max = 9223372036854775807 := rfl
 have hl2 : (⟨#[44, 32]⟩ : ByteArray).size = 2 := rfl
 refine ⟨fun q0 => ?_, fun q0 => ?_⟩
 ·simp at q0
  exact ⟨[], ⟨by rw [‹xs = []›]; rfl, rfl⟩, .mem (by simp)⟩
 ·simp at q0
  have ln0 : 0 < xs.length := List.length_pos_iff.2 q0
  refine ⟨fun q1 => ?_, fun q1 => ?_⟩
  ·simp at q1
   refine idx_rd hp ?_ ?_ fun b2 o2 hb2 => ?_
   ·trivial
   ·omega
   refine load_allN ByteArray.empty (0) rfl hp ?_ ?_ hb2 rfl (mem_at 0 rfl) fun l3 hl3 => ?_
   ·trivial
   ·omega
   obtain ⟨rfl, hw3⟩ := hl3; simp only [flStr, flInt, okI] at hw3
   exact ⟨[], ⟨congrArg Value.string (join_single (by omega)), rfl⟩, .mem (by simp)⟩
  ·simp at q1
   refine ⟨fun q4 => ?_, fun q4 => ?_⟩
   ·simp at q4
    refine VC.intro ?_ ?_
    ·(simp (disch := omega) only [wrap_of]; omega)
    refine ⟨fun q5 => ?_, fun q5 => ?_⟩
    ·simp at q5
     simp (disch := omega) only [wrap_of] at q5
     exact (join_no (by omega) hn q5).elim
    ·simp at q5
     simp (disch := omega) only [wrap_of] at q5
     apply loop_mod (α := (Nat)) G_ok [42, 43, 44, 7, 45, 46, 47, 48, 49, 50, 51, 52, 53, 54, 5, 55, 41] (fun z => [(41, .v (.int .i64 z)), (5, .v (.int .i64 (2 * ((xs.length : Int) - 1) + (lenK xs z : Nat))))]) (fun z => []) (fun z => [H]) (fun z => xs.length - z) (fun z => z ≤ xs.length) ((0))
     ·repeat' (first | exact trivial | refine ⟨⟨_, rfl, by first | rfl | exact inc_eq _ (by omega) | (refine sl_eq ?_; simp; done) | exact congrArg (fun v => SV.v (Value.int .i64 v)) (join_n0 (by omega) hn) | exact congrArg (fun v => Value.int .i64 v) (join_n0 (by omega) hn) | exact congrArg (fun v => SV.v (Value.int .i64 v)) (join_n1 hn (by omega) hsz) | exact congrArg (fun v => Value.int .i64 v) (join_n1 hn (by omega) hsz), by first | exact trivial | simp [SV.ok]⟩, ?_⟩)
     ·exact trivial
     ·exact Nat.zero_le _
     ·exact .refl _
     rintro k hI
     obtain hk : k ≤ xs.length := hI
     try dsimp only
     refine ⟨fun q6 => ?_, fun q6 => ?_⟩
     ·simp at q6
      have hsz := sz_at hs k
      have hlk := lenK_le hs hI
      refine idx_rd hp ?_ ?_ fun b7 o7 hb7 => ?_
      ·omega
      ·omega
      refine load_allN ByteArray.empty (k) rfl hp ?_ ?_ hb7 rfl (mem_at 0 rfl) fun l8 hl8 => ?_
      ·omega
      ·omega
      obtain ⟨rfl, hw8⟩ := hl8; simp only [flStr, flInt, okI] at hw8
      refine ⟨fun q9 => ?_, fun q9 => ?_⟩
      ·simp at q9
       simp (disch := omega) only [wrap_of] at q9
       exfalso; omega
      ·simp at q9
       simp (disch := omega) only [wrap_of] at q9
       apply loop_stepA (k + 1)
       ·exact .refl _
       ·repeat' (first | exact trivial | refine ⟨⟨_, rfl, by first | rfl | exact inc_eq _ (by omega) | (refine sl_eq ?_; simp; done) | exact congrArg (fun v => SV.v (Value.int .i64 v)) (join_n0 (by omega) hn) | exact congrArg (fun v => Value.int .i64 v) (join_n0 (by omega) hn) | exact congrArg (fun v => SV.v (Value.int .i64 v)) (join_n1 hn (by omega) hsz) | exact congrArg (fun v => Value.int .i64 v) (join_n1 hn (by omega) hsz), by first | exact trivial | simp [SV.ok]⟩, ?_⟩)
       ·exact trivial
       ·trivial
       omega
     ·simp at q6
      have hlk := lenK_le hs hI
      have hs0 := sz_at hs 0
      have hpd : (gSl 9 gS).rd H [.slice (subBase c (Int.toNat 1) b ty9.size) (xs.length - Int.toNat 1) (c - Int.toNat 1)] (xs.drop 1) := (by have h9 := rd_sub (l := 1) (h := xs.length) hp (by omega) (Nat.le_refl _); rw [List.take_length] at h9; exact h9)
      refine ⟨fun x10 => ?_⟩
      refine callR_blk 0 ([]) [H] rfl ?_ (Grow_ct _ _ _ (by first | exact .inl rfl | exact .inr rfl | assumption) ?_ ?_) trivial ?_
      ·exact .refl _
      ·omega
      ·omega
      rintro _ A11 ⟨rfl, bb11, bc11, B11, rfl, o11, z11⟩
      refine ⟨_, _, [B11], rfl, perm1, ?_⟩
      refine idx_rd hp ?_ ?_ fun b12 o12 hb12 => ?_
      ·trivial
      ·omega
      refine load_allN ByteArray.empty (0) rfl hp ?_ ?_ hb12 rfl (mem_at 1 rfl) fun l13 hl13 => ?_
      ·trivial
      ·omega
      obtain ⟨rfl, hw13⟩ := hl13; simp only [flStr, flInt, okI] at hw13
      refine callR_blk 0 (B11) [H] rfl ?_ (WriteString_ct _ _ _ _ _ _ _ _ (by first | exact .inl rfl | exact .inr rfl | assumption) o11 z11 ?_) trivial ?_
      ·exact .refl _
      ·simp; omega
      rintro _ A14 ⟨rfl, bb14, bc14, B14, rfl, o14, z14⟩
      refine ⟨_, _, [B14], rfl, perm1, ?_⟩
      refine VC.intro ?_ ?_
      ·omega
      apply loop_mod (α := (Nat) × (List UInt8) × (Hp) × (Option Addr) × (Nat)) G_ok [66, 67, 68, 10, 69, 70, 71, 72, 73, 65] (fun z => [(65, .v (.int .i64 z.1))]) (fun z => [⟨x10, [Value.pointer (some { block := idOf [{ id := x10, cs := [Value.pointer (some { block := idOf [{ id := x10, cs := [Value.pointer none, Value.slice none (0 : Nat) (0 : Nat)], ty := (194 : Nat) }] (0 : Nat), off := (0 : Nat) }), Value.slice bb11 (0 : Nat) bc11], ty := (194 : Nat) }] (0 : Nat), off := (0 : Nat) }), .slice z.2.2.2.1 z.2.1.length z.2.2.2.2], (194 : Nat)⟩]) (fun z => [z.2.2.1, H]) (fun z => (xs.length - 1) - z.1) (fun z => z.1 ≤ xs.length - 1 ∧ z.2.1 = joinQ (xs.take (z.1 + 1)) ∧ z.2.1.length ≤ 1002 * (z.1 + 1) ∧ (gSl 5 gY).ow [.slice z.2.2.2.1 z.2.1.length z.2.2.2.2] z.2.1 z.2.2.1 ∧ Bz z.2.2.2.1 z.2.2.2.2) ((0, _, _, _, _))
      ·repeat' (first | exact trivial | refine ⟨⟨_, rfl, by first | rfl | exact inc_eq _ (by omega) | (refine sl_eq ?_; simp; done) | exact congrArg (fun v => SV.v (Value.int .i64 v)) (join_n0 (by omega) hn) | exact congrArg (fun v => Value.int .i64 v) (join_n0 (by omega) hn) | exact congrArg (fun v => SV.v (Value.int .i64 v)) (join_n1 hn (by omega) hsz) | exact congrArg (fun v => Value.int .i64 v) (join_n1 hn (by omega) hsz), by first | exact trivial | simp [SV.ok]⟩, ?_⟩)
      ·exact ⟨rfl, trivial⟩
      ·try dsimp only
       exact ⟨Nat.zero_le _, by rw [List.nil_append]; exact (joinQ_one (by omega)).symm, by rw [List.nil_append, show (xs[0]?.getD ByteArray.empty).data.toList.length = (xs[0]?.getD ByteArray.empty).size from by_size _]; omega, ‹_›, ‹_›⟩
      ·exact .refl _
      rintro ⟨j, o, A, b2, c2⟩ hI
      try dsimp only at hI
      obtain ⟨hj, ho, hol, oA, zA⟩ := hI
      try dsimp only
      refine ⟨fun q15 => ?_, fun q15 => ?_⟩
      ·simp at q15
       refine idx_rd hpd ?_ ?_ fun b16 o16 hb16 => ?_
       ·omega
       ·simp; omega
       refine load_allN ByteArray.empty (j) rfl hpd ?_ ?_ hb16 rfl (mem_at 1 rfl) fun l17 hl17 => ?_
       ·omega
       ·simp; omega
       obtain ⟨rfl, hw17⟩ := hl17; simp only [flStr, flInt, okI] at hw17
       refine callR_blk 0 (A) [H] rfl ?_ (WriteString_ct _ _ _ _ _ _ _ _ (by first | exact .inl rfl | exact .inr rfl | assumption) oA zA ?_) trivial ?_
       ·exact .refl _
       ·omega
       rintro _ A18 ⟨rfl, bb18, bc18, B18, rfl, o18, z18⟩
       refine ⟨_, _, [B18], rfl, perm1, ?_⟩
       refine callR_blk 0 (B18) [H] rfl ?_ (WriteString_ct _ _ _ _ _ _ _ _ (by first | exact .inl rfl | exact .inr rfl | assumption) o18 z18 ?_) trivial ?_
       ·exact .refl _
       ·grind
       rintro _ A19 ⟨rfl, bb19, bc19, B19, rfl, o19, z19⟩
       refine ⟨_, _, [B19], rfl, perm1, ?_⟩
       apply loop_stepA (j + 1, _, _, _, _)
       ·exact .refl _
       ·repeat' (first | exact trivial | refine ⟨⟨_, rfl, by first | rfl | exact inc_eq _ (by omega) | (refine sl_eq ?_; simp; done) | exact congrArg (fun v => SV.v (Value.int .i64 v)) (join_n0 (by omega) hn) | exact congrArg (fun v => Value.int .i64 v) (join_n0 (by omega) hn) | exact congrArg (fun v => SV.v (Value.int .i64 v)) (join_n1 hn (by omega) hsz) | exact congrArg (fun v => Value.int .i64 v) (join_n1 hn (by omega) hsz), by first | exact trivial | simp [SV.ok]⟩, ?_⟩)
       ·exact ⟨rfl, trivial⟩
       ·try dsimp only
        exact ⟨by omega, by rw [ho]; exact join_b (by assumption), join_bz hs hol, ‹_›, ‹_›⟩
       try dsimp only
       omega
      ·simp at q15
       refine callR_blk 0 (A) [H] rfl ?_ (String_ct _ _ _ _ _ _ _ oA zA) trivial ?_
       ·exact .refl _
       rintro _ A20 ⟨rfl, rfl⟩
       refine ⟨_, _, [], rfl, perm0, ?_⟩
       (have hje : j + 1 = xs.length := (by omega); rw [hje, List.take_length] at ho; exact ⟨[], ⟨by rw [ho]; rfl, rfl⟩, .mem (by simp)⟩)
   ·simp at q4
    exact absurd q4 (by decide)
end
section
def decI (n0 m : Nat) (s : List UInt8) : Prop := if m = 0 then s = Lib.decDigits n0 else Lib.decDigits n0 = Lib.decDigits m ++ s
theorem decI_init {n : Nat} (h : ¬ n = 0) : decI n n [] := by unfold decI; rw [if_neg h, List.append_nil]
theorem decI_step {n m : Nat} {s : List UInt8} (h : decI n m s) (hm : ¬ m = 0) : decI n (m / 10) (UInt8.ofNat (48 + m % 10) :: s) := by
 unfold decI at h ⊢
 rw [if_neg hm] at h
 by_cases h1 : m < 10
 ·rw [if_pos (by omega), h, Lib.decDigits, dif_pos h1, Nat.mod_eq_of_lt h1]; rfl
 rw [if_neg (by omega), h]
 conv => lhs; rw [Lib.decDigits, dif_neg h1]
 rw [List.append_assoc]; rfl
theorem decI_end {n : Nat} {s : List UInt8} (h : decI n 0 s) : s = Lib.decDigits n := by unfold decI at h; rwa [if_pos rfl] at h
theorem decI_le {n m : Nat} {s : List UInt8} (h : decI n m s) : s.length ≤ (Lib.decDigits n).length := by
 unfold decI at h
 split at h
 ·rw [h]; exact Nat.le_refl _
 rw [h, List.length_append]; omega
theorem dec_len : ∀ (k n : Nat), n < 10 ^ (k + 1) → (Lib.decDigits n).length ≤ k + 1
 | 0, n, h => by rw [Lib.decDigits, dif_pos (by omega)]; exact Nat.le_refl _
 | k + 1, n, h => by
  rw [Lib.decDigits]
  split
  ·simp
  rw [List.length_append, List.length_singleton]
  have := dec_len k (n / 10) (by rw [Nat.div_lt_iff_lt_mul (by omega), ← Nat.pow_succ]; exact h)
  omega
theorem dec_zero : Lib.decDigits 0 = [48] := by rw [Lib.decDigits, dif_pos (by omega)]; rfl
theorem dec_i64 {n : Int} (h : 0 ≤ n ∧ n ≤ 9223372036854775807) : (Lib.decDigits n.toNat).length ≤ 19 := dec_len 18 n.toNat (by omega)
end
section
set_option maxRecDepth 100000
attribute [local irreducible] IntKind.wrap
def dcT (n : Int) : List UInt8 := Lib.decDigits n.toNat
theorem l01Figure_ct (d : Int) (h : 0 ≤ d ∧ d < 10) : Ct prog 78 [.int .i64 d] [] (fun _ => True) (fun v A => v = .int .u8 (48 + d) ∧ A = []) := by
 refine Ct.intro0 G_ok func78 rfl rfl rfl fun E H hp => ?_
 refine ⟨fun q0 => ?_, fun q0 => ?_⟩
 ·simp at q0
  exact ⟨[], ⟨by rw [wrap_of (x := 48 + d) (by omega) (by omega), u8_wrap, Int.emod_eq_of_lt (by omega) (by omega)], rfl⟩, .mem (by simp)⟩
 ·simp at q0
  exfalso; omega
theorem dec_mod (m : Nat) : Int.tmod (m : Int) 10 = ((m % 10 : Nat) : Int) := by rw [Int.tmod_eq_emod_of_nonneg (by omega)]; rfl
theorem dec_div (m : Nat) : Int.tdiv (m : Int) 10 = ((m / 10 : Nat) : Int) := by rw [Int.tdiv_eq_ediv_of_nonneg (by omega)]; rfl
theorem dec_cons (m : Nat) (s : List UInt8) : (⟨(([48 + Int.tmod (m : Int) 10] : List Int).map fun v => UInt8.ofNat v.toNat).toArray⟩ : ByteArray) ++ tx s = tx (UInt8.ofNat (48 + m % 10) :: s) := by
 rw [dec_mod]
 have e : (48 + ((m % 10 : Nat) : Int)).toNat = 48 + m % 10 := by omega
 have e2 : (⟨(([48 + ((m % 10 : Nat) : Int)] : List Int).map fun v => UInt8.ofNat v.toNat).toArray⟩ : ByteArray) = tx [UInt8.ofNat (48 + m % 10)] := by
  unfold tx
  rw [List.map_cons, e]; rfl
 rw [e2, ← tx_app]; rfl
theorem specDecimal_ct (n : Int) (h : 0 ≤ n ∧ n ≤ 9223372036854775807) : Ct prog 31 [.int .i64 n] [] (fun _ => True) (fun v A => v = .string (tx (dcT n)) ∧ A = []) := by
 refine Ct.intro0 G_ok func31 rfl rfl rfl fun E H hp => ?_
 have h19 := dec_i64 h
 refine ⟨fun q0 => ?_, fun q0 => ?_⟩
 ·simp at q0
  (rw [‹n = 0›]; exact ⟨[], ⟨by unfold dcT; rw [show Int.toNat 0 = 0 from rfl, dec_zero]; rfl, rfl⟩, .mem (by simp)⟩)
 ·simp at q0
  apply loop_mod (α := (Nat) × (List UInt8)) G_ok [10, 11, 12, 13, 5, 14, 15, 16, 17, 18, 19, 20, 21, 22, 23, 4, 24, 25, 0] (fun z => [(4, .v (.string (tx z.2))), (0, .v (.int .i64 z.1))]) (fun z => []) (fun z => [H]) (fun z => z.1) (fun z => decI n.toNat z.1 z.2 ∧ (z.1 : Int) ≤ n) ((n.toNat, []))
  ·repeat' (first | exact trivial | refine ⟨⟨_, rfl, by first | rfl | exact inc_eq _ (by omega) | (refine sl_eq ?_; simp; done) | exact congrArg (fun v => SV.v (Value.int .i64 v)) (Int.toNat_of_nonneg h.1).symm | exact congrArg (fun v => Value.int .i64 v) (Int.toNat_of_nonneg h.1).symm | exact congrArg (fun v => SV.v (Value.int .i64 v)) hwd | exact congrArg (fun v => SV.v (Value.string v)) (dec_cons m s) | exact congrArg (fun v => Value.int .i64 v) hwd | exact congrArg (fun v => Value.string v) (dec_cons m s), by first | exact trivial | simp [SV.ok]⟩, ?_⟩)
  ·exact trivial
  ·try dsimp only
   exact ⟨decI_init (by omega), by omega⟩
  ·exact .refl _
  rintro ⟨m, s⟩ hI
  obtain ⟨hI, hm⟩ : decI n.toNat m s ∧ (m : Int) ≤ n := hI
  try dsimp only
  refine ⟨fun q1 => ?_, fun q1 => ?_⟩
  ·simp at q1
   have htm := dec_mod m
   have htd := dec_div m
   have hwd : IntKind.i64.wrap (Int.tdiv (m : Int) 10) = ((m / 10 : Nat) : Int) := (by rw [htd, wrap_of (by omega) (by omega)])
   have hsl := decI_le hI
   have h7 : IntKind.i64.max = 9223372036854775807 := rfl
   refine VC.intro ?_ ?_
   ·trivial
   refine ⟨fun q2 => ?_, fun q2 => ?_⟩
   ·simp at q2
    exact absurd (htm ▸ q2 : ((m % 10 : Nat) : Int) < 0) (by omega)
   ·simp at q2
    refine call_val (l01Figure_ct _ ?_) trivial ?_
    ·omega
    rintro _ rfl
    refine ⟨fun x4 => ?_⟩
    refine conv_bs G_ok (([(48 : Int) + (↑m : Int).tmod (10 : Int)] : List Int).map fun v => UInt8.ofNat v.toNat) rfl (lit_bs [(48 : Int) + (↑m : Int).tmod (10 : Int)] (mem_at 0 rfl _ (List.mem_singleton.2 rfl)) rfl ?_ (by simp)) rfl rfl rfl ?_
    ·(simp only [inU8, u8_wrap, and_true]; omega)
    refine VC.intro ?_ ?_
    ·(simp only [ByteArray.size_append, tx, bsz, List.length_map, List.length_cons, List.length_nil]; omega)
    refine VC.intro ?_ ?_
    ·trivial
    apply loop_stepA (m / 10, UInt8.ofNat (48 + m % 10) :: s)
    ·exact .sub (by repeat (first | exact .slnil | apply List.Sublist.cons_cons | apply List.Sublist.cons))
    ·repeat' (first | exact trivial | refine ⟨⟨_, rfl, by first | rfl | exact inc_eq _ (by omega) | (refine sl_eq ?_; simp; done) | exact congrArg (fun v => SV.v (Value.int .i64 v)) (Int.toNat_of_nonneg h.1).symm | exact congrArg (fun v => Value.int .i64 v) (Int.toNat_of_nonneg h.1).symm | exact congrArg (fun v => SV.v (Value.int .i64 v)) hwd | exact congrArg (fun v => SV.v (Value.string v)) (dec_cons m s) | exact congrArg (fun v => Value.int .i64 v) hwd | exact congrArg (fun v => Value.string v) (dec_cons m s), by first | exact trivial | simp [SV.ok]⟩, ?_⟩)
    ·exact trivial
    ·try dsimp only
     exact ⟨decI_step hI (by omega), by omega⟩
    try dsimp only
    omega
  ·simp at q1
   refine ⟨fun q5 => ?_, fun q5 => ?_⟩
   ·simp at q5
    exfalso; omega
   ·simp at q5
    (have hm0 : m = 0 := (by omega); subst hm0; rw [decI_end hI]; exact ⟨[], ⟨rfl, rfl⟩, .mem (by simp)⟩)
end
section
open Go.Proofs Go.Shelf
def laysItoa_ren : Go.Shelf.Ren := ⟨fun | 171 => 133 | 243 => 165 | 246 => 189 | 283 => 202 | 284 => 203 | 285 => 204 | 286 => 205 | 129 => 218 | 317 => 217 | 318 => 219 | 319 => 220 | 320 => 221 | 337 => 230 | 338 => 231 | n => n, fun | 3 => 3 | 9 => 9 | 2 => 2 | 4 => 4 | 171 => 286 | 0 => 0 | 53 => 287 | 37 => 131 | 5 => 5 | 173 => 290 | 212 => 313 | 51 => 301 | 20 => 20 | 213 => 314 | 46 => 307 | 232 => 332 | 233 => 333 | n => n, fun | 17 => 0 | 18 => 2 | 19 => 3 | n => n⟩
theorem laysItoa : Go.Proofs.LaysM.n171 prog laysItoa_ren where
 mixed := by kernel_rfl
 f129 := func218.trans (congrArg some (by kernel_rfl))
 f171 := func133.trans (congrArg some (by kernel_rfl))
 f243 := func165.trans (congrArg some (by kernel_rfl))
 f246 := func189.trans (congrArg some (by kernel_rfl))
 f283 := func202.trans (congrArg some (by kernel_rfl))
 f284 := func203.trans (congrArg some (by kernel_rfl))
 f285 := func204.trans (congrArg some (by kernel_rfl))
 f286 := func205.trans (congrArg some (by kernel_rfl))
 f317 := func217.trans (congrArg some (by kernel_rfl))
 f318 := func219.trans (congrArg some (by kernel_rfl))
 f319 := func220.trans (congrArg some (by kernel_rfl))
 f320 := func221.trans (congrArg some (by kernel_rfl))
 f337 := func230.trans (congrArg some (by kernel_rfl))
 f338 := func231.trans (congrArg some (by kernel_rfl))
 t0 := underlying0
 a0 := Tryz.isAgg0
 z0 := Tryz.sizeOf0
 v0 := Tryz.zeroValue0
 t2 := underlying2
 a2 := Tryz.isAgg2
 z2 := Tryz.sizeOf2
 v2 := Tryz.zeroValue2
 t3 := underlying3
 a3 := Tryz.isAgg3
 z3 := Tryz.sizeOf3
 v3 := Tryz.zeroValue3
 t4 := underlying4
 a4 := Tryz.isAgg4
 z4 := Tryz.sizeOf4
 v4 := Tryz.zeroValue4
 t5 := underlying5
 a5 := Tryz.isAgg5
 z5 := Tryz.sizeOf5
 v5 := Tryz.zeroValue5
 t9 := underlying9
 a9 := Tryz.isAgg9
 z9 := Tryz.sizeOf9
 v9 := Tryz.zeroValue9
 t20 := underlying20
 a20 := Tryz.isAgg20
 z20 := Tryz.sizeOf20
 v20 := Tryz.zeroValue20
 t37 := underlying131
 a37 := Tryz.isAgg131
 z37 := Tryz.sizeOf131
 v37 := Tryz.zeroValue131
 t46 := underlying307
 a46 := Tryz.isAgg307
 z46 := Tryz.sizeOf307
 v46 := Tryz.zeroValue307
 t51 := underlying301
 a51 := Tryz.isAgg301
 z51 := Tryz.sizeOf301
 v51 := Tryz.zeroValue301
 t53 := underlying287
 a53 := Tryz.isAgg287
 z53 := Tryz.sizeOf287
 v53 := Tryz.zeroValue287
 t171 := underlying286
 a171 := Tryz.isAgg286
 z171 := Tryz.sizeOf286
 v171 := Tryz.zeroValue286
 t173 := underlying290
 a173 := Tryz.isAgg290
 z173 := Tryz.sizeOf290
 v173 := Tryz.zeroValue290
 t212 := underlying313
 a212 := Tryz.isAgg313
 z212 := Tryz.sizeOf313
 v212 := Tryz.zeroValue313
 t213 := underlying314
 a213 := Tryz.isAgg314
 z213 := Tryz.sizeOf314
 t232 := underlying332
 a232 := Tryz.isAgg332
 z232 := Tryz.sizeOf332
 v232 := Tryz.zeroValue332
 t233 := underlying333
 a233 := Tryz.isAgg333
 z233 := Tryz.sizeOf333
 v233 := Tryz.zeroValue333
 g17 := by kernel_rfl
 g18 := by kernel_rfl
 g19 := by kernel_rfl
 i0 := by kernel_rfl
 i2 := by kernel_rfl
 i3 := by kernel_rfl
 i4 := by kernel_rfl
 i5 := by kernel_rfl
 i9 := by kernel_rfl
 i20 := by kernel_rfl
 i37 := by kernel_rfl
 i46 := by kernel_rfl
 i51 := by kernel_rfl
 i53 := by kernel_rfl
 i171 := by kernel_rfl
 i173 := by kernel_rfl
 i212 := by kernel_rfl
 i232 := by kernel_rfl
 i233 := by kernel_rfl
 m17 := by kernel_rfl
 m18 := by kernel_rfl
 m19 := by kernel_rfl
end
section
attribute [local irreducible] IntKind.wrap
def tabA : Array Value := (Lib.pow10Tab.map fun z => Value.int .u64 z).toArray
def TabIn (H : Hp) : Prop := ∃ g t fz, prog.globalNamed "internal/strconv.uint64pow10" = some g ∧ (g, Obj.cells tabA t fz) ∈ H
theorem TabIn.mono {H H' : Hp} (h : TabIn H) (hs : ∀ p ∈ H, p ∈ H') : TabIn H' := by
 obtain ⟨g, t, fz, h1, h2⟩ := h
 exact ⟨g, t, fz, h1, hs _ h2⟩
theorem tab_is {E : World} {H : Hp} {w : World} (hs : Sat E H w) (h : TabIn H) : Lib.TabIs prog w "internal/strconv.uint64pow10" .u64 Lib.pow10Tab := by
 obtain ⟨g, t, fz, h1, h2⟩ := h
 unfold Lib.TabIs World.var?
 rw [h1, Option.bind_some, hs.mem _ _ h2]
 rfl
theorem sat_grow9 {E : World} {H : Hp} {w : World} (h : Sat E H w) (k : Nat) (os : Array Obj) : Sat E H (Sort.grow (w.drewN k) os) :=
 ⟨h.os, h.out, h.tape, fun b o hm => by
  have h1 := h.mem b o hm
  have h2 : b < w.heap.size := by
   by_cases h3 : b < w.heap.size
   ·exact h3
   rw [Array.getElem?_eq_none (by omega)] at h1; cases h1
  show (w.heap ++ os)[b]? = some o
  rw [Array.getElem?_append_left h2]; exact h1, h.nodup, Nat.le_trans h.dr (Nat.le_add_right _ _)⟩
theorem itoaAll_ct (n : Int) (h : 0 ≤ n ∧ n ≤ 9223372036854775807) : Ct prog 133 [.int .i64 n] [] TabIn (fun v A => v = .string (tx (dcT n)) ∧ A = []) := by
 refine ⟨⟨_, func133, of_decide_eq_false (by kernel_rfl), rfl⟩, fun E H w hs hp => ?_⟩
 have hc := Any.strconv_Itoa laysItoa n (by omega) h.2 w (tab_is hs hp)
 refine hc.mono ?_
 rintro e w' ⟨rfl, k, os, rfl⟩
 refine ⟨_, [], rfl, ⟨?_, rfl⟩, sat_grow9 hs k os⟩
 unfold Lib.itoa
 rw [if_neg (by omega)]; rfl
theorem decimalAll_ct (n : Int) (h : 0 ≤ n ∧ n ≤ 9223372036854775807) : Ct prog 82 [.int .i64 n] [] TabIn (fun v A => v = .string (tx (dcT n)) ∧ A = []) := by
 refine Ct.intro0 G_ok func82 rfl rfl rfl fun E H hp => ?_
 refine call_val (itoaAll_ct _ h) (TabIn.mono hp (mem_at 0 rfl)) ?_
 rintro _ rfl
 exact ⟨[], ⟨rfl, rfl⟩, .mem (by simp)⟩
end
end Go.Proofs.YtcnclhjhnjpeiaaGreatDoor
