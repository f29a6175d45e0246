/-
  Queries that are right: the parts, on both sides. Queries that are right, on both sides. The automata of a query's atoms, on both sides. What an automaton reaches in a graph: the program's rounds. What an automaton reaches in a graph: the reference's search. Walks and letters that are right. The owner of a vertex, on both sides. The walks of a cluster's workers: when they are right (plain). The walks of a cluster's workers: the reference's side. slices.SortFunc over slices of one-cell elements whose comparison reads the rest of the memory. Raw rows picked and put together. The walks of a cluster's workers: the program's list of workers that have begun. The walks of a cluster's workers: the program's side. The walks of a cluster's workers: the law walked. Conditions: none.
-/
import Derived.Test.YtjgehblllhkdbaaGreatZv5

namespace Go.Proofs.YtjgehblllhkdbaaGreat
open Go.SX Go.Proofs
set_option linter.unusedSimpArgs false
set_option linter.unusedVariables false
set_option maxHeartbeats 4000000
attribute [local irreducible] IntKind.wrap atomM
theorem toL_nil8 {s : ByteArray} : s.toList = [] ↔ s.size = 0 := by
  have e : (ByteArray.empty).toList = [] := by simp
  constructor
  · intro h
    have h2 : s = ByteArray.empty := str_inj.1 (h.trans e.symm)
    rw [h2]; rfl
  intro h
  have h2 := by_size s
  rw [h] at h2
  have h3 : s = ByteArray.empty := by_inj.1 (by rw [List.length_eq_zero_iff.1 h2]; rfl)
  rw [h3, e]
--@ct impl.NamesOf new implNamesOf_ct _ $1 ?_ | %1 | obtain ⟨b#, c#, rfl, o#⟩ := o#
theorem lit2_ow {x : Nat} {a b : ByteArray} (h1 : a.size ≤ 9223372036854775807) (h2 : b.size ≤ 9223372036854775807) : (gSl 9 gS).ow [.slice (some ⟨x, 0, none⟩) 2 2] [a, b] [(x, Obj.cells ⟨[.string a, .string b]⟩ 9)] :=
  ow_fl (Ow.lit (f := flStr) (T := 9) (b := x) (xs := [a, b]) (fun y hy => (List.mem_cons.1 hy).elim (fun e => by rw [e]; exact h1) (fun hy => by rw [List.mem_singleton.1 hy]; exact h2)) (by simp))
def twoN (o : List ByteArray) (a b : ByteArray) : Nat → List ByteArray
  | 0 => o
  | 1 => addN o a
  | _ + 2 => addN (addN o a) b
theorem twoN_step {o : List ByteArray} {a b : ByteArray} {j : Nat} (h : j < 2) : twoN o a b (j + 1) = addN (twoN o a b j) ([a, b][j]?.getD ByteArray.empty) := by
  rcases (by omega : j = 0 ∨ j = 1) with rfl | rfl <;> rfl
theorem twoN_len (o : List ByteArray) (a b : ByteArray) {j : Nat} (h : j ≤ 2) : (twoN o a b j).length ≤ o.length + j := by
  rcases (by omega : j = 0 ∨ j = 1 ∨ j = 2) with rfl | rfl | rfl
  · exact Nat.le_refl _
  · exact addN_len o a
  have h1 := addN_len o a
  have h2 := addN_len (addN o a) b
  show (addN (addN o a) b).length ≤ _; omega
theorem implNamesOf_ct (l : List Value) (x : Query) (hx : x.atoms.length ≤ 1048576) : Ct Tryz.prog 158 [.agg ⟨l⟩] [] (fun H => gQuery.rd H l x) (fun v A => ∃ b c, v = .slice b (namesM x.atoms).length c ∧ (gSl 9 gS).ow [.slice b (namesM x.atoms).length c] (namesM x.atoms) A) := by
  refine Ct.intro0 G_ok Tryz.func158 rfl rfl rfl fun E H hp => ?_
  obtain ⟨b1p, c1p, b2p, c2p, b3p, c3p, rfl, h1p, h2p, h3p⟩ := gQuery_rd.1 hp
  refine VCnew.intro fun x0 => ?_
  apply loop_mod (α := (Nat) × (List ByteArray) × (Hp) × (Option Addr) × (Nat)) G_ok [12, 13, 14, 5, 15, 16, 17, 18, 19, 20, 21, 22, 23, 24, 7, 25, 26, 27, 28, 29, 30, 31, 32, 3, 33, 34, 11] (fun z => [(11, .v (.int .i64 z.1)), (3, .v (.slice z.2.2.2.1 z.2.1.length z.2.2.2.2))]) (fun z => [{ id := x0, cs := [Value.bool x.each, Value.slice b1p x.out.length c1p, Value.slice b2p x.atoms.length c2p, Value.slice b3p x.filters.length c3p], ty := (39 : Nat) }]) (fun z => [z.2.2.1, H]) (fun z => x.atoms.length - z.1) (fun z => z.1 ≤ x.atoms.length ∧ z.2.1 = namesM (x.atoms.take z.1) ∧ (gSl 9 gS).ow [.slice z.2.2.2.1 z.2.1.length z.2.2.2.2] z.2.1 z.2.2.1) ((0, [], [], _, 0))
  · repeat' (first | exact trivial | refine ⟨⟨_, rfl, by first | rfl | exact inc_eq _ (by omega) | (refine sl_eq ?_; simp; done), by first | exact trivial | simp [SV.ok]⟩, ?_⟩)
  · exact ⟨rfl, trivial⟩
  · try dsimp only
    exact ⟨Nat.zero_le _, rfl, sl_nil _ _ _⟩
  · exact .refl _
  rintro ⟨k, o, A, lb, lc⟩ hI
  obtain ⟨hk, ho, oA⟩ : k ≤ x.atoms.length ∧ o = namesM (x.atoms.take k) ∧ (gSl 9 gS).ow [.slice lb o.length lc] o A := hI
  try dsimp only
  refine VCsplit.intro (fun q1 => ?_) (fun q1 => ?_)
  ·
    simp at q1
    have hlen := namesM_len x.atoms k (by omega)
    have hol : o.length ≤ 2 * k := (by rw [ho]; exact hlen)
    refine idx_rd h2p ?_ ?_ fun b2 o2 hb2 => ?_
    · omega
    · omega
    refine load_allN default (k) rfl h2p ?_ ?_ hb2 rfl (mem_at 1 rfl) fun l3 hl3 => ?_
    · omega
    · omega
    obtain ⟨rfl, w0x3, w1x3, w2x3⟩ := gAtom_rd.1 hl3
    refine VCnew.intro fun x4 => ?_
    refine VCnew.intro fun x5 => ?_
    apply loop_mod (α := (Nat) × (List ByteArray) × (Hp) × (Option Addr) × (Nat)) G_ok [22, 23, 24, 7, 25, 26, 27, 28, 29, 30, 31, 32, 3, 33, 21] (fun z => [(21, .v (.int .i64 z.1)), (3, .v (.slice z.2.2.2.1 z.2.1.length z.2.2.2.2))]) (fun z => [{ id := x0, cs := [Value.bool x.each, Value.slice b1p x.out.length c1p, Value.slice b2p x.atoms.length c2p, Value.slice b3p x.filters.length c3p], ty := (39 : Nat) }, { id := x4, cs := [Value.string (x.atoms[k]?.getD default).from', Value.string (x.atoms[k]?.getD default).path, Value.string (x.atoms[k]?.getD default).to], ty := (118 : Nat) }]) (fun z => [z.2.2.1, [(x5, Obj.cells ⟨[.string (x.atoms[k]?.getD default).from', .string (x.atoms[k]?.getD default).to]⟩ 9)], H]) (fun z => 2 - z.1) (fun z => z.1 ≤ 2 ∧ z.2.1 = twoN o (x.atoms[k]?.getD default).from' (x.atoms[k]?.getD default).to z.1 ∧ (gSl 9 gS).ow [.slice z.2.2.2.1 z.2.1.length z.2.2.2.2] z.2.1 z.2.2.1) ((0, o, A, lb, lc))
    · repeat' (first | exact trivial | refine ⟨⟨_, rfl, by first | rfl | exact inc_eq _ (by omega) | (refine sl_eq ?_; simp; done), by first | exact trivial | simp [SV.ok]⟩, ?_⟩)
    · exact ⟨rfl, rfl, trivial⟩
    · try dsimp only
      exact ⟨Nat.zero_le _, rfl, oA⟩
    · exact .le fun a => by simp [List.count_cons, List.count_append, Blk.ent, St.hall, setR, zeros, List.append]; omega
    rintro ⟨j, o2, A2, lb2, lc2⟩ hI
    obtain ⟨hj, ho2, oA2⟩ : j ≤ 2 ∧ o2 = twoN o (x.atoms[k]?.getD default).from' (x.atoms[k]?.getD default).to j ∧ (gSl 9 gS).ow [.slice lb2 o2.length lc2] o2 A2 := hI
    try dsimp only
    refine VCsplit.intro (fun q6 => ?_) (fun q6 => ?_)
    ·
      simp at q6
      have hlit := lit2_ow (x := x5) (a := (x.atoms[k]?.getD default).from') (b := (x.atoms[k]?.getD default).to) (by assumption) (by assumption)
      have hlen2 : o2.length ≤ 2 * k + 2 := (by have := twoN_len o (x.atoms[k]?.getD default).from' (x.atoms[k]?.getD default).to (j := j) (by omega); rw [ho2]; omega)
      refine idx_rd (Gt.owrd _ hlit) ?_ ?_ fun b7 o7 hb7 => ?_
      · omega
      · trivial
      refine load_allN ByteArray.empty (j) rfl (Gt.owrd _ hlit) ?_ ?_ hb7 rfl (mem_at 1 rfl) fun l8 hl8 => ?_
      · omega
      · trivial
      obtain ⟨rfl, hw8⟩ := hl8; simp only [flStr, flInt, okI] at hw8
      refine call_val (sContainsS_ct _ _ _ (o2) _) (Rp.mono _ (mem_at 0 rfl) (Gt.owrd _ oA2)) ?_
      rintro _ rfl
      refine VCsplit.intro (fun q10 => ?_) (fun q10 => ?_)
      ·
        simp at q10
        refine VCnew.intro fun x11 => ?_
        refine gappend1 (g := gS) (T := (9 : TypeId)) G_ok A2 [] [[(x5, Obj.cells { toList := [Value.string (x.atoms[k]?.getD default).from', Value.string (x.atoms[k]?.getD default).to] } (9 : TypeId))], H] ?_ oA2 (gS_ow ?_) (List.mem_of_getElem? (i := 0) rfl) rfl rfl rfl rfl rfl rfl rfl rfl ?_ fun b12 c12 A12 o12 => ?_
        · exact .tl
        · trivial
        · omega
        apply loop_stepA (j + 1, _, _, _, _)
        · exact .refl _
        · repeat' (first | exact trivial | refine ⟨⟨_, rfl, by first | rfl | exact inc_eq _ (by omega) | (refine sl_eq ?_; simp; done), by first | exact trivial | simp [SV.ok]⟩, ?_⟩)
        · exact ⟨rfl, rfl, trivial⟩
        · try dsimp only
          exact ⟨by omega, by rw [twoN_step (by omega), ← ho2, addN_no (by assumption)], by assumption⟩
        try dsimp only
        omega
      ·
        simp at q10
        apply loop_stepA (j + 1, _, _, _, _)
        · exact .refl _
        · repeat' (first | exact trivial | refine ⟨⟨_, rfl, by first | rfl | exact inc_eq _ (by omega) | (refine sl_eq ?_; simp; done), by first | exact trivial | simp [SV.ok]⟩, ?_⟩)
        · exact ⟨rfl, rfl, trivial⟩
        · try dsimp only
          exact ⟨by omega, by rw [twoN_step (by omega), ← ho2, addN_yes (by assumption)], by assumption⟩
        try dsimp only
        omega
    ·
      simp at q6
      apply loop_stepA (k + 1, _, _, _, _)
      · exact .sub (by repeat (first | exact .slnil | apply List.Sublist.cons_cons | apply List.Sublist.cons))
      · repeat' (first | exact trivial | refine ⟨⟨_, rfl, by first | rfl | exact inc_eq _ (by omega) | (refine sl_eq ?_; simp; done), by first | exact trivial | simp [SV.ok]⟩, ?_⟩)
      · exact ⟨rfl, trivial⟩
      · try dsimp only
        (have hje : j = 2 := (by omega); subst hje; exact ⟨by omega, by rw [ho2, ho, namesM_step (by omega)]; rfl, by assumption⟩)
      try dsimp only
      omega
  ·
    simp at q1
    (have hke : k = x.atoms.length := (by omega); subst hke; rw [List.take_length] at ho; subst ho; exact ⟨_, ⟨_, _, rfl, by assumption⟩, (.le fun a => by (try simp only [setR, List.cons_append, List.nil_append]); simp [List.count_cons, Blk.ent, idOf]; try omega)⟩)
--@ct impl.areDistinct val areDistinct_ct _ _ _ $1 | %1
def distM (l : List ByteArray) : Bool := allK (fun i => !hasS (l.take i) (l[i]?.getD ByteArray.empty)) l.length
theorem dist_no {l : List ByteArray} {k : Nat} (hk : k < l.length) (h : hasS (l.take k) (l[k]?.getD ByteArray.empty) = true) : distM l = false := by
  unfold distM; rw [allK_no (p := fun i => !hasS (l.take i) (l[i]?.getD ByteArray.empty)) (k := k) (by simp [h]) _ hk]
theorem dist_no2 {l : List ByteArray} {k : Nat} (hk : k < l.length) (h : hasS ((l.take ((k : Nat) : Int).toNat).drop 0) (l[k]?.getD ByteArray.empty) = true) : distM l = false := dist_no hk h
theorem dist_step {l : List ByteArray} {k : Nat} (h : hasS ((l.take ((k : Nat) : Int).toNat).drop 0) (l[k]?.getD ByteArray.empty) = false) : (!hasS (l.take k) (l[k]?.getD ByteArray.empty)) = true := by
  have h : hasS (l.take k) (l[k]?.getD ByteArray.empty) = false := h
  rw [h]; rfl
theorem areDistinct_ct (b : Option Addr) (m c : Nat) (xs : List ByteArray) : Ct Tryz.prog 201 [.slice b m c] [] (fun H => (gSl 9 gS).rd H [.slice b m c] xs) (fun v A => v = .bool (distM xs) ∧ A = []) := by
  refine Ct.intro0 G_ok Tryz.func201 rfl rfl rfl fun E H hp => ?_
  obtain ⟨rfl, hcl, hl⟩ := sl_len hp
  apply loop_mod (α := (Nat)) G_ok [8, 9, 10, 11, 3, 4, 12, 13, 14, 15, 16, 2, 17, 7] (fun z => [(7, .v (.int .i64 z))]) (fun z => []) (fun z => [H]) (fun z => xs.length - z) (fun z => z ≤ xs.length ∧ allK (fun i => !hasS (xs.take i) (xs[i]?.getD ByteArray.empty)) z = true) ((0))
  · repeat' (first | exact trivial | refine ⟨⟨_, rfl, by first | rfl | exact inc_eq _ (by omega) | (refine sl_eq ?_; simp; done), by first | exact trivial | simp [SV.ok]⟩, ?_⟩)
  · exact trivial
  · exact ⟨Nat.zero_le _, rfl⟩
  · exact .refl _
  rintro k hI
  obtain ⟨hk, ha⟩ : k ≤ xs.length ∧ allK (fun i => !hasS (xs.take i) (xs[i]?.getD ByteArray.empty)) k = true := hI
  try dsimp only
  refine VCsplit.intro (fun q0 => ?_) (fun q0 => ?_)
  ·
    simp at q0
    refine idx_rd hp ?_ ?_ fun b1 o1 hb1 => ?_
    · omega
    · omega
    refine load_allN ByteArray.empty (k) rfl hp ?_ ?_ hb1 rfl (mem_at 0 rfl) fun l2 hl2 => ?_
    · omega
    · omega
    obtain ⟨rfl, hw2⟩ := hl2; simp only [flStr, flInt, okI] at hw2
    refine VC.intro ?_ ?_
    · omega
    refine call_val (sContainsS_ct _ _ _ ((xs.take ((k : Nat) : Int).toNat).drop 0) _) (Rp.mono _ (mem_at 0 rfl) (rd_sub (r := gS.toRp) (l := 0) (h := ((k : Nat) : Int).toNat) hp (by omega) (by omega))) ?_
    rintro _ rfl
    refine VCsplit.intro (fun q4 => ?_) (fun q4 => ?_)
    ·
      simp at q4
      exact ⟨[], ⟨by rw [dist_no2 (k := k) (by omega) (by assumption)], rfl⟩, .mem (by simp)⟩
    ·
      simp at q4
      apply loop_stepA (k + 1)
      · exact .refl _
      · repeat' (first | exact trivial | refine ⟨⟨_, rfl, by first | rfl | exact inc_eq _ (by omega) | (refine sl_eq ?_; simp; done), by first | exact trivial | simp [SV.ok]⟩, ?_⟩)
      · exact trivial
      · exact ⟨by omega, allK_step ha (dist_step (by assumption))⟩
      omega
  ·
    simp at q0
    (have hke : k = xs.length := (by omega); subst hke; exact ⟨[], ⟨congrArg Value.bool ha.symm, rfl⟩, .mem (by simp)⟩)
--@ct impl.containsAll val containsAll_ct _ _ _ _ _ _ $1 $2 | ⟨%1, %2⟩
def inAll (l s : List ByteArray) : Bool := allK (fun i => hasS l (s[i]?.getD ByteArray.empty)) s.length
theorem inAll_no {l s : List ByteArray} {k : Nat} (hk : k < s.length) (h : hasS l (s[k]?.getD ByteArray.empty) = false) : inAll l s = false := by
  unfold inAll; rw [allK_no (p := fun i => hasS l (s[i]?.getD ByteArray.empty)) (k := k) h _ hk]
theorem containsAll_ct (b : Option Addr) (m c : Nat) (b2 : Option Addr) (m2 c2 : Nat) (xs ys : List ByteArray) : Ct Tryz.prog 202 [.slice b m c, .slice b2 m2 c2] [] (fun H => (gSl 9 gS).rd H [.slice b m c] xs ∧ (gSl 9 gS).rd H [.slice b2 m2 c2] ys) (fun v A => v = .bool (inAll xs ys) ∧ A = []) := by
  refine Ct.intro0 G_ok Tryz.func202 rfl rfl rfl fun E H hp => ?_
  obtain ⟨hp, hq⟩ := hp
  obtain ⟨rfl, hcl, hl⟩ := sl_len hp
  obtain ⟨rfl, hcl2, hl2⟩ := sl_len hq
  apply loop_mod (α := (Nat)) G_ok [10, 11, 12, 6, 13, 14, 15, 16, 4, 17, 9] (fun z => [(9, .v (.int .i64 z))]) (fun z => []) (fun z => [H]) (fun z => ys.length - z) (fun z => z ≤ ys.length ∧ allK (fun i => hasS xs (ys[i]?.getD ByteArray.empty)) z = true) ((0))
  · repeat' (first | exact trivial | refine ⟨⟨_, rfl, by first | rfl | exact inc_eq _ (by omega) | (refine sl_eq ?_; simp; done), by first | exact trivial | simp [SV.ok]⟩, ?_⟩)
  · exact trivial
  · exact ⟨Nat.zero_le _, rfl⟩
  · exact .refl _
  rintro k hI
  obtain ⟨hk, ha⟩ : k ≤ ys.length ∧ allK (fun i => hasS xs (ys[i]?.getD ByteArray.empty)) k = true := hI
  try dsimp only
  refine VCsplit.intro (fun q0 => ?_) (fun q0 => ?_)
  ·
    simp at q0
    refine idx_rd hq ?_ ?_ fun b1 o1 hb1 => ?_
    · omega
    · omega
    refine load_allN ByteArray.empty (k) rfl hq ?_ ?_ hb1 rfl (mem_at 0 rfl) fun l2 hl2 => ?_
    · omega
    · omega
    obtain ⟨rfl, hw2⟩ := hl2; simp only [flStr, flInt, okI] at hw2
    refine call_val (sContainsS_ct _ _ _ (xs) _) (Rp.mono _ (mem_at 0 rfl) hp) ?_
    rintro _ rfl
    refine VCsplit.intro (fun q4 => ?_) (fun q4 => ?_)
    ·
      simp at q4
      exact ⟨[], ⟨by rw [inAll_no (k := k) (by omega) (by assumption)], rfl⟩, .mem (by simp)⟩
    ·
      simp at q4
      apply loop_stepA (k + 1)
      · exact .refl _
      · repeat' (first | exact trivial | refine ⟨⟨_, rfl, by first | rfl | exact inc_eq _ (by omega) | (refine sl_eq ?_; simp; done), by first | exact trivial | simp [SV.ok]⟩, ?_⟩)
      · exact trivial
      · exact ⟨by omega, allK_step ha (by assumption)⟩
      omega
  ·
    simp at q0
    (have hke : k = ys.length := (by omega); subst hke; exact ⟨[], ⟨congrArg Value.bool ha.symm, rfl⟩, .mem (by simp)⟩)
--@ct impl.isOp val isOp_ct _
theorem isOp_ct (n : Int) : Ct Tryz.prog 282 [.int .i64 n] [] (fun _ => True) (fun v A => v = .bool (inR 1 2 n) ∧ A = []) := by
  refine Ct.intro0 G_ok Tryz.func282 rfl rfl rfl fun E H hp => ?_
  refine VCsplit.intro (fun q0 => ?_) (fun q0 => ?_)
  ·
    simp at q0
    exact ⟨[], ⟨congrArg Value.bool (by unfold inR; rw [Bool.eq_iff_iff]; simp; omega), rfl⟩, .mem (by simp)⟩
  ·
    simp at q0
    exact ⟨[], ⟨congrArg Value.bool (by unfold inR; rw [Bool.eq_iff_iff]; simp; omega), rfl⟩, .mem (by simp)⟩
def filterM (ns : List ByteArray) (f : Filter) : Bool := hasS ns f.left && (inR 1 2 f.op && (if f.right.size = 0 then inR 0 99 f.num else decide (f.num = 0) && hasS ns f.right))
--@ct impl.filterOk val filterOk_ct _ _ _ _ $1 $2 | ⟨%1, %2⟩
theorem filterOk_ct (l : List Value) (b : Option Addr) (m c : Nat) (f : Filter) (ns : List ByteArray) : Ct Tryz.prog 203 [.agg ⟨l⟩, .slice b m c] [] (fun H => gFilter.rd H l f ∧ (gSl 9 gS).rd H [.slice b m c] ns) (fun v A => v = .bool (filterM ns f) ∧ A = []) := by
  refine Ct.intro0 G_ok Tryz.func203 rfl rfl rfl fun E H hp => ?_
  obtain ⟨hp, hq⟩ := hp
  obtain ⟨rfl, w0p, w1p, w2p, w3p⟩ := gFilter_rd.1 hp
  refine VCnew.intro fun x0 => ?_
  refine call_val (sContainsS_ct _ _ _ (ns) _) (Rp.mono _ (mem_at 0 rfl) hq) ?_
  rintro _ rfl
  refine VCsplit.intro (fun q2 => ?_) (fun q2 => ?_)
  ·
    simp at q2
    exact ⟨[], ⟨congrArg Value.bool (by unfold filterM; rw [‹hasS ns f.left = false›]; rfl), rfl⟩, .mem (by simp)⟩
  ·
    simp at q2
    refine call_val (isOp_ct _) trivial ?_
    rintro _ rfl
    refine VCsplit.intro (fun q4 => ?_) (fun q4 => ?_)
    ·
      simp at q4
      exact ⟨[], ⟨congrArg Value.bool (by unfold filterM; rw [‹inR 1 2 f.op = false›]; simp), rfl⟩, .mem (by simp)⟩
    ·
      simp at q4
      refine VCsplit.intro (fun q5 => ?_) (fun q5 => ?_)
      ·
        simp at q5
        have iq5 := toL_nil8.1 q5
        refine VCsplit.intro (fun q6 => ?_) (fun q6 => ?_)
        ·
          simp at q6
          exact ⟨[], ⟨congrArg Value.bool (by unfold filterM; rw [‹hasS ns f.left = true›, ‹inR 1 2 f.op = true›, if_pos (by assumption)]; unfold inR; rw [Bool.eq_iff_iff]; simp; omega), rfl⟩, .mem (by simp)⟩
        ·
          simp at q6
          exact ⟨[], ⟨congrArg Value.bool (by unfold filterM; rw [‹hasS ns f.left = true›, ‹inR 1 2 f.op = true›, if_pos (by assumption)]; unfold inR; rw [Bool.eq_iff_iff]; simp; omega), rfl⟩, .mem (by simp)⟩
      ·
        simp at q5
        have iq5 := mt toL_nil8.2 q5
        refine VCsplit.intro (fun q7 => ?_) (fun q7 => ?_)
        ·
          simp at q7
          refine call_val (sContainsS_ct _ _ _ (ns) _) (Rp.mono _ (mem_at 0 rfl) hq) ?_
          rintro _ rfl
          exact ⟨[], ⟨congrArg Value.bool (by unfold filterM; rw [‹hasS ns f.left = true›, ‹inR 1 2 f.op = true›, if_neg (by assumption), decide_eq_true (by assumption)]; rfl), rfl⟩, .mem (by simp)⟩
        ·
          simp at q7
          exact ⟨[], ⟨congrArg Value.bool (by unfold filterM; rw [‹hasS ns f.left = true›, ‹inR 1 2 f.op = true›, if_neg (by assumption), decide_eq_false (by assumption)]; rfl), rfl⟩, .mem (by simp)⟩
end Go.Proofs.YtjgehblllhkdbaaGreat

namespace Go.Proofs.YtjgehblllhkdbaaGreat
open Go.SX Go.Proofs
set_option linter.unusedSimpArgs false
set_option linter.unusedVariables false
set_option maxHeartbeats 8000000
attribute [local irreducible] IntKind.wrap atomM namesM
def queryP (x : Query) : Prop := (1 ≤ x.atoms.length ∧ x.atoms.length ≤ 4 ∧ x.filters.length ≤ 3 ∧ 1 ≤ x.out.length ∧ x.out.length ≤ 4 ∧ (namesM x.atoms).length ≤ 4) ∧
  (∀ k, k < x.atoms.length → atomM (x.atoms[k]?.getD default) = true) ∧ distM x.out = true ∧ inAll (namesM x.atoms) x.out = true ∧ ∀ k, k < x.filters.length → filterM (namesM x.atoms) (x.filters[k]?.getD default) = true
open Classical in
noncomputable def queryM (x : Query) : Bool := decide (queryP x)
open Classical in
theorem q_no {x : Query} (h : ¬ queryP x) : queryM x = false := by unfold queryM; exact decide_eq_false h
open Classical in
theorem q_yes {x : Query} (h : queryP x) : queryM x = true := by unfold queryM; exact decide_eq_true h
theorem sz_at8 {α : Type} (g : Gt α) (z : α) : ∀ (xs : List α) (k : Nat), k < xs.length → g.sz (xs[k]?.getD z) + 1 ≤ szL g xs
  | [], k, h => absurd h (by simp)
  | x :: r, 0, _ => by rw [show szL g (x :: r) = 1 + g.sz x + szL g r from rfl]; show g.sz x + 1 ≤ _; omega
  | x :: r, k + 1, h => by
    have := sz_at8 g z r k (by simpa using h)
    rw [show szL g (x :: r) = 1 + g.sz x + szL g r from rfl]
    show g.sz (r[k]?.getD z) + 1 ≤ _; omega
theorem atoms_path {x : Query} (h : gQuery.sz x ≤ 1048576) {k : Nat} (hk : k < x.atoms.length) : (x.atoms[k]?.getD default).path.size ≤ 1048576 := by
  have h1 := gQuery_sz x
  have h2 := sz_at8 gAtom default x.atoms k hk
  have h3 := gAtom_sz (x.atoms[k]?.getD default)
  omega
theorem ff {b : Bool} (h1 : b = true) (h2 : b = false) : False := by rw [h1] at h2; cases h2
--@ct impl.QueryOk val implQueryOk_ct _ $1 ?_ | %1
theorem implQueryOk_ct (l : List Value) (x : Query) (hx : gQuery.sz x ≤ 1048576) : Ct Tryz.prog 115 [.agg ⟨l⟩] [] (fun H => gQuery.rd H l x) (fun v A => v = .bool (queryM x) ∧ A = []) := by
  refine Ct.intro0 G_ok Tryz.func115 rfl rfl rfl fun E H hp => ?_
  obtain ⟨b1p, c1p, b2p, c2p, b3p, c3p, rfl, h1p, h2p, h3p⟩ := gQuery_rd.1 hp
  have ez := gQuery_sz x
  have en1 := len_szL gS x.out
  have en2 := len_szL gAtom x.atoms
  have en3 := len_szL gFilter x.filters
  refine VCnew.intro fun x0 => ?_
  refine VCsplit.intro (fun q1 => ?_) (fun q1 => ?_)
  ·
    simp at q1
    exact ⟨[], ⟨by rw [q_no fun h => by (have := h.1; omega)], rfl⟩, .mem (by simp)⟩
  ·
    simp at q1
    refine VCsplit.intro (fun q2 => ?_) (fun q2 => ?_)
    ·
      simp at q2
      exact ⟨[], ⟨by rw [q_no fun h => by (have := h.1; omega)], rfl⟩, .mem (by simp)⟩
    ·
      simp at q2
      refine VCsplit.intro (fun q3 => ?_) (fun q3 => ?_)
      ·
        simp at q3
        exact ⟨[], ⟨by rw [q_no fun h => by (have := h.1; omega)], rfl⟩, .mem (by simp)⟩
      ·
        simp at q3
        apply loop_mod (α := (Nat)) G_ok [28, 29, 30, 4, 31, 32, 33, 2, 34, 27] (fun z => [(27, .v (.int .i64 z))]) (fun z => [{ id := x0, cs := [Value.bool x.each, Value.slice b1p x.out.length c1p, Value.slice b2p x.atoms.length c2p, Value.slice b3p x.filters.length c3p], ty := (39 : Nat) }]) (fun z => [H]) (fun z => x.atoms.length - z) (fun z => z ≤ x.atoms.length ∧ allK (fun i => atomM (x.atoms[i]?.getD default)) z = true) ((0))
        · repeat' (first | exact trivial | refine ⟨⟨_, rfl, by first | rfl | exact inc_eq _ (by omega) | (refine sl_eq ?_; simp; done), by first | exact trivial | simp [SV.ok]⟩, ?_⟩)
        · exact ⟨rfl, trivial⟩
        · exact ⟨Nat.zero_le _, rfl⟩
        · exact .refl _
        rintro k hI
        obtain ⟨hk, ha⟩ : k ≤ x.atoms.length ∧ allK (fun i => atomM (x.atoms[i]?.getD default)) k = true := hI
        try dsimp only
        refine VCsplit.intro (fun q4 => ?_) (fun q4 => ?_)
        ·
          simp at q4
          refine idx_rd h2p ?_ ?_ fun b5 o5 hb5 => ?_
          · omega
          · omega
          refine load_allN default (k) rfl h2p ?_ ?_ hb5 rfl (mem_at 0 rfl) fun l6 hl6 => ?_
          · omega
          · omega
          obtain ⟨rfl, w0x6, w1x6, w2x6⟩ := gAtom_rd.1 hl6
          refine VCnew.intro fun x7 => ?_
          refine call_val (atomOk_ct _ (x.atoms[k]?.getD default) ?_) (Rp.mono _ (mem_at 0 rfl) hl6) ?_
          · exact Nat.le_trans (atoms_path hx (by omega)) (by decide)
          rintro _ rfl
          refine VCsplit.intro (fun q9 => ?_) (fun q9 => ?_)
          ·
            simp at q9
            exact ⟨[], ⟨by rw [q_no fun h => ff (h.2.1 k (by omega)) (by assumption)], rfl⟩, .mem (by simp)⟩
          ·
            simp at q9
            apply loop_stepA (k + 1)
            · exact .refl _
            · repeat' (first | exact trivial | refine ⟨⟨_, rfl, by first | rfl | exact inc_eq _ (by omega) | (refine sl_eq ?_; simp; done), by first | exact trivial | simp [SV.ok]⟩, ?_⟩)
            · exact ⟨rfl, trivial⟩
            · exact ⟨by omega, allK_step ha (by assumption)⟩
            omega
        ·
          simp at q4
          refine call_new (implNamesOf_ct _ x ?_) (Rp.mono _ (mem_at 0 rfl) hp) ?_
          · omega
          rintro v10 A10 o10
          obtain ⟨bN, cN, rfl, oN⟩ := o10
          have rN := Gt.owrd _ oN
          refine VCsplit.intro (fun q11 => ?_) (fun q11 => ?_)
          ·
            simp at q11
            exact ⟨[], ⟨by rw [q_no fun h => by (have := h.1; omega)], rfl⟩, .mem (by simp)⟩
          ·
            simp at q11
            refine VCsplit.intro (fun q12 => ?_) (fun q12 => ?_)
            ·
              simp at q12
              exact ⟨[], ⟨by rw [q_no fun h => by (have := h.1; omega)], rfl⟩, .mem (by simp)⟩
            ·
              simp at q12
              refine VCsplit.intro (fun q13 => ?_) (fun q13 => ?_)
              ·
                simp at q13
                exact ⟨[], ⟨by rw [q_no fun h => by (have := h.1; omega)], rfl⟩, .mem (by simp)⟩
              ·
                simp at q13
                refine call_val (areDistinct_ct _ _ _ (x.out)) (Rp.mono _ (mem_at 1 rfl) h1p) ?_
                rintro _ rfl
                refine VCsplit.intro (fun q15 => ?_) (fun q15 => ?_)
                ·
                  simp at q15
                  exact ⟨[], ⟨by rw [q_no fun h => ff h.2.2.1 (by assumption)], rfl⟩, .mem (by simp)⟩
                ·
                  simp at q15
                  refine call_val (containsAll_ct _ _ _ _ _ _ (namesM x.atoms) (x.out)) ⟨(Rp.mono _ (mem_at 0 rfl) rN), (Rp.mono _ (mem_at 1 rfl) h1p)⟩ ?_
                  rintro _ rfl
                  refine VCsplit.intro (fun q17 => ?_) (fun q17 => ?_)
                  ·
                    simp at q17
                    exact ⟨[], ⟨by rw [q_no fun h => ff h.2.2.2.1 (by assumption)], rfl⟩, .mem (by simp)⟩
                  ·
                    simp at q17
                    apply loop_mod (α := (Nat)) G_ok [67, 68, 69, 7, 70, 71, 72, 73, 2, 74, 66] (fun z => [(66, .v (.int .i64 z))]) (fun z => [{ id := x0, cs := [Value.bool x.each, Value.slice b1p x.out.length c1p, Value.slice b2p x.atoms.length c2p, Value.slice b3p x.filters.length c3p], ty := (39 : Nat) }]) (fun z => [A10, H]) (fun z => x.filters.length - z) (fun z => z ≤ x.filters.length ∧ allK (fun i => filterM (namesM x.atoms) (x.filters[i]?.getD default)) z = true) ((0))
                    · repeat' (first | exact trivial | refine ⟨⟨_, rfl, by first | rfl | exact inc_eq _ (by omega) | (refine sl_eq ?_; simp; done), by first | exact trivial | simp [SV.ok]⟩, ?_⟩)
                    · exact ⟨rfl, trivial⟩
                    · exact ⟨Nat.zero_le _, rfl⟩
                    · exact .refl _
                    rintro j hI
                    obtain ⟨hj, hf⟩ : j ≤ x.filters.length ∧ allK (fun i => filterM (namesM x.atoms) (x.filters[i]?.getD default)) j = true := hI
                    try dsimp only
                    refine VCsplit.intro (fun q18 => ?_) (fun q18 => ?_)
                    ·
                      simp at q18
                      refine idx_rd h3p ?_ ?_ fun b19 o19 hb19 => ?_
                      · omega
                      · omega
                      refine load_allN default (j) rfl h3p ?_ ?_ hb19 rfl (mem_at 1 rfl) fun l20 hl20 => ?_
                      · omega
                      · omega
                      obtain ⟨rfl, w0x20, w1x20, w2x20, w3x20⟩ := gFilter_rd.1 hl20
                      refine VCnew.intro fun x21 => ?_
                      refine call_val (filterOk_ct _ _ _ _ (x.filters[j]?.getD default) (namesM x.atoms)) ⟨(Rp.mono _ (mem_at 1 rfl) hl20), (Rp.mono _ (mem_at 0 rfl) rN)⟩ ?_
                      rintro _ rfl
                      refine VCsplit.intro (fun q23 => ?_) (fun q23 => ?_)
                      ·
                        simp at q23
                        exact ⟨[], ⟨by rw [q_no fun h => ff (h.2.2.2.2 j (by omega)) (by assumption)], rfl⟩, .mem (by simp)⟩
                      ·
                        simp at q23
                        apply loop_stepA (j + 1)
                        · exact .refl _
                        · repeat' (first | exact trivial | refine ⟨⟨_, rfl, by first | rfl | exact inc_eq _ (by omega) | (refine sl_eq ?_; simp; done), by first | exact trivial | simp [SV.ok]⟩, ?_⟩)
                        · exact ⟨rfl, trivial⟩
                        · exact ⟨by omega, allK_step hf (by assumption)⟩
                        omega
                    ·
                      simp at q18
                      (have hke : k = x.atoms.length := (by omega); have hje : j = x.filters.length := (by omega); rw [hke] at ha; rw [hje] at hf; exact ⟨[], ⟨by rw [q_yes ⟨by omega, fun i hi => allK_at ha i hi, by assumption, by assumption, fun i hi => allK_at hf i hi⟩], rfl⟩, .mem (by simp)⟩)
theorem q_last {x : Query} (h1 : 1 ≤ x.atoms.length ∧ x.atoms.length ≤ 4 ∧ x.filters.length ≤ 3 ∧ 1 ≤ x.out.length ∧ x.out.length ≤ 4) (h2 : allK (fun i => atomM (x.atoms[i]?.getD default)) x.atoms.length = true) (h3 : allK (fun i => hasS (namesM x.atoms) (x.out[i]?.getD ByteArray.empty)) x.out.length = true) (h4 : allK (fun i => !hasS (x.out.take i) (x.out[i]?.getD ByteArray.empty)) x.out.length = true) (h5 : allK (fun i => filterM (namesM x.atoms) (x.filters[i]?.getD default)) x.filters.length = true) : queryM x = decide (((namesM x.atoms).length : Int) ≤ 4) := by
  by_cases h : (namesM x.atoms).length ≤ 4
  · rw [q_yes ⟨by omega, fun i hi => allK_at h2 i hi, h4, h3, fun i hi => allK_at h5 i hi⟩, decide_eq_true (by omega)]
  rw [q_no fun e => h e.1.2.2.2.2.2, decide_eq_false (by omega)]
theorem f_no1 {ns : List ByteArray} {f : Filter} (h : hasS ns f.left = false) : filterM ns f = false := by unfold filterM; rw [h]; rfl
theorem f_no2 {ns : List ByteArray} {f : Filter} (h : inR 1 2 f.op = false) : filterM ns f = false := by unfold filterM; rw [h]; simp
theorem f_no3 {ns : List ByteArray} {f : Filter} (h0 : ¬ f.right.size = 0) (h : hasS ns f.right = false) : filterM ns f = false := by unfold filterM; rw [if_neg h0, h]; simp
theorem f_no4 {ns : List ByteArray} {f : Filter} (h0 : ¬ f.right.size = 0) (h : ¬ f.num = 0) : filterM ns f = false := by unfold filterM; rw [if_neg h0, decide_eq_false h]; simp
theorem f_no5 {ns : List ByteArray} {f : Filter} (h : inR 0 99 f.num = false) : filterM ns f = false := by
  unfold filterM
  have h1 : ¬ f.num = 0 := fun e => by rw [e] at h; exact absurd h (by decide)
  rw [h, decide_eq_false h1]; simp
theorem f_yes1 {ns : List ByteArray} {f : Filter} (h1 : hasS ns f.left = true) (h2 : inR 1 2 f.op = true) (h0 : f.right.size = 0) (h : inR 0 99 f.num = true) : filterM ns f = true := by unfold filterM; rw [h1, h2, if_pos h0, h]; rfl
theorem f_yes2 {ns : List ByteArray} {f : Filter} (h1 : hasS ns f.left = true) (h2 : inR 1 2 f.op = true) (h0 : ¬ f.right.size = 0) (h : hasS ns f.right = true) (h3 : f.num = 0) : filterM ns f = true := by unfold filterM; rw [h1, h2, if_neg h0, h, decide_eq_true h3]; rfl
--@ct spec.QueryOk val specQueryOk_ct _ $1 ?_ | %1
theorem specQueryOk_ct (l : List Value) (x : Query) (hx : gQuery.sz x ≤ 1048576) : Ct Tryz.prog 105 [.agg ⟨l⟩] [] (fun H => gQuery.rd H l x) (fun v A => v = .bool (queryM x) ∧ A = []) := by
  refine Ct.intro0 G_ok Tryz.func105 rfl rfl rfl fun E H hp => ?_
  obtain ⟨b1p, c1p, b2p, c2p, b3p, c3p, rfl, h1p, h2p, h3p⟩ := gQuery_rd.1 hp
  have ez := gQuery_sz x
  have en1 := len_szL gS x.out
  have en2 := len_szL gAtom x.atoms
  have en3 := len_szL gFilter x.filters
  have hco := (sl_len h1p).2.1
  refine VCnew.intro fun x0 => ?_
  refine call_val (l01In_ct _ _ _) trivial ?_
  rintro _ rfl
  refine VCsplit.intro (fun q2 => ?_) (fun q2 => ?_)
  ·
    simp at q2
    have iq2 := mt inR_iff.2 (Bool.eq_false_iff.1 q2)
    exact ⟨[], ⟨by rw [q_no fun h => by (have := h.1; omega)], rfl⟩, .mem (by simp)⟩
  ·
    simp at q2
    have iq2 := inR_iff.1 q2
    refine VCsplit.intro (fun q3 => ?_) (fun q3 => ?_)
    ·
      simp at q3
      exact ⟨[], ⟨by rw [q_no fun h => by (have := h.1; omega)], rfl⟩, .mem (by simp)⟩
    ·
      simp at q3
      refine call_val (l01In_ct _ _ _) trivial ?_
      rintro _ rfl
      refine VCsplit.intro (fun q5 => ?_) (fun q5 => ?_)
      ·
        simp at q5
        have iq5 := mt inR_iff.2 (Bool.eq_false_iff.1 q5)
        exact ⟨[], ⟨by rw [q_no fun h => by (have := h.1; omega)], rfl⟩, .mem (by simp)⟩
      ·
        simp at q5
        have iq5 := inR_iff.1 q5
        apply loop_mod (α := (Nat)) G_ok [26, 27, 28, 29, 30, 33, 34, 35, 36, 37, 38, 39, 2, 31, 32, 3] (fun z => [(3, .v (.int .i64 z))]) (fun z => [{ id := x0, cs := [Value.bool x.each, Value.slice b1p x.out.length c1p, Value.slice b2p x.atoms.length c2p, Value.slice b3p x.filters.length c3p], ty := (39 : Nat) }]) (fun z => [H]) (fun z => x.atoms.length - z) (fun z => z ≤ x.atoms.length ∧ allK (fun i => atomM (x.atoms[i]?.getD default)) z = true) ((0))
        · repeat' (first | exact trivial | refine ⟨⟨_, rfl, by first | rfl | exact inc_eq _ (by omega) | (refine sl_eq ?_; simp; done), by first | exact trivial | simp [SV.ok]⟩, ?_⟩)
        · exact ⟨rfl, trivial⟩
        · exact ⟨Nat.zero_le _, rfl⟩
        · exact .refl _
        rintro k hI
        obtain ⟨hk, ha⟩ : k ≤ x.atoms.length ∧ allK (fun i => atomM (x.atoms[i]?.getD default)) k = true := hI
        try dsimp only
        refine VCsplit.intro (fun q6 => ?_) (fun q6 => ?_)
        ·
          simp at q6
          refine idx_rd h2p ?_ ?_ fun b7 o7 hb7 => ?_
          · omega
          · omega
          refine load_allN default (k) rfl h2p ?_ ?_ hb7 rfl (mem_at 0 rfl) fun l8 hl8 => ?_
          · omega
          · omega
          obtain ⟨rfl, w0x8, w1x8, w2x8⟩ := gAtom_rd.1 hl8
          refine call_val (l08Atom_ct _ (x.atoms[k]?.getD default) ?_) (Rp.mono _ (mem_at 0 rfl) hl8) ?_
          · exact Nat.le_trans (atoms_path hx (by omega)) (by decide)
          rintro _ rfl
          refine VCsplit.intro (fun q10 => ?_) (fun q10 => ?_)
          ·
            simp at q10
            exact ⟨[], ⟨by rw [q_no fun h => ff (h.2.1 k (by omega)) (by assumption)], rfl⟩, .mem (by simp)⟩
          ·
            simp at q10
            apply loop_stepA (k + 1)
            · exact .refl _
            · repeat' (first | exact trivial | refine ⟨⟨_, rfl, by first | rfl | exact inc_eq _ (by omega) | (refine sl_eq ?_; simp; done), by first | exact trivial | simp [SV.ok]⟩, ?_⟩)
            · exact ⟨rfl, trivial⟩
            · exact ⟨by omega, allK_step ha (by assumption)⟩
            omega
        ·
          simp at q6
          refine call_new (specNamesOf_ct _ x ?_) (Rp.mono _ (mem_at 0 rfl) hp) ?_
          · omega
          rintro v11 A11 o11
          obtain ⟨bN, cN, rfl, oN⟩ := o11
          have rN := Gt.owrd _ oN
          apply loop_mod (α := (Nat)) G_ok [42, 43, 44, 45, 46, 49, 50, 51, 52, 53, 54, 55, 56, 57, 58, 59, 60, 61, 62, 63, 64, 65, 66, 67, 68, 2, 47, 48, 5] (fun z => [(5, .v (.int .i64 z))]) (fun z => [{ id := x0, cs := [Value.bool x.each, Value.slice b1p x.out.length c1p, Value.slice b2p x.atoms.length c2p, Value.slice b3p x.filters.length c3p], ty := (39 : Nat) }]) (fun z => [A11, H]) (fun z => x.out.length - z) (fun z => z ≤ x.out.length ∧ allK (fun i => hasS (namesM x.atoms) (x.out[i]?.getD ByteArray.empty)) z = true ∧ allK (fun i => !hasS (x.out.take i) (x.out[i]?.getD ByteArray.empty)) z = true) ((0))
          · repeat' (first | exact trivial | refine ⟨⟨_, rfl, by first | rfl | exact inc_eq _ (by omega) | (refine sl_eq ?_; simp; done), by first | exact trivial | simp [SV.ok]⟩, ?_⟩)
          · exact ⟨rfl, trivial⟩
          · exact ⟨Nat.zero_le _, rfl, rfl⟩
          · exact .refl _
          rintro i hI
          obtain ⟨hi, hb, hc⟩ : i ≤ x.out.length ∧ allK (fun i => hasS (namesM x.atoms) (x.out[i]?.getD ByteArray.empty)) i = true ∧ allK (fun i => !hasS (x.out.take i) (x.out[i]?.getD ByteArray.empty)) i = true := hI
          try dsimp only
          refine VCsplit.intro (fun q12 => ?_) (fun q12 => ?_)
          ·
            simp at q12
            refine draw G_ok mixed none (.q 0 (.q 1 (.q 2 (.q 3 (.q 4 (.q 5 (.f 6 (.q 7 (.q 8 (.q 9 (.q 10 (.q 11 (.q 12 (.q 13 (.q 14 (.q 15 (.q 16 (.q 17 (.f 18 (.q 19 (.nil))))))))))))))))))))) (by decide +kernel) ?_
            refine idx_rd h1p ?_ ?_ fun b13 o13 hb13 => ?_
            · omega
            · omega
            refine load_allN ByteArray.empty (i) rfl h1p ?_ ?_ hb13 rfl (mem_at 1 rfl) fun l14 hl14 => ?_
            · omega
            · omega
            obtain ⟨rfl, hw14⟩ := hl14; simp only [flStr, flInt, okI] at hw14
            refine call_val (l08In_ct _ _ _ (namesM x.atoms) _) (Rp.mono _ (mem_at 0 rfl) rN) ?_
            rintro _ rfl
            refine VC.intro ?_ ?_
            · exact fun _ h => h
            refine VCsplit.intro (fun q16 => ?_) (fun q16 => ?_)
            ·
              simp at q16
              exact ⟨[], ⟨by rw [q_no fun h => ff h.2.2.2.1 (inAll_no (k := i) (by omega) (by assumption))], rfl⟩, .mem (by simp)⟩
            ·
              simp at q16
              have hsub : (gSl 9 gS).rd H [.slice (subBase c1p 0 b1p ty9.size) (((i : Nat) : Int).toNat - 0) (c1p - 0)] ((x.out.take ((i : Nat) : Int).toNat).drop 0) := rd_sub (r := gS.toRp) (l := 0) (h := ((i : Nat) : Int).toNat) h1p (by omega) (by omega)
              refine VC.intro ?_ ?_
              · omega
              refine idx_rd h1p ?_ ?_ fun b17 o17 hb17 => ?_
              · omega
              · omega
              refine load_allN ByteArray.empty (i) rfl h1p ?_ ?_ hb17 rfl (mem_at 1 rfl) fun l18 hl18 => ?_
              · omega
              · omega
              obtain ⟨rfl, hw18⟩ := hl18; simp only [flStr, flInt, okI] at hw18
              refine call_val (l08In_ct _ _ _ (List.drop (0 : Nat) (List.take (↑i : Int).toNat x.out)) _) (Rp.mono _ (mem_at 1 rfl) hsub) ?_
              rintro _ rfl
              refine VC.intro ?_ ?_
              · exact fun _ h => h
              refine VCsplit.intro (fun q20 => ?_) (fun q20 => ?_)
              ·
                simp at q20
                exact ⟨[], ⟨by rw [q_no fun h => ff h.2.2.1 (dist_no2 (k := i) (by omega) (by assumption))], rfl⟩, .mem (by simp)⟩
              ·
                simp at q20
                apply loop_stepA (i + 1)
                · exact .refl _
                · repeat' (first | exact trivial | refine ⟨⟨_, rfl, by first | rfl | exact inc_eq _ (by omega) | (refine sl_eq ?_; simp; done), by first | exact trivial | simp [SV.ok]⟩, ?_⟩)
                · exact ⟨rfl, trivial⟩
                · exact ⟨by omega, allK_step hb (by assumption), allK_step hc (dist_step (by assumption))⟩
                omega
          ·
            simp at q12
            apply loop_mod (α := (Nat)) G_ok [69, 70, 71, 72, 73, 76, 77, 78, 79, 80, 7, 81, 82, 83, 84, 85, 86, 87, 88, 89, 90, 91, 92, 93, 94, 95, 96, 97, 98, 99, 100, 101, 102, 103, 104, 105, 106, 107, 108, 109, 110, 111, 112, 113, 114, 2, 74, 75, 6] (fun z => [(6, .v (.int .i64 z))]) (fun z => [{ id := x0, cs := [Value.bool x.each, Value.slice b1p x.out.length c1p, Value.slice b2p x.atoms.length c2p, Value.slice b3p x.filters.length c3p], ty := (39 : Nat) }]) (fun z => [A11, H]) (fun z => x.filters.length - z) (fun z => z ≤ x.filters.length ∧ allK (fun i => filterM (namesM x.atoms) (x.filters[i]?.getD default)) z = true) ((0))
            · repeat' (first | exact trivial | refine ⟨⟨_, rfl, by first | rfl | exact inc_eq _ (by omega) | (refine sl_eq ?_; simp; done), by first | exact trivial | simp [SV.ok]⟩, ?_⟩)
            · exact ⟨rfl, trivial⟩
            · exact ⟨Nat.zero_le _, rfl⟩
            · exact .refl _
            rintro j hI
            obtain ⟨hj, hf⟩ : j ≤ x.filters.length ∧ allK (fun i => filterM (namesM x.atoms) (x.filters[i]?.getD default)) j = true := hI
            try dsimp only
            refine VCsplit.intro (fun q21 => ?_) (fun q21 => ?_)
            ·
              simp at q21
              refine idx_rd h3p ?_ ?_ fun b22 o22 hb22 => ?_
              · omega
              · omega
              refine load_allN default (j) rfl h3p ?_ ?_ hb22 rfl (mem_at 1 rfl) fun l23 hl23 => ?_
              · omega
              · omega
              obtain ⟨rfl, w0x23, w1x23, w2x23, w3x23⟩ := gFilter_rd.1 hl23
              refine VCnew.intro fun x24 => ?_
              refine call_val (l08In_ct _ _ _ (namesM x.atoms) _) (Rp.mono _ (mem_at 0 rfl) rN) ?_
              rintro _ rfl
              refine VCsplit.intro (fun q26 => ?_) (fun q26 => ?_)
              ·
                simp at q26
                exact ⟨[], ⟨by rw [q_no fun h => ff (h.2.2.2.2 j (by omega)) (f_no1 (by assumption))], rfl⟩, .mem (by simp)⟩
              ·
                simp at q26
                refine call_val (l01In_ct _ _ _) trivial ?_
                rintro _ rfl
                refine VCsplit.intro (fun q28 => ?_) (fun q28 => ?_)
                ·
                  simp at q28
                  have iq28 := mt inR_iff.2 (Bool.eq_false_iff.1 q28)
                  exact ⟨[], ⟨by rw [q_no fun h => ff (h.2.2.2.2 j (by omega)) (f_no2 (by assumption))], rfl⟩, .mem (by simp)⟩
                ·
                  simp at q28
                  have iq28 := inR_iff.1 q28
                  refine VCsplit.intro (fun q29 => ?_) (fun q29 => ?_)
                  ·
                    simp at q29
                    have iq29 := mt toL_nil8.2 q29
                    refine call_val (l08In_ct _ _ _ (namesM x.atoms) _) (Rp.mono _ (mem_at 0 rfl) rN) ?_
                    rintro _ rfl
                    refine VCsplit.intro (fun q31 => ?_) (fun q31 => ?_)
                    ·
                      simp at q31
                      exact ⟨[], ⟨by rw [q_no fun h => ff (h.2.2.2.2 j (by omega)) (f_no3 (by assumption) (by assumption))], rfl⟩, .mem (by simp)⟩
                    ·
                      simp at q31
                      refine VCsplit.intro (fun q32 => ?_) (fun q32 => ?_)
                      ·
                        simp at q32
                        exact ⟨[], ⟨by rw [q_no fun h => ff (h.2.2.2.2 j (by omega)) (f_no4 (by assumption) (by assumption))], rfl⟩, .mem (by simp)⟩
                      ·
                        simp at q32
                        refine call_val (l01In_ct _ _ _) trivial ?_
                        rintro _ rfl
                        refine VCsplit.intro (fun q34 => ?_) (fun q34 => ?_)
                        ·
                          simp at q34
                          have iq34 := mt inR_iff.2 (Bool.eq_false_iff.1 q34)
                          exfalso; omega
                        ·
                          simp at q34
                          have iq34 := inR_iff.1 q34
                          apply loop_stepA (j + 1)
                          · exact .refl _
                          · repeat' (first | exact trivial | refine ⟨⟨_, rfl, by first | rfl | exact inc_eq _ (by omega) | (refine sl_eq ?_; simp; done), by first | exact trivial | simp [SV.ok]⟩, ?_⟩)
                          · exact ⟨rfl, trivial⟩
                          · exact ⟨by omega, allK_step hf (f_yes2 (by assumption) (by assumption) (by assumption) (by assumption) (by assumption))⟩
                          omega
                  ·
                    simp at q29
                    have iq29 := toL_nil8.1 q29
                    refine call_val (l01In_ct _ _ _) trivial ?_
                    rintro _ rfl
                    refine VCsplit.intro (fun q36 => ?_) (fun q36 => ?_)
                    ·
                      simp at q36
                      have iq36 := mt inR_iff.2 (Bool.eq_false_iff.1 q36)
                      exact ⟨[], ⟨by rw [q_no fun h => ff (h.2.2.2.2 j (by omega)) (f_no5 (by assumption))], rfl⟩, .mem (by simp)⟩
                    ·
                      simp at q36
                      have iq36 := inR_iff.1 q36
                      apply loop_stepA (j + 1)
                      · exact .refl _
                      · repeat' (first | exact trivial | refine ⟨⟨_, rfl, by first | rfl | exact inc_eq _ (by omega) | (refine sl_eq ?_; simp; done), by first | exact trivial | simp [SV.ok]⟩, ?_⟩)
                      · exact ⟨rfl, trivial⟩
                      · exact ⟨by omega, allK_step hf (f_yes1 (by assumption) (by assumption) (by assumption) (by assumption))⟩
                      omega
            ·
              simp at q21
              (have hke : k = x.atoms.length := (by omega); have hie : i = x.out.length := (by omega); have hje : j = x.filters.length := (by omega); rw [hke] at ha; rw [hie] at hb hc; rw [hje] at hf; exact ⟨[], ⟨by rw [q_last (by omega) ha hb hc hf], rfl⟩, .mem (by simp)⟩)
end Go.Proofs.YtjgehblllhkdbaaGreat

namespace Go.Proofs.YtjgehblllhkdbaaGreat
open Go.SX Go.Proofs
set_option linter.unusedSimpArgs false
set_option linter.unusedVariables false
set_option maxHeartbeats 4000000
attribute [local irreducible] IntKind.wrap
def nfasM (ats : List Atom) : List Nfa := ats.map fun a => (tnR a.path).1
theorem nfas_step {ats : List Atom} {k : Nat} (h : k < ats.length) : nfasM (ats.take (k + 1)) = nfasM (ats.take k) ++ [(tnR (ats[k]?.getD default).path).1] := by
  unfold nfasM
  rw [← List.take_append_getElem h, List.map_append, List.getElem?_eq_getElem h]; rfl
theorem nfas_len (ats : List Atom) : (nfasM ats).length = ats.length := List.length_map ..
theorem nfas_at {ats : List Atom} {k : Nat} (h : k < ats.length) : (nfasM ats)[k]?.getD default = (tnR (ats[k]?.getD default).path).1 := by
  unfold nfasM
  rw [List.getElem?_map, List.getElem?_eq_getElem h]; rfl
theorem nfa_text (t : ByteArray) : (nfaR (rpPath t)).1 = (tnR t).1 := by
  unfold tnR
  split
  · rfl
  rename_i h
  have h1 : readPath t = none := by simpa using h
  have h2 : rpPath t = ⟨[]⟩ := by unfold rpPath; rw [h1]; rfl
  rw [h2]; rfl
--@ct impl.automataOf new automataOf_ct _ $1 ?_ | %1 | obtain ⟨b#, c#, rfl, o#⟩ := o#
theorem automataOf_ct (l : List Value) (x : Query) (hx : gQuery.sz x ≤ 1048576) : Ct Tryz.prog 116 [.agg ⟨l⟩] [] (fun H => gQuery.rd H l x) (fun v A => ∃ b c, v = .slice b (nfasM x.atoms).length c ∧ (gSl 169 gNfa).ow [.slice b (nfasM x.atoms).length c] (nfasM x.atoms) A) := by
  refine Ct.intro0 G_ok Tryz.func116 rfl rfl rfl fun E H hp => ?_
  obtain ⟨b1p, c1p, b2p, c2p, b3p, c3p, rfl, h1p, h2p, h3p⟩ := gQuery_rd.1 hp
  have ez := gQuery_sz x
  have en2 := len_szL gAtom x.atoms
  refine VCnew.intro fun x0 => ?_
  apply loop_mod (α := (Nat) × (List Nfa) × (Hp) × (Option Addr) × (Nat)) G_ok [12, 13, 14, 5, 16, 17, 18, 15, 19, 20, 6, 7, 21, 22, 23, 24, 3, 25, 11] (fun z => [(11, .v (.int .i64 z.1)), (3, .v (.slice z.2.2.2.1 z.2.1.length z.2.2.2.2))]) (fun z => [{ id := x0, cs := [Value.bool x.each, Value.slice b1p x.out.length c1p, Value.slice b2p x.atoms.length c2p, Value.slice b3p x.filters.length c3p], ty := (39 : Nat) }]) (fun z => [z.2.2.1, H]) (fun z => x.atoms.length - z.1) (fun z => z.1 ≤ x.atoms.length ∧ z.2.1 = nfasM (x.atoms.take z.1) ∧ (gSl 169 gNfa).ow [.slice z.2.2.2.1 z.2.1.length z.2.2.2.2] z.2.1 z.2.2.1) ((0, [], [], _, 0))
  · repeat' (first | exact trivial | refine ⟨⟨_, rfl, by first | rfl | exact inc_eq _ (by omega) | (refine sl_eq ?_; simp; done), by first | exact trivial | simp [SV.ok]⟩, ?_⟩)
  · exact ⟨rfl, trivial⟩
  · try dsimp only
    exact ⟨Nat.zero_le _, rfl, sl_nil _ _ _⟩
  · exact .refl _
  rintro ⟨k, o, A, lb, lc⟩ hI
  obtain ⟨hk, ho, oA⟩ : k ≤ x.atoms.length ∧ o = nfasM (x.atoms.take k) ∧ (gSl 169 gNfa).ow [.slice lb o.length lc] o A := hI
  try dsimp only
  refine VCsplit.intro (fun q1 => ?_) (fun q1 => ?_)
  ·
    simp at q1
    have hol : o.length ≤ k := (by rw [ho, nfas_len, List.length_take]; omega)
    refine idx_rd h2p ?_ ?_ fun b2 o2 hb2 => ?_
    · omega
    · omega
    refine load_allN default (k) rfl h2p ?_ ?_ hb2 rfl (mem_at 1 rfl) fun l3 hl3 => ?_
    · omega
    · omega
    obtain ⟨rfl, w0x3, w1x3, w2x3⟩ := gAtom_rd.1 hl3
    refine VCnew.intro fun x4 => ?_
    refine call_new (nfaOfText_ct _ ?_) trivial ?_
    · exact Nat.le_trans (atoms_path hx (by omega)) (by decide)
    rintro v5 A5 o5
    obtain ⟨b5, c5, bb5, cc5, rfl, o5⟩ := o5
    refine VCnew.intro fun x6 => ?_
    refine VCnew.intro fun x7 => ?_
    refine gappend1 (g := gNfa) (T := (169 : TypeId)) G_ok A _ [H] ?_ oA ((by assumption)) (List.mem_of_getElem? (i := 0) rfl) rfl rfl rfl rfl rfl rfl rfl rfl ?_ fun b8 c8 A8 o8 => ?_
    · exact .le fun a => by (try simp only [setR, List.cons_append, List.nil_append]); simp only [List.flatten_append, List.flatten_cons, List.flatten_nil, List.count_append, List.count_nil, List.append_nil, List.nil_append]; omega
    · omega
    apply loop_stepA (k + 1, _, _, _, _)
    · exact .refl _
    · repeat' (first | exact trivial | refine ⟨⟨_, rfl, by first | rfl | exact inc_eq _ (by omega) | (refine sl_eq ?_; simp; done), by first | exact trivial | simp [SV.ok]⟩, ?_⟩)
    · exact ⟨rfl, trivial⟩
    · try dsimp only
      exact ⟨by omega, by rw [nfas_step (by omega), ← ho], by assumption⟩
    try dsimp only
    omega
  ·
    simp at q1
    (have hke : k = x.atoms.length := (by omega); subst hke; rw [List.take_length] at ho; subst ho; exact ⟨_, ⟨_, _, rfl, by assumption⟩, (.le fun a => by (try simp only [setR, List.cons_append, List.nil_append]); simp [List.count_cons, Blk.ent, idOf]; try omega)⟩)
--@ct spec.l20Nfas new l20Nfas_ct _ $1 ?_ | %1 | obtain ⟨b#, c#, rfl, o#⟩ := o#
theorem l20Nfas_ct (l : List Value) (x : Query) (hx : gQuery.sz x ≤ 1048576) : Ct Tryz.prog 106 [.agg ⟨l⟩] [] (fun H => gQuery.rd H l x) (fun v A => ∃ b c, v = .slice b (nfasM x.atoms).length c ∧ (gSl 169 gNfa).ow [.slice b (nfasM x.atoms).length c] (nfasM x.atoms) A) := by
  refine Ct.intro0 G_ok Tryz.func106 rfl rfl rfl fun E H hp => ?_
  obtain ⟨b1p, c1p, b2p, c2p, b3p, c3p, rfl, h1p, h2p, h3p⟩ := gQuery_rd.1 hp
  have ez := gQuery_sz x
  have en2 := len_szL gAtom x.atoms
  refine VCnew.intro fun x0 => ?_
  refine VCnew.intro fun x1 => ?_
  apply loop_mod (α := (Nat) × (List Nfa) × (Hp) × (Option Addr) × (Nat)) G_ok [10, 11, 12, 13, 14, 18, 19, 20, 21, 22, 23, 24, 17, 25, 26, 5, 6, 28, 29, 27, 30, 31, 7, 8, 32, 33, 34, 35, 3, 15, 16, 4] (fun z => [(4, .v (.int .i64 z.1)), (3, .v (.slice z.2.2.2.1 z.2.1.length z.2.2.2.2))]) (fun z => [{ id := x0, cs := [Value.bool x.each, Value.slice b1p x.out.length c1p, Value.slice b2p x.atoms.length c2p, Value.slice b3p x.filters.length c3p], ty := (39 : Nat) }]) (fun z => [z.2.2.1, H]) (fun z => x.atoms.length - z.1) (fun z => z.1 ≤ x.atoms.length ∧ z.2.1 = nfasM (x.atoms.take z.1) ∧ (gSl 169 gNfa).ow [.slice z.2.2.2.1 z.2.1.length z.2.2.2.2] z.2.1 z.2.2.1) ((0, [], [], _, 0))
  · repeat' (first | exact trivial | refine ⟨⟨_, rfl, by first | rfl | exact inc_eq _ (by omega) | (refine sl_eq ?_; simp; done), by first | exact trivial | simp [SV.ok]⟩, ?_⟩)
  · exact ⟨rfl, trivial⟩
  · try dsimp only
    exact ⟨Nat.zero_le _, rfl, sl_nil _ _ _⟩
  · exact .tl
  rintro ⟨k, o, A, lb, lc⟩ hI
  obtain ⟨hk, ho, oA⟩ : k ≤ x.atoms.length ∧ o = nfasM (x.atoms.take k) ∧ (gSl 169 gNfa).ow [.slice lb o.length lc] o A := hI
  try dsimp only
  refine VCsplit.intro (fun q2 => ?_) (fun q2 => ?_)
  ·
    simp at q2
    have hol : o.length ≤ k := (by rw [ho, nfas_len, List.length_take]; omega)
    refine idx_rd h2p ?_ ?_ fun b3 o3 hb3 => ?_
    · omega
    · omega
    refine load_partN default (k) 1 rfl h2p ?_ ?_ hb3 rfl (by decide) (mem_at 1 rfl) fun l4 hl4 => ?_
    · omega
    · omega
    obtain ⟨rfl, w0x4, w1x4, w2x4⟩ := gAtom_rd.1 hl4
    refine call_new (specReadPath_ct _ ?_) trivial ?_
    · exact Nat.le_trans (atoms_path hx (by omega)) (by decide)
    rintro v5 A5 o5
    obtain ⟨bP, cP, rfl, oP⟩ := o5
    refine VCnew.intro fun x6 => ?_
    refine call_new (specNfaOf_ct _ (rpPath (x.atoms[k]?.getD default).path)) (gPath_rd.2 ⟨_, _, rfl, Rp.mono _ (sub_hall (by simp)) (Gt.owrd _ oP)⟩) ?_
    rintro v7 A7 o7
    obtain ⟨bN, cN, bbN, ccN, rfl, oN⟩ := o7
    refine VCnew.intro fun x8 => ?_
    refine VCnew.intro fun x9 => ?_
    refine gappend1 (g := gNfa) (T := (169 : TypeId)) G_ok A _ [A5, H] ?_ oA ((by assumption)) (List.mem_of_getElem? (i := 0) rfl) rfl rfl rfl rfl rfl rfl rfl rfl ?_ fun b10 c10 A10 o10 => ?_
    · exact .le fun a => by (try simp only [setR, List.cons_append, List.nil_append]); simp only [List.flatten_append, List.flatten_cons, List.flatten_nil, List.count_append, List.count_nil, List.append_nil, List.nil_append]; omega
    · omega
    apply loop_stepA (k + 1, _, _, _, _)
    · exact .sub (by repeat (first | exact .slnil | apply List.Sublist.cons_cons | apply List.Sublist.cons))
    · repeat' (first | exact trivial | refine ⟨⟨_, rfl, by first | rfl | exact inc_eq _ (by omega) | (refine sl_eq ?_; simp; done), by first | exact trivial | simp [SV.ok]⟩, ?_⟩)
    · exact ⟨rfl, trivial⟩
    · try dsimp only
      exact ⟨by omega, by rw [nfas_step (by omega), ← ho, nfa_text], by assumption⟩
    try dsimp only
    omega
  ·
    simp at q2
    (have hke : k = x.atoms.length := (by omega); subst hke; rw [List.take_length] at ho; subst ho; exact ⟨_, ⟨_, _, rfl, by assumption⟩, (.le fun a => by (try simp only [setR, List.cons_append, List.nil_append]); simp [List.count_cons, Blk.ent, idOf]; try omega)⟩)

attribute [local irreducible] nfaOf queryM namesM
theorem go_bad {ps : List Piece} (hps : PsOk ps) (h : 1 ≤ ps.length) (hg : nfaGo ps = true) : badM (topL ps).1 = false := by
  cases hb : badM (topL ps).1 with
  | false => rfl
  | true => rw [top_bad hps h hb] at hg; cases hg
theorem nfaR_ok {x : Path} (h : (nfaR x).2 = true) : nfaOk (nfaR x).1 = true := by
  by_cases hc : pathOk x = true ∧ nfaGo x.pieces = true
  · rw [nfaR_yes hc.1 hc.2]
    obtain ⟨h1, _, h2⟩ := path_all hc.1
    obtain ⟨_, h3, h4, h5, h6, _⟩ := top_good h2 h1 (go_bad h2 h1 hc.2)
    show nfaOk (nfaOf x.pieces) = true
    rw [nfa_spec h6]
    exact nfa_spec_ok h3 h4 h5
  unfold nfaR at h
  rw [if_neg hc] at h; cases h
theorem tnR_ok {t : ByteArray} (h : (tnR t).2 = true) : nfaOk (tnR t).1 = true := by
  unfold tnR at h ⊢
  split at h
  · rename_i h1; rw [if_pos h1]; exact nfaR_ok h
  cases h
theorem q_atoms {x : Query} (h : queryM x = true) {k : Nat} (hk : k < x.atoms.length) : atomM (x.atoms[k]?.getD default) = true := by
  by_cases hq : queryP x
  · exact hq.2.1 k hk
  rw [q_no hq] at h; cases h
theorem nfas_ok {x : Query} (h : queryM x = true) {k : Nat} (hk : k < x.atoms.length) : nfaOk ((nfasM x.atoms)[k]?.getD default) = true := by
  rw [nfas_at hk]
  have h1 := q_atoms h hk
  unfold atomM at h1
  rw [Bool.and_eq_true, Bool.and_eq_true] at h1
  exact tnR_ok h1.2.2
end Go.Proofs.YtjgehblllhkdbaaGreat

namespace Go.Proofs.YtjgehblllhkdbaaGreat
open Go.SX Go.Proofs
set_option linter.unusedSimpArgs false
set_option linter.unusedVariables false
set_option maxHeartbeats 4000000
attribute [local irreducible] IntKind.wrap
theorem g_parts {g : Graph} (h : graphOk g = true) : (1 ≤ g.size ∧ g.size ≤ 12) ∧ g.edges.length ≤ 40 ∧ EdgeR g.size.toNat g.edges := by
  unfold graphOk at h
  rw [Bool.and_eq_true, Bool.and_eq_true, inR_iff, decide_eq_true_iff] at h
  refine ⟨h.1, h.2.1, fun e he => ?_⟩
  obtain ⟨i, hi, rfl⟩ := List.getElem_of_mem he
  have h1 := (edgeOk_iff.1 (allOk_iff.1 h.2.2 i hi)).1
  rw [List.getElem?_eq_getElem hi] at h1
  have h2 : eOk g.size (g.edges[i]'hi) = true := h1
  unfold eOk at h2
  simp only [Bool.and_eq_true, inR_iff] at h2
  omega
theorem a_parts {a : Nfa} (h : nfaOk a = true) : (1 ≤ a.states ∧ a.states ≤ 24) ∧ ArcR a.states.toNat a.arcs := by
  unfold nfaOk at h
  rw [Bool.and_eq_true, Bool.and_eq_true, inR_iff, decide_eq_true_iff] at h
  refine ⟨h.1, fun x hx => ?_⟩
  obtain ⟨i, hi, rfl⟩ := List.getElem_of_mem hx
  have h1 := allK_at h.2.2 i hi
  unfold arcOk at h1
  simp only [Bool.and_eq_true, inR_iff, List.getElem?_eq_getElem hi, Option.getD_some] at h1
  omega
theorem bit_atI {s : Nat} {t : Int} (hs : s < 4294967296) (ht : 0 ≤ t ∧ t < 32) : IntKind.u32.wrap (((BitVec.ofInt IntKind.u32.bits (((s : Nat) : Int).fdiv (2 ^ min (IntKind.u64.wrap t).toNat IntKind.u32.bits)) &&& BitVec.ofInt IntKind.u32.bits 1).toNat : Nat) : Int) = if s.testBit t.toNat = true then 1 else 0 := by
  obtain ⟨k, rfl⟩ : ∃ k : Nat, t = k := ⟨t.toNat, by omega⟩
  rw [Int.toNat_natCast]
  exact bit_at hs (by omega)
theorem bit_or {m : Nat} {t : Int} (hm : m < 4294967296) (ht : 0 ≤ t ∧ t < 24) : IntKind.u32.wrap (((BitVec.ofInt IntKind.u32.bits ((m : Nat) : Int) ||| BitVec.ofInt IntKind.u32.bits (IntKind.u32.wrap (1 * 2 ^ min (IntKind.u64.wrap t).toNat IntKind.u32.bits))).toNat : Nat) : Int) = ((m ||| 2 ^ t.toNat : Nat) : Int) := by
  obtain ⟨k, rfl⟩ : ∃ k : Nat, t = k := ⟨t.toNat, by omega⟩
  have e1 : (IntKind.u64.wrap (k : Int)).toNat = k := by rw [w64u]; omega
  have e2 : (1 : Int) * 2 ^ min k IntKind.u32.bits = ((2 ^ k : Nat) : Int) := by
    rw [show min k IntKind.u32.bits = k from Nat.min_eq_left (by show k ≤ 32; omega), Int.one_mul]; push_cast; rfl
  have h2 : 2 ^ k < 4294967296 := Nat.pow_lt_pow_right (a := 2) (by omega) (show k < 32 by omega)
  have e3 : IntKind.u32.wrap ((2 ^ k : Nat) : Int) = ((2 ^ k : Nat) : Int) := by rw [u32_wrap]; generalize 2 ^ k = z at *; omega
  rw [e1, e2, Int.toNat_natCast, e3]
  exact or_u32 hm h2
theorem arc_rng {k i : Nat} {ar : List Arc} (hA : ArcR k ar) (hi : i < ar.length) : (0 ≤ (ar[i]?.getD default).from' ∧ (ar[i]?.getD default).from' < k) ∧ 0 ≤ (ar[i]?.getD default).to ∧ (ar[i]?.getD default).to < k := by
  rw [List.getElem?_eq_getElem hi]
  have := hA _ (List.getElem_mem hi)
  exact ⟨⟨this.1, this.2.1⟩, this.2.2.1, this.2.2.2⟩
theorem arc_take {k i : Nat} {ar : List Arc} (hA : ArcR k ar) : ArcR k (ar.take i) := fun x hx => hA x (List.mem_of_mem_take hx)
theorem mv_yes {ar : List Arc} {set m i : Nat} {lb : UInt8} (hi : i < ar.length) (hm : m = moveN (ar.take i) set lb) (h1 : (ar[i]?.getD default).label = lb) (h2 : set.testBit (ar[i]?.getD default).from'.toNat = true) : m ||| 2 ^ (ar[i]?.getD default).to.toNat = moveN (ar.take (i + 1)) set lb := by
  rw [moveN_step hi, ← hm]; unfold moveF; rw [if_pos ⟨h1, h2⟩]
theorem mv_no1 {ar : List Arc} {set m i : Nat} {lb : UInt8} (hi : i < ar.length) (hm : m = moveN (ar.take i) set lb) (h1 : ¬ (ar[i]?.getD default).label = lb) : m = moveN (ar.take (i + 1)) set lb := by
  rw [moveN_step hi, ← hm]; unfold moveF; rw [if_neg fun h => h1 h.1]
theorem mv_no2 {ar : List Arc} {set m i : Nat} {lb : UInt8} (hi : i < ar.length) (hm : m = moveN (ar.take i) set lb) (h2 : ¬ set.testBit (ar[i]?.getD default).from'.toNat = true) : m = moveN (ar.take (i + 1)) set lb := by
  rw [moveN_step hi, ← hm]; unfold moveF; rw [if_neg fun h => h2 h.2]
--@ct (impl.Nfa).move val move_ct _ $1 _ _ _ ?_ ?_ ?_ | %1
theorem move_ct (la : List Value) (a : Nfa) (set : Nat) (lb : UInt8) (k : Nat) (hA : ArcR k a.arcs) (hk : k ≤ 24) (hs : set < 4294967296) :
    Ct Tryz.prog 284 [.agg ⟨la⟩, .int .u32 (set : Int), .int .u8 (lb.toNat : Int)] [] (fun H => gNfa.rd H la a) (fun v A => v = .int .u32 ((moveN a.arcs set lb : Nat) : Int) ∧ A = []) := by
  refine Ct.intro0 G_ok Tryz.func284 rfl rfl rfl fun E H hp => ?_
  obtain ⟨b1a, c1a, b2a, c2a, rfl, w0a, h1a, h2a⟩ := gNfa_rd.1 hp
  have hla := (sl_len h1a).2.2
  refine VCnew.intro fun x0 => ?_
  apply loop_mod (α := (Nat) × (Nat)) G_ok [14, 15, 16, 9, 17, 18, 19, 20, 21, 22, 23, 24, 25, 26, 27, 28, 29, 30, 31, 32, 33, 34, 35, 7, 36, 13] (fun z => [(13, .v (.int .i64 z.1)), (7, .v (.int .u32 (z.2 : Int)))]) (fun z => [{ id := x0, cs := [Value.int IntKind.i64 a.states, Value.slice b1a a.arcs.length c1a, Value.slice b2a a.ends.length c2a], ty := (169 : Nat) }]) (fun z => [H]) (fun z => a.arcs.length - z.1) (fun z => z.1 ≤ a.arcs.length ∧ z.2 = moveN (a.arcs.take z.1) set lb) ((0, 0))
  · repeat' (first | exact trivial | refine ⟨⟨_, rfl, by first | rfl | exact inc_eq _ (by omega) | (refine sl_eq ?_; simp; done) | exact congrArg (Value.int .u32) (bit_or hm32 (by omega)), by first | exact trivial | simp [SV.ok]⟩, ?_⟩)
  · exact ⟨rfl, trivial⟩
  · try dsimp only
    exact ⟨Nat.zero_le _, rfl⟩
  · exact .refl _
  rintro ⟨i, m⟩ hI
  obtain ⟨hi, hm⟩ : i ≤ a.arcs.length ∧ m = moveN (a.arcs.take i) set lb := hI
  try dsimp only
  refine VCsplit.intro (fun q1 => ?_) (fun q1 => ?_)
  ·
    simp at q1
    have hrg := arc_rng hA (i := i) (by omega)
    have hm32 : m < 4294967296 := Nat.lt_of_lt_of_le (hm ▸ moveN_lt (arc_take hA)) (Nat.pow_le_pow_right (n := 2) (by omega) (show k ≤ 32 by omega))
    refine idx_rd h1a ?_ ?_ fun b2 o2 hb2 => ?_
    · omega
    · omega
    refine load_allN default (i) rfl h1a ?_ ?_ hb2 rfl (mem_at 0 rfl) fun l3 hl3 => ?_
    · omega
    · omega
    obtain ⟨rfl, w0x3, w2x3⟩ := gArc_rd.1 hl3
    refine VCnew.intro fun x4 => ?_
    refine VCsplit.intro (fun q5 => ?_) (fun q5 => ?_)
    ·
      simp at q5
      simp only [str_inj, u8_inj, u8_wrap] at q5
      refine VC.intro ?_ ?_
      · (rw [w64u]; omega)
      refine VCsplit.intro (fun q6 => ?_) (fun q6 => ?_)
      ·
        rw [bit_atI hs (by omega)] at q6
        simp at q6
        refine VC.intro ?_ ?_
        · (rw [w64u]; omega)
        apply loop_stepA (i + 1, m ||| 2 ^ (a.arcs[i]?.getD default).to.toNat)
        · exact .refl _
        · repeat' (first | exact trivial | refine ⟨⟨_, rfl, by first | rfl | exact inc_eq _ (by omega) | (refine sl_eq ?_; simp; done) | exact congrArg (Value.int .u32) (bit_or hm32 (by omega)), by first | exact trivial | simp [SV.ok]⟩, ?_⟩)
        · exact ⟨rfl, trivial⟩
        · try dsimp only
          exact ⟨by omega, mv_yes (by omega) hm (by assumption) (by simpa using (by assumption))⟩
        try dsimp only
        omega
      ·
        rw [bit_atI hs (by omega)] at q6
        simp at q6
        apply loop_stepA (i + 1, m)
        · exact .refl _
        · repeat' (first | exact trivial | refine ⟨⟨_, rfl, by first | rfl | exact inc_eq _ (by omega) | (refine sl_eq ?_; simp; done) | exact congrArg (Value.int .u32) (bit_or hm32 (by omega)), by first | exact trivial | simp [SV.ok]⟩, ?_⟩)
        · exact ⟨rfl, trivial⟩
        · try dsimp only
          exact ⟨by omega, mv_no2 (by omega) hm (by simpa using (by assumption))⟩
        try dsimp only
        omega
    ·
      simp at q5
      simp only [str_inj, u8_inj, u8_wrap] at q5
      apply loop_stepA (i + 1, m)
      · exact .refl _
      · repeat' (first | exact trivial | refine ⟨⟨_, rfl, by first | rfl | exact inc_eq _ (by omega) | (refine sl_eq ?_; simp; done) | exact congrArg (Value.int .u32) (bit_or hm32 (by omega)), by first | exact trivial | simp [SV.ok]⟩, ?_⟩)
      · exact ⟨rfl, trivial⟩
      · try dsimp only
        exact ⟨by omega, mv_no1 (by omega) hm (by assumption)⟩
      try dsimp only
      omega
  ·
    simp at q1
    (have hie : i = a.arcs.length := (by omega); subst hie; rw [List.take_length] at hm; subst hm; exact ⟨[], ⟨rfl, rfl⟩, .mem (by simp)⟩)
theorem edge_rng {n i : Nat} {es : List Edge} (hE : EdgeR n es) (hi : i < es.length) : 0 ≤ (es[i]?.getD default).from' ∧ (es[i]?.getD default).from' < n ∧ 0 ≤ (es[i]?.getD default).to ∧ (es[i]?.getD default).to < n := by
  rw [List.getElem?_eq_getElem hi]
  exact hE _ (List.getElem_mem hi)
theorem andnot_zero {a b : Nat} (ha : a < 4294967296) (hb : b < 4294967296) : IntKind.u32.wrap (((BitVec.ofInt IntKind.u32.bits ((a : Nat) : Int) &&& ~~~ BitVec.ofInt IntKind.u32.bits ((b : Nat) : Int)).toNat : Nat) : Int) = 0 ↔ ∀ t, a.testBit t = true → b.testBit t = true := by
  show IntKind.u32.wrap (((BitVec.ofInt 32 (a : Int) &&& ~~~ BitVec.ofInt 32 (b : Int)).toNat : Nat) : Int) = 0 ↔ _
  rw [show BitVec.ofInt 32 (a : Int) = BitVec.ofNat 32 a by simp, show BitVec.ofInt 32 (b : Int) = BitVec.ofNat 32 b by simp]
  have hlt := (BitVec.ofNat 32 a &&& ~~~ BitVec.ofNat 32 b).isLt
  have e : IntKind.u32.wrap (((BitVec.ofNat 32 a &&& ~~~ BitVec.ofNat 32 b).toNat : Nat) : Int) = (((BitVec.ofNat 32 a &&& ~~~ BitVec.ofNat 32 b).toNat : Nat) : Int) := by
    rw [u32_wrap]; omega
  rw [e]
  constructor
  · intro h t ht
    have h0 : (BitVec.ofNat 32 a &&& ~~~ BitVec.ofNat 32 b) = 0#32 := BitVec.eq_of_toNat_eq (by rw [show (BitVec.ofNat 32 a &&& ~~~ BitVec.ofNat 32 b).toNat = 0 by omega]; rfl)
    have ht32 : t < 32 := by
      rcases Nat.lt_or_ge t 32 with h1 | h1
      · exact h1
      rw [Nat.testBit_lt_two_pow (Nat.lt_of_lt_of_le (show a < 2 ^ 32 from ha) (Nat.pow_le_pow_right (by omega) h1))] at ht; cases ht
    have h1 := congrArg (fun z => BitVec.getLsbD z t) h0
    simp only [BitVec.getLsbD_and, BitVec.getLsbD_not, BitVec.getLsbD_ofNat, ht32, decide_true, Bool.true_and, ht] at h1
    simpa using h1
  intro h
  have h0 : (BitVec.ofNat 32 a &&& ~~~ BitVec.ofNat 32 b) = 0#32 := by
    apply BitVec.eq_of_getLsbD_eq
    intro t ht
    simp only [BitVec.getLsbD_and, BitVec.getLsbD_not, BitVec.getLsbD_ofNat, ht, decide_true, Bool.true_and, BitVec.getLsbD_zero]
    cases h2 : a.testBit t with
    | false => simp
    | true => rw [h t h2]; simp
  rw [h0]; simp [u32_wrap]
structure Rnd (es : List Edge) (ar : List Arc) (src n k : Nat) (ats : List Nat) (i : Nat) (ag : Bool) (at1 : List Nat) : Prop where
  fix : Fix es ar src n k at1
  same : ag = false → at1 = ats ∧ ∀ j, j < i → Held ar at1 (es[j]?.getD default)
  more : ag = true → sumN ats < sumN at1
theorem rnd_init {es : List Edge} {ar : List Arc} {src n k : Nat} {ats : List Nat} (h : Fix es ar src n k ats) : Rnd es ar src n k ats 0 false ats :=
  ⟨h, fun _ => ⟨rfl, fun j hj => absurd hj (by omega)⟩, fun h => by cases h⟩
theorem fix_lt {es : List Edge} {ar : List Arc} {src n k : Nat} {ats : List Nat} (h : Fix es ar src n k ats) (hk : k ≤ 24) (v : Nat) : (ats[v]?.getD 0) < 4294967296 := Nat.lt_of_lt_of_le (h.small v) (Nat.pow_le_pow_right (n := 2) (by omega) (show k ≤ 32 by omega))
theorem rnd_hold {es : List Edge} {ar : List Arc} {src n k : Nat} {ats at1 : List Nat} {i : Nat} {ag : Bool} (h : Rnd es ar src n k ats i ag at1) (h2 : Held ar at1 (es[i]?.getD default)) : Rnd es ar src n k ats (i + 1) ag at1 :=
  ⟨h.fix, fun e => ⟨(h.same e).1, fun j hj => by
    rcases (by omega : j < i ∨ j = i) with h3 | rfl
    · exact (h.same e).2 j h3
    exact h2⟩, h.more⟩
theorem not_held {ar : List Arc} {at1 : List Nat} {e : Edge} (h : ¬ Held ar at1 e) : ∃ t, (moveN ar (at1[e.from'.toNat]?.getD 0) e.label).testBit t = true ∧ bitAt at1 e.to t = false := by
  refine Classical.byContradiction fun hn => h fun t ht => ?_
  cases hb : bitAt at1 e.to t with
  | true => rfl
  | false => exact absurd ⟨t, ht, hb⟩ hn
theorem rnd_more {es : List Edge} {ar : List Arc} {src n k : Nat} {ats at1 : List Nat} {i : Nat} {ag : Bool} (hE : EdgeR n es) (hA : ArcR k ar) (h : Rnd es ar src n k ats i ag at1) (hi : i < es.length) (h2 : ¬ Held ar at1 (es[i]?.getD default)) :
    Rnd es ar src n k ats (i + 1) true (at1.set (es[i]?.getD default).to.toNat ((at1[(es[i]?.getD default).to.toNat]?.getD 0) ||| moveN ar (at1[(es[i]?.getD default).from'.toNat]?.getD 0) (es[i]?.getD default).label)) := by
  obtain ⟨t, ht, hb⟩ := not_held h2
  have hem : (es[i]?.getD default) ∈ es := by rw [List.getElem?_eq_getElem hi]; exact List.getElem_mem hi
  obtain ⟨h3, h4⟩ := fix_more hE hA h.fix hem ht hb
  refine ⟨h3, fun e => (by cases e), fun _ => ?_⟩
  cases ag with
  | true => exact Nat.lt_trans (h.more rfl) h4
  | false => rw [← (h.same rfl).1]; exact h4
open Classical in
noncomputable def subB (a b : Nat) : Bool := decide (∀ t, a.testBit t = true → b.testBit t = true)
open Classical in
theorem andnot_bne {a b : Nat} (ha : a < 4294967296) (hb : b < 4294967296) : (IntKind.u32.wrap (((BitVec.ofInt IntKind.u32.bits ((a : Nat) : Int) &&& ~~~ BitVec.ofInt IntKind.u32.bits ((b : Nat) : Int)).toNat : Nat) : Int) != 0) = !subB a b := by
  unfold subB
  by_cases h : ∀ t, a.testBit t = true → b.testBit t = true
  · rw [(andnot_zero ha hb).2 h, decide_eq_true h]; rfl
  rw [decide_eq_false h]
  have h1 := mt (andnot_zero ha hb).1 h
  rw [bne_iff_ne.2 h1]; rfl
open Classical in
theorem held_sub1 {ar : List Arc} {at1 : List Nat} {e : Edge} (h : subB (moveN ar (at1[e.from'.toNat]?.getD 0) e.label) (at1[e.to.toNat]?.getD 0) = true) : Held ar at1 e := of_decide_eq_true h
open Classical in
theorem held_sub0 {ar : List Arc} {at1 : List Nat} {e : Edge} (h : subB (moveN ar (at1[e.from'.toNat]?.getD 0) e.label) (at1[e.to.toNat]?.getD 0) = false) : ¬ Held ar at1 e := of_decide_eq_false h
theorem or_rng {a b : Nat} (ha : a < 4294967296) (hb : b < 4294967296) : 0 ≤ IntKind.u32.wrap (((BitVec.ofInt IntKind.u32.bits ((a : Nat) : Int) ||| BitVec.ofInt IntKind.u32.bits ((b : Nat) : Int)).toNat : Nat) : Int) ∧ IntKind.u32.wrap (((BitVec.ofInt IntKind.u32.bits ((a : Nat) : Int) ||| BitVec.ofInt IntKind.u32.bits ((b : Nat) : Int)).toNat : Nat) : Int) < 4294967296 := by
  rw [or_u32 ha hb]
  have h9 := Nat.or_lt_two_pow (n := 32) ha hb
  omega
theorem or_nat {a b : Nat} (ha : a < 4294967296) (hb : b < 4294967296) : (IntKind.u32.wrap (((BitVec.ofInt IntKind.u32.bits ((a : Nat) : Int) ||| BitVec.ofInt IntKind.u32.bits ((b : Nat) : Int)).toNat : Nat) : Int)).toNat = a ||| b := by
  rw [or_u32 ha hb, Int.toNat_natCast]
theorem set_ow {T : TypeId} {s : Value} {at1 : List Nat} {i y z : Nat} {A : Hp} (o : (gSl T gU).ow [s] (at1.set i y) A) (h : y = z) : (gSl T gU).ow [s] (at1.set i z) A := h ▸ o
theorem fix_sum {es : List Edge} {ar : List Arc} {src n k : Nat} {ats : List Nat} (h : Fix es ar src n k ats) : sumN ats ≤ n * 2 ^ k := by
  have := sumN_le h.small
  rw [h.len] at this; exact this
def mz (M : Nat) (ag : Bool) (ats : List Nat) : Nat := 2 * (M - sumN ats) + (if ag then 1 else 0)
theorem rnd_var {es : List Edge} {ar : List Arc} {src n k : Nat} {ats at1 : List Nat} {i : Nat} {ag : Bool} (h : Rnd es ar src n k ats i ag at1) : mz (n * 2 ^ k) ag at1 < mz (n * 2 ^ k) true ats := by
  have h1 := fix_sum h.fix
  unfold mz
  cases ag with
  | true =>
    have := h.more rfl
    simp only [if_true]
    omega
  | false =>
    rw [(h.same rfl).1]
    simp
theorem statesAt_ct (lg la : List Value) (g : Graph) (a : Nfa) (src : Int) (hg : graphOk g = true) (ha : nfaOk a = true) (hs : 0 ≤ src ∧ src < g.size) :
    Ct Tryz.prog 206 [.agg ⟨lg⟩, .agg ⟨la⟩, .int .i64 src] [] (fun H => gGraph.rd H lg g ∧ gNfa.rd H la a)
      (fun v A => ∃ b c ats, v = .slice b ats.length c ∧ (gSl 274 gU).ow [.slice b ats.length c] ats A ∧ Fix g.edges a.arcs src.toNat g.size.toNat a.states.toNat ats ∧ ∀ i, i < g.edges.length → Held a.arcs ats (g.edges[i]?.getD default)) := by
  refine Ct.intro0 G_ok Tryz.func206 rfl rfl rfl fun E H hp => ?_
  obtain ⟨hp, hq⟩ := hp
  obtain ⟨b1g, c1g, rfl, w0g, h1g⟩ := gGraph_rd.1 hp
  obtain ⟨b1a, c1a, b2a, c2a, rfl, w0a, h1a, h2a⟩ := gNfa_rd.1 hq
  obtain ⟨hg1, hg2, hE⟩ := g_parts hg
  obtain ⟨ha1, hA⟩ := a_parts ha
  obtain ⟨n, hn⟩ : ∃ n : Nat, g.size.toNat = n := ⟨_, rfl⟩
  obtain ⟨k, hk⟩ : ∃ k : Nat, a.states.toNat = k := ⟨_, rfl⟩
  obtain ⟨s0, hs0⟩ : ∃ s0 : Nat, src.toNat = s0 := ⟨_, rfl⟩
  rw [hn] at hE
  rw [hk] at hA
  rw [hn, hk, hs0]
  have en : g.size = (n : Int) := by omega
  have ek : a.states = (k : Int) := by omega
  have es : src = (s0 : Int) := by omega
  refine VCnew.intro fun x0 => ?_
  refine VCnew.intro fun x1 => ?_
  refine VCmake.intro ?_ ?_ ?_ ?_ fun x2 => ?_
  · omega
  · omega
  · omega
  · omega
  have o2 := gmake (g := gU) (T := 274) (z := 0) (lz := [.int .u32 0]) (b := x2) (k := g.size.toNat) (c := g.size.toNat) (gU_ow (x := 0) (by decide)) (Nat.le_refl _) (by omega)
  refine idx_rd (Gt.owrd _ o2) ?_ ?_ fun b3 o3 hb3 => ?_
  · omega
  · simp; omega
  refine gstoreN (Fld.id _) default (Int.toNat (src)) 0 rfl (Int.toNat_of_nonneg ?_).symm o2 ?_ ?_ hb3 rfl gU_pl _ (gU_st ?_) fun A4 o4 => ?_
  · omega
  · omega
  · simp; omega
  · trivial
  apply loop_mod (α := (Bool) × (List Nat) × (Hp)) G_ok [18, 8, 19, 20, 21, 22, 23, 24, 25, 10, 26, 27, 28, 29, 30, 31, 32, 33, 34, 11, 35, 36, 37, 38, 39, 40, 41, 42, 43, 44, 45, 46, 47, 48, 49, 50, 51] (fun z => [(8, .v (.bool z.1))]) (fun z => [{ id := x0, cs := [Value.int IntKind.i64 g.size, Value.slice b1g g.edges.length c1g], ty := (88 : Nat) }, { id := x1, cs := [Value.int IntKind.i64 a.states, Value.slice b1a a.arcs.length c1a, Value.slice b2a a.ends.length c2a], ty := (169 : Nat) }]) (fun z => [z.2.2, H]) (fun z => mz (n * 2 ^ k) z.1 z.2.1) (fun z => Fix g.edges a.arcs s0 n k z.2.1 ∧ (z.1 = false → ∀ i, i < g.edges.length → Held a.arcs z.2.1 (g.edges[i]?.getD default)) ∧ (gSl 274 gU).ow [.slice (some ⟨x2, 0, none⟩) g.size.toNat g.size.toNat] z.2.1 z.2.2) ((true, (List.replicate g.size.toNat 0).set src.toNat 1, A4))
  · repeat' (first | exact trivial | refine ⟨⟨_, rfl, by first | rfl | exact inc_eq _ (by omega) | (refine sl_eq ?_; simp; done), by first | exact trivial | simp [SV.ok]⟩, ?_⟩)
  · exact ⟨rfl, rfl, trivial⟩
  · try dsimp only
    exact ⟨by rw [hn, hs0]; exact fix_init (by omega) (by omega), fun h => (by cases h), by assumption⟩
  · exact .refl _
  rintro ⟨ag, ats, W⟩ hI
  obtain ⟨hF, hH, oW⟩ : Fix g.edges a.arcs s0 n k ats ∧ (ag = false → ∀ i, i < g.edges.length → Held a.arcs ats (g.edges[i]?.getD default)) ∧ (gSl 274 gU).ow [.slice (some ⟨x2, 0, none⟩) g.size.toNat g.size.toNat] ats W := hI
  try dsimp only
  refine VCsplit.intro (fun q5 => ?_) (fun q5 => ?_)
  ·
    have hag : ag = true := (by assumption)
    subst hag
    apply loop_mod (α := (Nat) × (Bool) × (List Nat) × (Hp)) G_ok [23, 24, 25, 10, 26, 27, 28, 29, 30, 31, 32, 33, 34, 11, 35, 36, 37, 38, 39, 40, 41, 42, 43, 44, 45, 46, 47, 48, 49, 50, 8, 51, 22] (fun z => [(22, .v (.int .i64 z.1)), (8, .v (.bool z.2.1))]) (fun z => [{ id := x0, cs := [Value.int IntKind.i64 g.size, Value.slice b1g g.edges.length c1g], ty := (88 : Nat) }, { id := x1, cs := [Value.int IntKind.i64 a.states, Value.slice b1a a.arcs.length c1a, Value.slice b2a a.ends.length c2a], ty := (169 : Nat) }]) (fun z => [z.2.2.2, H]) (fun z => g.edges.length - z.1) (fun z => z.1 ≤ g.edges.length ∧ Rnd g.edges a.arcs s0 n k ats z.1 z.2.1 z.2.2.1 ∧ (gSl 274 gU).ow [.slice (some ⟨x2, 0, none⟩) g.size.toNat g.size.toNat] z.2.2.1 z.2.2.2) ((0, false, ats, W))
    · repeat' (first | exact trivial | refine ⟨⟨_, rfl, by first | rfl | exact inc_eq _ (by omega) | (refine sl_eq ?_; simp; done), by first | exact trivial | simp [SV.ok]⟩, ?_⟩)
    · exact ⟨rfl, rfl, trivial⟩
    · try dsimp only
      exact ⟨Nat.zero_le _, rnd_init hF, oW⟩
    · exact .refl _
    rintro ⟨i, ag1, at1, W⟩ hI
    obtain ⟨hi, hR, oW1⟩ : i ≤ g.edges.length ∧ Rnd g.edges a.arcs s0 n k ats i ag1 at1 ∧ (gSl 274 gU).ow [.slice (some ⟨x2, 0, none⟩) g.size.toNat g.size.toNat] at1 W := hI
    try dsimp only
    refine VCsplit.intro (fun q6 => ?_) (fun q6 => ?_)
    ·
      simp at q6
      have hre := edge_rng hE (i := i) (by omega)
      have hl1 := hR.fix.len
      have hx32 := fix_lt hR.fix (by omega) ((g.edges[i]?.getD default).from'.toNat)
      have hy32 : (at1[(g.edges[i]?.getD default).to.toNat]?.getD default) < 4294967296 := fix_lt hR.fix (by omega) ((g.edges[i]?.getD default).to.toNat)
      have hm32 : moveN a.arcs (at1[(g.edges[i]?.getD default).from'.toNat]?.getD 0) (g.edges[i]?.getD default).label < 4294967296 := Nat.lt_of_lt_of_le (moveN_lt hA) (Nat.pow_le_pow_right (n := 2) (by omega) (show k ≤ 32 by omega))
      refine idx_rd h1g ?_ ?_ fun b7 o7 hb7 => ?_
      · omega
      · omega
      refine load_allN default (i) rfl h1g ?_ ?_ hb7 rfl (mem_at 1 rfl) fun l8 hl8 => ?_
      · omega
      · omega
      obtain ⟨rfl, w0x8, w2x8⟩ := gEdge_rd.1 hl8
      refine VCnew.intro fun x9 => ?_
      refine draw G_ok mixed none (.q 0 (.q 1 (.q 2 (.q 3 (.q 4 (.q 5 (.q 6 (.q 7 (.f 8 (.q 9 (.nil))))))))))) (by decide +kernel) ?_
      refine idx_rd (Gt.owrd _ oW1) ?_ ?_ fun b10 o10 hb10 => ?_
      · omega
      · omega
      refine load_all default (Gt.owrd _ oW1) ?_ ?_ hb10 rfl (mem_at 0 rfl) fun l11 hl11 => ?_
      · omega
      · omega
      obtain ⟨rfl, hw11⟩ := hl11; simp only [flU] at hw11
      refine call_val (move_ct _ a (at1[(g.edges[i]?.getD default).from'.toNat]?.getD 0) (g.edges[i]?.getD default).label k hA (by omega) hx32) (Rp.mono _ (mem_at 1 rfl) hq) ?_
      rintro _ rfl
      refine VC.intro ?_ ?_
      · exact fun _ h => h
      refine idx_rd (Gt.owrd _ oW1) ?_ ?_ fun b13 o13 hb13 => ?_
      · omega
      · omega
      refine load_all default (Gt.owrd _ oW1) ?_ ?_ hb13 rfl (mem_at 0 rfl) fun l14 hl14 => ?_
      · omega
      · omega
      obtain ⟨rfl, hw14⟩ := hl14; simp only [flU] at hw14
      refine VCsplit.intro (fun q15 => ?_) (fun q15 => ?_)
      ·
        rw [andnot_bne hm32 hy32] at q15
        simp at q15
        refine idx_rd (Gt.owrd _ oW1) ?_ ?_ fun b16 o16 hb16 => ?_
        · omega
        · omega
        refine load_all default (Gt.owrd _ oW1) ?_ ?_ hb16 rfl (mem_at 0 rfl) fun l17 hl17 => ?_
        · omega
        · omega
        obtain ⟨rfl, hw17⟩ := hl17; simp only [flU] at hw17
        refine idx_rd (Gt.owrd _ oW1) ?_ ?_ fun b18 o18 hb18 => ?_
        · omega
        · omega
        refine gstoreN (Fld.id _) default (Int.toNat ((g.edges[i]?.getD default).to)) 0 rfl (Int.toNat_of_nonneg ?_).symm oW1 ?_ ?_ hb18 rfl gU_pl _ (gU_st ?_) fun A19 o19 => ?_
        · omega
        · omega
        · omega
        · exact or_rng hy32 hm32
        apply loop_stepA (i + 1, true, at1.set (g.edges[i]?.getD default).to.toNat ((at1[(g.edges[i]?.getD default).to.toNat]?.getD 0) ||| moveN a.arcs (at1[(g.edges[i]?.getD default).from'.toNat]?.getD 0) (g.edges[i]?.getD default).label), _)
        · exact .refl _
        · repeat' (first | exact trivial | refine ⟨⟨_, rfl, by first | rfl | exact inc_eq _ (by omega) | (refine sl_eq ?_; simp; done), by first | exact trivial | simp [SV.ok]⟩, ?_⟩)
        · exact ⟨rfl, rfl, trivial⟩
        · try dsimp only
          exact ⟨by omega, rnd_more hE hA hR (by omega) (held_sub0 (by assumption)), set_ow (by assumption) (or_nat hy32 hm32)⟩
        try dsimp only
        omega
      ·
        rw [andnot_bne hm32 hy32] at q15
        simp at q15
        apply loop_stepA (i + 1, ag1, at1, W)
        · exact .refl _
        · repeat' (first | exact trivial | refine ⟨⟨_, rfl, by first | rfl | exact inc_eq _ (by omega) | (refine sl_eq ?_; simp; done), by first | exact trivial | simp [SV.ok]⟩, ?_⟩)
        · exact ⟨rfl, rfl, trivial⟩
        · try dsimp only
          exact ⟨by omega, rnd_hold hR (held_sub1 (by assumption)), oW1⟩
        try dsimp only
        omega
    ·
      simp at q6
      have hvar := rnd_var hR
      apply loop_stepA (ag1, at1, W)
      · exact .refl _
      · repeat' (first | exact trivial | refine ⟨⟨_, rfl, by first | rfl | exact inc_eq _ (by omega) | (refine sl_eq ?_; simp; done), by first | exact trivial | simp [SV.ok]⟩, ?_⟩)
      · exact ⟨rfl, rfl, trivial⟩
      · try dsimp only
        (have hie : i = g.edges.length := (by omega); subst hie; exact ⟨hR.fix, fun e => (hR.same e).2, oW1⟩)
      try dsimp only
      trivial
  ·
    (have hal : g.size.toNat = ats.length := (by rw [hF.len]; omega); rw [hal] at oW ⊢; exact ⟨W, ⟨_, _, ats, rfl, oW, hF, hH (by assumption)⟩, (.le fun a => by (try simp only [setR, List.cons_append, List.nil_append]); simp [List.count_cons, Blk.ent, idOf]; try omega)⟩)
end Go.Proofs.YtjgehblllhkdbaaGreat

namespace Go.Proofs.YtjgehblllhkdbaaGreat
open Go.SX Go.Proofs
set_option linter.unusedSimpArgs false
set_option linter.unusedVariables false
set_option maxHeartbeats 4000000
attribute [local irreducible] IntKind.wrap
theorem litI1_ow {x : Nat} {T : TypeId} {a : Int} (ha : okI a) : (gSl T gI).ow [.slice (some ⟨x, 0, none⟩) 1 1] [a] [(x, Obj.cells ⟨[.int .i64 a]⟩ T)] := by
  refine ow_fl (f := flInt) ⟨fun y hy => ?_, by simp, some ⟨x, 0, none⟩, 1, rfl, .inr ⟨x, [], rfl, rfl, Nat.le_refl _, Nat.zero_le _⟩⟩
  rw [List.mem_singleton.1 hy]; exact ha
theorem ls_cons {ls : List Int} (h : 0 < ls.length) : ∃ x l, ls = x :: l := by
  match ls, h with
  | x :: l, _ => exact ⟨x, l, rfl⟩
theorem tl_rd {L : Hp} {lb : Option Addr} {lc : Nat} {x : Int} {l : List Int} (o : (gSl 3 gI).ow [.slice lb (x :: l).length lc] (x :: l) L) : (gSl 3 gI).rd L [.slice (subBase lc (Int.toNat 1) lb ty3.size) ((x :: l).length - Int.toNat 1) (lc - Int.toNat 1)] l := by
  have h := rd_sub (r := gI.toRp) (l := Int.toNat 1) (h := (x :: l).length) (Gt.owrd _ o) (by show 1 ≤ l.length + 1; omega) (Nat.le_refl _) (by have := rd_cap (Gt.owrd _ o); omega)
  have e : ((x :: l).take (x :: l).length).drop (Int.toNat 1) = l := by rw [List.take_length]; rfl
  rw [e] at h; exact h
theorem div_nk {x s : Int} {k : Nat} (hx : 0 ≤ x) (hs : s = (k : Int)) (hk : 0 < k) (hb : x < 100000) : IntKind.i64.wrap (x.tdiv s) = ((x.toNat / k : Nat) : Int) ∧ x.tmod s = ((x.toNat % k : Nat) : Int) := by
  subst hs
  obtain ⟨y, rfl⟩ : ∃ y : Nat, x = y := ⟨x.toNat, by omega⟩
  rw [Int.toNat_natCast]
  have e1 : (y : Int).tdiv k = ((y / k : Nat) : Int) := Int.ofNat_tdiv ..
  have e2 : (y : Int).tmod k = ((y % k : Nat) : Int) := Int.ofNat_tmod ..
  have h9 := Nat.div_le_self y k
  rw [e1, e2]
  generalize y / k = d at *
  exact ⟨wrap_of (by omega) (by omega), rfl⟩
theorem next_nk {n k i j : Nat} {es : List Edge} {ar : List Arc} {s : Int} (hE : EdgeR n es) (hA : ArcR k ar) (hi : i < es.length) (hj : j < ar.length) (hs : s = (k : Int)) (hN : n * k ≤ 288) :
    IntKind.i64.wrap (IntKind.i64.wrap ((es[i]?.getD default).to * s) + (ar[j]?.getD default).to) = (es[i]?.getD default).to * k + (ar[j]?.getD default).to ∧ 0 ≤ (es[i]?.getD default).to * k + (ar[j]?.getD default).to ∧ (es[i]?.getD default).to * k + (ar[j]?.getD default).to < ((n * k : Nat) : Int) := by
  have hem : (es[i]?.getD default) ∈ es := by rw [List.getElem?_eq_getElem hi]; exact List.getElem_mem hi
  have ham : (ar[j]?.getD default) ∈ ar := by rw [List.getElem?_eq_getElem hj]; exact List.getElem_mem hj
  have hre := hE _ hem
  have hra := hA _ ham
  have hlt := nk_lt (n := n) (k := k) ⟨hre.2.2.1, hre.2.2.2⟩ ⟨hra.2.2.1, hra.2.2.2⟩
  subst hs
  generalize hu : (es[i]?.getD default).to * (k : Int) = u at *
  have hu0 : 0 ≤ u := by rw [← hu]; exact Int.mul_nonneg hre.2.2.1 (by omega)
  generalize n * k = N at *
  rw [wrap_of (x := u) (by omega) (by omega)]
  exact ⟨wrap_of (by omega) (by omega), hlt.1, by omega⟩
theorem sees_no {l : List Bool} {i : Nat} (h : l[i]?.getD false = false) : ¬ sees l i := fun h2 => by unfold sees at h2; rw [h] at h2; cases h2
theorem sees_yes {l : List Bool} {i : Nat} (h : l[i]?.getD false = true) : sees l i := h
theorem l07Reach_ct (lg la : List Value) (g : Graph) (a : Nfa) (src : Int) (hg : graphOk g = true) (ha : nfaOk a = true) (hs : 0 ≤ src ∧ src < g.size) :
    Ct Tryz.prog 109 [.agg ⟨lg⟩, .agg ⟨la⟩, .int .i64 src] [] (fun H => gGraph.rd H lg g ∧ gNfa.rd H la a)
      (fun v A => ∃ b c seen, v = .slice b seen.length c ∧ (gSl 4 gB).ow [.slice b seen.length c] seen A ∧ Bfs g.edges a.arcs src.toNat g.size.toNat a.states.toNat seen []) := by
  refine Ct.intro0 G_ok Tryz.func109 rfl rfl rfl fun E H hp => ?_
  obtain ⟨hp, hq⟩ := hp
  obtain ⟨b1g, c1g, rfl, w0g, h1g⟩ := gGraph_rd.1 hp
  obtain ⟨b1a, c1a, b2a, c2a, rfl, w0a, h1a, h2a⟩ := gNfa_rd.1 hq
  have har := (sl_len h1a).2.2
  obtain ⟨hg1, hg2, hE⟩ := g_parts hg
  obtain ⟨ha1, hA⟩ := a_parts ha
  obtain ⟨n, hn⟩ : ∃ n : Nat, g.size.toNat = n := ⟨_, rfl⟩
  obtain ⟨k, hk⟩ : ∃ k : Nat, a.states.toNat = k := ⟨_, rfl⟩
  obtain ⟨s0, hs0⟩ : ∃ s0 : Nat, src.toNat = s0 := ⟨_, rfl⟩
  rw [hn] at hE
  rw [hk] at hA
  rw [hn, hk, hs0]
  have en : g.size = (n : Int) := by omega
  have ek : a.states = (k : Int) := by omega
  have es : src = (s0 : Int) := by omega
  have hN : n * k ≤ 288 := Nat.mul_le_mul (show n ≤ 12 by omega) (show k ≤ 24 by omega)
  have hM : s0 * k < n * k := Nat.mul_lt_mul_of_pos_right (by omega) (by omega)
  have hnk : IntKind.i64.wrap (g.size * a.states) = ((n * k : Nat) : Int) := by rw [en, ek, ← Int.natCast_mul]; exact wrap_of (by omega) (by omega)
  have hsk : IntKind.i64.wrap (src * a.states) = ((s0 * k : Nat) : Int) := by rw [es, ek, ← Int.natCast_mul]; exact wrap_of (by omega) (by omega)
  refine VCnew.intro fun x0 => ?_
  refine VCnew.intro fun x1 => ?_
  refine VCmake.intro ?_ ?_ ?_ ?_ fun x2 => ?_
  · omega
  · omega
  · omega
  · omega
  have o2 := gmake (g := gB) (T := 4) (z := false) (lz := [.bool false]) (b := x2) (k := (IntKind.i64.wrap (g.size * a.states)).toNat) (c := (IntKind.i64.wrap (g.size * a.states)).toNat) (gB_ow (x := false) trivial) (Nat.le_refl _) (by rw [hnk]; omega)
  refine VCnew.intro fun x3 => ?_
  refine idx_rd (Gt.owrd _ o2) ?_ ?_ fun b4 o4 hb4 => ?_
  · omega
  · simp; omega
  refine gstoreN (Fld.id _) false (Int.toNat (IntKind.i64.wrap (src * a.states))) 1 rfl (Int.toNat_of_nonneg ?_).symm o2 ?_ ?_ hb4 rfl gB_pl _ (gB_ow trivial) fun A5 o5 => ?_
  · omega
  · omega
  · simp; omega
  apply loop_mod (α := (List Bool) × (List Int) × (Hp) × (Hp) × (Option Addr) × (Nat)) G_ok [33, 34, 35, 36, 37, 38, 39, 40, 41, 9, 42, 43, 44, 45, 46, 47, 10, 48, 49, 50, 51, 8, 11, 52, 53, 54, 55, 56, 59, 60, 61, 62, 63, 12, 13, 64, 65, 66, 67, 68, 69, 70, 71, 72, 73, 74, 77, 78, 79, 80, 81, 14, 82, 83, 84, 85, 86, 87, 88, 89, 15, 90, 91, 92, 93, 94, 95, 96, 97, 98, 99, 100, 101, 102, 103, 104, 105, 106, 107, 108, 109, 110, 111, 112, 113, 114, 75, 76, 57, 58] (fun z => [(8, .v (.slice z.2.2.2.2.1 z.2.1.length z.2.2.2.2.2))]) (fun z => [{ id := x0, cs := [Value.int IntKind.i64 g.size, Value.slice b1g g.edges.length c1g], ty := (88 : Nat) }, { id := x1, cs := [Value.int IntKind.i64 a.states, Value.slice b1a a.arcs.length c1a, Value.slice b2a a.ends.length c2a], ty := (169 : Nat) }]) (fun z => [z.2.2.2.1, z.2.2.1, H]) (fun z => 2 * numF z.1 + z.2.1.length) (fun z => Bfs g.edges a.arcs s0 n k z.1 z.2.1 ∧ (gSl 4 gB).ow [.slice (some ⟨x2, 0, none⟩) (IntKind.i64.wrap (g.size * a.states)).toNat (IntKind.i64.wrap (g.size * a.states)).toNat] z.1 z.2.2.1 ∧ (gSl 3 gI).ow [.slice z.2.2.2.2.1 z.2.1.length z.2.2.2.2.2] z.2.1 z.2.2.2.1) (((List.replicate (IntKind.i64.wrap (g.size * a.states)).toNat false).set (IntKind.i64.wrap (src * a.states)).toNat true, [IntKind.i64.wrap (src * a.states)], A5, [(x3, Obj.cells ⟨[.int .i64 (IntKind.i64.wrap (src * a.states))]⟩ 3)], some ⟨x3, 0, none⟩, 1))
  · repeat' (first | exact trivial | refine ⟨⟨_, rfl, by first | rfl | exact inc_eq _ (by omega) | (refine sl_eq ?_; simp; done), by first | exact trivial | simp [SV.ok]⟩, ?_⟩)
  · exact ⟨rfl, rfl, trivial⟩
  · try dsimp only
    exact ⟨by rw [hnk, hsk, Int.toNat_natCast, Int.toNat_natCast]; exact bfs_init (by omega) (by omega), by assumption, litI1_ow (by rw [hsk]; unfold okI; omega)⟩
  · exact .refl _
  rintro ⟨sn, ls, W, L, lb, lc⟩ hI
  obtain ⟨hB, oW, oL⟩ : Bfs g.edges a.arcs s0 n k sn ls ∧ (gSl 4 gB).ow [.slice (some ⟨x2, 0, none⟩) (IntKind.i64.wrap (g.size * a.states)).toNat (IntKind.i64.wrap (g.size * a.states)).toNat] sn W ∧ (gSl 3 gI).ow [.slice lb ls.length lc] ls L := hI
  try dsimp only
  refine VCsplit.intro (fun q6 => ?_) (fun q6 => ?_)
  ·
    simp at q6
    obtain ⟨x9, l9, rfl⟩ := ls_cons (by assumption)
    have hx9 := hB.inl x9 (List.mem_cons_self ..)
    have hx9l := sees_lt hx9.2
    rw [hB.len] at hx9l
    have hM9 := bfm_pop hB
    have hcn := hB.cnt
    rw [List.length_cons] at hcn
    have rT := tl_rd oL
    obtain ⟨hdv, hmd⟩ := div_nk hx9.1 ek (by omega) (by omega)
    refine draw G_ok mixed none (.q 0 (.q 1 (.q 2 (.q 3 (.q 4 (.q 5 (.q 6 (.nil)))))))) (by decide +kernel) ?_
    refine idx_rd (Gt.owrd _ oL) ?_ ?_ fun b7 o7 hb7 => ?_
    · trivial
    · omega
    refine load_allN 0 (0) rfl (Gt.owrd _ oL) ?_ ?_ hb7 rfl (mem_at 0 rfl) fun l8 hl8 => ?_
    · trivial
    · omega
    obtain ⟨rfl, hw8⟩ := hl8; simp only [flStr, flInt, okI] at hw8
    refine VC.intro ?_ ?_
    · omega
    refine draw G_ok mixed none (.q 0 (.q 1 (.q 2 (.q 3 (.q 4 (.q 5 (.q 6 (.nil)))))))) (by decide +kernel) ?_
    refine idx_rd (Gt.owrd _ oL) ?_ ?_ fun b9 o9 hb9 => ?_
    · trivial
    · omega
    refine load_allN 0 (0) rfl (Gt.owrd _ oL) ?_ ?_ hb9 rfl (mem_at 0 rfl) fun l10 hl10 => ?_
    · trivial
    · omega
    obtain ⟨rfl, hw10⟩ := hl10; simp only [flStr, flInt, okI] at hw10
    refine VC.intro ?_ ?_
    · omega
    refine VCnew.intro fun x11 => ?_
    refine VC.intro ?_ ?_
    · omega
    refine append_allN (g := gI) (T := (3 : TypeId)) G_ok (by repeat (first | exact fl_plain | apply plain_iso | apply plain_pair)) [] [[(x11, Obj.cells { toList := zeros (0 : Nat) [Value.int IntKind.i64 (0 : Int)] } (3 : TypeId))], L, W, H] 1 ?_ (sl_nil _ _ _) rfl rT rfl rfl rfl rfl rfl rfl rfl rfl ?_ fun b12 c12 A12 o12 => ?_
    · exact .refl _
    · simp; omega
    apply loop_mod (α := (Nat) × (List Bool) × (List Int) × (Hp) × (Hp) × (Option Addr) × (Nat)) G_ok [52, 53, 54, 55, 56, 59, 60, 61, 62, 63, 12, 13, 64, 65, 66, 67, 68, 69, 70, 71, 72, 73, 74, 77, 78, 79, 80, 81, 14, 82, 83, 84, 85, 86, 87, 88, 89, 15, 90, 91, 92, 93, 94, 95, 96, 97, 98, 99, 100, 101, 102, 103, 104, 105, 106, 107, 108, 109, 110, 111, 112, 113, 114, 8, 75, 76, 57, 58, 11] (fun z => [(11, .v (.int .i64 z.1)), (8, .v (.slice z.2.2.2.2.2.1 z.2.2.1.length z.2.2.2.2.2.2))]) (fun z => [{ id := x0, cs := [Value.int IntKind.i64 g.size, Value.slice b1g g.edges.length c1g], ty := (88 : Nat) }, { id := x1, cs := [Value.int IntKind.i64 a.states, Value.slice b1a a.arcs.length c1a, Value.slice b2a a.ends.length c2a], ty := (169 : Nat) }]) (fun z => [z.2.2.2.2.1, z.2.2.2.1, H]) (fun z => g.edges.length - z.1) (fun z => z.1 ≤ g.edges.length ∧ Mid g.edges a.arcs s0 n k (2 * numF sn + (x9 :: l9).length) x9.toNat z.1 0 z.2.1 z.2.2.1 ∧ (gSl 4 gB).ow [.slice (some ⟨x2, 0, none⟩) (IntKind.i64.wrap (g.size * a.states)).toNat (IntKind.i64.wrap (g.size * a.states)).toNat] z.2.1 z.2.2.2.1 ∧ (gSl 3 gI).ow [.slice z.2.2.2.2.2.1 z.2.2.1.length z.2.2.2.2.2.2] z.2.2.1 z.2.2.2.2.1) ((0, sn, l9, _, _, _, _))
    · repeat' (first | exact trivial | refine ⟨⟨_, rfl, by first | rfl | exact inc_eq _ (by omega) | (refine sl_eq ?_; simp; done), by first | exact trivial | simp [SV.ok]⟩, ?_⟩)
    · exact ⟨rfl, rfl, trivial⟩
    · try dsimp only
      exact ⟨Nat.zero_le _, hM9, by assumption, by assumption⟩
    · exact .le fun a => by (try simp only [setR, List.cons_append, List.nil_append]); simp only [List.flatten_append, List.flatten_cons, List.flatten_nil, List.count_append, List.count_nil, List.append_nil, List.nil_append]; omega
    rintro ⟨i, sn1, ls1, W, L, lb, lc⟩ hI
    obtain ⟨hi1, hM1, oW1, oL1⟩ : i ≤ g.edges.length ∧ Mid g.edges a.arcs s0 n k (2 * numF sn + (x9 :: l9).length) x9.toNat i 0 sn1 ls1 ∧ (gSl 4 gB).ow [.slice (some ⟨x2, 0, none⟩) (IntKind.i64.wrap (g.size * a.states)).toNat (IntKind.i64.wrap (g.size * a.states)).toNat] sn1 W ∧ (gSl 3 gI).ow [.slice lb ls1.length lc] ls1 L := hI
    try dsimp only
    refine VCsplit.intro (fun q13 => ?_) (fun q13 => ?_)
    ·
      simp at q13
      refine idx_rd h1g ?_ ?_ fun b14 o14 hb14 => ?_
      · omega
      · omega
      refine load_allN default (i) rfl h1g ?_ ?_ hb14 rfl (mem_at 2 rfl) fun l15 hl15 => ?_
      · omega
      · omega
      obtain ⟨rfl, w0x15, w2x15⟩ := gEdge_rd.1 hl15
      refine VCnew.intro fun x16 => ?_
      apply loop_mod (α := (Nat) × (List Bool) × (List Int) × (Hp) × (Hp) × (Option Addr) × (Nat)) G_ok [64, 65, 66, 67, 68, 69, 70, 71, 72, 73, 74, 77, 78, 79, 80, 81, 14, 82, 83, 84, 85, 86, 87, 88, 89, 15, 90, 91, 92, 93, 94, 95, 96, 97, 98, 99, 100, 101, 102, 103, 104, 105, 106, 107, 108, 109, 110, 111, 112, 113, 114, 8, 75, 76, 13] (fun z => [(13, .v (.int .i64 z.1)), (8, .v (.slice z.2.2.2.2.2.1 z.2.2.1.length z.2.2.2.2.2.2))]) (fun z => [{ id := x0, cs := [Value.int IntKind.i64 g.size, Value.slice b1g g.edges.length c1g], ty := (88 : Nat) }, { id := x1, cs := [Value.int IntKind.i64 a.states, Value.slice b1a a.arcs.length c1a, Value.slice b2a a.ends.length c2a], ty := (169 : Nat) }, { id := x16, cs := [Value.int IntKind.i64 (g.edges[i]?.getD default).from', Value.int IntKind.u8 (↑(g.edges[i]?.getD default).label.toNat : Int), Value.int IntKind.i64 (g.edges[i]?.getD default).to], ty := (209 : Nat) }]) (fun z => [z.2.2.2.2.1, z.2.2.2.1, H]) (fun z => a.arcs.length - z.1) (fun z => z.1 ≤ a.arcs.length ∧ Mid g.edges a.arcs s0 n k (2 * numF sn + (x9 :: l9).length) x9.toNat i z.1 z.2.1 z.2.2.1 ∧ (gSl 4 gB).ow [.slice (some ⟨x2, 0, none⟩) (IntKind.i64.wrap (g.size * a.states)).toNat (IntKind.i64.wrap (g.size * a.states)).toNat] z.2.1 z.2.2.2.1 ∧ (gSl 3 gI).ow [.slice z.2.2.2.2.2.1 z.2.2.1.length z.2.2.2.2.2.2] z.2.2.1 z.2.2.2.2.1) ((0, sn1, ls1, _, _, _, _))
      · repeat' (first | exact trivial | refine ⟨⟨_, rfl, by first | rfl | exact inc_eq _ (by omega) | (refine sl_eq ?_; simp; done), by first | exact trivial | simp [SV.ok]⟩, ?_⟩)
      · exact ⟨rfl, rfl, rfl, trivial⟩
      · try dsimp only
        exact ⟨Nat.zero_le _, hM1, by assumption, by assumption⟩
      · exact .refl _
      rintro ⟨j, sn2, ls2, W, L, lb, lc⟩ hI
      obtain ⟨hj2, hM2, oW2, oL2⟩ : j ≤ a.arcs.length ∧ Mid g.edges a.arcs s0 n k (2 * numF sn + (x9 :: l9).length) x9.toNat i j sn2 ls2 ∧ (gSl 4 gB).ow [.slice (some ⟨x2, 0, none⟩) (IntKind.i64.wrap (g.size * a.states)).toNat (IntKind.i64.wrap (g.size * a.states)).toNat] sn2 W ∧ (gSl 3 gI).ow [.slice lb ls2.length lc] ls2 L := hI
      try dsimp only
      refine VCsplit.intro (fun q17 => ?_) (fun q17 => ?_)
      ·
        simp at q17
        obtain ⟨hnx, hn0, hn1⟩ := next_nk hE hA (i := i) (j := j) (by omega) (by omega) ek hN
        have hs2l := hM2.len
        have hcn2 := hM2.cnt
        refine VCsplit.intro (fun q18 => ?_) (fun q18 => ?_)
        ·
          simp at q18
          refine idx_rd h1a ?_ ?_ fun b19 o19 hb19 => ?_
          · omega
          · omega
          refine load_allN default (j) rfl h1a ?_ ?_ hb19 rfl (mem_at 2 rfl) fun l20 hl20 => ?_
          · omega
          · omega
          obtain ⟨rfl, w0x20, w2x20⟩ := gArc_rd.1 hl20
          refine VCnew.intro fun x21 => ?_
          refine VCsplit.intro (fun q22 => ?_) (fun q22 => ?_)
          ·
            simp at q22
            refine VCsplit.intro (fun q23 => ?_) (fun q23 => ?_)
            ·
              simp at q23
              simp only [str_inj, u8_inj, u8_wrap] at q23
              refine idx_rd (Gt.owrd _ oW2) ?_ ?_ fun b24 o24 hb24 => ?_
              · omega
              · omega
              refine load_all false (Gt.owrd _ oW2) ?_ ?_ hb24 rfl (mem_at 1 rfl) fun l25 hl25 => ?_
              · omega
              · omega
              obtain ⟨rfl, hw25⟩ := hl25
              refine VCsplit.intro (fun q26 => ?_) (fun q26 => ?_)
              ·
                simp at q26
                refine idx_rd (Gt.owrd _ oW2) ?_ ?_ fun b27 o27 hb27 => ?_
                · omega
                · omega
                refine gstoreN (Fld.id _) false (Int.toNat (IntKind.i64.wrap (IntKind.i64.wrap ((g.edges[i]?.getD default).to * a.states) + (a.arcs[j]?.getD default).to))) 1 rfl (Int.toNat_of_nonneg ?_).symm oW2 ?_ ?_ hb27 rfl gB_pl _ (gB_ow trivial) fun A28 o28 => ?_
                · omega
                · omega
                · omega
                refine VCnew.intro fun x29 => ?_
                refine gappend1 (g := gI) (T := (3 : TypeId)) G_ok L [] [A28, H] ?_ oL2 (gI_ow ?_) (List.mem_of_getElem? (i := 0) rfl) rfl rfl rfl rfl rfl rfl rfl rfl ?_ fun b30 c30 A30 o30 => ?_
                · exact .tl
                · exact okI_wrap _
                · omega
                apply loop_stepA (j + 1, sn2.set (IntKind.i64.wrap (IntKind.i64.wrap ((g.edges[i]?.getD default).to * a.states) + (a.arcs[j]?.getD default).to)).toNat true, _, _, _, _, _)
                · exact .refl _
                · repeat' (first | exact trivial | refine ⟨⟨_, rfl, by first | rfl | exact inc_eq _ (by omega) | (refine sl_eq ?_; simp; done), by first | exact trivial | simp [SV.ok]⟩, ?_⟩)
                · exact ⟨rfl, rfl, rfl, trivial⟩
                · try dsimp only
                  (refine ⟨by omega, ?_, by assumption, by assumption⟩; rw [hnx]; exact bfm_hit hE hA hM2 (by omega) (by omega) (by rw [← hdv]; assumption) (by rw [← hmd]; assumption) (by assumption) (sees_no (by rw [← hnx]; assumption)))
                try dsimp only
                omega
              ·
                simp at q26
                apply loop_stepA (j + 1, sn2, ls2, W, L, lb, lc)
                · exact .refl _
                · repeat' (first | exact trivial | refine ⟨⟨_, rfl, by first | rfl | exact inc_eq _ (by omega) | (refine sl_eq ?_; simp; done), by first | exact trivial | simp [SV.ok]⟩, ?_⟩)
                · exact ⟨rfl, rfl, rfl, trivial⟩
                · try dsimp only
                  exact ⟨by omega, bfm_skip hM2 (.inr (.inr (sees_yes (by rw [← hnx]; assumption)))), by assumption, by assumption⟩
                try dsimp only
                omega
            ·
              simp at q23
              simp only [str_inj, u8_inj, u8_wrap] at q23
              apply loop_stepA (j + 1, sn2, ls2, W, L, lb, lc)
              · exact .refl _
              · repeat' (first | exact trivial | refine ⟨⟨_, rfl, by first | rfl | exact inc_eq _ (by omega) | (refine sl_eq ?_; simp; done), by first | exact trivial | simp [SV.ok]⟩, ?_⟩)
              · exact ⟨rfl, rfl, rfl, trivial⟩
              · try dsimp only
                exact ⟨by omega, bfm_skip hM2 (.inr (.inl (by assumption))), by assumption, by assumption⟩
              try dsimp only
              omega
          ·
            simp at q22
            apply loop_stepA (j + 1, sn2, ls2, W, L, lb, lc)
            · exact .refl _
            · repeat' (first | exact trivial | refine ⟨⟨_, rfl, by first | rfl | exact inc_eq _ (by omega) | (refine sl_eq ?_; simp; done), by first | exact trivial | simp [SV.ok]⟩, ?_⟩)
            · exact ⟨rfl, rfl, rfl, trivial⟩
            · try dsimp only
              exact ⟨by omega, bfm_skip hM2 (.inl (by rw [← hmd]; assumption)), by assumption, by assumption⟩
            try dsimp only
            omega
        ·
          simp at q18
          apply loop_stepA (i + 1, sn2, ls2, W, L, lb, lc)
          · exact .refl _
          · repeat' (first | exact trivial | refine ⟨⟨_, rfl, by first | rfl | exact inc_eq _ (by omega) | (refine sl_eq ?_; simp; done), by first | exact trivial | simp [SV.ok]⟩, ?_⟩)
          · exact ⟨rfl, rfl, trivial⟩
          · try dsimp only
            exact ⟨by omega, bfm_next hM2 (.inr (by rw [← hdv]; assumption)), by assumption, by assumption⟩
          try dsimp only
          omega
      ·
        simp at q17
        apply loop_stepA (i + 1, sn2, ls2, W, L, lb, lc)
        · exact .refl _
        · repeat' (first | exact trivial | refine ⟨⟨_, rfl, by first | rfl | exact inc_eq _ (by omega) | (refine sl_eq ?_; simp; done), by first | exact trivial | simp [SV.ok]⟩, ?_⟩)
        · exact ⟨rfl, rfl, trivial⟩
        · try dsimp only
          exact ⟨by omega, bfm_next hM2 (.inl (by omega)), by assumption, by assumption⟩
        try dsimp only
        omega
    ·
      simp at q13
      have hbig := hM1.big
      apply loop_stepA (sn1, ls1, W, L, lb, lc)
      · exact .refl _
      · repeat' (first | exact trivial | refine ⟨⟨_, rfl, by first | rfl | exact inc_eq _ (by omega) | (refine sl_eq ?_; simp; done), by first | exact trivial | simp [SV.ok]⟩, ?_⟩)
      · exact ⟨rfl, rfl, trivial⟩
      · try dsimp only
        (have hie : i = g.edges.length := (by omega); subst hie; exact ⟨bfm_end hM1, by assumption, by assumption⟩)
      try dsimp only
      trivial
  ·
    simp at q6
    (have hle : ls = [] := (by assumption); subst hle; have hsl : (IntKind.i64.wrap (g.size * a.states)).toNat = sn.length := (by rw [hnk, hB.len]; exact Int.toNat_natCast _); rw [hsl] at oW ⊢; exact ⟨W, ⟨_, _, sn, rfl, oW, hB⟩, (.le fun a => by (try simp only [setR, List.cons_append, List.nil_append]); simp [List.count_cons, Blk.ent, idOf]; try omega)⟩)
end Go.Proofs.YtjgehblllhkdbaaGreat

namespace Go.Proofs.YtjgehblllhkdbaaGreat
open Go.SX Go.Proofs
set_option linter.unusedSimpArgs false
set_option linter.unusedVariables false
set_option maxHeartbeats 4000000
attribute [local irreducible] IntKind.wrap
--@ct impl.WalkOk val implWalkOk_ct _ $1 | %1
--@ct spec.WalkOk val specWalkOk_ct _ $1 | %1
def walkM (w : Walk) : Bool := inR 0 3 w.atom && (inR 0 11 w.src && (inR 0 11 w.at' && inR 0 23 w.state))
theorem implWalkOk_ct (l : List Value) (w : Walk) : Ct Tryz.prog 205 [.agg ⟨l⟩] [] (fun H => gWalk.rd H l w) (fun v A => v = .bool (walkM w) ∧ A = []) := by
  refine Ct.intro0 G_ok Tryz.func205 rfl rfl rfl fun E H hp => ?_
  obtain ⟨rfl, w0p, w1p, w2p, w3p⟩ := gWalk_rd.1 hp
  refine VCnew.intro fun x0 => ?_
  refine VCsplit.intro (fun q1 => ?_) (fun q1 => ?_)
  ·
    simp at q1
    exact ⟨[], ⟨congrArg Value.bool (by unfold walkM; rw [Bool.eq_iff_iff]; simp only [Bool.and_eq_true, inR_iff, decide_eq_true_iff]; first | omega | (simp; omega)), rfl⟩, .mem (by simp)⟩
  ·
    simp at q1
    refine VCsplit.intro (fun q2 => ?_) (fun q2 => ?_)
    ·
      simp at q2
      exact ⟨[], ⟨congrArg Value.bool (by unfold walkM; rw [Bool.eq_iff_iff]; simp only [Bool.and_eq_true, inR_iff, decide_eq_true_iff]; first | omega | (simp; omega)), rfl⟩, .mem (by simp)⟩
    ·
      simp at q2
      refine VCsplit.intro (fun q3 => ?_) (fun q3 => ?_)
      ·
        simp at q3
        exact ⟨[], ⟨congrArg Value.bool (by unfold walkM; rw [Bool.eq_iff_iff]; simp only [Bool.and_eq_true, inR_iff, decide_eq_true_iff]; first | omega | (simp; omega)), rfl⟩, .mem (by simp)⟩
      ·
        simp at q3
        refine VCsplit.intro (fun q4 => ?_) (fun q4 => ?_)
        ·
          simp at q4
          exact ⟨[], ⟨congrArg Value.bool (by unfold walkM; rw [Bool.eq_iff_iff]; simp only [Bool.and_eq_true, inR_iff, decide_eq_true_iff]; first | omega | (simp; omega)), rfl⟩, .mem (by simp)⟩
        ·
          simp at q4
          refine VCsplit.intro (fun q5 => ?_) (fun q5 => ?_)
          ·
            simp at q5
            refine VCsplit.intro (fun q6 => ?_) (fun q6 => ?_)
            ·
              simp at q6
              refine VCsplit.intro (fun q7 => ?_) (fun q7 => ?_)
              ·
                simp at q7
                exact ⟨[], ⟨congrArg Value.bool (by unfold walkM; rw [Bool.eq_iff_iff]; simp only [Bool.and_eq_true, inR_iff, decide_eq_true_iff]; first | omega | (simp; omega)), rfl⟩, .mem (by simp)⟩
              ·
                simp at q7
                exact ⟨[], ⟨congrArg Value.bool (by unfold walkM; rw [Bool.eq_iff_iff]; simp only [Bool.and_eq_true, inR_iff, decide_eq_true_iff]; first | omega | (simp; omega)), rfl⟩, .mem (by simp)⟩
            ·
              simp at q6
              exact ⟨[], ⟨congrArg Value.bool (by unfold walkM; rw [Bool.eq_iff_iff]; simp only [Bool.and_eq_true, inR_iff, decide_eq_true_iff]; first | omega | (simp; omega)), rfl⟩, .mem (by simp)⟩
          ·
            simp at q5
            exact ⟨[], ⟨congrArg Value.bool (by unfold walkM; rw [Bool.eq_iff_iff]; simp only [Bool.and_eq_true, inR_iff, decide_eq_true_iff]; first | omega | (simp; omega)), rfl⟩, .mem (by simp)⟩
theorem specWalkOk_ct (l : List Value) (w : Walk) : Ct Tryz.prog 107 [.agg ⟨l⟩] [] (fun H => gWalk.rd H l w) (fun v A => v = .bool (walkM w) ∧ A = []) := by
  refine Ct.intro0 G_ok Tryz.func107 rfl rfl rfl fun E H hp => ?_
  obtain ⟨rfl, w0p, w1p, w2p, w3p⟩ := gWalk_rd.1 hp
  refine VCnew.intro fun x0 => ?_
  refine call_val (l01In_ct _ _ _) trivial ?_
  rintro _ rfl
  refine VCsplit.intro (fun q2 => ?_) (fun q2 => ?_)
  ·
    have iq2 := inR_iff.1 q2
    refine call_val (l01In_ct _ _ _) trivial ?_
    rintro _ rfl
    refine VCsplit.intro (fun q4 => ?_) (fun q4 => ?_)
    ·
      have iq4 := inR_iff.1 q4
      refine call_val (l01In_ct _ _ _) trivial ?_
      rintro _ rfl
      refine VCsplit.intro (fun q6 => ?_) (fun q6 => ?_)
      ·
        have iq6 := inR_iff.1 q6
        refine call_val (l01In_ct _ _ _) trivial ?_
        rintro _ rfl
        exact ⟨[], ⟨congrArg Value.bool (by unfold walkM; rw [Bool.eq_iff_iff]; simp only [Bool.and_eq_true, inR_iff, decide_eq_true_iff]; first | omega | (simp; omega)), rfl⟩, .mem (by simp)⟩
      ·
        have iq6 := mt inR_iff.2 (Bool.eq_false_iff.1 q6)
        exact ⟨[], ⟨congrArg Value.bool (by unfold walkM; rw [Bool.eq_iff_iff]; simp only [Bool.and_eq_true, inR_iff, decide_eq_true_iff]; first | omega | (simp; omega)), rfl⟩, .mem (by simp)⟩
    ·
      have iq4 := mt inR_iff.2 (Bool.eq_false_iff.1 q4)
      exact ⟨[], ⟨congrArg Value.bool (by unfold walkM; rw [Bool.eq_iff_iff]; simp only [Bool.and_eq_true, inR_iff, decide_eq_true_iff]; first | omega | (simp; omega)), rfl⟩, .mem (by simp)⟩
  ·
    have iq2 := mt inR_iff.2 (Bool.eq_false_iff.1 q2)
    exact ⟨[], ⟨congrArg Value.bool (by unfold walkM; rw [Bool.eq_iff_iff]; simp only [Bool.and_eq_true, inR_iff, decide_eq_true_iff]; first | omega | (simp; omega)), rfl⟩, .mem (by simp)⟩
end Go.Proofs.YtjgehblllhkdbaaGreat

namespace Go.Proofs.YtjgehblllhkdbaaGreat
open Go.SX Go.Proofs
set_option linter.unusedSimpArgs false
set_option linter.unusedVariables false
set_option maxHeartbeats 4000000
attribute [local irreducible] IntKind.wrap
def ownerOk (v n : Int) : Bool := inR 1 8 n && inR 0 11 v
def ownerOf (v n : Int) : Int := if ownerOk v n then sumOf (varText v) % n else 0
theorem ownerOf_no {v n : Int} (h : ownerOk v n = false) : ownerOf v n = 0 := by unfold ownerOf; rw [h]; rfl
theorem ownerOf_val {v n : Int} (h1 : 1 ≤ n) (h2 : n ≤ 8) (h3 : 0 ≤ v) (h4 : v ≤ 11) : Value.int .i64 (IntKind.i64.wrap ((sumOf (varText v)).tmod (IntKind.u32.wrap n))) = Value.int .i64 (ownerOf v n) := by
  have h5 := sumOf_rng (varText v)
  have h6 : IntKind.u32.wrap n = n := by rw [u32_wrap]; omega
  have h7 : 0 ≤ sumOf (varText v) % n := Int.emod_nonneg _ (by omega)
  have h8 : sumOf (varText v) % n < n := Int.emod_lt_of_pos _ (by omega)
  have h9 : ownerOk v n = true := by unfold ownerOk inR; simp; omega
  unfold ownerOf
  rw [h6, Int.tmod_eq_emod_of_nonneg h5.1, wrap_of (by omega) (by omega), h9]; rfl
--@ct impl.OwnerOf val implOwnerOf_ct _ _
theorem implOwnerOf_ct (v n : Int) : Ct Tryz.prog 163 [.int .i64 v, .int .i64 n] [] (fun _ => True) (fun r A => r = .int .i64 (ownerOf v n) ∧ A = []) := by
  refine Ct.intro0 G_ok Tryz.func163 rfl rfl rfl fun E H hp => ?_
  have h1 := varText_size v
  have h3 := sumOf_rng (varText v)
  refine VCsplit.intro (fun q0 => ?_) (fun q0 => ?_)
  ·
    simp at q0
    exact ⟨[], ⟨by rw [ownerOf_no (by unfold ownerOk inR; simp; omega)], rfl⟩, .mem (by simp)⟩
  ·
    simp at q0
    refine VCsplit.intro (fun q1 => ?_) (fun q1 => ?_)
    ·
      simp at q1
      exact ⟨[], ⟨by rw [ownerOf_no (by unfold ownerOk inR; simp; omega)], rfl⟩, .mem (by simp)⟩
    ·
      simp at q1
      refine VCsplit.intro (fun q2 => ?_) (fun q2 => ?_)
      ·
        simp at q2
        exact ⟨[], ⟨by rw [ownerOf_no (by unfold ownerOk inR; simp; omega)], rfl⟩, .mem (by simp)⟩
      ·
        simp at q2
        refine VCsplit.intro (fun q3 => ?_) (fun q3 => ?_)
        ·
          simp at q3
          exact ⟨[], ⟨by rw [ownerOf_no (by unfold ownerOk inR; simp; omega)], rfl⟩, .mem (by simp)⟩
        ·
          simp at q3
          refine call_val (varText_ct _ ?_ ?_) trivial ?_
          · trivial
          · omega
          rintro _ rfl
          refine call_val (implSumOf_ct _ ?_) trivial ?_
          · omega
          rintro _ rfl
          refine VC.intro ?_ ?_
          · (rw [u32_wrap]; omega)
          exact ⟨[], ⟨ownerOf_val (by omega) (by omega) (by omega) (by omega), rfl⟩, .mem (by simp)⟩
--@ct spec.OwnerOf val specOwnerOf_ct _ _
theorem specOwnerOf_ct (v n : Int) : Ct Tryz.prog 108 [.int .i64 v, .int .i64 n] [] (fun _ => True) (fun r A => r = .int .i64 (ownerOf v n) ∧ A = []) := by
  refine Ct.intro0 G_ok Tryz.func108 rfl rfl rfl fun E H hp => ?_
  have h1 := varText_size v
  have h3 := sumOf_rng (varText v)
  refine call_val (l01In_ct _ _ _) trivial ?_
  rintro _ rfl
  refine VCsplit.intro (fun q1 => ?_) (fun q1 => ?_)
  ·
    simp at q1
    exact ⟨[], ⟨by rw [ownerOf_no (by unfold ownerOk; simp_all)], rfl⟩, .mem (by simp)⟩
  ·
    simp at q1
    have iq1 := inR_iff.1 q1
    refine call_val (l01In_ct _ _ _) trivial ?_
    rintro _ rfl
    refine VCsplit.intro (fun q3 => ?_) (fun q3 => ?_)
    ·
      simp at q3
      exact ⟨[], ⟨by rw [ownerOf_no (by unfold ownerOk; simp_all)], rfl⟩, .mem (by simp)⟩
    ·
      simp at q3
      have iq3 := inR_iff.1 q3
      refine call_val (l01Var_ct _ ?_ ?_) trivial ?_
      · omega
      · omega
      rintro _ rfl
      refine call_val (specSumOf_ct _ ?_) trivial ?_
      · omega
      rintro _ rfl
      refine VC.intro ?_ ?_
      · (rw [u32_wrap]; omega)
      exact ⟨[], ⟨ownerOf_val (by omega) (by omega) (by omega) (by omega), rfl⟩, .mem (by simp)⟩
end Go.Proofs.YtjgehblllhkdbaaGreat

--@dev import Derived.Test.YtjgehblllhkdbaaGreatSxWalk
namespace Go.Proofs.YtjgehblllhkdbaaGreat
open Go.SX Go.Proofs
set_option maxHeartbeats 4000000
attribute [local irreducible] IntKind.wrap queryM namesM nfaOf ownerOf
theorem walk_iff {w : Walk} : walkM w = true ↔ (0 ≤ w.atom ∧ w.atom ≤ 3) ∧ (0 ≤ w.src ∧ w.src ≤ 11) ∧ (0 ≤ w.at' ∧ w.at' ≤ 11) ∧ 0 ≤ w.state ∧ w.state ≤ 23 := by
  unfold walkM
  simp only [Bool.and_eq_true, inR_iff]
def walkP (g : Graph) (nf : List Nfa) (i n : Int) (w : Walk) : Prop :=
  walkM w = true ∧ w.atom < nf.length ∧ w.src < g.size ∧ w.at' < g.size ∧ w.state < (nf[w.atom.toNat]?.getD default).states ∧ ownerOf w.at' n = i ∧ Rch g.edges (nf[w.atom.toNat]?.getD default).arcs ((w.src.toNat : Nat) : Int) w.at' w.state
def nodeP (g : Graph) (i : Int) (w : Work) : Prop := graphOk g = true ∧ queryM w.query = true ∧ ∀ k, k < w.seen.length → walkP g (nfasM w.query.atoms) i w.count (w.seen[k]?.getD default)
def clusterP (c : Cluster) (g : Graph) : Prop := ∀ j : Nat, 1 ≤ j → j < c.nodes.length → (c.nodes[j]?.getD default).work.begun = true → nodeP g ((j : Int) - 1) (c.nodes[j]?.getD default).work
open Classical in
noncomputable def walksRM (c : Cluster) (g : Graph) : Bool := decide (clusterP c g)
open Classical in
theorem wr_no {c : Cluster} {g : Graph} (j : Nat) (h1 : 1 ≤ j) (h2 : j < c.nodes.length) (h3 : (c.nodes[j]?.getD default).work.begun = true) (h : ¬ nodeP g ((j : Int) - 1) (c.nodes[j]?.getD default).work) : walksRM c g = false := by
  unfold walksRM; exact decide_eq_false fun h9 => h (h9 j h1 h2 h3)
open Classical in
theorem wr_yes {c : Cluster} {g : Graph} (h : clusterP c g) : walksRM c g = true := by unfold walksRM; exact decide_eq_true h
theorem np_no1 {g : Graph} {i : Int} {w : Work} (h : graphOk g = false) : ¬ nodeP g i w := fun h9 => by have := h9.1; rw [h] at this; cases this
theorem np_no2 {g : Graph} {i : Int} {w : Work} (h : queryM w.query = false) : ¬ nodeP g i w := fun h9 => by have := h9.2.1; rw [h] at this; cases this
theorem np_no3 {g : Graph} {i : Int} {w : Work} {k : Nat} (hk : k < w.seen.length) (h : ¬ walkP g (nfasM w.query.atoms) i w.count (w.seen[k]?.getD default)) : ¬ nodeP g i w := fun h9 => h (h9.2.2 k hk)
theorem wp_no1 {g : Graph} {nf : List Nfa} {i n : Int} {w : Walk} (h : walkM w = false) : ¬ walkP g nf i n w := fun h9 => by have := h9.1; rw [h] at this; cases this
theorem wp_no2 {g : Graph} {nf : List Nfa} {i n : Int} {w : Walk} (h : ¬ w.atom < nf.length) : ¬ walkP g nf i n w := fun h9 => h h9.2.1
theorem wp_no3 {g : Graph} {nf : List Nfa} {i n : Int} {w : Walk} (h : ¬ w.src < g.size) : ¬ walkP g nf i n w := fun h9 => h h9.2.2.1
theorem wp_no4 {g : Graph} {nf : List Nfa} {i n : Int} {w : Walk} (h : ¬ w.at' < g.size) : ¬ walkP g nf i n w := fun h9 => h h9.2.2.2.1
theorem wp_no5 {g : Graph} {nf : List Nfa} {i n : Int} {w : Walk} (h : ¬ w.state < (nf[w.atom.toNat]?.getD default).states) : ¬ walkP g nf i n w := fun h9 => h h9.2.2.2.2.1
theorem wp_no6 {g : Graph} {nf : List Nfa} {i n : Int} {w : Walk} (h : ¬ ownerOf w.at' n = i) : ¬ walkP g nf i n w := fun h9 => h h9.2.2.2.2.2.1
theorem wp_no7 {g : Graph} {nf : List Nfa} {i n : Int} {w : Walk} (h : ¬ Rch g.edges (nf[w.atom.toNat]?.getD default).arcs ((w.src.toNat : Nat) : Int) w.at' w.state) : ¬ walkP g nf i n w := fun h9 => h h9.2.2.2.2.2.2
theorem bfs_walk {g : Graph} {a : Nfa} {w : Walk} {seen : List Bool} (hg : graphOk g = true) (ha : nfaOk a = true) (hw : walkM w = true) (h1 : w.src < g.size) (h3 : w.state < a.states) (h : Bfs g.edges a.arcs w.src.toNat g.size.toNat a.states.toNat seen []) :
    sees seen (w.at' * a.states + w.state).toNat ↔ Rch g.edges a.arcs ((w.src.toNat : Nat) : Int) w.at' w.state := by
  obtain ⟨hg1, hg2, hE⟩ := g_parts hg
  obtain ⟨ha1, hA⟩ := a_parts ha
  obtain ⟨hw1, hw2, hw3, hw4⟩ := walk_iff.1 hw
  have e : a.states = ((a.states.toNat : Nat) : Int) := by omega
  have := bfs_all hE hA (by omega) (by omega) h hw3.1 (s := w.state) ⟨hw4.1, by omega⟩
  rw [← e] at this
  exact this
theorem fix_walk {g : Graph} {a : Nfa} {w : Walk} {ats : List Nat} (hg : graphOk g = true) (ha : nfaOk a = true) (hw : walkM w = true) (h2 : w.at' < g.size) (h : Fix g.edges a.arcs w.src.toNat g.size.toNat a.states.toNat ats) (hh : ∀ i, i < g.edges.length → Held a.arcs ats (g.edges[i]?.getD default)) :
    (ats[w.at'.toNat]?.getD 0).testBit w.state.toNat = true ↔ Rch g.edges a.arcs ((w.src.toNat : Nat) : Int) w.at' w.state := by
  obtain ⟨hg1, hg2, hE⟩ := g_parts hg
  obtain ⟨ha1, hA⟩ := a_parts ha
  obtain ⟨hw1, hw2, hw3, hw4⟩ := walk_iff.1 hw
  exact fix_all hE hA h hh (v := w.at') (s := w.state) ⟨hw3.1, by omega⟩ hw4.1
def bgK (ns : List Node) : Nat → List (Int × Work)
  | 0 => []
  | i + 1 => bgK ns i ++ (if 0 < i ∧ (ns[i]?.getD default).work.begun = true then [((i : Int) - 1, (ns[i]?.getD default).work)] else [])
theorem bgK_succ (ns : List Node) (i : Nat) : bgK ns (i + 1) = bgK ns i ++ (if 0 < i ∧ (ns[i]?.getD default).work.begun = true then [((i : Int) - 1, (ns[i]?.getD default).work)] else []) := rfl
theorem bgK_yes {ns : List Node} {i : Nat} (h : 0 < i) (h2 : (ns[i]?.getD default).work.begun = true) : bgK ns (i + 1) = bgK ns i ++ [((i : Int) - 1, (ns[i]?.getD default).work)] := by
  rw [bgK_succ, if_pos ⟨h, h2⟩]
theorem bgK_no1 {ns : List Node} {i : Nat} (h : ¬ 0 < i) : bgK ns (i + 1) = bgK ns i := by
  rw [bgK_succ, if_neg fun e => h e.1, List.append_nil]
theorem bgK_no2 {ns : List Node} {i : Nat} (h : (ns[i]?.getD default).work.begun = false) : bgK ns (i + 1) = bgK ns i := by
  rw [bgK_succ, if_neg (fun e => by have := e.2; rw [h] at this; cases this), List.append_nil]
theorem bgK_len (ns : List Node) : ∀ i, (bgK ns i).length ≤ i
  | 0 => Nat.le_refl _
  | i + 1 => by
    have := bgK_len ns i
    rw [bgK_succ, List.length_append]
    split
    · simp only [List.length_cons, List.length_nil]; omega
    simp only [List.length_nil]; omega
theorem mem_bgK {ns : List Node} {z : Int × Work} : ∀ {n : Nat}, z ∈ bgK ns n ↔ ∃ j : Nat, 1 ≤ j ∧ j < n ∧ (ns[j]?.getD default).work.begun = true ∧ z = ((j : Int) - 1, (ns[j]?.getD default).work)
  | 0 => ⟨fun h => (by cases h), fun ⟨j, _, h, _⟩ => absurd h (by omega)⟩
  | i + 1 => by
    rw [bgK_succ, List.mem_append, mem_bgK]
    constructor
    · rintro (⟨j, h1, h2, h3⟩ | h)
      · exact ⟨j, h1, by omega, h3⟩
      split at h
      · rename_i hh
        exact ⟨i, by omega, by omega, hh.2, List.mem_singleton.1 h⟩
      cases h
    rintro ⟨j, h1, h2, h3, h4⟩
    rcases (by omega : j < i ∨ j = i) with h5 | rfl
    · exact .inl ⟨j, h1, h5, h3, h4⟩
    right
    rw [if_pos ⟨by omega, h3⟩]
    exact List.mem_singleton.2 h4
theorem bg_yes {c : Cluster} {g : Graph} (h : ∀ z ∈ bgK c.nodes c.nodes.length, nodeP g z.1 z.2) : walksRM c g = true :=
  wr_yes fun j h1 h2 h3 => h (_, _) (mem_bgK.2 ⟨j, h1, h2, h3, rfl⟩)
theorem bg_no {c : Cluster} {g : Graph} {z : Int × Work} (hz : z ∈ bgK c.nodes c.nodes.length) (h : ¬ nodeP g z.1 z.2) : walksRM c g = false := by
  obtain ⟨j, h1, h2, h3, rfl⟩ := mem_bgK.1 hz
  exact wr_no j h1 h2 h3 h
end Go.Proofs.YtjgehblllhkdbaaGreat

namespace Go.Proofs.YtjgehblllhkdbaaGreat
open Go.SX Go.Proofs
set_option linter.unusedSimpArgs false
set_option linter.unusedVariables false
set_option maxHeartbeats 32000000
attribute [local irreducible] IntKind.wrap queryM namesM nfaOf ownerOf walkM
theorem node_sz {c : Cluster} (h : gCluster.sz c ≤ 1048576) {j : Nat} (hj : j < c.nodes.length) : gWork.sz (c.nodes[j]?.getD default).work ≤ 1048576 := by
  have h1 := gCluster_sz c
  have h2 := sz_at8 gNode default c.nodes j hj
  have h3 := gNode_sz (c.nodes[j]?.getD default)
  omega
theorem work_q2 {w : Work} (h : gWork.sz w ≤ 1048576) : gQuery.sz w.query ≤ 1048576 ∧ w.seen.length ≤ 1048576 := by
  have h1 := gWork_sz w
  have h2 := len_szL gWalk w.seen
  omega
theorem nfas_okL {x : Query} (h : queryM x = true) {i : Int} (h0 : 0 ≤ i) (h1 : i < ((nfasM x.atoms).length : Int)) : nfaOk ((nfasM x.atoms)[i.toNat]?.getD default) = true :=
  nfas_ok h (by rw [nfas_len] at h1; omega)
theorem wk_idx {g : Graph} {a : Nfa} {w : Walk} (hw : walkM w = true) (ha : nfaOk a = true) (hg : graphOk g = true) (h2 : w.at' < g.size) (h3 : w.state < a.states) :
    IntKind.i64.wrap (IntKind.i64.wrap (w.at' * a.states) + w.state) = w.at' * a.states + w.state ∧ 0 ≤ w.at' * a.states + w.state ∧ w.at' * a.states + w.state < ((g.size.toNat * a.states.toNat : Nat) : Int) := by
  obtain ⟨hg1, _, _⟩ := g_parts hg
  obtain ⟨ha1, _⟩ := a_parts ha
  obtain ⟨_, _, hw3, hw4⟩ := walk_iff.1 hw
  have hlt := nk_lt (n := g.size.toNat) (k := a.states.toNat) (v := w.at') (s := w.state) ⟨hw3.1, by omega⟩ ⟨hw4.1, by omega⟩
  have e : ((a.states.toNat : Nat) : Int) = a.states := by omega
  rw [e] at hlt
  have hN : g.size.toNat * a.states.toNat ≤ 288 := Nat.mul_le_mul (show g.size.toNat ≤ 12 by omega) (show a.states.toNat ≤ 24 by omega)
  have hu0 : 0 ≤ w.at' * a.states := Int.mul_nonneg hw3.1 (by omega)
  generalize w.at' * a.states = u at *
  generalize g.size.toNat * a.states.toNat = M at *
  rw [wrap_of (x := u) (by omega) (by omega)]
  exact ⟨wrap_of (by omega) (by omega), hlt.1, by omega⟩
theorem wk_more {P : Nat → Prop} {k q : Nat} (h : ∀ q, q < k → P q) (hq : q < k + 1) (h2 : P k) : P q := by
  rcases (by omega : q < k ∨ q = k) with h3 | rfl
  · exact h q h3
  exact h2
theorem jn_more {c : Cluster} {g : Graph} {j : Nat} {w : Work} (hJ : ∀ q : Nat, 1 ≤ q → q < j → q < c.nodes.length → (c.nodes[q]?.getD default).work.begun = true → nodeP g ((q : Int) - 1) (c.nodes[q]?.getD default).work) (he : (c.nodes[j]?.getD default).work = w) (h : nodeP g ((j : Int) - 1) w) :
    ∀ q : Nat, 1 ≤ q → q < j + 1 → q < c.nodes.length → (c.nodes[q]?.getD default).work.begun = true → nodeP g ((q : Int) - 1) (c.nodes[q]?.getD default).work := fun q h1 h2 h3 h4 => by
  rcases (by omega : q < j ∨ q = j) with h5 | rfl
  · exact hJ q h1 h5 h3 h4
  rw [he]; exact h
theorem jn_skip {c : Cluster} {g : Graph} {j : Nat} (hJ : ∀ q : Nat, 1 ≤ q → q < j → q < c.nodes.length → (c.nodes[q]?.getD default).work.begun = true → nodeP g ((q : Int) - 1) (c.nodes[q]?.getD default).work) (h : (c.nodes[j]?.getD default).work.begun = false) :
    ∀ q : Nat, 1 ≤ q → q < j + 1 → q < c.nodes.length → (c.nodes[q]?.getD default).work.begun = true → nodeP g ((q : Int) - 1) (c.nodes[q]?.getD default).work := fun q h1 h2 h3 h4 => by
  rcases (by omega : q < j ∨ q = j) with h5 | rfl
  · exact hJ q h1 h5 h3 h4
  rw [h] at h4; cases h4
theorem specWalksRight_ct (lc lg : List Value) (c : Cluster) (g : Graph) (hc : gCluster.sz c ≤ 1048576) :
    Ct Tryz.prog 34 [.agg ⟨lc⟩, .agg ⟨lg⟩] [] (fun H => gCluster.rd H lc c ∧ gGraph.rd H lg g) (fun v A => v = .bool (walksRM c g) ∧ A = []) := by
  refine Ct.intro0 G_ok Tryz.func34 rfl rfl rfl fun E H hp => ?_
  obtain ⟨hp, hq⟩ := hp
  obtain ⟨l0c, b1c, c1c, b2c, c2c, b3c, c3c, b4c, c4c, rfl, h0c, h1c, h2c, h3c, h4c⟩ := gCluster_rd.1 hp
  obtain ⟨b1_0c, c1_0c, b2_0c, c2_0c, b3_0c, c3_0c, rfl, h1_0c, h2_0c, h3_0c⟩ := gQuery_rd.1 h0c
  obtain ⟨b1g, c1g, rfl, w0g, h1g⟩ := gGraph_rd.1 hq
  have hnl : c.nodes.length ≤ 9223372036854775807 := (sl_len h1c).2.2
  refine VCnew.intro fun x0 => ?_
  refine VCnew.intro fun x1 => ?_
  apply loop_mod (α := (Nat)) G_ok [10, 11, 12, 13, 14, 17, 18, 19, 20, 21, 22, 6, 23, 24, 25, 26, 27, 28, 29, 30, 31, 32, 33, 34, 4, 35, 36, 37, 7, 8, 38, 39, 40, 41, 42, 45, 46, 47, 48, 49, 9, 50, 51, 52, 53, 54, 55, 56, 57, 58, 59, 60, 61, 62, 63, 64, 65, 66, 67, 68, 69, 70, 71, 72, 73, 74, 75, 76, 77, 78, 79, 80, 81, 82, 83, 84, 85, 86, 87, 88, 89, 90, 91, 92, 93, 94, 95, 96, 97, 98, 99, 100, 101, 102, 103, 104, 105, 106, 107, 108, 109, 110, 111, 112, 113, 114, 115, 116, 117, 118, 43, 44, 15, 16, 5] (fun z => [(5, .v (.int .i64 z)), (4, .v (.bool false))]) (fun z => [{ id := x0, cs := [Value.bool c.query.each, Value.slice b1_0c c.query.out.length c1_0c, Value.slice b2_0c c.query.atoms.length c2_0c, Value.slice b3_0c c.query.filters.length c3_0c] ++ [Value.slice b1c c.nodes.length c1c, Value.slice b2c c.net.length c2c, Value.slice b3c c.codes.length c3c, Value.slice b4c c.replies.length c4c], ty := (84 : Nat) }, { id := x1, cs := [Value.int IntKind.i64 g.size, Value.slice b1g g.edges.length c1g], ty := (88 : Nat) }]) (fun z => [H]) (fun z => c.nodes.length - z) (fun z => 1 ≤ z ∧ ∀ q : Nat, 1 ≤ q → q < z → q < c.nodes.length → (c.nodes[q]?.getD default).work.begun = true → nodeP g ((q : Int) - 1) (c.nodes[q]?.getD default).work) ((1))
  · repeat' (first | exact trivial | refine ⟨⟨_, rfl, by first | rfl | exact inc_eq _ (by omega) | (refine sl_eq ?_; simp; done), by first | exact trivial | simp [SV.ok]⟩, ?_⟩)
  · exact ⟨rfl, rfl, trivial⟩
  · exact ⟨Nat.le_refl _, fun q h1 h2 => absurd h2 (by omega)⟩
  · exact .refl _
  rintro j hI
  obtain ⟨hj1, hJ⟩ : 1 ≤ j ∧ ∀ q : Nat, 1 ≤ q → q < j → q < c.nodes.length → (c.nodes[q]?.getD default).work.begun = true → nodeP g ((q : Int) - 1) (c.nodes[q]?.getD default).work := hI
  try dsimp only
  refine VCsplit.intro (fun q2 => ?_) (fun q2 => ?_)
  ·
    simp at q2
    have hwz := node_sz hc (j := j) (by omega)
    obtain ⟨hqz, hsl⟩ := work_q2 hwz
    refine idx_rd h1c ?_ ?_ fun b3 o3 hb3 => ?_
    · omega
    · omega
    refine load_partN default (j) 6 rfl h1c ?_ ?_ hb3 rfl (by decide) (mem_at 0 rfl) fun l4 hl4 => ?_
    · omega
    · omega
    obtain ⟨l2x4, b5x4, c5x4, l6x4, l7x4, rfl, w0x4, h2x4, w3x4, h5x4, h6x4, h7x4⟩ := gNode_rd.1 hl4 ; obtain ⟨b0_2x4, c0_2x4, rfl, h0_2x4⟩ := gDisk_rd.1 h2x4 ; obtain ⟨l1_6x4, b2_6x4, c2_6x4, b4_6x4, c4_6x4, l11_6x4, b13_6x4, c13_6x4, rfl, h1_6x4, h2_6x4, w3_6x4, h4_6x4, w5_6x4, w8_6x4, h11_6x4, h13_6x4⟩ := gWork_rd.1 h6x4 ; obtain ⟨b1_1_6x4, c1_1_6x4, b2_1_6x4, c2_1_6x4, b3_1_6x4, c3_1_6x4, rfl, h1_1_6x4, h2_1_6x4, h3_1_6x4⟩ := gQuery_rd.1 h1_6x4 ; obtain ⟨l0_11_6x4, b1_11_6x4, c1_11_6x4, b4_11_6x4, c4_11_6x4, rfl, h0_11_6x4, h1_11_6x4, w2_11_6x4, w3_11_6x4, h4_11_6x4⟩ := gCell_rd.1 h11_6x4 ; obtain ⟨b1_0_11_6x4, c1_0_11_6x4, b2_0_11_6x4, c2_0_11_6x4, b3_0_11_6x4, c3_0_11_6x4, rfl, h1_0_11_6x4, h2_0_11_6x4, h3_0_11_6x4⟩ := gQuery_rd.1 h0_11_6x4 ; obtain ⟨l1_7x4, b2_7x4, c2_7x4, b4_7x4, c4_7x4, l6_7x4, rfl, h1_7x4, h2_7x4, w3_7x4, h4_7x4, h6_7x4⟩ := gAsk_rd.1 h7x4 ; obtain ⟨b1_1_7x4, c1_1_7x4, b2_1_7x4, c2_1_7x4, b3_1_7x4, c3_1_7x4, rfl, h1_1_7x4, h2_1_7x4, h3_1_7x4⟩ := gQuery_rd.1 h1_7x4 ; obtain ⟨b0_6_7x4, c0_6_7x4, rfl, h0_6_7x4⟩ := gBag_rd.1 h6_7x4
    refine VCnew.intro fun x5 => ?_
    refine VCsplit.intro (fun q6 => ?_) (fun q6 => ?_)
    ·
      simp at q6
      apply loop_stepA (j + 1)
      · exact .refl _
      · repeat' (first | exact trivial | refine ⟨⟨_, rfl, by first | rfl | exact inc_eq _ (by omega) | (refine sl_eq ?_; simp; done), by first | exact trivial | simp [SV.ok]⟩, ?_⟩)
      · exact ⟨rfl, rfl, trivial⟩
      · exact ⟨by omega, jn_skip hJ (by assumption)⟩
      omega
    ·
      simp at q6
      refine call_val (specGraphOk_ct _ (g)) (Rp.mono _ (mem_at 0 rfl) hq) ?_
      rintro _ rfl
      refine VCsplit.intro (fun q8 => ?_) (fun q8 => ?_)
      ·
        simp at q8
        exact ⟨[], ⟨by rw [wr_no j hj1 (by omega) (by assumption) (np_no1 (by assumption))], rfl⟩, .mem (by simp)⟩
      ·
        simp at q8
        refine call_val (specQueryOk_ct _ ((c.nodes[j]?.getD default).work.query) ?_) (Rp.mono _ (mem_at 0 rfl) h1_6x4) ?_
        · trivial
        rintro _ rfl
        refine VCsplit.intro (fun q10 => ?_) (fun q10 => ?_)
        ·
          simp at q10
          exact ⟨[], ⟨by rw [wr_no j hj1 (by omega) (by assumption) (np_no2 (by assumption))], rfl⟩, .mem (by simp)⟩
        ·
          simp at q10
          have hbg : (c.nodes[j]?.getD default).work.begun = true := (by assumption)
          have hwr := wr_no (c := c) (g := g) j hj1 (by omega) hbg
          have hsl2 : (c.nodes[j]?.getD default).work.seen.length ≤ 1048576 := hsl
          clear hbg
          generalize hwe : (c.nodes[j]?.getD default).work = w at *
          refine call_new (l20Nfas_ct _ (w.query) ?_) (Rp.mono _ (mem_at 0 rfl) h1_6x4) ?_
          · trivial
          rintro v11 A11 o11
          obtain ⟨b11, c11, rfl, o11⟩ := o11
          apply loop_mod (α := (Nat)) G_ok [38, 39, 40, 41, 42, 45, 46, 47, 48, 49, 9, 50, 51, 52, 53, 54, 55, 56, 57, 58, 59, 60, 61, 62, 63, 64, 65, 66, 67, 68, 69, 70, 71, 72, 73, 74, 75, 76, 77, 78, 79, 80, 81, 82, 83, 84, 85, 86, 87, 88, 89, 90, 91, 92, 93, 94, 4, 95, 96, 97, 98, 99, 100, 101, 102, 103, 104, 105, 106, 107, 108, 109, 110, 111, 112, 113, 114, 115, 116, 117, 118, 43, 44, 8] (fun z => [(8, .v (.int .i64 z)), (4, .v (.bool false))]) (fun z => [{ id := x0, cs := [Value.bool c.query.each, Value.slice b1_0c c.query.out.length c1_0c, Value.slice b2_0c c.query.atoms.length c2_0c, Value.slice b3_0c c.query.filters.length c3_0c] ++ [Value.slice b1c c.nodes.length c1c, Value.slice b2c c.net.length c2c, Value.slice b3c c.codes.length c3c, Value.slice b4c c.replies.length c4c], ty := (84 : Nat) }, { id := x1, cs := [Value.int IntKind.i64 g.size, Value.slice b1g g.edges.length c1g], ty := (88 : Nat) }, { id := x5, cs := [Value.bool w.begun, Value.bool w.query.each, Value.slice b1_1_6x4 w.query.out.length c1_1_6x4, Value.slice b2_1_6x4 w.query.atoms.length c2_1_6x4, Value.slice b3_1_6x4 w.query.filters.length c3_1_6x4, Value.slice b2_6x4 w.shares.length c2_6x4, Value.int IntKind.i64 w.count, Value.slice b4_6x4 w.seen.length c4_6x4, Value.int IntKind.i64 w.num, Value.bool w.black, Value.bool w.holds, Value.int IntKind.i64 w.tokNum, Value.bool w.tokBlack, Value.bool w.walked, Value.bool w.cell.query.each, Value.slice b1_0_11_6x4 w.cell.query.out.length c1_0_11_6x4, Value.slice b2_0_11_6x4 w.cell.query.atoms.length c2_0_11_6x4, Value.slice b3_0_11_6x4 w.cell.query.filters.length c3_0_11_6x4, Value.slice b1_11_6x4 w.cell.shares.length c1_11_6x4, Value.int IntKind.i64 w.cell.at', Value.int IntKind.i64 w.cell.n, Value.slice b4_11_6x4 w.cell.gots.length c4_11_6x4, Value.bool w.told, Value.slice b13_6x4 w.waits.length c13_6x4], ty := (66 : Nat) }]) (fun z => [A11, H]) (fun z => w.seen.length - z) (fun z => z ≤ w.seen.length ∧ ∀ q, q < z → walkP g (nfasM w.query.atoms) ((j : Int) - 1) w.count (w.seen[q]?.getD default)) ((0))
          · repeat' (first | exact trivial | refine ⟨⟨_, rfl, by first | rfl | exact inc_eq _ (by omega) | (refine sl_eq ?_; simp; done), by first | exact trivial | simp [SV.ok]⟩, ?_⟩)
          · exact ⟨rfl, rfl, rfl, trivial⟩
          · exact ⟨Nat.zero_le _, fun q h => absurd h (by omega)⟩
          · exact .refl _
          rintro k hI
          obtain ⟨hk, hK⟩ : k ≤ w.seen.length ∧ ∀ q, q < k → walkP g (nfasM w.query.atoms) ((j : Int) - 1) w.count (w.seen[q]?.getD default) := hI
          try dsimp only
          refine VCsplit.intro (fun q12 => ?_) (fun q12 => ?_)
          ·
            simp at q12
            refine idx_rd h4_6x4 ?_ ?_ fun b13 o13 hb13 => ?_
            · omega
            · omega
            refine load_allN default (k) rfl h4_6x4 ?_ ?_ hb13 rfl (mem_at 1 rfl) fun l14 hl14 => ?_
            · omega
            · omega
            obtain ⟨rfl, w0x14, w1x14, w2x14, w3x14⟩ := gWalk_rd.1 hl14
            refine VCnew.intro fun x15 => ?_
            refine draw G_ok mixed none (.q 0 (.f 1 (.q 2 (.q 3 (.q 4 (.q 5 (.q 6 (.q 7 (.q 8 (.q 9 (.q 10 (.q 11 (.q 12 (.q 13 (.q 14 (.q 15 (.q 16 (.q 17 (.q 18 (.q 19 (.q 20 (.q 21 (.q 22 (.q 23 (.q 24 (.q 25 (.q 26 (.q 27 (.q 28 (.q 29 (.q 30 (.q 31 (.q 32 (.q 33 (.q 34 (.q 35 (.q 36 (.q 37 (.q 38 (.q 39 (.q 41 (.q 42 (.f 40 (.q 43 (.q 44 (.nil)))))))))))))))))))))))))))))))))))))))))))))) (by decide +kernel) ?_
            refine call_val (specWalkOk_ct _ (w.seen[k]?.getD default)) (Rp.mono _ (mem_at 1 rfl) hl14) ?_
            rintro _ rfl
            refine VC.intro ?_ ?_
            · exact fun _ h => h
            refine VCsplit.intro (fun q17 => ?_) (fun q17 => ?_)
            ·
              simp at q17
              exact ⟨[], ⟨by rw [hwr (np_no3 (k := k) (by omega) (by first | exact wp_no1 (by assumption) | exact wp_no2 (by omega) | exact wp_no3 (by omega) | exact wp_no4 (by omega) | exact wp_no5 (by omega) | exact wp_no6 (by assumption)))], rfl⟩, .mem (by simp)⟩
            ·
              simp at q17
              refine VCsplit.intro (fun q18 => ?_) (fun q18 => ?_)
              ·
                simp at q18
                exact ⟨[], ⟨by rw [hwr (np_no3 (k := k) (by omega) (by first | exact wp_no1 (by assumption) | exact wp_no2 (by omega) | exact wp_no3 (by omega) | exact wp_no4 (by omega) | exact wp_no5 (by omega) | exact wp_no6 (by assumption)))], rfl⟩, .mem (by simp)⟩
              ·
                simp at q18
                refine VCsplit.intro (fun q19 => ?_) (fun q19 => ?_)
                ·
                  simp at q19
                  exact ⟨[], ⟨by rw [hwr (np_no3 (k := k) (by omega) (by first | exact wp_no1 (by assumption) | exact wp_no2 (by omega) | exact wp_no3 (by omega) | exact wp_no4 (by omega) | exact wp_no5 (by omega) | exact wp_no6 (by assumption)))], rfl⟩, .mem (by simp)⟩
                ·
                  simp at q19
                  refine VCsplit.intro (fun q20 => ?_) (fun q20 => ?_)
                  ·
                    simp at q20
                    exact ⟨[], ⟨by rw [hwr (np_no3 (k := k) (by omega) (by first | exact wp_no1 (by assumption) | exact wp_no2 (by omega) | exact wp_no3 (by omega) | exact wp_no4 (by omega) | exact wp_no5 (by omega) | exact wp_no6 (by assumption)))], rfl⟩, .mem (by simp)⟩
                  ·
                    simp at q20
                    refine idx_rd (Gt.owrd _ o11) ?_ ?_ fun b21 o21 hb21 => ?_
                    · (have h9 := walk_iff.1 ‹walkM (w.seen[k]?.getD default) = true›; omega)
                    · trivial
                    refine load_part default 0 (Gt.owrd _ o11) ?_ ?_ hb21 rfl (by decide) (mem_at 0 rfl) fun l22 hl22 => ?_
                    · (have h9 := walk_iff.1 ‹walkM (w.seen[k]?.getD default) = true›; omega)
                    · trivial
                    obtain ⟨b1x22, c1x22, b2x22, c2x22, rfl, w0x22, h1x22, h2x22⟩ := gNfa_rd.1 hl22
                    refine VCsplit.intro (fun q23 => ?_) (fun q23 => ?_)
                    ·
                      simp at q23
                      exact ⟨[], ⟨by rw [hwr (np_no3 (k := k) (by omega) (by first | exact wp_no1 (by assumption) | exact wp_no2 (by omega) | exact wp_no3 (by omega) | exact wp_no4 (by omega) | exact wp_no5 (by omega) | exact wp_no6 (by assumption)))], rfl⟩, .mem (by simp)⟩
                    ·
                      simp at q23
                      refine call_val (specOwnerOf_ct _ _) trivial ?_
                      rintro _ rfl
                      refine VC.intro ?_ ?_
                      · exact fun _ h => h
                      refine VCsplit.intro (fun q25 => ?_) (fun q25 => ?_)
                      ·
                        simp at q25
                        simp (disch := omega) only [wrap_of] at q25
                        exact ⟨[], ⟨by rw [hwr (np_no3 (k := k) (by omega) (by first | exact wp_no1 (by assumption) | exact wp_no2 (by omega) | exact wp_no3 (by omega) | exact wp_no4 (by omega) | exact wp_no5 (by omega) | exact wp_no6 (by assumption)))], rfl⟩, .mem (by simp)⟩
                      ·
                        simp at q25
                        simp (disch := omega) only [wrap_of] at q25
                        refine draw G_ok mixed none (.q 0 (.q 1 (.q 2 (.q 3 (.q 4 (.q 5 (.q 6 (.q 7 (.q 9 (.q 10 (.q 11 (.q 12 (.q 13 (.q 14 (.q 15 (.q 16 (.q 17 (.q 18 (.q 19 (.q 20 (.f 8 (.q 21 (.q 22 (.q 23 (.nil))))))))))))))))))))))))) (by decide +kernel) ?_
                        refine idx_rd (Gt.owrd _ o11) ?_ ?_ fun b26 o26 hb26 => ?_
                        · (have h9 := walk_iff.1 ‹walkM (w.seen[k]?.getD default) = true›; omega)
                        · trivial
                        refine load_all default (Gt.owrd _ o11) ?_ ?_ hb26 rfl (mem_at 0 rfl) fun l27 hl27 => ?_
                        · (have h9 := walk_iff.1 ‹walkM (w.seen[k]?.getD default) = true›; omega)
                        · trivial
                        obtain ⟨b1x27, c1x27, b2x27, c2x27, rfl, w0x27, h1x27, h2x27⟩ := gNfa_rd.1 hl27
                        refine idx_rd (Gt.owrd _ o11) ?_ ?_ fun b28 o28 hb28 => ?_
                        · (have h9 := walk_iff.1 ‹walkM (w.seen[k]?.getD default) = true›; omega)
                        · trivial
                        refine load_part default 0 (Gt.owrd _ o11) ?_ ?_ hb28 rfl (by decide) (mem_at 0 rfl) fun l29 hl29 => ?_
                        · (have h9 := walk_iff.1 ‹walkM (w.seen[k]?.getD default) = true›; omega)
                        · trivial
                        obtain ⟨b1x29, c1x29, b2x29, c2x29, rfl, w0x29, h1x29, h2x29⟩ := gNfa_rd.1 hl29
                        refine call_new (l07Reach_ct _ _ g ((nfasM w.query.atoms)[(w.seen[k]?.getD default).atom.toNat]?.getD default) (w.seen[k]?.getD default).src (by assumption) (nfas_okL (by assumption) (by have h9 := walk_iff.1 ‹walkM (w.seen[k]?.getD default) = true›; omega) (by omega)) ?_) ⟨(Rp.mono _ (mem_at 1 rfl) hq), (Rp.mono _ (mem_at 0 rfl) hl27)⟩ ?_
                        · (have h9 := walk_iff.1 ‹walkM (w.seen[k]?.getD default) = true›; omega)
                        rintro v30 A30 o30
                        obtain ⟨bS, cS, sn, rfl, oS, hS⟩ := o30
                        have hnk := nfas_okL (x := w.query) (i := (w.seen[k]?.getD default).atom) (by assumption) (by have h9 := walk_iff.1 ‹walkM (w.seen[k]?.getD default) = true›; omega) (by omega)
                        obtain ⟨hi1, hi2, hi3⟩ := wk_idx (w := w.seen[k]?.getD default) (by assumption) hnk ‹graphOk g = true› (by omega) (by omega)
                        have hbw := bfs_walk ‹graphOk g = true› hnk (by assumption) (by omega) (by omega) hS
                        have hsnl := hS.len
                        refine VC.intro ?_ ?_
                        · exact keep_new
                        refine idx_rd (Gt.owrd _ oS) ?_ ?_ fun b31 o31 hb31 => ?_
                        · omega
                        · omega
                        refine load_all false (Gt.owrd _ oS) ?_ ?_ hb31 rfl (mem_at 0 rfl) fun l32 hl32 => ?_
                        · omega
                        · omega
                        obtain ⟨rfl, hw32⟩ := hl32
                        refine VCsplit.intro (fun q33 => ?_) (fun q33 => ?_)
                        ·
                          simp at q33
                          exact ⟨[], ⟨by rw [hwr (np_no3 (k := k) (by omega) (wp_no7 (mt hbw.2 (sees_no (by rw [← hi1]; assumption)))))], rfl⟩, .mem (by simp)⟩
                        ·
                          simp at q33
                          apply loop_stepA (k + 1)
                          · exact .sub (by repeat (first | exact .slnil | apply List.Sublist.cons_cons | apply List.Sublist.cons))
                          · repeat' (first | exact trivial | refine ⟨⟨_, rfl, by first | rfl | exact inc_eq _ (by omega) | (refine sl_eq ?_; simp; done), by first | exact trivial | simp [SV.ok]⟩, ?_⟩)
                          · exact ⟨rfl, rfl, rfl, trivial⟩
                          · exact ⟨by omega, fun q hq => wk_more hK hq ⟨by assumption, by omega, by omega, by omega, by omega, by assumption, hbw.1 (sees_yes (by rw [← hi1]; assumption))⟩⟩
                          omega
          ·
            simp at q12
            apply loop_stepA (j + 1)
            · exact .sub (by repeat (first | exact .slnil | apply List.Sublist.cons_cons | apply List.Sublist.cons))
            · repeat' (first | exact trivial | refine ⟨⟨_, rfl, by first | rfl | exact inc_eq _ (by omega) | (refine sl_eq ?_; simp; done), by first | exact trivial | simp [SV.ok]⟩, ?_⟩)
            · exact ⟨rfl, rfl, trivial⟩
            · exact ⟨by omega, jn_more hJ hwe ⟨by assumption, by assumption, fun q hq => hK q (by omega)⟩⟩
            omega
  ·
    simp at q2
    exact ⟨[], ⟨by rw [wr_yes fun q h1 h2 h3 => hJ q h1 (by omega) h2 h3], rfl⟩, .mem (by simp)⟩
end Go.Proofs.YtjgehblllhkdbaaGreat

namespace Go.SX
open Go.Proofs Go.Sort Go.Shelf
section
variable {P : Program} {ρ : Ren} {γ : Type}

def OwZ (g : Gt γ) (zs : List (RawC g.size × γ)) (As : List Hp) : Prop := OwL g (zs.map (·.1)) (zs.map (·.2)) As
theorem OwZ.cons_inv {g : Gt γ} {z : RawC g.size × γ} {zs : List (RawC g.size × γ)} {As : List Hp} (h : OwZ g (z :: zs) As) : ∃ A Bs, As = A :: Bs ∧ g.ow z.1.1 z.2 A ∧ OwZ g zs Bs := by
  unfold OwZ at h
  rw [List.map_cons, List.map_cons] at h
  cases h with
  | cons h1 h2 => exact ⟨_, _, rfl, h1, h2⟩
theorem OwZ.cons {g : Gt γ} {z : RawC g.size × γ} {zs : List (RawC g.size × γ)} {A : Hp} {As : List Hp} (h : g.ow z.1.1 z.2 A) (h2 : OwZ g zs As) : OwZ g (z :: zs) (A :: As) := by
  unfold OwZ
  rw [List.map_cons, List.map_cons]
  exact .cons h h2
theorem OwZ.perm {g : Gt γ} {zs zs' : List (RawC g.size × γ)} (hp : zs.Perm zs') : ∀ {As : List Hp}, OwZ g zs As → ∃ Bs, OwZ g zs' Bs ∧ As.flatten.Perm Bs.flatten := by
  induction hp with
  | nil => intro As h; exact ⟨As, h, .refl _⟩
  | cons z _ ih =>
    intro As h
    obtain ⟨A, Bs, rfl, h1, h2⟩ := h.cons_inv
    obtain ⟨Cs, h3, h4⟩ := ih h2
    exact ⟨A :: Cs, .cons h1 h3, by simpa using h4.append_left A⟩
  | swap z y r =>
    intro As h
    obtain ⟨A, As, rfl, h1, h2⟩ := h.cons_inv
    obtain ⟨B, Bs, rfl, h3, h4⟩ := h2.cons_inv
    refine ⟨B :: A :: Bs, .cons h3 (.cons h1 h4), ?_⟩
    simp only [List.flatten_cons]
    rw [← List.append_assoc, ← List.append_assoc]
    exact List.perm_append_comm.append_right _
  | trans _ _ ih1 ih2 =>
    intro As h
    obtain ⟨Bs, h1, h2⟩ := ih1 h
    obtain ⟨Cs, h3, h4⟩ := ih2 h1
    exact ⟨Cs, h3, h2.trans h4⟩
theorem OwZ.sub {g : Gt γ} {zs zs' : List (RawC g.size × γ)} (hp : zs'.Sublist zs) : ∀ {As : List Hp}, OwZ g zs As → ∃ Bs L, OwZ g zs' Bs ∧ As.flatten.Perm (Bs.flatten ++ L) := by
  induction hp with
  | slnil => intro As h; exact ⟨As, [], h, by simp⟩
  | cons z _ ih =>
    intro As h
    obtain ⟨A, As, rfl, h1, h2⟩ := h.cons_inv
    obtain ⟨Bs, L, h3, h4⟩ := ih h2
    refine ⟨Bs, A ++ L, h3, ?_⟩
    rw [List.flatten_cons]
    refine (h4.append_left A).trans ?_
    rw [← List.append_assoc, ← List.append_assoc]
    exact List.perm_append_comm.append_right _
  | cons_cons z _ ih =>
    intro As h
    obtain ⟨A, As, rfl, h1, h2⟩ := h.cons_inv
    obtain ⟨Bs, L, h3, h4⟩ := ih h2
    refine ⟨A :: Bs, L, .cons h1 h3, ?_⟩
    rw [List.flatten_cons, List.flatten_cons, List.append_assoc]
    exact h4.append_left A
theorem OwZ.all {g : Gt γ} {T : TypeId} {base : Option Addr} {n cap : Nat} {zs : List (RawC g.size × γ)} {A0 A : Hp} {As : List Hp} (h : OwZ g zs As) (ho : Ow (flRaw g.size g.pos) T (.slice base n cap) (zs.map (·.1)) A0) (hp : A.Perm (A0 ++ As.flatten)) : (gSl T g).ow [.slice base n cap] (zs.map (·.2)) A :=
  ⟨_, _, A0, As, rfl, ho, hp, h⟩
end
end Go.SX

--@dev import Derived.Test.YtjgehblllhkdbaaGreatSxWalk
namespace Go.SX
section
variable {α β : Type}
def zRaw (s : Nat) : RawC s := ⟨List.replicate s (.bool false), by simp, by
  induction s with
  | zero => rfl
  | succ s ih => rw [List.replicate_succ]; exact ih⟩
instance (s : Nat) : Inhabited (RawC s) := ⟨⟨List.replicate s (.bool false), by simp, by
  induction s with
  | zero => rfl
  | succ s ih => rw [List.replicate_succ]; exact ih⟩⟩
end
end Go.SX

namespace Go.Proofs.YtjgehblllhkdbaaGreat
open Go.SX Go.Proofs
set_option linter.unusedSimpArgs false
set_option linter.unusedVariables false
set_option maxHeartbeats 16000000
attribute [local irreducible] IntKind.wrap queryM namesM nfaOf ownerOf walkM
abbrev BgT := Int × RawC gWork.size × Work
def flB (H0 : Hp) : Fl BgT := ⟨1 + gWork.size, fun z => .int .i64 z.1 :: z.2.1.1, fun z => okI z.1 ∧ gWork.rd H0 z.2.1.1 z.2.2, fun z => by rw [List.length_cons, z.2.1.2.1]; omega, fun z => by show allOne (_ :: z.2.1.1) = true; simp [allOne, z.2.1.2.2], by omega⟩
def gBg (H0 : Hp) : Gt BgT := (flB H0).gt fun _ => (0, default, default)
theorem okw9 (x : Int) : okI (IntKind.i64.wrap x) := by
  unfold IntKind.wrap okI
  simp [IntKind.bits, IntKind.signed]
  split <;> omega
theorem bg_step {c : Cluster} {zs : List BgT} {i : Nat} {cs : RawC gWork.size} (hz : zs.map (fun z => (z.1, z.2.2)) = bgK c.nodes i) (hi : i < 9223372036854775807) (h0 : 0 < i) (h : (c.nodes[i]?.getD default).work.begun = true) : (zs ++ [(IntKind.i64.wrap ((i : Int) - 1), cs, (c.nodes[i]?.getD default).work)]).map (fun z => (z.1, z.2.2)) = bgK c.nodes (i + 1) := by
  rw [bgK_yes h0 h, ← hz, List.map_append, wrap_of (by omega) (by omega)]; rfl
--@gt impl.begun | (gBg H0) | (0, default, default) | | | 25 | bg_own (w := (c.nodes[i]?.getD default).work) (okw9 _) (by assumption)
theorem bg_own {H0 : Hp} {k : Int} {cells : List Value} {w : Work} (hk : okI k) (h : gWork.rd H0 cells w) : (gBg H0).ow (.int .i64 k :: cells) (k, ⟨cells, raw_of h⟩, w) [] := ⟨rfl, ⟨hk, h⟩, rfl⟩
theorem begunWorks_ct (H0 : Hp) (lc : List Value) (c : Cluster) (hp : gCluster.rd H0 lc c) (hcn : c.nodes.length ≤ 1048576) :
    CtR Tryz.prog 113 [.agg ⟨lc⟩] H0 (fun _ => True) (fun v D => ∃ b cap zs A, v = .slice b zs.length cap ∧ D = A ++ H0 ∧ zs.map (fun z => (z.1, z.2.2)) = bgK c.nodes c.nodes.length ∧ (gSl 178 (gBg H0)).ow [.slice b zs.length cap] zs A) := by
  refine CtR.intro G_ok [H0] Tryz.func113 rfl rfl rfl (by simp) fun E H _ => ?_
  obtain ⟨l0c, b1c, c1c, b2c, c2c, b3c, c3c, b4c, c4c, rfl, h0c, h1c, h2c, h3c, h4c⟩ := gCluster_rd.1 hp
  obtain ⟨b1_0c, c1_0c, b2_0c, c2_0c, b3_0c, c3_0c, rfl, h1_0c, h2_0c, h3_0c⟩ := gQuery_rd.1 h0c
  have hnl : c.nodes.length ≤ 9223372036854775807 := (sl_len h1c).2.2
  refine VCnew.intro fun x0 => ?_
  apply loop_mod (α := (Nat) × (List BgT) × (Hp) × (Option Addr) × (Nat)) G_ok [10, 11, 12, 13, 5, 4, 14, 15, 16, 17, 18, 19, 20, 21, 22, 23, 24, 25, 26, 27, 28, 3, 29, 9] (fun z => [(9, .v (.int .i64 z.1)), (3, .v (.slice z.2.2.2.1 z.2.1.length z.2.2.2.2))]) (fun z => [{ id := x0, cs := [Value.bool c.query.each, Value.slice b1_0c c.query.out.length c1_0c, Value.slice b2_0c c.query.atoms.length c2_0c, Value.slice b3_0c c.query.filters.length c3_0c] ++ [Value.slice b1c c.nodes.length c1c, Value.slice b2c c.net.length c2c, Value.slice b3c c.codes.length c3c, Value.slice b4c c.replies.length c4c], ty := (84 : Nat) }]) (fun z => [z.2.2.1, H0, H]) (fun z => c.nodes.length - z.1) (fun z => z.1 ≤ c.nodes.length ∧ z.2.1.map (fun z => (z.1, z.2.2)) = bgK c.nodes z.1 ∧ (gSl 178 (gBg H0)).ow [.slice z.2.2.2.1 z.2.1.length z.2.2.2.2] z.2.1 z.2.2.1) ((0, [], [], none, 0))
  · repeat' (first | exact trivial | refine ⟨⟨_, rfl, by first | rfl | exact inc_eq _ (by omega) | (refine sl_eq ?_; simp; done), by first | exact trivial | simp [SV.ok]⟩, ?_⟩)
  · exact ⟨rfl, trivial⟩
  · try dsimp only
    exact ⟨Nat.zero_le _, rfl, sl_nil _ _ _⟩
  · exact .refl _
  rintro ⟨i, zs, A, lb, lc⟩ hI
  obtain ⟨hi, hz, oA⟩ : i ≤ c.nodes.length ∧ zs.map (fun z => (z.1, z.2.2)) = bgK c.nodes i ∧ (gSl 178 (gBg H0)).ow [.slice lb zs.length lc] zs A := hI
  try dsimp only
  refine VCsplit.intro (fun q1 => ?_) (fun q1 => ?_)
  ·
    simp at q1
    refine idx_rd h1c ?_ ?_ fun b2 o2 hb2 => ?_
    · omega
    · omega
    refine load_allN default (i) rfl h1c ?_ ?_ hb2 rfl (mem_at 1 rfl) fun l3 hl3 => ?_
    · omega
    · omega
    obtain ⟨l2x3, b5x3, c5x3, l6x3, l7x3, rfl, w0x3, h2x3, w3x3, h5x3, h6x3, h7x3⟩ := gNode_rd.1 hl3 ; obtain ⟨b0_2x3, c0_2x3, rfl, h0_2x3⟩ := gDisk_rd.1 h2x3 ; obtain ⟨l1_6x3, b2_6x3, c2_6x3, b4_6x3, c4_6x3, l11_6x3, b13_6x3, c13_6x3, rfl, h1_6x3, h2_6x3, w3_6x3, h4_6x3, w5_6x3, w8_6x3, h11_6x3, h13_6x3⟩ := gWork_rd.1 h6x3 ; obtain ⟨b1_1_6x3, c1_1_6x3, b2_1_6x3, c2_1_6x3, b3_1_6x3, c3_1_6x3, rfl, h1_1_6x3, h2_1_6x3, h3_1_6x3⟩ := gQuery_rd.1 h1_6x3 ; obtain ⟨l0_11_6x3, b1_11_6x3, c1_11_6x3, b4_11_6x3, c4_11_6x3, rfl, h0_11_6x3, h1_11_6x3, w2_11_6x3, w3_11_6x3, h4_11_6x3⟩ := gCell_rd.1 h11_6x3 ; obtain ⟨b1_0_11_6x3, c1_0_11_6x3, b2_0_11_6x3, c2_0_11_6x3, b3_0_11_6x3, c3_0_11_6x3, rfl, h1_0_11_6x3, h2_0_11_6x3, h3_0_11_6x3⟩ := gQuery_rd.1 h0_11_6x3 ; obtain ⟨l1_7x3, b2_7x3, c2_7x3, b4_7x3, c4_7x3, l6_7x3, rfl, h1_7x3, h2_7x3, w3_7x3, h4_7x3, h6_7x3⟩ := gAsk_rd.1 h7x3 ; obtain ⟨b1_1_7x3, c1_1_7x3, b2_1_7x3, c2_1_7x3, b3_1_7x3, c3_1_7x3, rfl, h1_1_7x3, h2_1_7x3, h3_1_7x3⟩ := gQuery_rd.1 h1_7x3 ; obtain ⟨b0_6_7x3, c0_6_7x3, rfl, h0_6_7x3⟩ := gBag_rd.1 h6_7x3
    refine VCnew.intro fun x4 => ?_
    refine VCsplit.intro (fun q5 => ?_) (fun q5 => ?_)
    ·
      simp at q5
      refine VCsplit.intro (fun q6 => ?_) (fun q6 => ?_)
      ·
        refine VCnew.intro fun x7 => ?_
        refine gappend1 (g := (gBg H0)) (T := (178 : TypeId)) G_ok A [] [H0, H] ?_ oA (bg_own (w := (c.nodes[i]?.getD default).work) (okw9 _) (by assumption)) (List.mem_of_getElem? (i := 0) rfl) rfl rfl rfl rfl rfl rfl rfl rfl ?_ fun b8 c8 A8 o8 => ?_
        · exact .tl
        · (have := congrArg List.length hz; rw [List.length_map] at this; have := bgK_len c.nodes i; omega)
        apply loop_stepA (i + 1, _, _, _, _)
        · exact .refl _
        · repeat' (first | exact trivial | refine ⟨⟨_, rfl, by first | rfl | exact inc_eq _ (by omega) | (refine sl_eq ?_; simp; done), by first | exact trivial | simp [SV.ok]⟩, ?_⟩)
        · exact ⟨rfl, trivial⟩
        · try dsimp only
          exact ⟨by omega, bg_step hz (by omega) (by omega) (by assumption), by assumption⟩
        try dsimp only
        omega
      ·
        apply loop_stepA (i + 1, zs, A, lb, lc)
        · exact .refl _
        · repeat' (first | exact trivial | refine ⟨⟨_, rfl, by first | rfl | exact inc_eq _ (by omega) | (refine sl_eq ?_; simp; done), by first | exact trivial | simp [SV.ok]⟩, ?_⟩)
        · exact ⟨rfl, trivial⟩
        · try dsimp only
          exact ⟨by omega, by rw [bgK_no2 (by assumption)]; exact hz, oA⟩
        try dsimp only
        omega
    ·
      simp at q5
      apply loop_stepA (i + 1, zs, A, lb, lc)
      · exact .refl _
      · repeat' (first | exact trivial | refine ⟨⟨_, rfl, by first | rfl | exact inc_eq _ (by omega) | (refine sl_eq ?_; simp; done), by first | exact trivial | simp [SV.ok]⟩, ?_⟩)
      · exact ⟨rfl, trivial⟩
      · try dsimp only
        exact ⟨by omega, by rw [bgK_no1 (by omega)]; exact hz, oA⟩
      try dsimp only
      omega
  ·
    simp at q1
    (have hie : i = c.nodes.length := (by omega); subst hie; exact ⟨A ++ H0, ⟨_, _, zs, A, rfl, rfl, hz, oA⟩, (.le fun a => by (try simp only [setR, List.cons_append, List.nil_append]); simp [List.count_cons, Blk.ent, idOf]; try omega)⟩)
theorem ld_Bg {H0 H' : Hp} {l : List Value} {z : BgT} (h : (gBg H0).rd H' l z) : l = .int .i64 z.1 :: z.2.1.1 ∧ okI z.1 ∧ gWork.rd H0 z.2.1.1 z.2.2 := ⟨h.1, h.2.1, h.2.2⟩
theorem wp_no8 {g : Graph} {nf : List Nfa} {i n : Int} {w : Walk} (hw : walkM w = true) (h : inR 0 (g.size - 1) w.src = false) : ¬ walkP g nf i n w := wp_no3 fun h2 => by
  have h3 := (walk_iff.1 hw).2.1
  rw [inR_iff.2 ⟨h3.1, by omega⟩] at h; cases h
theorem wp_no9 {g : Graph} {nf : List Nfa} {i n : Int} {w : Walk} (hw : walkM w = true) (h : inR 0 (g.size - 1) w.at' = false) : ¬ walkP g nf i n w := wp_no4 fun h2 => by
  have h3 := (walk_iff.1 hw).2.2.1
  rw [inR_iff.2 ⟨h3.1, by omega⟩] at h; cases h
open Classical in
noncomputable def rightB (g : Graph) (nf : List Nfa) (i n : Int) (w : Walk) : Bool := decide (walkP g nf i n w)
open Classical in
theorem r_no {g : Graph} {nf : List Nfa} {i n : Int} {w : Walk} (h : ¬ walkP g nf i n w) : rightB g nf i n w = false := decide_eq_false h
open Classical in
theorem r_yes {g : Graph} {nf : List Nfa} {i n : Int} {w : Walk} (h : walkP g nf i n w) : rightB g nf i n w = true := decide_eq_true h
open Classical in
theorem r_iff {g : Graph} {nf : List Nfa} {i n : Int} {w : Walk} : rightB g nf i n w = true ↔ walkP g nf i n w := decide_eq_true_iff
theorem nfas_okM {x : Query} (h : queryM x = true) {i : Int} (h0 : 0 ≤ i) (h1 : i < ((nfasM x.atoms).length : Int)) : nfaOk ((nfasM x.atoms)[i.toNat]?.getD default) = true :=
  nfas_ok h (by rw [nfas_len] at h1; omega)
theorem right_bit {g : Graph} {nf : List Nfa} {i n : Int} {w : Walk} {ats : List Nat} (hg : graphOk g = true) (ha : nfaOk (nf[w.atom.toNat]?.getD default) = true) (hw : walkM w = true) (h0 : w.atom < nf.length) (h1 : inR 0 (g.size - 1) w.src = true) (h2 : inR 0 (g.size - 1) w.at' = true) (h3 : w.state < (nf[w.atom.toNat]?.getD default).states) (h4 : ownerOf w.at' n = i)
    (h : Fix g.edges (nf[w.atom.toNat]?.getD default).arcs w.src.toNat g.size.toNat (nf[w.atom.toNat]?.getD default).states.toNat ats) (hh : ∀ i, i < g.edges.length → Held (nf[w.atom.toNat]?.getD default).arcs ats (g.edges[i]?.getD default)) :
    ((IntKind.u32.wrap (((BitVec.ofInt IntKind.u32.bits ((((ats[w.at'.toNat]?.getD 0) : Nat) : Int).fdiv (2 ^ min (IntKind.u64.wrap w.state).toNat IntKind.u32.bits)) &&& BitVec.ofInt IntKind.u32.bits 1).toNat : Nat) : Int)) == 1) = rightB g nf i n w := by
  have hw9 := walk_iff.1 hw
  have h5 := inR_iff.1 h1
  have h6 := inR_iff.1 h2
  rw [bit_atI (fix_lt h (by have := (a_parts ha).1; omega) _) (by omega)]
  have h7 := fix_walk hg ha hw (by omega) h hh
  by_cases hb : (ats[w.at'.toNat]?.getD 0).testBit w.state.toNat = true
  · rw [if_pos hb, r_yes ⟨hw, h0, by omega, by omega, h3, h4, h7.1 hb⟩]; rfl
  rw [if_neg hb, r_no (wp_no7 (mt h7.2 hb))]; rfl
--@ct impl.walkRight val walkRight_ct _ _ _ _ _ _ $1 _ _ _ $4 ?_ ?_ ?_ | ⟨%1, %2, %4⟩
theorem walkRight_ct (lg : List Value) (b : Option Addr) (m cp : Nat) (lx lw : List Value) (g : Graph) (x : Query) (i : Int) (w : Work) (y : Walk) (hg : graphOk g = true) (hx : queryM x = true) :
    Ct Tryz.prog 117 [.agg ⟨lg⟩, .slice b m cp, .agg ⟨.int .i64 i :: lx⟩, .agg ⟨lw⟩] [] (fun H => gGraph.rd H lg g ∧ (gSl 169 gNfa).rd H [.slice b m cp] (nfasM x.atoms) ∧ gWork.rd H lx w ∧ gWalk.rd H lw y)
      (fun v A => v = .bool (rightB g (nfasM x.atoms) i w.count y) ∧ A = []) := by
  refine Ct.intro0 G_ok Tryz.func117 rfl rfl rfl fun E H hp => ?_
  obtain ⟨hp, hq, hwk, hy⟩ := hp
  obtain ⟨rfl, hcl, hl⟩ := sl_len hq
  have hg1 := (g_parts hg).1
  obtain ⟨b1g, c1g, rfl, w0g, h1g⟩ := gGraph_rd.1 hp
  obtain ⟨l1w, b2w, c2w, b4w, c4w, l11w, b13w, c13w, rfl, h1w, h2w, w3w, h4w, w5w, w8w, h11w, h13w⟩ := gWork_rd.1 hwk
  obtain ⟨b1_1w, c1_1w, b2_1w, c2_1w, b3_1w, c3_1w, rfl, h1_1w, h2_1w, h3_1w⟩ := gQuery_rd.1 h1w
  obtain ⟨l0_11w, b1_11w, c1_11w, b4_11w, c4_11w, rfl, h0_11w, h1_11w, w2_11w, w3_11w, h4_11w⟩ := gCell_rd.1 h11w
  obtain ⟨b1_0_11w, c1_0_11w, b2_0_11w, c2_0_11w, b3_0_11w, c3_0_11w, rfl, h1_0_11w, h2_0_11w, h3_0_11w⟩ := gQuery_rd.1 h0_11w
  obtain ⟨rfl, w0y, w1y, w2y, w3y⟩ := gWalk_rd.1 hy
  refine VCnew.intro fun x0 => ?_
  refine VCnew.intro fun x1 => ?_
  refine VCnew.intro fun x2 => ?_
  refine call_val (implWalkOk_ct _ (y)) (Rp.mono _ (mem_at 0 rfl) hy) ?_
  rintro _ rfl
  refine VCsplit.intro (fun q4 => ?_) (fun q4 => ?_)
  ·
    simp at q4
    exact ⟨[], ⟨by rw [r_no (by first | exact wp_no1 (by assumption) | exact wp_no2 (by omega) | exact wp_no8 (by assumption) (by assumption) | exact wp_no9 (by assumption) (by assumption) | exact wp_no5 (by omega) | exact wp_no6 (by assumption))], rfl⟩, .mem (by simp)⟩
  ·
    simp at q4
    obtain ⟨hw1, hw2, hw3, hw4⟩ := walk_iff.1 ‹walkM y = true›
    refine VCsplit.intro (fun q5 => ?_) (fun q5 => ?_)
    ·
      simp at q5
      exact ⟨[], ⟨by rw [r_no (by first | exact wp_no1 (by assumption) | exact wp_no2 (by omega) | exact wp_no8 (by assumption) (by assumption) | exact wp_no9 (by assumption) (by assumption) | exact wp_no5 (by omega) | exact wp_no6 (by assumption))], rfl⟩, .mem (by simp)⟩
    ·
      simp at q5
      refine call_val (isVertex_ct _ (g) _ ?_) (Rp.mono _ (mem_at 0 rfl) hp) ?_
      · omega
      rintro _ rfl
      refine VCsplit.intro (fun q7 => ?_) (fun q7 => ?_)
      ·
        simp at q7
        exact ⟨[], ⟨by rw [r_no (by first | exact wp_no1 (by assumption) | exact wp_no2 (by omega) | exact wp_no8 (by assumption) (by assumption) | exact wp_no9 (by assumption) (by assumption) | exact wp_no5 (by omega) | exact wp_no6 (by assumption))], rfl⟩, .mem (by simp)⟩
      ·
        simp at q7
        refine call_val (isVertex_ct _ (g) _ ?_) (Rp.mono _ (mem_at 0 rfl) hp) ?_
        · omega
        rintro _ rfl
        refine VCsplit.intro (fun q9 => ?_) (fun q9 => ?_)
        ·
          simp at q9
          exact ⟨[], ⟨by rw [r_no (by first | exact wp_no1 (by assumption) | exact wp_no2 (by omega) | exact wp_no8 (by assumption) (by assumption) | exact wp_no9 (by assumption) (by assumption) | exact wp_no5 (by omega) | exact wp_no6 (by assumption))], rfl⟩, .mem (by simp)⟩
        ·
          simp at q9
          refine idx_rd hq ?_ ?_ fun b10 o10 hb10 => ?_
          · omega
          · trivial
          refine load_all default hq ?_ ?_ hb10 rfl (mem_at 0 rfl) fun l11 hl11 => ?_
          · omega
          · trivial
          obtain ⟨b1x11, c1x11, b2x11, c2x11, rfl, w0x11, h1x11, h2x11⟩ := gNfa_rd.1 hl11
          refine VCnew.intro fun x12 => ?_
          refine draw G_ok mixed none (.q 0 (.q 1 (.q 2 (.q 3 (.q 4 (.q 5 (.q 6 (.q 7 (.q 8 (.q 9 (.q 10 (.q 12 (.q 13 (.f 11 (.q 14 (.q 15 (.nil))))))))))))))))) (by decide +kernel) ?_
          refine VCsplit.intro (fun q13 => ?_) (fun q13 => ?_)
          ·
            simp at q13
            exact ⟨[], ⟨by rw [r_no (by first | exact wp_no1 (by assumption) | exact wp_no2 (by omega) | exact wp_no8 (by assumption) (by assumption) | exact wp_no9 (by assumption) (by assumption) | exact wp_no5 (by omega) | exact wp_no6 (by assumption))], rfl⟩, .mem (by simp)⟩
          ·
            simp at q13
            refine call_val (implOwnerOf_ct _ _) trivial ?_
            rintro _ rfl
            refine VC.intro ?_ ?_
            · exact fun _ h => h
            refine VCsplit.intro (fun q15 => ?_) (fun q15 => ?_)
            ·
              simp at q15
              exact ⟨[], ⟨by rw [r_no (by first | exact wp_no1 (by assumption) | exact wp_no2 (by omega) | exact wp_no8 (by assumption) (by assumption) | exact wp_no9 (by assumption) (by assumption) | exact wp_no5 (by omega) | exact wp_no6 (by assumption))], rfl⟩, .mem (by simp)⟩
            ·
              simp at q15
              refine draw G_ok mixed none (.q 0 (.q 1 (.q 2 (.q 3 (.q 5 (.q 6 (.q 9 (.q 10 (.q 11 (.f 4 (.q 7 (.q 8 (.q 12 (.q 13 (.q 14 (.q 15 (.nil))))))))))))))))) (by decide +kernel) ?_
              refine call_new (statesAt_ct _ _ g ((nfasM x.atoms)[y.atom.toNat]?.getD default) y.src hg (nfas_okM hx (by omega) (by omega)) ?_) ⟨(Rp.mono _ (mem_at 0 rfl) hp), (Rp.mono _ (mem_at 0 rfl) hl11)⟩ ?_
              · (have h7 := inR_iff.1 ‹inR 0 (g.size - 1) y.src = true›; omega)
              rintro v16 A16 o16
              obtain ⟨bS, cS, ats, rfl, oS, hF, hH⟩ := o16
              have hal := hF.len
              have h7 := inR_iff.1 ‹inR 0 (g.size - 1) y.src = true›
              have h9 := inR_iff.1 ‹inR 0 (g.size - 1) y.at' = true›
              refine VC.intro ?_ ?_
              · exact keep_new
              refine idx_rd (Gt.owrd _ oS) ?_ ?_ fun b17 o17 hb17 => ?_
              · omega
              · omega
              refine load_all default (Gt.owrd _ oS) ?_ ?_ hb17 rfl (mem_at 0 rfl) fun l18 hl18 => ?_
              · omega
              · omega
              obtain ⟨rfl, hw18⟩ := hl18; simp only [flU] at hw18
              refine VC.intro ?_ ?_
              · (rw [w64u]; omega)
              exact ⟨[], ⟨congrArg Value.bool (right_bit hg (nfas_okM hx (by omega) (by omega)) (by assumption) (by omega) (by assumption) (by assumption) (by omega) (by assumption) hF hH), rfl⟩, .mem (by simp)⟩
end Go.Proofs.YtjgehblllhkdbaaGreat

namespace Go.Proofs.YtjgehblllhkdbaaGreat
open Go.SX Go.Proofs
set_option linter.unusedSimpArgs false
set_option linter.unusedVariables false
set_option maxHeartbeats 32000000
attribute [local irreducible] IntKind.wrap queryM namesM nfaOf ownerOf walkM
theorem nodes_len {c : Cluster} (h : gCluster.sz c ≤ 1048576) : c.nodes.length ≤ 1048576 := by
  have h1 := gCluster_sz c
  have h2 := len_szL gNode c.nodes
  omega
theorem mem9 {α : Type} [Inhabited α] {zs : List α} {k : Nat} {z : α} (h : (zs[k]?.getD default) = z) (hk : k < zs.length) : z ∈ zs := by
  rw [List.getElem?_eq_getElem hk] at h
  rw [← h]; exact List.getElem_mem hk
theorem bg_in {c : Cluster} {zs : List BgT} (hz : zs.map (fun z => (z.1, z.2.2)) = bgK c.nodes c.nodes.length) {z : BgT} (h : z ∈ zs) : (z.1, z.2.2) ∈ bgK c.nodes c.nodes.length := by
  rw [← hz]; exact List.mem_map.2 ⟨z, h, rfl⟩
theorem bg_sz {c : Cluster} (h : gCluster.sz c ≤ 1048576) {i : Int} {w : Work} (hz : (i, w) ∈ bgK c.nodes c.nodes.length) : gWork.sz w ≤ 1048576 := by
  obtain ⟨j, _, h2, _, h4⟩ := mem_bgK.1 hz
  have h5 : w = (c.nodes[j]?.getD default).work := congrArg Prod.snd h4
  rw [h5]; exact node_sz h h2
theorem bg_more {g : Graph} {zs : List BgT} {k q : Nat} {i : Int} {l : RawC gWork.size} {w : Work} (hK : ∀ q, q < k → nodeP g (zs[q]?.getD default).1 (zs[q]?.getD default).2.2) (hq : q < k + 1) (hz : (zs[k]?.getD default) = (i, l, w)) (h : nodeP g i w) : nodeP g (zs[q]?.getD default).1 (zs[q]?.getD default).2.2 := by
  rcases (by omega : q < k ∨ q = k) with h3 | rfl
  · exact hK q h3
  rw [hz]; exact h
theorem bg_done {c : Cluster} {g : Graph} {zs : List BgT} (hz : zs.map (fun z => (z.1, z.2.2)) = bgK c.nodes c.nodes.length) (h : ∀ q, q < zs.length → nodeP g (zs[q]?.getD default).1 (zs[q]?.getD default).2.2) : walksRM c g = true := by
  refine bg_yes fun z h1 => ?_
  rw [← hz] at h1
  obtain ⟨y, hy, rfl⟩ := List.mem_map.1 h1
  obtain ⟨q, hq, rfl⟩ := List.getElem_of_mem hy
  have := h q hq
  rw [List.getElem?_eq_getElem hq] at this
  exact this
theorem implWalksRight_ct (lc lg : List Value) (c : Cluster) (g : Graph) (hc : gCluster.sz c ≤ 1048576) :
    Ct Tryz.prog 37 [.agg ⟨lc⟩, .agg ⟨lg⟩] [] (fun H => gCluster.rd H lc c ∧ gGraph.rd H lg g) (fun v A => v = .bool (walksRM c g) ∧ A = []) := by
  refine Ct.intro0 G_ok Tryz.func37 rfl rfl rfl fun E H hp => ?_
  obtain ⟨hp, hq⟩ := hp
  have hcn := nodes_len hc
  obtain ⟨b1g, c1g, rfl, w0g, h1g⟩ := gGraph_rd.1 hq
  obtain ⟨l0c, b1c, c1c, b2c, c2c, b3c, c3c, b4c, c4c, rfl, h0c, h1c, h2c, h3c, h4c⟩ := gCluster_rd.1 hp
  obtain ⟨b1_0c, c1_0c, b2_0c, c2_0c, b3_0c, c3_0c, rfl, h1_0c, h2_0c, h3_0c⟩ := gQuery_rd.1 h0c
  refine VCnew.intro fun x0 => ?_
  refine VCnew.intro fun x1 => ?_
  refine callR_part H [] (begunWorks_ct H _ c hp hcn) ?_ trivial ?_
  · exact .le fun a => by (try simp only [setR, List.cons_append, List.nil_append]); simp only [List.flatten_append, List.flatten_cons, List.flatten_nil, List.count_append, List.count_nil, List.append_nil, List.nil_append]; omega
  rintro _ D ⟨bz, cz, zs, A, rfl, rfl, hz, oZ⟩
  refine ⟨[A, H], by simp, ?_⟩
  have hzl : zs.length ≤ 1048576 := (by have := congrArg List.length hz; rw [List.length_map] at this; have := bgK_len c.nodes c.nodes.length; omega)
  apply loop_mod (α := (Nat)) G_ok [14, 15, 16, 6, 17, 18, 19, 20, 21, 22, 23, 24, 25, 26, 4, 27, 28, 29, 30, 7, 31, 32, 33, 34, 35, 36, 37, 38, 9, 39, 40, 41, 42, 43, 44, 45, 46, 13] (fun z => [(13, .v (.int .i64 z)), (4, .v (.bool false))]) (fun z => [{ id := x0, cs := [Value.bool c.query.each, Value.slice b1_0c c.query.out.length c1_0c, Value.slice b2_0c c.query.atoms.length c2_0c, Value.slice b3_0c c.query.filters.length c3_0c] ++ [Value.slice b1c c.nodes.length c1c, Value.slice b2c c.net.length c2c, Value.slice b3c c.codes.length c3c, Value.slice b4c c.replies.length c4c], ty := (84 : Nat) }, { id := x1, cs := [Value.int IntKind.i64 g.size, Value.slice b1g g.edges.length c1g], ty := (88 : Nat) }]) (fun z => [A, H]) (fun z => zs.length - z) (fun z => z ≤ zs.length ∧ ∀ q, q < z → nodeP g (zs[q]?.getD default).1 (zs[q]?.getD default).2.2) ((0))
  · repeat' (first | exact trivial | refine ⟨⟨_, rfl, by first | rfl | exact inc_eq _ (by omega) | (refine sl_eq ?_; simp; done), by first | exact trivial | simp [SV.ok]⟩, ?_⟩)
  · exact ⟨rfl, rfl, trivial⟩
  · exact ⟨Nat.zero_le _, fun q h => absurd h (by omega)⟩
  · exact .refl _
  rintro k hI
  obtain ⟨hk, hK⟩ : k ≤ zs.length ∧ ∀ q, q < k → nodeP g (zs[q]?.getD default).1 (zs[q]?.getD default).2.2 := hI
  try dsimp only
  refine VCsplit.intro (fun q3 => ?_) (fun q3 => ?_)
  ·
    simp at q3
    obtain ⟨z, hzk⟩ : ∃ z, (zs[k]?.getD default) = z := ⟨_, rfl⟩
    have hzm : z ∈ zs := mem9 hzk (by omega)
    obtain ⟨hzi, hwz⟩ := (fl_ow oZ).1 z hzm
    have hzb := bg_in hz hzm
    obtain ⟨iz, ⟨lz, hlz⟩, w⟩ := z
    replace hwz : gWork.rd H lz w := hwz
    replace hzb : (iz, w) ∈ bgK c.nodes c.nodes.length := hzb
    replace hzi : okI iz := hzi
    obtain ⟨hqz, hsl⟩ := work_q2 (bg_sz hc hzb)
    obtain ⟨l1z, b2z, c2z, b4z, c4z, l11z, b13z, c13z, rfl, h1z, h2z, w3z, h4z, w5z, w8z, h11z, h13z⟩ := gWork_rd.1 hwz
    obtain ⟨b1_1z, c1_1z, b2_1z, c2_1z, b3_1z, c3_1z, rfl, h1_1z, h2_1z, h3_1z⟩ := gQuery_rd.1 h1z
    obtain ⟨l0_11z, b1_11z, c1_11z, b4_11z, c4_11z, rfl, h0_11z, h1_11z, w2_11z, w3_11z, h4_11z⟩ := gCell_rd.1 h11z
    obtain ⟨b1_0_11z, c1_0_11z, b2_0_11z, c2_0_11z, b3_0_11z, c3_0_11z, rfl, h1_0_11z, h2_0_11z, h3_0_11z⟩ := gQuery_rd.1 h0_11z
    refine idx_rd (Gt.owrd _ oZ) ?_ ?_ fun b4 o4 hb4 => ?_
    · omega
    · omega
    refine load_allN default (k) rfl (Gt.owrd _ oZ) ?_ ?_ hb4 rfl (mem_at 0 rfl) fun l5 hl5 => ?_
    · omega
    · omega
    (obtain ⟨e5, _⟩ := ld_Bg hl5; clear hl5; rw [hzk] at e5; dsimp only at e5; subst e5)
    refine VCnew.intro fun x6 => ?_
    refine call_val (implGraphOk_ct _ (g)) (Rp.mono _ (mem_at 1 rfl) hq) ?_
    rintro _ rfl
    refine VCsplit.intro (fun q8 => ?_) (fun q8 => ?_)
    ·
      simp at q8
      exact ⟨[], ⟨by rw [bg_no hzb (np_no1 (by assumption))], rfl⟩, .mem (by simp)⟩
    ·
      simp at q8
      refine call_val (implQueryOk_ct _ (w.query) ?_) (Rp.mono _ (mem_at 1 rfl) h1z) ?_
      · trivial
      rintro _ rfl
      refine VCsplit.intro (fun q10 => ?_) (fun q10 => ?_)
      ·
        simp at q10
        exact ⟨[], ⟨by rw [bg_no hzb (np_no2 (by assumption))], rfl⟩, .mem (by simp)⟩
      ·
        simp at q10
        refine call_new (automataOf_ct _ (w.query) ?_) (Rp.mono _ (mem_at 1 rfl) h1z) ?_
        · trivial
        rintro v11 A11 o11
        obtain ⟨b11, c11, rfl, o11⟩ := o11
        apply loop_mod (α := (Nat)) G_ok [36, 37, 38, 9, 39, 40, 41, 42, 43, 44, 4, 45, 35] (fun z => [(35, .v (.int .i64 z)), (4, .v (.bool false))]) (fun z => [{ id := x0, cs := [Value.bool c.query.each, Value.slice b1_0c c.query.out.length c1_0c, Value.slice b2_0c c.query.atoms.length c2_0c, Value.slice b3_0c c.query.filters.length c3_0c] ++ [Value.slice b1c c.nodes.length c1c, Value.slice b2c c.net.length c2c, Value.slice b3c c.codes.length c3c, Value.slice b4c c.replies.length c4c], ty := (84 : Nat) }, { id := x1, cs := [Value.int IntKind.i64 g.size, Value.slice b1g g.edges.length c1g], ty := (88 : Nat) }, { id := x6, cs := [Value.int IntKind.i64 iz, Value.bool w.begun, Value.bool w.query.each, Value.slice b1_1z w.query.out.length c1_1z, Value.slice b2_1z w.query.atoms.length c2_1z, Value.slice b3_1z w.query.filters.length c3_1z, Value.slice b2z w.shares.length c2z, Value.int IntKind.i64 w.count, Value.slice b4z w.seen.length c4z, Value.int IntKind.i64 w.num, Value.bool w.black, Value.bool w.holds, Value.int IntKind.i64 w.tokNum, Value.bool w.tokBlack, Value.bool w.walked, Value.bool w.cell.query.each, Value.slice b1_0_11z w.cell.query.out.length c1_0_11z, Value.slice b2_0_11z w.cell.query.atoms.length c2_0_11z, Value.slice b3_0_11z w.cell.query.filters.length c3_0_11z, Value.slice b1_11z w.cell.shares.length c1_11z, Value.int IntKind.i64 w.cell.at', Value.int IntKind.i64 w.cell.n, Value.slice b4_11z w.cell.gots.length c4_11z, Value.bool w.told, Value.slice b13z w.waits.length c13z], ty := (178 : Nat) }]) (fun z => [A11, A, H]) (fun z => w.seen.length - z) (fun z => z ≤ w.seen.length ∧ ∀ q, q < z → walkP g (nfasM w.query.atoms) iz w.count (w.seen[q]?.getD default)) ((0))
        · repeat' (first | exact trivial | refine ⟨⟨_, rfl, by first | rfl | exact inc_eq _ (by omega) | (refine sl_eq ?_; simp; done), by first | exact trivial | simp [SV.ok]⟩, ?_⟩)
        · exact ⟨rfl, rfl, rfl, trivial⟩
        · exact ⟨Nat.zero_le _, fun q h => absurd h (by omega)⟩
        · exact .refl _
        rintro i hI
        obtain ⟨hi, hI⟩ : i ≤ w.seen.length ∧ ∀ q, q < i → walkP g (nfasM w.query.atoms) iz w.count (w.seen[q]?.getD default) := hI
        try dsimp only
        refine VCsplit.intro (fun q12 => ?_) (fun q12 => ?_)
        ·
          simp at q12
          refine idx_rd h4z ?_ ?_ fun b13 o13 hb13 => ?_
          · omega
          · omega
          refine load_allN default (i) rfl h4z ?_ ?_ hb13 rfl (mem_at 2 rfl) fun l14 hl14 => ?_
          · omega
          · omega
          obtain ⟨rfl, w0x14, w1x14, w2x14, w3x14⟩ := gWalk_rd.1 hl14
          refine VCnew.intro fun x15 => ?_
          refine call_val (walkRight_ct _ _ _ _ _ _ g w.query iz w (w.seen[i]?.getD default) (by assumption) (by assumption)) ⟨(Rp.mono _ (mem_at 2 rfl) hq), (Rp.mono _ (mem_at 0 rfl) (Gt.owrd _ o11)), Rp.mono _ (sub_hall (by simp)) hwz, (Rp.mono _ (mem_at 2 rfl) hl14)⟩ ?_
          rintro _ rfl
          refine VCsplit.intro (fun q17 => ?_) (fun q17 => ?_)
          ·
            simp at q17
            exact ⟨[], ⟨by rw [bg_no hzb (np_no3 (k := i) (by omega) (fun h9 => by rw [r_yes h9] at *; simp_all))], rfl⟩, .mem (by simp)⟩
          ·
            simp at q17
            apply loop_stepA (i + 1)
            · exact .refl _
            · repeat' (first | exact trivial | refine ⟨⟨_, rfl, by first | rfl | exact inc_eq _ (by omega) | (refine sl_eq ?_; simp; done), by first | exact trivial | simp [SV.ok]⟩, ?_⟩)
            · exact ⟨rfl, rfl, rfl, trivial⟩
            · exact ⟨by omega, fun q hq => wk_more hI hq (r_iff.1 (by assumption))⟩
            omega
        ·
          simp at q12
          apply loop_stepA (k + 1)
          · exact .sub (by repeat (first | exact .slnil | apply List.Sublist.cons_cons | apply List.Sublist.cons))
          · repeat' (first | exact trivial | refine ⟨⟨_, rfl, by first | rfl | exact inc_eq _ (by omega) | (refine sl_eq ?_; simp; done), by first | exact trivial | simp [SV.ok]⟩, ?_⟩)
          · exact ⟨rfl, rfl, trivial⟩
          · exact ⟨by omega, fun q hq => bg_more hK hq hzk ⟨by assumption, by assumption, fun q hq => hI q (by omega)⟩⟩
          omega
  ·
    simp at q3
    exact ⟨[], ⟨by rw [bg_done hz fun q hq => hK q (by omega)], rfl⟩, .mem (by simp)⟩
end Go.Proofs.YtjgehblllhkdbaaGreat

namespace Go.Proofs.YtjgehblllhkdbaaGreat
open Go.SX Go.Proofs
set_option linter.unusedSimpArgs false
set_option linter.unusedVariables false
set_option maxHeartbeats 8000000
--@ct impl.WalksRight val implWalksRight_ct _ _ $1 $2 ?_ | ⟨%1, %2⟩
--@ct spec.WalksRight val specWalksRight_ct _ _ $1 $2 ?_ | ⟨%1, %2⟩
theorem fnExactWalksRight_ct (v0 v1 : Value) :
    Ct Tryz.prog 5 [v0, v1] [] (fun H => (∃ x, rdV true gCluster.toRp H v0 x) ∧ (∃ x, rdV true gGraph.toRp H v1 x)) (fun v A => v = .bool true ∧ A = []) := by
  refine Ct.intro0 G_ok Tryz.func5 rfl rfl rfl fun E H hp => ?_
  obtain ⟨⟨xa0, hp0⟩, ⟨xa1, hp1⟩⟩ := hp
  obtain ⟨la0, rfl, hp0⟩ := hp0
  obtain ⟨l0a0, b1a0, c1a0, b2a0, c2a0, b3a0, c3a0, b4a0, c4a0, rfl, h0a0, h1a0, h2a0, h3a0, h4a0⟩ := gCluster_rd.1 hp0
  obtain ⟨b1_0a0, c1_0a0, b2_0a0, c2_0a0, b3_0a0, c3_0a0, rfl, h1_0a0, h2_0a0, h3_0a0⟩ := gQuery_rd.1 h0a0
  obtain ⟨la1, rfl, hp1⟩ := hp1
  obtain ⟨b1a1, c1a1, rfl, w0a1, h1a1⟩ := gGraph_rd.1 hp1
  refine VCnew.intro fun x0 => ?_
  refine VCnew.intro fun x1 => ?_
  refine call_q (szCluster_ct _ (xa0) _ ?_ ?_) (Rp.mono _ (mem_at 0 rfl) hp0) ?_
  · trivial
  · trivial
  rintro _ ⟨r2, rfl, hr2⟩
  refine VCsplit.intro (fun q3 => ?_) (fun q3 => ?_)
  ·
    simp at q3
    exact ⟨[], ⟨rfl, rfl⟩, .mem (by simp)⟩
  ·
    simp at q3
    refine call_q (szGraph_ct _ (xa1) _ ?_ ?_) (Rp.mono _ (mem_at 0 rfl) hp1) ?_
    · trivial
    · omega
    rintro _ ⟨r4, rfl, hr4⟩
    refine VCsplit.intro (fun q5 => ?_) (fun q5 => ?_)
    ·
      simp at q5
      exact ⟨[], ⟨rfl, rfl⟩, .mem (by simp)⟩
    ·
      simp at q5
      refine draw G_ok mixed none (.q 0 (.q 2 (.f 1 (.f 3 (.f 4 (.q 5 (.nil))))))) (by decide +kernel) ?_
      refine call_new (toCluster_ct _ (xa0) ?_) (Rp.mono _ (mem_at 0 rfl) hp0) ?_
      · omega
      rintro v6 A6 o6
      obtain ⟨l6, rfl, o6⟩ := o6
      have r6 := Gt.owrd _ o6
      obtain ⟨l0x6, b1x6, c1x6, b2x6, c2x6, b3x6, c3x6, b4x6, c4x6, rfl, h0x6, h1x6, h2x6, h3x6, h4x6⟩ := gCluster_rd.1 r6
      obtain ⟨b1_0x6, c1_0x6, b2_0x6, c2_0x6, b3_0x6, c3_0x6, rfl, h1_0x6, h2_0x6, h3_0x6⟩ := gQuery_rd.1 h0x6
      refine VC.intro ?_ ?_
      · exact keep_new
      refine call_new (toGraph_ct _ (xa1) ?_) (Rp.mono _ (mem_at 1 rfl) hp1) ?_
      · omega
      rintro v7 A7 o7
      obtain ⟨l7, rfl, o7⟩ := o7
      have r7 := Gt.owrd _ o7
      obtain ⟨b1x7, c1x7, rfl, w0x7, h1x7⟩ := gGraph_rd.1 r7
      refine VC.intro ?_ ?_
      · exact keep_sub (by simp) (by simp)
      refine call_val (specWalksRight_ct _ _ (xa0) (xa1) ?_) ⟨(Rp.mono _ (mem_at 1 rfl) r6), (Rp.mono _ (mem_at 0 rfl) r7)⟩ ?_
      · omega
      rintro _ rfl
      refine VC.intro ?_ ?_
      · exact keep_sub (by simp) (by simp)
      refine call_new (toCluster_ct _ (xa0) ?_) (Rp.mono _ (mem_at 2 rfl) hp0) ?_
      · omega
      rintro v9 A9 o9
      obtain ⟨l9, rfl, o9⟩ := o9
      have r9 := Gt.owrd _ o9
      obtain ⟨l0x9, b1x9, c1x9, b2x9, c2x9, b3x9, c3x9, b4x9, c4x9, rfl, h0x9, h1x9, h2x9, h3x9, h4x9⟩ := gCluster_rd.1 r9
      obtain ⟨b1_0x9, c1_0x9, b2_0x9, c2_0x9, b3_0x9, c3_0x9, rfl, h1_0x9, h2_0x9, h3_0x9⟩ := gQuery_rd.1 h0x9
      refine VCnew.intro fun x10 => ?_
      refine call_new (toGraph_ct _ (xa1) ?_) (Rp.mono _ (mem_at 3 rfl) hp1) ?_
      · omega
      rintro v11 A11 o11
      obtain ⟨l11, rfl, o11⟩ := o11
      have r11 := Gt.owrd _ o11
      obtain ⟨b1x11, c1x11, rfl, w0x11, h1x11⟩ := gGraph_rd.1 r11
      refine VCnew.intro fun x12 => ?_
      refine call_val (implWalksRight_ct _ _ (xa0) (xa1) ?_) ⟨(Rp.mono _ (mem_at 1 rfl) r9), (Rp.mono _ (mem_at 0 rfl) r11)⟩ ?_
      · omega
      rintro _ rfl
      refine VCsplit.intro (fun q14 => ?_) (fun q14 => ?_)
      ·
        simp at q14
      ·
        simp at q14
        refine draw G_ok mixed none (.q 0 (.q 1 (.f 2 (.f 3 (.q 4 (.nil)))))) (by decide +kernel) ?_
        refine call_new (toCluster_ct _ (xa0) ?_) (Rp.mono _ (mem_at 4 rfl) hp0) ?_
        · omega
        rintro v15 A15 o15
        obtain ⟨l15, rfl, o15⟩ := o15
        have r15 := Gt.owrd _ o15
        obtain ⟨l0x15, b1x15, c1x15, b2x15, c2x15, b3x15, c3x15, b4x15, c4x15, rfl, h0x15, h1x15, h2x15, h3x15, h4x15⟩ := gCluster_rd.1 r15
        obtain ⟨b1_0x15, c1_0x15, b2_0x15, c2_0x15, b3_0x15, c3_0x15, rfl, h1_0x15, h2_0x15, h3_0x15⟩ := gQuery_rd.1 h0x15
        refine VC.intro ?_ ?_
        · exact keep_new
        refine call_val (eqCluster_ct _ _ (xa0) (xa0)) ⟨(Rp.mono _ (mem_at 2 rfl) r9), (Rp.mono _ (mem_at 0 rfl) r15)⟩ ?_
        rintro _ rfl
        refine VC.intro ?_ ?_
        · exact keep_new
        refine VCsplit.intro (fun q17 => ?_) (fun q17 => ?_)
        ·
          simp at q17
        ·
          simp at q17
          refine draw G_ok mixed none (.q 0 (.q 1 (.f 2 (.f 3 (.q 4 (.nil)))))) (by decide +kernel) ?_
          refine call_new (toGraph_ct _ (xa1) ?_) (Rp.mono _ (mem_at 5 rfl) hp1) ?_
          · omega
          rintro v18 A18 o18
          obtain ⟨l18, rfl, o18⟩ := o18
          have r18 := Gt.owrd _ o18
          obtain ⟨b1x18, c1x18, rfl, w0x18, h1x18⟩ := gGraph_rd.1 r18
          refine VC.intro ?_ ?_
          · exact keep_new
          refine call_val (eqGraph_ct _ _ (xa1) (xa1)) ⟨(Rp.mono _ (mem_at 2 rfl) r11), (Rp.mono _ (mem_at 0 rfl) r18)⟩ ?_
          rintro _ rfl
          refine VC.intro ?_ ?_
          · exact keep_new
          refine VCsplit.intro (fun q20 => ?_) (fun q20 => ?_)
          ·
            simp at q20
          ·
            simp at q20
            exact ⟨[], ⟨rfl, rfl⟩, .mem (by simp)⟩
end Go.Proofs.YtjgehblllhkdbaaGreat
