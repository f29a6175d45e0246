/-
  Queries that are right: the parts, on both sides. Queries that are right, on both sides. Shares, on both sides. Cells made, on both sides. Cells made, on both sides: CellNew. The laws' helpers over their types: marks, and what is held (printed by gent.py). The two sides make cells alike. Conditions: none.
-/
import Derived.Test.YtflfohphebmemaaGreatCa4

namespace Go.Proofs.YtflfohphebmemaaGreat
open Go.SX Go.Proofs
set_option linter.unusedSimpArgs false
set_option linter.unusedVariables false
set_option maxHeartbeats 4000000
attribute [local irreducible] IntKind.wrap atomM
theorem toL_nil8 {s : ByteArray} : s.toList = [] ↔ s.size = 0 := by
  have e : (ByteArray.empty).toList = [] := by simp
  constructor
  · intro h
    have h2 : s = ByteArray.empty := str_inj.1 (h.trans e.symm)
    rw [h2]; rfl
  · intro h
    have h2 := by_size s
    rw [h] at h2
    have h3 : s = ByteArray.empty := by_inj.1 (by rw [List.length_eq_zero_iff.1 h2]; rfl)
    rw [h3, e]
--@ct impl.NamesOf new implNamesOf_ct _ $1 ?_ | %1 | obtain ⟨b#, c#, rfl, o#⟩ := o#
theorem lit2_ow {x : Nat} {a b : ByteArray} (h1 : a.size ≤ 9223372036854775807) (h2 : b.size ≤ 9223372036854775807) : (gSl 9 gS).ow [.slice (some ⟨x, 0, none⟩) 2 2] [a, b] [(x, Obj.cells ⟨[.string a, .string b]⟩ 9)] :=
  ow_fl (Ow.lit (f := flStr) (T := 9) (b := x) (xs := [a, b]) (fun y hy => (List.mem_cons.1 hy).elim (fun e => by rw [e]; exact h1) (fun hy => by rw [List.mem_singleton.1 hy]; exact h2)) (by simp))
def twoN (o : List ByteArray) (a b : ByteArray) : Nat → List ByteArray
  | 0 => o
  | 1 => addN o a
  | _ + 2 => addN (addN o a) b
theorem twoN_step {o : List ByteArray} {a b : ByteArray} {j : Nat} (h : j < 2) : twoN o a b (j + 1) = addN (twoN o a b j) ([a, b][j]?.getD ByteArray.empty) := by
  rcases (by omega : j = 0 ∨ j = 1) with rfl | rfl <;> rfl
theorem twoN_len (o : List ByteArray) (a b : ByteArray) {j : Nat} (h : j ≤ 2) : (twoN o a b j).length ≤ o.length + j := by
  rcases (by omega : j = 0 ∨ j = 1 ∨ j = 2) with rfl | rfl | rfl
  · exact Nat.le_refl _
  · exact addN_len o a
  · have h1 := addN_len o a
    have h2 := addN_len (addN o a) b
    show (addN (addN o a) b).length ≤ _; omega
theorem implNamesOf_ct (l : List Value) (x : Query) (hx : x.atoms.length ≤ 1048576) : Ct Tryz.prog 164 [.agg ⟨l⟩] [] (fun H => gQuery.rd H l x) (fun v A => ∃ b c, v = .slice b (namesM x.atoms).length c ∧ (gSl 9 gS).ow [.slice b (namesM x.atoms).length c] (namesM x.atoms) A) := by
  refine Ct.intro0 G_ok Tryz.func164 rfl rfl rfl fun E H hp => ?_
  obtain ⟨b1p, c1p, b2p, c2p, b3p, c3p, rfl, h1p, h2p, h3p⟩ := gQuery_rd.1 hp
  refine VCnew.intro fun x0 => ?_
  apply loop_mod (α := (Nat) × (List ByteArray) × (Hp) × (Option Addr) × (Nat)) G_ok [12, 13, 14, 5, 15, 16, 17, 18, 19, 20, 21, 22, 23, 24, 7, 25, 26, 27, 28, 29, 30, 31, 32, 3, 33, 34, 11] (fun z => [(11, .v (.int .i64 z.1)), (3, .v (.slice z.2.2.2.1 z.2.1.length z.2.2.2.2))]) (fun z => [{ id := x0, cs := [Value.bool x.each, Value.slice b1p x.out.length c1p, Value.slice b2p x.atoms.length c2p, Value.slice b3p x.filters.length c3p], ty := (55 : Nat) }]) (fun z => [z.2.2.1, H]) (fun z => x.atoms.length - z.1) (fun z => z.1 ≤ x.atoms.length ∧ z.2.1 = namesM (x.atoms.take z.1) ∧ (gSl 9 gS).ow [.slice z.2.2.2.1 z.2.1.length z.2.2.2.2] z.2.1 z.2.2.1) ((0, [], [], _, 0))
  · repeat' (first | exact trivial | refine ⟨⟨_, rfl, by first | rfl | exact inc_eq _ (by omega) | (refine sl_eq ?_; simp; done), by first | exact trivial | simp [SV.ok]⟩, ?_⟩)
  · exact ⟨rfl, trivial⟩
  · try dsimp only
    exact ⟨Nat.zero_le _, rfl, sl_nil _ _ _⟩
  · exact .refl _
  rintro ⟨k, o, A, lb, lc⟩ hI
  obtain ⟨hk, ho, oA⟩ : k ≤ x.atoms.length ∧ o = namesM (x.atoms.take k) ∧ (gSl 9 gS).ow [.slice lb o.length lc] o A := hI
  try dsimp only
  refine VCsplit.intro (fun q1 => ?_) (fun q1 => ?_)
  ·
    simp at q1
    have hlen := namesM_len x.atoms k (by omega)
    have hol : o.length ≤ 2 * k := (by rw [ho]; exact hlen)
    refine idx_rd h2p ?_ ?_ fun b2 o2 hb2 => ?_
    · omega
    · omega
    refine load_allN default (k) rfl h2p ?_ ?_ hb2 rfl (mem_at 1 rfl) fun l3 hl3 => ?_
    · omega
    · omega
    obtain ⟨rfl, w0x3, w1x3, w2x3⟩ := gAtom_rd.1 hl3
    refine VCnew.intro fun x4 => ?_
    refine VCnew.intro fun x5 => ?_
    apply loop_mod (α := (Nat) × (List ByteArray) × (Hp) × (Option Addr) × (Nat)) G_ok [22, 23, 24, 7, 25, 26, 27, 28, 29, 30, 31, 32, 3, 33, 21] (fun z => [(21, .v (.int .i64 z.1)), (3, .v (.slice z.2.2.2.1 z.2.1.length z.2.2.2.2))]) (fun z => [{ id := x0, cs := [Value.bool x.each, Value.slice b1p x.out.length c1p, Value.slice b2p x.atoms.length c2p, Value.slice b3p x.filters.length c3p], ty := (55 : Nat) }, { id := x4, cs := [Value.string (x.atoms[k]?.getD default).from', Value.string (x.atoms[k]?.getD default).path, Value.string (x.atoms[k]?.getD default).to], ty := (143 : Nat) }]) (fun z => [z.2.2.1, [(x5, Obj.cells ⟨[.string (x.atoms[k]?.getD default).from', .string (x.atoms[k]?.getD default).to]⟩ 9)], H]) (fun z => 2 - z.1) (fun z => z.1 ≤ 2 ∧ z.2.1 = twoN o (x.atoms[k]?.getD default).from' (x.atoms[k]?.getD default).to z.1 ∧ (gSl 9 gS).ow [.slice z.2.2.2.1 z.2.1.length z.2.2.2.2] z.2.1 z.2.2.1) ((0, o, A, lb, lc))
    · repeat' (first | exact trivial | refine ⟨⟨_, rfl, by first | rfl | exact inc_eq _ (by omega) | (refine sl_eq ?_; simp; done), by first | exact trivial | simp [SV.ok]⟩, ?_⟩)
    · exact ⟨rfl, rfl, trivial⟩
    · try dsimp only
      exact ⟨Nat.zero_le _, rfl, oA⟩
    · exact .le fun a => by simp [List.count_cons, List.count_append, Blk.ent, St.hall, setR, zeros, List.append]; omega
    rintro ⟨j, o2, A2, lb2, lc2⟩ hI
    obtain ⟨hj, ho2, oA2⟩ : j ≤ 2 ∧ o2 = twoN o (x.atoms[k]?.getD default).from' (x.atoms[k]?.getD default).to j ∧ (gSl 9 gS).ow [.slice lb2 o2.length lc2] o2 A2 := hI
    try dsimp only
    refine VCsplit.intro (fun q6 => ?_) (fun q6 => ?_)
    ·
      simp at q6
      have hlit := lit2_ow (x := x5) (a := (x.atoms[k]?.getD default).from') (b := (x.atoms[k]?.getD default).to) (by assumption) (by assumption)
      have hlen2 : o2.length ≤ 2 * k + 2 := (by have := twoN_len o (x.atoms[k]?.getD default).from' (x.atoms[k]?.getD default).to (j := j) (by omega); rw [ho2]; omega)
      refine idx_rd (Gt.owrd _ hlit) ?_ ?_ fun b7 o7 hb7 => ?_
      · omega
      · trivial
      refine load_allN ByteArray.empty (j) rfl (Gt.owrd _ hlit) ?_ ?_ hb7 rfl (mem_at 1 rfl) fun l8 hl8 => ?_
      · omega
      · trivial
      obtain ⟨rfl, hw8⟩ := hl8; simp only [flStr, flInt, okI] at hw8
      refine call_val (sContainsS_ct _ _ _ (o2) _) (Rp.mono _ (mem_at 0 rfl) (Gt.owrd _ oA2)) ?_
      rintro _ rfl
      refine VCsplit.intro (fun q10 => ?_) (fun q10 => ?_)
      ·
        simp at q10
        refine VCnew.intro fun x11 => ?_
        refine gappend1 (g := gS) (T := (9 : TypeId)) G_ok A2 [] [[(x5, Obj.cells { toList := [Value.string (x.atoms[k]?.getD default).from', Value.string (x.atoms[k]?.getD default).to] } (9 : TypeId))], H] ?_ oA2 (gS_ow ?_) (List.mem_of_getElem? (i := 0) rfl) rfl rfl rfl rfl rfl rfl rfl rfl ?_ fun b12 c12 A12 o12 => ?_
        · exact .tl
        · trivial
        · omega
        apply loop_stepA (j + 1, _, _, _, _)
        · exact .refl _
        · repeat' (first | exact trivial | refine ⟨⟨_, rfl, by first | rfl | exact inc_eq _ (by omega) | (refine sl_eq ?_; simp; done), by first | exact trivial | simp [SV.ok]⟩, ?_⟩)
        · exact ⟨rfl, rfl, trivial⟩
        · try dsimp only
          exact ⟨by omega, by rw [twoN_step (by omega), ← ho2, addN_no (by assumption)], by assumption⟩
        · try dsimp only
          omega
      ·
        simp at q10
        apply loop_stepA (j + 1, _, _, _, _)
        · exact .refl _
        · repeat' (first | exact trivial | refine ⟨⟨_, rfl, by first | rfl | exact inc_eq _ (by omega) | (refine sl_eq ?_; simp; done), by first | exact trivial | simp [SV.ok]⟩, ?_⟩)
        · exact ⟨rfl, rfl, trivial⟩
        · try dsimp only
          exact ⟨by omega, by rw [twoN_step (by omega), ← ho2, addN_yes (by assumption)], by assumption⟩
        · try dsimp only
          omega
    ·
      simp at q6
      apply loop_stepA (k + 1, _, _, _, _)
      · exact .sub (by repeat (first | exact .slnil | apply List.Sublist.cons_cons | apply List.Sublist.cons))
      · repeat' (first | exact trivial | refine ⟨⟨_, rfl, by first | rfl | exact inc_eq _ (by omega) | (refine sl_eq ?_; simp; done), by first | exact trivial | simp [SV.ok]⟩, ?_⟩)
      · exact ⟨rfl, trivial⟩
      · try dsimp only
        (have hje : j = 2 := (by omega); subst hje; exact ⟨by omega, by rw [ho2, ho, namesM_step (by omega)]; rfl, by assumption⟩)
      · try dsimp only
        omega
  ·
    simp at q1
    (have hke : k = x.atoms.length := (by omega); subst hke; rw [List.take_length] at ho; subst ho; exact ⟨_, ⟨_, _, rfl, by assumption⟩, (.le fun a => by (try simp only [setR, List.cons_append, List.nil_append]); simp [List.count_cons, Blk.ent, idOf]; try omega)⟩)
--@ct impl.areDistinct val areDistinct_ct _ _ _ $1 | %1
def distM (l : List ByteArray) : Bool := allK (fun i => !hasS (l.take i) (l[i]?.getD ByteArray.empty)) l.length
theorem dist_no {l : List ByteArray} {k : Nat} (hk : k < l.length) (h : hasS (l.take k) (l[k]?.getD ByteArray.empty) = true) : distM l = false := by
  unfold distM; rw [allK_no (p := fun i => !hasS (l.take i) (l[i]?.getD ByteArray.empty)) (k := k) (by simp [h]) _ hk]
theorem dist_no2 {l : List ByteArray} {k : Nat} (hk : k < l.length) (h : hasS ((l.take ((k : Nat) : Int).toNat).drop 0) (l[k]?.getD ByteArray.empty) = true) : distM l = false := dist_no hk h
theorem dist_step {l : List ByteArray} {k : Nat} (h : hasS ((l.take ((k : Nat) : Int).toNat).drop 0) (l[k]?.getD ByteArray.empty) = false) : (!hasS (l.take k) (l[k]?.getD ByteArray.empty)) = true := by
  have h : hasS (l.take k) (l[k]?.getD ByteArray.empty) = false := h
  rw [h]; rfl
theorem areDistinct_ct (b : Option Addr) (m c : Nat) (xs : List ByteArray) : Ct Tryz.prog 224 [.slice b m c] [] (fun H => (gSl 9 gS).rd H [.slice b m c] xs) (fun v A => v = .bool (distM xs) ∧ A = []) := by
  refine Ct.intro0 G_ok Tryz.func224 rfl rfl rfl fun E H hp => ?_
  obtain ⟨rfl, hcl, hl⟩ := sl_len hp
  apply loop_mod (α := (Nat)) G_ok [8, 9, 10, 11, 3, 4, 12, 13, 14, 15, 16, 2, 17, 7] (fun z => [(7, .v (.int .i64 z))]) (fun z => []) (fun z => [H]) (fun z => xs.length - z) (fun z => z ≤ xs.length ∧ allK (fun i => !hasS (xs.take i) (xs[i]?.getD ByteArray.empty)) z = true) ((0))
  · repeat' (first | exact trivial | refine ⟨⟨_, rfl, by first | rfl | exact inc_eq _ (by omega) | (refine sl_eq ?_; simp; done), by first | exact trivial | simp [SV.ok]⟩, ?_⟩)
  · exact trivial
  · exact ⟨Nat.zero_le _, rfl⟩
  · exact .refl _
  rintro k hI
  obtain ⟨hk, ha⟩ : k ≤ xs.length ∧ allK (fun i => !hasS (xs.take i) (xs[i]?.getD ByteArray.empty)) k = true := hI
  try dsimp only
  refine VCsplit.intro (fun q0 => ?_) (fun q0 => ?_)
  ·
    simp at q0
    refine idx_rd hp ?_ ?_ fun b1 o1 hb1 => ?_
    · omega
    · omega
    refine load_allN ByteArray.empty (k) rfl hp ?_ ?_ hb1 rfl (mem_at 0 rfl) fun l2 hl2 => ?_
    · omega
    · omega
    obtain ⟨rfl, hw2⟩ := hl2; simp only [flStr, flInt, okI] at hw2
    refine VC.intro ?_ ?_
    · omega
    refine call_val (sContainsS_ct _ _ _ ((xs.take ((k : Nat) : Int).toNat).drop 0) _) (Rp.mono _ (mem_at 0 rfl) (rd_sub (r := gS.toRp) (l := 0) (h := ((k : Nat) : Int).toNat) hp (by omega) (by omega))) ?_
    rintro _ rfl
    refine VCsplit.intro (fun q4 => ?_) (fun q4 => ?_)
    ·
      simp at q4
      exact ⟨[], ⟨by rw [dist_no2 (k := k) (by omega) (by assumption)], rfl⟩, (.le fun a => by (try simp only [setR, List.cons_append, List.nil_append]); simp [List.count_cons, Blk.ent, idOf]; try omega)⟩
    ·
      simp at q4
      apply loop_stepA (k + 1)
      · exact .refl _
      · repeat' (first | exact trivial | refine ⟨⟨_, rfl, by first | rfl | exact inc_eq _ (by omega) | (refine sl_eq ?_; simp; done), by first | exact trivial | simp [SV.ok]⟩, ?_⟩)
      · exact trivial
      · exact ⟨by omega, allK_step ha (dist_step (by assumption))⟩
      · omega
  ·
    simp at q0
    (have hke : k = xs.length := (by omega); subst hke; exact ⟨[], ⟨congrArg Value.bool ha.symm, rfl⟩, (.le fun a => by (try simp only [setR, List.cons_append, List.nil_append]); simp [List.count_cons, Blk.ent, idOf]; try omega)⟩)
--@ct impl.containsAll val containsAll_ct _ _ _ _ _ _ $1 $2 | ⟨%1, %2⟩
def inAll (l s : List ByteArray) : Bool := allK (fun i => hasS l (s[i]?.getD ByteArray.empty)) s.length
theorem inAll_no {l s : List ByteArray} {k : Nat} (hk : k < s.length) (h : hasS l (s[k]?.getD ByteArray.empty) = false) : inAll l s = false := by
  unfold inAll; rw [allK_no (p := fun i => hasS l (s[i]?.getD ByteArray.empty)) (k := k) h _ hk]
theorem containsAll_ct (b : Option Addr) (m c : Nat) (b2 : Option Addr) (m2 c2 : Nat) (xs ys : List ByteArray) : Ct Tryz.prog 225 [.slice b m c, .slice b2 m2 c2] [] (fun H => (gSl 9 gS).rd H [.slice b m c] xs ∧ (gSl 9 gS).rd H [.slice b2 m2 c2] ys) (fun v A => v = .bool (inAll xs ys) ∧ A = []) := by
  refine Ct.intro0 G_ok Tryz.func225 rfl rfl rfl fun E H hp => ?_
  obtain ⟨hp, hq⟩ := hp
  obtain ⟨rfl, hcl, hl⟩ := sl_len hp
  obtain ⟨rfl, hcl2, hl2⟩ := sl_len hq
  apply loop_mod (α := (Nat)) G_ok [10, 11, 12, 6, 13, 14, 15, 16, 4, 17, 9] (fun z => [(9, .v (.int .i64 z))]) (fun z => []) (fun z => [H]) (fun z => ys.length - z) (fun z => z ≤ ys.length ∧ allK (fun i => hasS xs (ys[i]?.getD ByteArray.empty)) z = true) ((0))
  · repeat' (first | exact trivial | refine ⟨⟨_, rfl, by first | rfl | exact inc_eq _ (by omega) | (refine sl_eq ?_; simp; done), by first | exact trivial | simp [SV.ok]⟩, ?_⟩)
  · exact trivial
  · exact ⟨Nat.zero_le _, rfl⟩
  · exact .refl _
  rintro k hI
  obtain ⟨hk, ha⟩ : k ≤ ys.length ∧ allK (fun i => hasS xs (ys[i]?.getD ByteArray.empty)) k = true := hI
  try dsimp only
  refine VCsplit.intro (fun q0 => ?_) (fun q0 => ?_)
  ·
    simp at q0
    refine idx_rd hq ?_ ?_ fun b1 o1 hb1 => ?_
    · omega
    · omega
    refine load_allN ByteArray.empty (k) rfl hq ?_ ?_ hb1 rfl (mem_at 0 rfl) fun l2 hl2 => ?_
    · omega
    · omega
    obtain ⟨rfl, hw2⟩ := hl2; simp only [flStr, flInt, okI] at hw2
    refine call_val (sContainsS_ct _ _ _ (xs) _) (Rp.mono _ (mem_at 0 rfl) hp) ?_
    rintro _ rfl
    refine VCsplit.intro (fun q4 => ?_) (fun q4 => ?_)
    ·
      simp at q4
      exact ⟨[], ⟨by rw [inAll_no (k := k) (by omega) (by assumption)], rfl⟩, (.le fun a => by (try simp only [setR, List.cons_append, List.nil_append]); simp [List.count_cons, Blk.ent, idOf]; try omega)⟩
    ·
      simp at q4
      apply loop_stepA (k + 1)
      · exact .refl _
      · repeat' (first | exact trivial | refine ⟨⟨_, rfl, by first | rfl | exact inc_eq _ (by omega) | (refine sl_eq ?_; simp; done), by first | exact trivial | simp [SV.ok]⟩, ?_⟩)
      · exact trivial
      · exact ⟨by omega, allK_step ha (by assumption)⟩
      · omega
  ·
    simp at q0
    (have hke : k = ys.length := (by omega); subst hke; exact ⟨[], ⟨congrArg Value.bool ha.symm, rfl⟩, (.le fun a => by (try simp only [setR, List.cons_append, List.nil_append]); simp [List.count_cons, Blk.ent, idOf]; try omega)⟩)
--@ct impl.isOp val isOp_ct _
theorem isOp_ct (n : Int) : Ct Tryz.prog 250 [.int .i64 n] [] (fun _ => True) (fun v A => v = .bool (inR 1 2 n) ∧ A = []) := by
  refine Ct.intro0 G_ok Tryz.func250 rfl rfl rfl fun E H hp => ?_
  refine VCsplit.intro (fun q0 => ?_) (fun q0 => ?_)
  ·
    simp at q0
    exact ⟨[], ⟨congrArg Value.bool (by unfold inR; rw [Bool.eq_iff_iff]; simp; omega), rfl⟩, (.le fun a => by (try simp only [setR, List.cons_append, List.nil_append]); simp only [List.flatten_append, List.flatten_cons, List.flatten_nil, List.count_append, List.count_nil, List.append_nil, List.nil_append]; omega)⟩
  ·
    simp at q0
    exact ⟨[], ⟨congrArg Value.bool (by unfold inR; rw [Bool.eq_iff_iff]; simp; omega), rfl⟩, (.le fun a => by (try simp only [setR, List.cons_append, List.nil_append]); simp only [List.flatten_append, List.flatten_cons, List.flatten_nil, List.count_append, List.count_nil, List.append_nil, List.nil_append]; omega)⟩
def filterM (ns : List ByteArray) (f : Filter) : Bool := hasS ns f.left && (inR 1 2 f.op && (if f.right.size = 0 then inR 0 99 f.num else decide (f.num = 0) && hasS ns f.right))
--@ct impl.filterOk val filterOk_ct _ _ _ _ $1 $2 | ⟨%1, %2⟩
theorem filterOk_ct (l : List Value) (b : Option Addr) (m c : Nat) (f : Filter) (ns : List ByteArray) : Ct Tryz.prog 226 [.agg ⟨l⟩, .slice b m c] [] (fun H => gFilter.rd H l f ∧ (gSl 9 gS).rd H [.slice b m c] ns) (fun v A => v = .bool (filterM ns f) ∧ A = []) := by
  refine Ct.intro0 G_ok Tryz.func226 rfl rfl rfl fun E H hp => ?_
  obtain ⟨hp, hq⟩ := hp
  obtain ⟨rfl, w0p, w1p, w2p, w3p⟩ := gFilter_rd.1 hp
  refine VCnew.intro fun x0 => ?_
  refine call_val (sContainsS_ct _ _ _ (ns) _) (Rp.mono _ (mem_at 0 rfl) hq) ?_
  rintro _ rfl
  refine VCsplit.intro (fun q2 => ?_) (fun q2 => ?_)
  ·
    simp at q2
    exact ⟨[], ⟨congrArg Value.bool (by unfold filterM; rw [‹hasS ns f.left = false›]; rfl), rfl⟩, (.le fun a => by (try simp only [setR, List.cons_append, List.nil_append]); simp [List.count_cons, Blk.ent, idOf]; try omega)⟩
  ·
    simp at q2
    refine call_val (isOp_ct _) trivial ?_
    rintro _ rfl
    refine VCsplit.intro (fun q4 => ?_) (fun q4 => ?_)
    ·
      simp at q4
      exact ⟨[], ⟨congrArg Value.bool (by unfold filterM; rw [‹inR 1 2 f.op = false›]; simp), rfl⟩, (.le fun a => by (try simp only [setR, List.cons_append, List.nil_append]); simp [List.count_cons, Blk.ent, idOf]; try omega)⟩
    ·
      simp at q4
      refine VCsplit.intro (fun q5 => ?_) (fun q5 => ?_)
      ·
        simp at q5
        have iq5 := toL_nil8.1 q5
        refine VCsplit.intro (fun q6 => ?_) (fun q6 => ?_)
        ·
          simp at q6
          exact ⟨[], ⟨congrArg Value.bool (by unfold filterM; rw [‹hasS ns f.left = true›, ‹inR 1 2 f.op = true›, if_pos (by assumption)]; unfold inR; rw [Bool.eq_iff_iff]; simp; omega), rfl⟩, (.le fun a => by (try simp only [setR, List.cons_append, List.nil_append]); simp [List.count_cons, Blk.ent, idOf]; try omega)⟩
        ·
          simp at q6
          exact ⟨[], ⟨congrArg Value.bool (by unfold filterM; rw [‹hasS ns f.left = true›, ‹inR 1 2 f.op = true›, if_pos (by assumption)]; unfold inR; rw [Bool.eq_iff_iff]; simp; omega), rfl⟩, (.le fun a => by (try simp only [setR, List.cons_append, List.nil_append]); simp [List.count_cons, Blk.ent, idOf]; try omega)⟩
      ·
        simp at q5
        have iq5 := mt toL_nil8.2 q5
        refine VCsplit.intro (fun q7 => ?_) (fun q7 => ?_)
        ·
          simp at q7
          refine call_val (sContainsS_ct _ _ _ (ns) _) (Rp.mono _ (mem_at 0 rfl) hq) ?_
          rintro _ rfl
          exact ⟨[], ⟨congrArg Value.bool (by unfold filterM; rw [‹hasS ns f.left = true›, ‹inR 1 2 f.op = true›, if_neg (by assumption), decide_eq_true (by assumption)]; rfl), rfl⟩, (.le fun a => by (try simp only [setR, List.cons_append, List.nil_append]); simp [List.count_cons, Blk.ent, idOf]; try omega)⟩
        ·
          simp at q7
          exact ⟨[], ⟨congrArg Value.bool (by unfold filterM; rw [‹hasS ns f.left = true›, ‹inR 1 2 f.op = true›, if_neg (by assumption), decide_eq_false (by assumption)]; rfl), rfl⟩, (.le fun a => by (try simp only [setR, List.cons_append, List.nil_append]); simp [List.count_cons, Blk.ent, idOf]; try omega)⟩
end Go.Proofs.YtflfohphebmemaaGreat

namespace Go.Proofs.YtflfohphebmemaaGreat
open Go.SX Go.Proofs
set_option linter.unusedSimpArgs false
set_option linter.unusedVariables false
set_option maxHeartbeats 8000000
attribute [local irreducible] IntKind.wrap atomM namesM
def queryP (x : Query) : Prop := (1 ≤ x.atoms.length ∧ x.atoms.length ≤ 4 ∧ x.filters.length ≤ 3 ∧ 1 ≤ x.out.length ∧ x.out.length ≤ 4 ∧ (namesM x.atoms).length ≤ 4) ∧
  (∀ k, k < x.atoms.length → atomM (x.atoms[k]?.getD default) = true) ∧ distM x.out = true ∧ inAll (namesM x.atoms) x.out = true ∧ ∀ k, k < x.filters.length → filterM (namesM x.atoms) (x.filters[k]?.getD default) = true
open Classical in
noncomputable def queryM (x : Query) : Bool := decide (queryP x)
open Classical in
theorem q_no {x : Query} (h : ¬ queryP x) : queryM x = false := by unfold queryM; exact decide_eq_false h
open Classical in
theorem q_yes {x : Query} (h : queryP x) : queryM x = true := by unfold queryM; exact decide_eq_true h
theorem sz_at8 {α : Type} (g : Gt α) (z : α) : ∀ (xs : List α) (k : Nat), k < xs.length → g.sz (xs[k]?.getD z) + 1 ≤ szL g xs
  | [], k, h => absurd h (by simp)
  | x :: r, 0, _ => by rw [show szL g (x :: r) = 1 + g.sz x + szL g r from rfl]; show g.sz x + 1 ≤ _; omega
  | x :: r, k + 1, h => by
    have := sz_at8 g z r k (by simpa using h)
    rw [show szL g (x :: r) = 1 + g.sz x + szL g r from rfl]
    show g.sz (r[k]?.getD z) + 1 ≤ _; omega
theorem atoms_path {x : Query} (h : gQuery.sz x ≤ 1048576) {k : Nat} (hk : k < x.atoms.length) : (x.atoms[k]?.getD default).path.size ≤ 1048576 := by
  have h1 := gQuery_sz x
  have h2 := sz_at8 gAtom default x.atoms k hk
  have h3 := gAtom_sz (x.atoms[k]?.getD default)
  omega
theorem ff {b : Bool} (h1 : b = true) (h2 : b = false) : False := by rw [h1] at h2; cases h2
--@ct impl.QueryOk val implQueryOk_ct _ $1 ?_ | %1
theorem implQueryOk_ct (l : List Value) (x : Query) (hx : gQuery.sz x ≤ 1048576) : Ct Tryz.prog 163 [.agg ⟨l⟩] [] (fun H => gQuery.rd H l x) (fun v A => v = .bool (queryM x) ∧ A = []) := by
  refine Ct.intro0 G_ok Tryz.func163 rfl rfl rfl fun E H hp => ?_
  obtain ⟨b1p, c1p, b2p, c2p, b3p, c3p, rfl, h1p, h2p, h3p⟩ := gQuery_rd.1 hp
  have ez := gQuery_sz x
  have en1 := len_szL gS x.out
  have en2 := len_szL gAtom x.atoms
  have en3 := len_szL gFilter x.filters
  refine VCnew.intro fun x0 => ?_
  refine VCsplit.intro (fun q1 => ?_) (fun q1 => ?_)
  ·
    simp at q1
    exact ⟨[], ⟨by rw [q_no fun h => by (have := h.1; omega)], rfl⟩, (.le fun a => by (try simp only [setR, List.cons_append, List.nil_append]); simp [List.count_cons, Blk.ent, idOf]; try omega)⟩
  ·
    simp at q1
    refine VCsplit.intro (fun q2 => ?_) (fun q2 => ?_)
    ·
      simp at q2
      exact ⟨[], ⟨by rw [q_no fun h => by (have := h.1; omega)], rfl⟩, (.le fun a => by (try simp only [setR, List.cons_append, List.nil_append]); simp [List.count_cons, Blk.ent, idOf]; try omega)⟩
    ·
      simp at q2
      refine VCsplit.intro (fun q3 => ?_) (fun q3 => ?_)
      ·
        simp at q3
        exact ⟨[], ⟨by rw [q_no fun h => by (have := h.1; omega)], rfl⟩, (.le fun a => by (try simp only [setR, List.cons_append, List.nil_append]); simp [List.count_cons, Blk.ent, idOf]; try omega)⟩
      ·
        simp at q3
        apply loop_mod (α := (Nat)) G_ok [28, 29, 30, 4, 31, 32, 33, 2, 34, 27] (fun z => [(27, .v (.int .i64 z))]) (fun z => [{ id := x0, cs := [Value.bool x.each, Value.slice b1p x.out.length c1p, Value.slice b2p x.atoms.length c2p, Value.slice b3p x.filters.length c3p], ty := (55 : Nat) }]) (fun z => [H]) (fun z => x.atoms.length - z) (fun z => z ≤ x.atoms.length ∧ allK (fun i => atomM (x.atoms[i]?.getD default)) z = true) ((0))
        · repeat' (first | exact trivial | refine ⟨⟨_, rfl, by first | rfl | exact inc_eq _ (by omega) | (refine sl_eq ?_; simp; done), by first | exact trivial | simp [SV.ok]⟩, ?_⟩)
        · exact ⟨rfl, trivial⟩
        · exact ⟨Nat.zero_le _, rfl⟩
        · exact .refl _
        rintro k hI
        obtain ⟨hk, ha⟩ : k ≤ x.atoms.length ∧ allK (fun i => atomM (x.atoms[i]?.getD default)) k = true := hI
        try dsimp only
        refine VCsplit.intro (fun q4 => ?_) (fun q4 => ?_)
        ·
          simp at q4
          refine idx_rd h2p ?_ ?_ fun b5 o5 hb5 => ?_
          · omega
          · omega
          refine load_allN default (k) rfl h2p ?_ ?_ hb5 rfl (mem_at 0 rfl) fun l6 hl6 => ?_
          · omega
          · omega
          obtain ⟨rfl, w0x6, w1x6, w2x6⟩ := gAtom_rd.1 hl6
          refine VCnew.intro fun x7 => ?_
          refine call_val (atomOk_ct _ (x.atoms[k]?.getD default) ?_) (Rp.mono _ (mem_at 0 rfl) hl6) ?_
          · exact Nat.le_trans (atoms_path hx (by omega)) (by decide)
          rintro _ rfl
          refine VCsplit.intro (fun q9 => ?_) (fun q9 => ?_)
          ·
            simp at q9
            exact ⟨[], ⟨by rw [q_no fun h => ff (h.2.1 k (by omega)) (by assumption)], rfl⟩, (.le fun a => by (try simp only [setR, List.cons_append, List.nil_append]); simp [List.count_cons, Blk.ent, idOf]; try omega)⟩
          ·
            simp at q9
            apply loop_stepA (k + 1)
            · exact .refl _
            · repeat' (first | exact trivial | refine ⟨⟨_, rfl, by first | rfl | exact inc_eq _ (by omega) | (refine sl_eq ?_; simp; done), by first | exact trivial | simp [SV.ok]⟩, ?_⟩)
            · exact ⟨rfl, trivial⟩
            · exact ⟨by omega, allK_step ha (by assumption)⟩
            · omega
        ·
          simp at q4
          refine call_new (implNamesOf_ct _ x ?_) (Rp.mono _ (mem_at 0 rfl) hp) ?_
          · omega
          rintro v10 A10 o10
          obtain ⟨bN, cN, rfl, oN⟩ := o10
          have rN := Gt.owrd _ oN
          refine VCsplit.intro (fun q11 => ?_) (fun q11 => ?_)
          ·
            simp at q11
            exact ⟨[], ⟨by rw [q_no fun h => by (have := h.1; omega)], rfl⟩, (.le fun a => by (try simp only [setR, List.cons_append, List.nil_append]); simp [List.count_cons, Blk.ent, idOf]; try omega)⟩
          ·
            simp at q11
            refine VCsplit.intro (fun q12 => ?_) (fun q12 => ?_)
            ·
              simp at q12
              exact ⟨[], ⟨by rw [q_no fun h => by (have := h.1; omega)], rfl⟩, (.le fun a => by (try simp only [setR, List.cons_append, List.nil_append]); simp [List.count_cons, Blk.ent, idOf]; try omega)⟩
            ·
              simp at q12
              refine VCsplit.intro (fun q13 => ?_) (fun q13 => ?_)
              ·
                simp at q13
                exact ⟨[], ⟨by rw [q_no fun h => by (have := h.1; omega)], rfl⟩, (.le fun a => by (try simp only [setR, List.cons_append, List.nil_append]); simp [List.count_cons, Blk.ent, idOf]; try omega)⟩
              ·
                simp at q13
                refine call_val (areDistinct_ct _ _ _ (x.out)) (Rp.mono _ (mem_at 1 rfl) h1p) ?_
                rintro _ rfl
                refine VCsplit.intro (fun q15 => ?_) (fun q15 => ?_)
                ·
                  simp at q15
                  exact ⟨[], ⟨by rw [q_no fun h => ff h.2.2.1 (by assumption)], rfl⟩, (.le fun a => by (try simp only [setR, List.cons_append, List.nil_append]); simp [List.count_cons, Blk.ent, idOf]; try omega)⟩
                ·
                  simp at q15
                  refine call_val (containsAll_ct _ _ _ _ _ _ (namesM x.atoms) (x.out)) ⟨(Rp.mono _ (mem_at 0 rfl) rN), (Rp.mono _ (mem_at 1 rfl) h1p)⟩ ?_
                  rintro _ rfl
                  refine VCsplit.intro (fun q17 => ?_) (fun q17 => ?_)
                  ·
                    simp at q17
                    exact ⟨[], ⟨by rw [q_no fun h => ff h.2.2.2.1 (by assumption)], rfl⟩, (.le fun a => by (try simp only [setR, List.cons_append, List.nil_append]); simp [List.count_cons, Blk.ent, idOf]; try omega)⟩
                  ·
                    simp at q17
                    apply loop_mod (α := (Nat)) G_ok [67, 68, 69, 7, 70, 71, 72, 73, 2, 74, 66] (fun z => [(66, .v (.int .i64 z))]) (fun z => [{ id := x0, cs := [Value.bool x.each, Value.slice b1p x.out.length c1p, Value.slice b2p x.atoms.length c2p, Value.slice b3p x.filters.length c3p], ty := (55 : Nat) }]) (fun z => [A10, H]) (fun z => x.filters.length - z) (fun z => z ≤ x.filters.length ∧ allK (fun i => filterM (namesM x.atoms) (x.filters[i]?.getD default)) z = true) ((0))
                    · repeat' (first | exact trivial | refine ⟨⟨_, rfl, by first | rfl | exact inc_eq _ (by omega) | (refine sl_eq ?_; simp; done), by first | exact trivial | simp [SV.ok]⟩, ?_⟩)
                    · exact ⟨rfl, trivial⟩
                    · exact ⟨Nat.zero_le _, rfl⟩
                    · exact .refl _
                    rintro j hI
                    obtain ⟨hj, hf⟩ : j ≤ x.filters.length ∧ allK (fun i => filterM (namesM x.atoms) (x.filters[i]?.getD default)) j = true := hI
                    try dsimp only
                    refine VCsplit.intro (fun q18 => ?_) (fun q18 => ?_)
                    ·
                      simp at q18
                      refine idx_rd h3p ?_ ?_ fun b19 o19 hb19 => ?_
                      · omega
                      · omega
                      refine load_allN default (j) rfl h3p ?_ ?_ hb19 rfl (mem_at 1 rfl) fun l20 hl20 => ?_
                      · omega
                      · omega
                      obtain ⟨rfl, w0x20, w1x20, w2x20, w3x20⟩ := gFilter_rd.1 hl20
                      refine VCnew.intro fun x21 => ?_
                      refine call_val (filterOk_ct _ _ _ _ (x.filters[j]?.getD default) (namesM x.atoms)) ⟨(Rp.mono _ (mem_at 1 rfl) hl20), (Rp.mono _ (mem_at 0 rfl) rN)⟩ ?_
                      rintro _ rfl
                      refine VCsplit.intro (fun q23 => ?_) (fun q23 => ?_)
                      ·
                        simp at q23
                        exact ⟨[], ⟨by rw [q_no fun h => ff (h.2.2.2.2 j (by omega)) (by assumption)], rfl⟩, (.le fun a => by (try simp only [setR, List.cons_append, List.nil_append]); simp [List.count_cons, Blk.ent, idOf]; try omega)⟩
                      ·
                        simp at q23
                        apply loop_stepA (j + 1)
                        · exact .refl _
                        · repeat' (first | exact trivial | refine ⟨⟨_, rfl, by first | rfl | exact inc_eq _ (by omega) | (refine sl_eq ?_; simp; done), by first | exact trivial | simp [SV.ok]⟩, ?_⟩)
                        · exact ⟨rfl, trivial⟩
                        · exact ⟨by omega, allK_step hf (by assumption)⟩
                        · omega
                    ·
                      simp at q18
                      (have hke : k = x.atoms.length := (by omega); have hje : j = x.filters.length := (by omega); rw [hke] at ha; rw [hje] at hf; exact ⟨[], ⟨by rw [q_yes ⟨by omega, fun i hi => allK_at ha i hi, by assumption, by assumption, fun i hi => allK_at hf i hi⟩], rfl⟩, (.le fun a => by (try simp only [setR, List.cons_append, List.nil_append]); simp [List.count_cons, Blk.ent, idOf]; try omega)⟩)
theorem q_last {x : Query} (h1 : 1 ≤ x.atoms.length ∧ x.atoms.length ≤ 4 ∧ x.filters.length ≤ 3 ∧ 1 ≤ x.out.length ∧ x.out.length ≤ 4) (h2 : allK (fun i => atomM (x.atoms[i]?.getD default)) x.atoms.length = true) (h3 : allK (fun i => hasS (namesM x.atoms) (x.out[i]?.getD ByteArray.empty)) x.out.length = true) (h4 : allK (fun i => !hasS (x.out.take i) (x.out[i]?.getD ByteArray.empty)) x.out.length = true) (h5 : allK (fun i => filterM (namesM x.atoms) (x.filters[i]?.getD default)) x.filters.length = true) : queryM x = decide (((namesM x.atoms).length : Int) ≤ 4) := by
  by_cases h : (namesM x.atoms).length ≤ 4
  · rw [q_yes ⟨by omega, fun i hi => allK_at h2 i hi, h4, h3, fun i hi => allK_at h5 i hi⟩, decide_eq_true (by omega)]
  · rw [q_no fun e => h e.1.2.2.2.2.2, decide_eq_false (by omega)]
theorem f_no1 {ns : List ByteArray} {f : Filter} (h : hasS ns f.left = false) : filterM ns f = false := by unfold filterM; rw [h]; rfl
theorem f_no2 {ns : List ByteArray} {f : Filter} (h : inR 1 2 f.op = false) : filterM ns f = false := by unfold filterM; rw [h]; simp
theorem f_no3 {ns : List ByteArray} {f : Filter} (h0 : ¬ f.right.size = 0) (h : hasS ns f.right = false) : filterM ns f = false := by unfold filterM; rw [if_neg h0, h]; simp
theorem f_no4 {ns : List ByteArray} {f : Filter} (h0 : ¬ f.right.size = 0) (h : ¬ f.num = 0) : filterM ns f = false := by unfold filterM; rw [if_neg h0, decide_eq_false h]; simp
theorem f_no5 {ns : List ByteArray} {f : Filter} (h : inR 0 99 f.num = false) : filterM ns f = false := by
  unfold filterM
  have h1 : ¬ f.num = 0 := fun e => by rw [e] at h; exact absurd h (by decide)
  rw [h, decide_eq_false h1]; simp
theorem f_yes1 {ns : List ByteArray} {f : Filter} (h1 : hasS ns f.left = true) (h2 : inR 1 2 f.op = true) (h0 : f.right.size = 0) (h : inR 0 99 f.num = true) : filterM ns f = true := by unfold filterM; rw [h1, h2, if_pos h0, h]; rfl
theorem f_yes2 {ns : List ByteArray} {f : Filter} (h1 : hasS ns f.left = true) (h2 : inR 1 2 f.op = true) (h0 : ¬ f.right.size = 0) (h : hasS ns f.right = true) (h3 : f.num = 0) : filterM ns f = true := by unfold filterM; rw [h1, h2, if_neg h0, h, decide_eq_true h3]; rfl
--@ct spec.QueryOk val specQueryOk_ct _ $1 ?_ | %1
theorem specQueryOk_ct (l : List Value) (x : Query) (hx : gQuery.sz x ≤ 1048576) : Ct Tryz.prog 154 [.agg ⟨l⟩] [] (fun H => gQuery.rd H l x) (fun v A => v = .bool (queryM x) ∧ A = []) := by
  refine Ct.intro0 G_ok Tryz.func154 rfl rfl rfl fun E H hp => ?_
  obtain ⟨b1p, c1p, b2p, c2p, b3p, c3p, rfl, h1p, h2p, h3p⟩ := gQuery_rd.1 hp
  have ez := gQuery_sz x
  have en1 := len_szL gS x.out
  have en2 := len_szL gAtom x.atoms
  have en3 := len_szL gFilter x.filters
  have hco := (sl_len h1p).2.1
  refine VCnew.intro fun x0 => ?_
  refine call_val (l01In_ct _ _ _) trivial ?_
  rintro _ rfl
  refine VCsplit.intro (fun q2 => ?_) (fun q2 => ?_)
  ·
    simp at q2
    have iq2 := mt inR_iff.2 (Bool.eq_false_iff.1 q2)
    exact ⟨[], ⟨by rw [q_no fun h => by (have := h.1; omega)], rfl⟩, (.le fun a => by (try simp only [setR, List.cons_append, List.nil_append]); simp [List.count_cons, Blk.ent, idOf]; try omega)⟩
  ·
    simp at q2
    have iq2 := inR_iff.1 q2
    refine VCsplit.intro (fun q3 => ?_) (fun q3 => ?_)
    ·
      simp at q3
      exact ⟨[], ⟨by rw [q_no fun h => by (have := h.1; omega)], rfl⟩, (.le fun a => by (try simp only [setR, List.cons_append, List.nil_append]); simp [List.count_cons, Blk.ent, idOf]; try omega)⟩
    ·
      simp at q3
      refine call_val (l01In_ct _ _ _) trivial ?_
      rintro _ rfl
      refine VCsplit.intro (fun q5 => ?_) (fun q5 => ?_)
      ·
        simp at q5
        have iq5 := mt inR_iff.2 (Bool.eq_false_iff.1 q5)
        exact ⟨[], ⟨by rw [q_no fun h => by (have := h.1; omega)], rfl⟩, (.le fun a => by (try simp only [setR, List.cons_append, List.nil_append]); simp [List.count_cons, Blk.ent, idOf]; try omega)⟩
      ·
        simp at q5
        have iq5 := inR_iff.1 q5
        apply loop_mod (α := (Nat)) G_ok [26, 27, 28, 29, 30, 33, 34, 35, 36, 37, 38, 39, 2, 31, 32, 3] (fun z => [(3, .v (.int .i64 z))]) (fun z => [{ id := x0, cs := [Value.bool x.each, Value.slice b1p x.out.length c1p, Value.slice b2p x.atoms.length c2p, Value.slice b3p x.filters.length c3p], ty := (55 : Nat) }]) (fun z => [H]) (fun z => x.atoms.length - z) (fun z => z ≤ x.atoms.length ∧ allK (fun i => atomM (x.atoms[i]?.getD default)) z = true) ((0))
        · repeat' (first | exact trivial | refine ⟨⟨_, rfl, by first | rfl | exact inc_eq _ (by omega) | (refine sl_eq ?_; simp; done), by first | exact trivial | simp [SV.ok]⟩, ?_⟩)
        · exact ⟨rfl, trivial⟩
        · exact ⟨Nat.zero_le _, rfl⟩
        · exact .refl _
        rintro k hI
        obtain ⟨hk, ha⟩ : k ≤ x.atoms.length ∧ allK (fun i => atomM (x.atoms[i]?.getD default)) k = true := hI
        try dsimp only
        refine VCsplit.intro (fun q6 => ?_) (fun q6 => ?_)
        ·
          simp at q6
          refine idx_rd h2p ?_ ?_ fun b7 o7 hb7 => ?_
          · omega
          · omega
          refine load_allN default (k) rfl h2p ?_ ?_ hb7 rfl (mem_at 0 rfl) fun l8 hl8 => ?_
          · omega
          · omega
          obtain ⟨rfl, w0x8, w1x8, w2x8⟩ := gAtom_rd.1 hl8
          refine call_val (l08Atom_ct _ (x.atoms[k]?.getD default) ?_) (Rp.mono _ (mem_at 0 rfl) hl8) ?_
          · exact Nat.le_trans (atoms_path hx (by omega)) (by decide)
          rintro _ rfl
          refine VCsplit.intro (fun q10 => ?_) (fun q10 => ?_)
          ·
            simp at q10
            exact ⟨[], ⟨by rw [q_no fun h => ff (h.2.1 k (by omega)) (by assumption)], rfl⟩, (.le fun a => by (try simp only [setR, List.cons_append, List.nil_append]); simp [List.count_cons, Blk.ent, idOf]; try omega)⟩
          ·
            simp at q10
            apply loop_stepA (k + 1)
            · exact .refl _
            · repeat' (first | exact trivial | refine ⟨⟨_, rfl, by first | rfl | exact inc_eq _ (by omega) | (refine sl_eq ?_; simp; done), by first | exact trivial | simp [SV.ok]⟩, ?_⟩)
            · exact ⟨rfl, trivial⟩
            · exact ⟨by omega, allK_step ha (by assumption)⟩
            · omega
        ·
          simp at q6
          refine call_new (specNamesOf_ct _ x ?_) (Rp.mono _ (mem_at 0 rfl) hp) ?_
          · omega
          rintro v11 A11 o11
          obtain ⟨bN, cN, rfl, oN⟩ := o11
          have rN := Gt.owrd _ oN
          apply loop_mod (α := (Nat)) G_ok [42, 43, 44, 45, 46, 49, 50, 51, 52, 53, 54, 55, 56, 57, 58, 59, 60, 61, 62, 63, 64, 65, 66, 67, 68, 2, 47, 48, 5] (fun z => [(5, .v (.int .i64 z))]) (fun z => [{ id := x0, cs := [Value.bool x.each, Value.slice b1p x.out.length c1p, Value.slice b2p x.atoms.length c2p, Value.slice b3p x.filters.length c3p], ty := (55 : Nat) }]) (fun z => [A11, H]) (fun z => x.out.length - z) (fun z => z ≤ x.out.length ∧ allK (fun i => hasS (namesM x.atoms) (x.out[i]?.getD ByteArray.empty)) z = true ∧ allK (fun i => !hasS (x.out.take i) (x.out[i]?.getD ByteArray.empty)) z = true) ((0))
          · repeat' (first | exact trivial | refine ⟨⟨_, rfl, by first | rfl | exact inc_eq _ (by omega) | (refine sl_eq ?_; simp; done), by first | exact trivial | simp [SV.ok]⟩, ?_⟩)
          · exact ⟨rfl, trivial⟩
          · exact ⟨Nat.zero_le _, rfl, rfl⟩
          · exact .refl _
          rintro i hI
          obtain ⟨hi, hb, hc⟩ : i ≤ x.out.length ∧ allK (fun i => hasS (namesM x.atoms) (x.out[i]?.getD ByteArray.empty)) i = true ∧ allK (fun i => !hasS (x.out.take i) (x.out[i]?.getD ByteArray.empty)) i = true := hI
          try dsimp only
          refine VCsplit.intro (fun q12 => ?_) (fun q12 => ?_)
          ·
            simp at q12
            refine draw G_ok mixed none (.q 0 (.q 1 (.q 2 (.q 3 (.q 4 (.q 5 (.f 6 (.q 7 (.q 8 (.q 9 (.q 10 (.q 11 (.q 12 (.q 13 (.q 14 (.q 15 (.q 16 (.q 17 (.f 18 (.q 19 (.nil))))))))))))))))))))) (by decide +kernel) ?_
            refine idx_rd h1p ?_ ?_ fun b13 o13 hb13 => ?_
            · omega
            · omega
            refine load_allN ByteArray.empty (i) rfl h1p ?_ ?_ hb13 rfl (mem_at 1 rfl) fun l14 hl14 => ?_
            · omega
            · omega
            obtain ⟨rfl, hw14⟩ := hl14; simp only [flStr, flInt, okI] at hw14
            refine call_val (l08In_ct _ _ _ (namesM x.atoms) _) (Rp.mono _ (mem_at 0 rfl) rN) ?_
            rintro _ rfl
            refine VC.intro ?_ ?_
            · exact fun _ h => h
            refine VCsplit.intro (fun q16 => ?_) (fun q16 => ?_)
            ·
              simp at q16
              exact ⟨[], ⟨by rw [q_no fun h => ff h.2.2.2.1 (inAll_no (k := i) (by omega) (by assumption))], rfl⟩, (.le fun a => by (try simp only [setR, List.cons_append, List.nil_append]); simp [List.count_cons, Blk.ent, idOf]; try omega)⟩
            ·
              simp at q16
              have hsub : (gSl 9 gS).rd H [.slice (subBase c1p 0 b1p ty9.size) (((i : Nat) : Int).toNat - 0) (c1p - 0)] ((x.out.take ((i : Nat) : Int).toNat).drop 0) := rd_sub (r := gS.toRp) (l := 0) (h := ((i : Nat) : Int).toNat) h1p (by omega) (by omega)
              refine VC.intro ?_ ?_
              · omega
              refine idx_rd h1p ?_ ?_ fun b17 o17 hb17 => ?_
              · omega
              · omega
              refine load_allN ByteArray.empty (i) rfl h1p ?_ ?_ hb17 rfl (mem_at 1 rfl) fun l18 hl18 => ?_
              · omega
              · omega
              obtain ⟨rfl, hw18⟩ := hl18; simp only [flStr, flInt, okI] at hw18
              refine call_val (l08In_ct _ _ _ (List.drop (0 : Nat) (List.take (↑i : Int).toNat x.out)) _) (Rp.mono _ (mem_at 1 rfl) hsub) ?_
              rintro _ rfl
              refine VC.intro ?_ ?_
              · exact fun _ h => h
              refine VCsplit.intro (fun q20 => ?_) (fun q20 => ?_)
              ·
                simp at q20
                exact ⟨[], ⟨by rw [q_no fun h => ff h.2.2.1 (dist_no2 (k := i) (by omega) (by assumption))], rfl⟩, (.le fun a => by (try simp only [setR, List.cons_append, List.nil_append]); simp [List.count_cons, Blk.ent, idOf]; try omega)⟩
              ·
                simp at q20
                apply loop_stepA (i + 1)
                · exact .refl _
                · repeat' (first | exact trivial | refine ⟨⟨_, rfl, by first | rfl | exact inc_eq _ (by omega) | (refine sl_eq ?_; simp; done), by first | exact trivial | simp [SV.ok]⟩, ?_⟩)
                · exact ⟨rfl, trivial⟩
                · exact ⟨by omega, allK_step hb (by assumption), allK_step hc (dist_step (by assumption))⟩
                · omega
          ·
            simp at q12
            apply loop_mod (α := (Nat)) G_ok [69, 70, 71, 72, 73, 76, 77, 78, 79, 80, 7, 81, 82, 83, 84, 85, 86, 87, 88, 89, 90, 91, 92, 93, 94, 95, 96, 97, 98, 99, 100, 101, 102, 103, 104, 105, 106, 107, 108, 109, 110, 111, 112, 113, 114, 2, 74, 75, 6] (fun z => [(6, .v (.int .i64 z))]) (fun z => [{ id := x0, cs := [Value.bool x.each, Value.slice b1p x.out.length c1p, Value.slice b2p x.atoms.length c2p, Value.slice b3p x.filters.length c3p], ty := (55 : Nat) }]) (fun z => [A11, H]) (fun z => x.filters.length - z) (fun z => z ≤ x.filters.length ∧ allK (fun i => filterM (namesM x.atoms) (x.filters[i]?.getD default)) z = true) ((0))
            · repeat' (first | exact trivial | refine ⟨⟨_, rfl, by first | rfl | exact inc_eq _ (by omega) | (refine sl_eq ?_; simp; done), by first | exact trivial | simp [SV.ok]⟩, ?_⟩)
            · exact ⟨rfl, trivial⟩
            · exact ⟨Nat.zero_le _, rfl⟩
            · exact .refl _
            rintro j hI
            obtain ⟨hj, hf⟩ : j ≤ x.filters.length ∧ allK (fun i => filterM (namesM x.atoms) (x.filters[i]?.getD default)) j = true := hI
            try dsimp only
            refine VCsplit.intro (fun q21 => ?_) (fun q21 => ?_)
            ·
              simp at q21
              refine idx_rd h3p ?_ ?_ fun b22 o22 hb22 => ?_
              · omega
              · omega
              refine load_allN default (j) rfl h3p ?_ ?_ hb22 rfl (mem_at 1 rfl) fun l23 hl23 => ?_
              · omega
              · omega
              obtain ⟨rfl, w0x23, w1x23, w2x23, w3x23⟩ := gFilter_rd.1 hl23
              refine VCnew.intro fun x24 => ?_
              refine call_val (l08In_ct _ _ _ (namesM x.atoms) _) (Rp.mono _ (mem_at 0 rfl) rN) ?_
              rintro _ rfl
              refine VCsplit.intro (fun q26 => ?_) (fun q26 => ?_)
              ·
                simp at q26
                exact ⟨[], ⟨by rw [q_no fun h => ff (h.2.2.2.2 j (by omega)) (f_no1 (by assumption))], rfl⟩, (.le fun a => by (try simp only [setR, List.cons_append, List.nil_append]); simp [List.count_cons, Blk.ent, idOf]; try omega)⟩
              ·
                simp at q26
                refine call_val (l01In_ct _ _ _) trivial ?_
                rintro _ rfl
                refine VCsplit.intro (fun q28 => ?_) (fun q28 => ?_)
                ·
                  simp at q28
                  have iq28 := mt inR_iff.2 (Bool.eq_false_iff.1 q28)
                  exact ⟨[], ⟨by rw [q_no fun h => ff (h.2.2.2.2 j (by omega)) (f_no2 (by assumption))], rfl⟩, (.le fun a => by (try simp only [setR, List.cons_append, List.nil_append]); simp [List.count_cons, Blk.ent, idOf]; try omega)⟩
                ·
                  simp at q28
                  have iq28 := inR_iff.1 q28
                  refine VCsplit.intro (fun q29 => ?_) (fun q29 => ?_)
                  ·
                    simp at q29
                    have iq29 := mt toL_nil8.2 q29
                    refine call_val (l08In_ct _ _ _ (namesM x.atoms) _) (Rp.mono _ (mem_at 0 rfl) rN) ?_
                    rintro _ rfl
                    refine VCsplit.intro (fun q31 => ?_) (fun q31 => ?_)
                    ·
                      simp at q31
                      exact ⟨[], ⟨by rw [q_no fun h => ff (h.2.2.2.2 j (by omega)) (f_no3 (by assumption) (by assumption))], rfl⟩, (.le fun a => by (try simp only [setR, List.cons_append, List.nil_append]); simp [List.count_cons, Blk.ent, idOf]; try omega)⟩
                    ·
                      simp at q31
                      refine VCsplit.intro (fun q32 => ?_) (fun q32 => ?_)
                      ·
                        simp at q32
                        exact ⟨[], ⟨by rw [q_no fun h => ff (h.2.2.2.2 j (by omega)) (f_no4 (by assumption) (by assumption))], rfl⟩, (.le fun a => by (try simp only [setR, List.cons_append, List.nil_append]); simp [List.count_cons, Blk.ent, idOf]; try omega)⟩
                      ·
                        simp at q32
                        refine call_val (l01In_ct _ _ _) trivial ?_
                        rintro _ rfl
                        refine VCsplit.intro (fun q34 => ?_) (fun q34 => ?_)
                        ·
                          simp at q34
                          have iq34 := mt inR_iff.2 (Bool.eq_false_iff.1 q34)
                          exfalso; omega
                        ·
                          simp at q34
                          have iq34 := inR_iff.1 q34
                          apply loop_stepA (j + 1)
                          · exact .refl _
                          · repeat' (first | exact trivial | refine ⟨⟨_, rfl, by first | rfl | exact inc_eq _ (by omega) | (refine sl_eq ?_; simp; done), by first | exact trivial | simp [SV.ok]⟩, ?_⟩)
                          · exact ⟨rfl, trivial⟩
                          · exact ⟨by omega, allK_step hf (f_yes2 (by assumption) (by assumption) (by assumption) (by assumption) (by assumption))⟩
                          · omega
                  ·
                    simp at q29
                    have iq29 := toL_nil8.1 q29
                    refine call_val (l01In_ct _ _ _) trivial ?_
                    rintro _ rfl
                    refine VCsplit.intro (fun q36 => ?_) (fun q36 => ?_)
                    ·
                      simp at q36
                      have iq36 := mt inR_iff.2 (Bool.eq_false_iff.1 q36)
                      exact ⟨[], ⟨by rw [q_no fun h => ff (h.2.2.2.2 j (by omega)) (f_no5 (by assumption))], rfl⟩, (.le fun a => by (try simp only [setR, List.cons_append, List.nil_append]); simp [List.count_cons, Blk.ent, idOf]; try omega)⟩
                    ·
                      simp at q36
                      have iq36 := inR_iff.1 q36
                      apply loop_stepA (j + 1)
                      · exact .refl _
                      · repeat' (first | exact trivial | refine ⟨⟨_, rfl, by first | rfl | exact inc_eq _ (by omega) | (refine sl_eq ?_; simp; done), by first | exact trivial | simp [SV.ok]⟩, ?_⟩)
                      · exact ⟨rfl, trivial⟩
                      · exact ⟨by omega, allK_step hf (f_yes1 (by assumption) (by assumption) (by assumption) (by assumption))⟩
                      · omega
            ·
              simp at q21
              (have hke : k = x.atoms.length := (by omega); have hie : i = x.out.length := (by omega); have hje : j = x.filters.length := (by omega); rw [hke] at ha; rw [hie] at hb hc; rw [hje] at hf; exact ⟨[], ⟨by rw [q_last (by omega) ha hb hc hf], rfl⟩, (.le fun a => by (try simp only [setR, List.cons_append, List.nil_append]); simp [List.count_cons, Blk.ent, idOf]; try omega)⟩)
end Go.Proofs.YtflfohphebmemaaGreat

namespace Go.Proofs.YtflfohphebmemaaGreat
open Go.SX Go.Proofs
set_option linter.unusedSimpArgs false
set_option linter.unusedVariables false
set_option maxHeartbeats 4000000
attribute [local irreducible] IntKind.wrap namesM queryM
def shK (s : List Int) (k : Nat) : Bool := allK (fun i => inR 1 8 (s[i]?.getD 0)) k
def prodK (s : List Int) : Nat → Int
  | 0 => 1
  | k + 1 => prodK s k * (s[k]?.getD 0)
theorem prod_rng {s : List Int} : ∀ {k : Nat}, shK s k = true → 1 ≤ prodK s k ∧ prodK s k ≤ 8 ^ k
  | 0, _ => by show (1 : Int) ≤ 1 ∧ (1 : Int) ≤ 8 ^ 0; decide
  | k + 1, h => by
    have h1 : shK s k = true := by
      unfold shK at h ⊢; unfold allK at h; rw [Bool.and_eq_true] at h; exact h.1
    have h2 := inR_iff.1 (allK_at h k (by omega))
    have ih := prod_rng h1
    show 1 ≤ prodK s k * (s[k]?.getD 0) ∧ prodK s k * (s[k]?.getD 0) ≤ 8 ^ (k + 1)
    rw [Int.pow_succ]
    exact ⟨Int.le_trans (by decide : (1 : Int) ≤ 1 * 1) (Int.mul_le_mul ih.1 h2.1 (by decide) (by omega)), Int.mul_le_mul ih.2 h2.2 (by omega) (Int.le_trans (by decide) (Int.le_trans ih.1 ih.2))⟩
theorem prod_4 {s : List Int} {k : Nat} (h : shK s k = true) (hk : k ≤ 4) : 1 ≤ prodK s k ∧ prodK s k ≤ 4096 := by
  have h1 := prod_rng h
  rcases (by omega : k = 0 ∨ k = 1 ∨ k = 2 ∨ k = 3 ∨ k = 4) with rfl | rfl | rfl | rfl | rfl <;> (refine ⟨h1.1, Int.le_trans h1.2 (by decide)⟩)
theorem prod_mono {s : List Int} {j : Nat} : ∀ {k : Nat}, shK s k = true → j ≤ k → prodK s j ≤ prodK s k
  | 0, _, hj => by rw [show j = 0 by omega]; exact Int.le_refl _
  | k + 1, h, hj => by
    have h1 : shK s k = true := by
      unfold shK at h ⊢; unfold allK at h; rw [Bool.and_eq_true] at h; exact h.1
    have h2 := inR_iff.1 (allK_at h k (by omega))
    have ih := prod_rng h1
    have h3 : prodK s k ≤ prodK s (k + 1) := by
      show prodK s k ≤ prodK s k * (s[k]?.getD 0)
      have := Int.mul_le_mul_of_nonneg_left h2.1 (by omega : (0 : Int) ≤ prodK s k)
      rw [Int.mul_one] at this; exact this
    rcases (by omega : j ≤ k ∨ j = k + 1) with h4 | rfl
    · exact Int.le_trans (prod_mono h1 h4) h3
    · exact Int.le_refl _
theorem prod_step {p v : Int} (h1 : 1 ≤ p ∧ p ≤ 8 ^ 8) (h2 : 1 ≤ v ∧ v ≤ 8) : 1 ≤ p * v ∧ p * v ≤ 8 ^ 9 :=
  ⟨Int.le_trans (by decide : (1 : Int) ≤ 1 * 1) (Int.mul_le_mul h1.1 h2.1 (by decide) (by omega)), Int.le_trans (Int.mul_le_mul h1.2 h2.2 (by omega) (by decide)) (by decide)⟩
/-- the numbers are right -/
def shOk (s : List Int) : Bool := shK s s.length && decide (prodK s s.length ≤ 8)
theorem shOk_no1 {s : List Int} {k : Nat} (hk : k < s.length) (h : ¬ (1 ≤ (s[k]?.getD 0) ∧ (s[k]?.getD 0) ≤ 8)) : shOk s = false := by
  unfold shOk shK
  rw [allK_no (p := fun i => inR 1 8 (s[i]?.getD 0)) (k := k) (by rw [Bool.eq_false_iff, Ne, inR_iff]; exact h) _ hk]; rfl
theorem shOk_no2 {s : List Int} {k : Nat} (hk : k ≤ s.length) (h : ¬ prodK s k ≤ 8) : shOk s = false := by
  cases e : shOk s with
  | false => rfl
  | true =>
    unfold shOk at e
    rw [Bool.and_eq_true, decide_eq_true_iff] at e
    exact absurd (Int.le_trans (prod_mono e.1 hk) e.2) h
theorem shOk_yes {s : List Int} (h : shK s s.length = true) (h1 : prodK s s.length ≤ 8) : shOk s = true := by unfold shOk; rw [h, decide_eq_true h1]; rfl
theorem shK_step {s : List Int} {k : Nat} (h : shK s k = true) (h1 : 1 ≤ (s[k]?.getD 0) ∧ (s[k]?.getD 0) ≤ 8) : shK s (k + 1) = true := allK_step h (inR_iff.2 h1)
theorem shK_all {s : List Int} (h : shOk s = true) : shK s s.length = true := by unfold shOk at h; rw [Bool.and_eq_true] at h; exact h.1
theorem shK_le {s : List Int} {n k : Nat} (h : shK s n = true) (hk : k ≤ n) : shK s k = true := by
  induction n with
  | zero => rw [show k = 0 by omega]; rfl
  | succ n ih =>
    rcases (by omega : k ≤ n ∨ k = n + 1) with h1 | rfl
    · exact ih (by unfold shK at h ⊢; unfold allK at h; rw [Bool.and_eq_true] at h; exact h.1) h1
    · exact h
def cellsM (s : List Int) : Int := if 1 ≤ s.length ∧ s.length ≤ 4 ∧ shOk s = true then prodK s s.length else 0
theorem cells_no1 {s : List Int} (h : ¬ (1 ≤ s.length ∧ s.length ≤ 4)) : cellsM s = 0 := if_neg fun e => h ⟨e.1, e.2.1⟩
theorem cells_no2 {s : List Int} (h : shOk s = false) : cellsM s = 0 := if_neg fun e => by rw [h] at e; cases e.2.2
theorem cells_yes {s : List Int} (h1 : 1 ≤ s.length ∧ s.length ≤ 4) (h : shOk s = true) : cellsM s = prodK s s.length := if_pos ⟨h1.1, h1.2, h⟩
theorem cells_rng (s : List Int) : 0 ≤ cellsM s ∧ cellsM s ≤ 8 := by
  unfold cellsM
  split
  · rename_i h
    have h2 := h.2.2
    unfold shOk at h2
    rw [Bool.and_eq_true, decide_eq_true_iff] at h2
    have := prod_rng h2.1
    omega
  · omega
--@ct impl.CellsOf val implCellsOf_ct _ _ _ $1 | %1
theorem implCellsOf_ct (b : Option Addr) (m c : Nat) (xs : List Int) : Ct Tryz.prog 107 [.slice b m c] [] (fun H => (gSl 3 gI).rd H [.slice b m c] xs) (fun v A => v = .int .i64 (cellsM xs) ∧ A = []) := by
  refine Ct.intro0 G_ok Tryz.func107 rfl rfl rfl fun E H hp => ?_
  obtain ⟨rfl, hcl, hl⟩ := sl_len hp
  refine VCsplit.intro (fun q0 => ?_) (fun q0 => ?_)
  ·
    simp at q0
    exact ⟨[], ⟨by rw [cells_no1 (by omega)], rfl⟩, (.le fun a => by (try simp only [setR, List.cons_append, List.nil_append]); simp [List.count_cons, Blk.ent, idOf]; try omega)⟩
  ·
    simp at q0
    refine VCsplit.intro (fun q1 => ?_) (fun q1 => ?_)
    ·
      simp at q1
      exact ⟨[], ⟨by rw [cells_no1 (by omega)], rfl⟩, (.le fun a => by (try simp only [setR, List.cons_append, List.nil_append]); simp [List.count_cons, Blk.ent, idOf]; try omega)⟩
    ·
      simp at q1
      apply loop_mod (α := (Nat) × (Int)) G_ok [17, 18, 19, 5, 20, 21, 22, 23, 24, 25, 2, 26, 27, 28, 3, 29, 16] (fun z => [(16, .v (.int .i64 z.1)), (3, .v (.int .i64 z.2))]) (fun z => []) (fun z => [H]) (fun z => xs.length - z.1) (fun z => z.1 ≤ xs.length ∧ shK xs z.1 = true ∧ z.2 = prodK xs z.1) ((0, 1))
      · repeat' (first | exact trivial | refine ⟨⟨_, rfl, by first | rfl | exact inc_eq _ (by omega) | (refine sl_eq ?_; simp; done) | rw [wrap_of (x := p * (xs[k]?.getD 0)) (by omega) (by omega)], by first | exact trivial | simp [SV.ok]⟩, ?_⟩)
      · exact trivial
      · try dsimp only
        exact ⟨Nat.zero_le _, rfl, rfl⟩
      · exact .refl _
      rintro ⟨k, p⟩ hI
      obtain ⟨hk, ha, hpp⟩ : k ≤ xs.length ∧ shK xs k = true ∧ p = prodK xs k := hI
      try dsimp only
      refine VCsplit.intro (fun q2 => ?_) (fun q2 => ?_)
      ·
        simp at q2
        have hpr := prod_4 ha (by omega)
        rw [← hpp] at hpr
        refine idx_rd hp ?_ ?_ fun b3 o3 hb3 => ?_
        · omega
        · omega
        refine load_allN 0 (k) rfl hp ?_ ?_ hb3 rfl (mem_at 0 rfl) fun l4 hl4 => ?_
        · omega
        · omega
        obtain ⟨rfl, hw4⟩ := hl4; simp only [flStr, flInt, okI] at hw4
        refine VCsplit.intro (fun q5 => ?_) (fun q5 => ?_)
        ·
          simp at q5
          exact ⟨[], ⟨by rw [cells_no2 (shOk_no1 (k := k) (by omega) (by omega))], rfl⟩, (.le fun a => by (try simp only [setR, List.cons_append, List.nil_append]); simp [List.count_cons, Blk.ent, idOf]; try omega)⟩
        ·
          simp at q5
          refine VCsplit.intro (fun q6 => ?_) (fun q6 => ?_)
          ·
            simp at q6
            exact ⟨[], ⟨by rw [cells_no2 (shOk_no1 (k := k) (by omega) (by omega))], rfl⟩, (.le fun a => by (try simp only [setR, List.cons_append, List.nil_append]); simp [List.count_cons, Blk.ent, idOf]; try omega)⟩
          ·
            simp at q6
            have hps := prod_step (p := p) (v := xs[k]?.getD 0) ⟨hpr.1, by omega⟩ (by omega)
            apply loop_stepA (k + 1, p * (xs[k]?.getD 0))
            · exact .refl _
            · repeat' (first | exact trivial | refine ⟨⟨_, rfl, by first | rfl | exact inc_eq _ (by omega) | (refine sl_eq ?_; simp; done) | rw [wrap_of (x := p * (xs[k]?.getD 0)) (by omega) (by omega)], by first | exact trivial | simp [SV.ok]⟩, ?_⟩)
            · exact trivial
            · try dsimp only
              exact ⟨by omega, shK_step ha (by omega), by rw [hpp]; rfl⟩
            · try dsimp only
              omega
      ·
        simp at q2
        have hpr := prod_4 ha (by omega)
        rw [← hpp] at hpr
        refine VCsplit.intro (fun q7 => ?_) (fun q7 => ?_)
        ·
          simp at q7
          exact ⟨[], ⟨by rw [cells_no2 (shOk_no2 (k := k) (by omega) (by rw [← hpp]; omega))], rfl⟩, (.le fun a => by (try simp only [setR, List.cons_append, List.nil_append]); simp [List.count_cons, Blk.ent, idOf]; try omega)⟩
        ·
          simp at q7
          (have hke : k = xs.length := (by omega); subst hke; exact ⟨[], ⟨by rw [cells_yes (by omega) (shOk_yes ha (by rw [← hpp]; omega)), ← hpp], rfl⟩, (.le fun a => by (try simp only [setR, List.cons_append, List.nil_append]); simp [List.count_cons, Blk.ent, idOf]; try omega)⟩)
theorem beq_dec {a b : Int} : (a == b) = decide (a = b) := by rw [Bool.eq_iff_iff, beq_iff_eq, decide_eq_true_iff]
--@ct spec.l13Number val l13Number_ct _ _ _ $1 _ | %1
theorem l13Number_ct (b : Option Addr) (m c : Nat) (xs : List Int) (n : Int) : Ct Tryz.prog 155 [.slice b m c, .int .i64 n] [] (fun H => (gSl 3 gI).rd H [.slice b m c] xs) (fun v A => v = .bool (shOk xs && decide ((xs.length : Int) = n)) ∧ A = []) := by
  refine Ct.intro0 G_ok Tryz.func155 rfl rfl rfl fun E H hp => ?_
  obtain ⟨rfl, hcl, hl⟩ := sl_len hp
  apply loop_mod (α := (Nat) × (Int)) G_ok [7, 8, 9, 10, 13, 14, 15, 16, 17, 18, 4, 19, 20, 21, 22, 23, 24, 5, 25, 26, 11, 12, 6] (fun z => [(6, .v (.int .i64 z.1)), (5, .v (.int .i64 z.2))]) (fun z => []) (fun z => [H]) (fun z => xs.length - z.1) (fun z => z.1 ≤ xs.length ∧ shK xs z.1 = true ∧ z.2 = prodK xs z.1 ∧ 1 ≤ z.2 ∧ z.2 ≤ 8) ((0, 1))
  · repeat' (first | exact trivial | refine ⟨⟨_, rfl, by first | rfl | exact inc_eq _ (by omega) | (refine sl_eq ?_; simp; done) | rw [wrap_of (x := p * (xs[k]?.getD 0)) (by omega) (by omega)], by first | exact trivial | simp [SV.ok]⟩, ?_⟩)
  · exact trivial
  · try dsimp only
    exact ⟨Nat.zero_le _, rfl, rfl, by decide, by decide⟩
  · exact .refl _
  rintro ⟨k, p⟩ hI
  obtain ⟨hk, ha, hpp, hp1, hp8⟩ : k ≤ xs.length ∧ shK xs k = true ∧ p = prodK xs k ∧ 1 ≤ p ∧ p ≤ 8 := hI
  try dsimp only
  refine VCsplit.intro (fun q0 => ?_) (fun q0 => ?_)
  ·
    simp at q0
    refine idx_rd hp ?_ ?_ fun b1 o1 hb1 => ?_
    · omega
    · omega
    refine load_allN 0 (k) rfl hp ?_ ?_ hb1 rfl (mem_at 0 rfl) fun l2 hl2 => ?_
    · omega
    · omega
    obtain ⟨rfl, hw2⟩ := hl2; simp only [flStr, flInt, okI] at hw2
    refine call_val (l01In_ct _ _ _) trivial ?_
    rintro _ rfl
    refine VCsplit.intro (fun q4 => ?_) (fun q4 => ?_)
    ·
      simp at q4
      have iq4 := mt inR_iff.2 (Bool.eq_false_iff.1 q4)
      exact ⟨[], ⟨by rw [shOk_no1 (k := k) (by omega) (by omega)]; rfl, rfl⟩, (.le fun a => by (try simp only [setR, List.cons_append, List.nil_append]); simp [List.count_cons, Blk.ent, idOf]; try omega)⟩
    ·
      simp at q4
      have iq4 := inR_iff.1 q4
      have hps := prod_step (p := p) (v := xs[k]?.getD 0) ⟨hp1, by omega⟩ (by omega)
      refine idx_rd hp ?_ ?_ fun b5 o5 hb5 => ?_
      · omega
      · omega
      refine load_allN 0 (k) rfl hp ?_ ?_ hb5 rfl (mem_at 0 rfl) fun l6 hl6 => ?_
      · omega
      · omega
      obtain ⟨rfl, hw6⟩ := hl6; simp only [flStr, flInt, okI] at hw6
      refine VCsplit.intro (fun q7 => ?_) (fun q7 => ?_)
      ·
        simp at q7
        simp (disch := omega) only [wrap_of] at q7
        exact ⟨[], ⟨by rw [shOk_no2 (s := xs) (k := k + 1) (by omega) (by show ¬ prodK xs k * (xs[k]?.getD 0) ≤ 8; rw [← hpp]; omega)]; rfl, rfl⟩, (.le fun a => by (try simp only [setR, List.cons_append, List.nil_append]); simp [List.count_cons, Blk.ent, idOf]; try omega)⟩
      ·
        simp at q7
        simp (disch := omega) only [wrap_of] at q7
        apply loop_stepA (k + 1, p * (xs[k]?.getD 0))
        · exact .refl _
        · repeat' (first | exact trivial | refine ⟨⟨_, rfl, by first | rfl | exact inc_eq _ (by omega) | (refine sl_eq ?_; simp; done) | rw [wrap_of (x := p * (xs[k]?.getD 0)) (by omega) (by omega)], by first | exact trivial | simp [SV.ok]⟩, ?_⟩)
        · exact trivial
        · try dsimp only
          exact ⟨by omega, shK_step ha (by omega), by rw [hpp]; rfl, by omega, by omega⟩
        · try dsimp only
          omega
  ·
    simp at q0
    (have hke : k = xs.length := (by omega); subst hke; exact ⟨[], ⟨by rw [shOk_yes ha (by rw [← hpp]; omega), Bool.true_and]; first | rfl | (rw [beq_dec]), rfl⟩, (.le fun a => by (try simp only [setR, List.cons_append, List.nil_append]); simp [List.count_cons, Blk.ent, idOf]; try omega)⟩)
end Go.Proofs.YtflfohphebmemaaGreat

namespace Go.Proofs.YtflfohphebmemaaGreat
open Go.SX Go.Proofs
set_option linter.unusedSimpArgs false
set_option linter.unusedVariables false
set_option maxHeartbeats 4000000
attribute [local irreducible] IntKind.wrap queryM
--@ct spec.CellsOf val specCellsOf_ct _ _ _ $1 | %1
theorem specCellsOf_ct (b : Option Addr) (m c : Nat) (xs : List Int) : Ct Tryz.prog 77 [.slice b m c] [] (fun H => (gSl 3 gI).rd H [.slice b m c] xs) (fun v A => v = .int .i64 (cellsM xs) ∧ A = []) := by
  refine Ct.intro0 G_ok Tryz.func77 rfl rfl rfl fun E H hp => ?_
  obtain ⟨rfl, hcl, hl⟩ := sl_len hp
  refine call_val (l01In_ct _ _ _) trivial ?_
  rintro _ rfl
  refine VCsplit.intro (fun q1 => ?_) (fun q1 => ?_)
  ·
    simp at q1
    have iq1 := mt inR_iff.2 (Bool.eq_false_iff.1 q1)
    exact ⟨[], ⟨by rw [cells_no1 (by omega)], rfl⟩, (.le fun a => by (try simp only [setR, List.cons_append, List.nil_append]); simp [List.count_cons, Blk.ent, idOf]; try omega)⟩
  ·
    simp at q1
    have iq1 := inR_iff.1 q1
    refine call_val (l13Number_ct _ _ _ (xs) _) (Rp.mono _ (mem_at 0 rfl) hp) ?_
    rintro _ rfl
    refine VCsplit.intro (fun q3 => ?_) (fun q3 => ?_)
    ·
      simp at q3
      exact ⟨[], ⟨by rw [cells_no2 (by assumption)], rfl⟩, (.le fun a => by (try simp only [setR, List.cons_append, List.nil_append]); simp [List.count_cons, Blk.ent, idOf]; try omega)⟩
    ·
      simp at q3
      apply loop_mod (α := (Nat) × (Int)) G_ok [16, 17, 18, 19, 22, 23, 24, 25, 26, 27, 3, 20, 21, 4] (fun z => [(4, .v (.int .i64 z.1)), (3, .v (.int .i64 z.2))]) (fun z => []) (fun z => [H]) (fun z => xs.length - z.1) (fun z => z.1 ≤ xs.length ∧ z.2 = prodK xs z.1) ((0, 1))
      · repeat' (first | exact trivial | refine ⟨⟨_, rfl, by first | rfl | exact inc_eq _ (by omega) | (refine sl_eq ?_; simp; done) | rw [wrap_of (x := p * (xs[k]?.getD 0)) (by omega) (by omega)], by first | exact trivial | simp [SV.ok]⟩, ?_⟩)
      · exact trivial
      · try dsimp only
        exact ⟨Nat.zero_le _, rfl⟩
      · exact .refl _
      rintro ⟨k, p⟩ hI
      obtain ⟨hk, hpp⟩ : k ≤ xs.length ∧ p = prodK xs k := hI
      try dsimp only
      refine VCsplit.intro (fun q4 => ?_) (fun q4 => ?_)
      ·
        simp at q4
        have hyes : shOk xs = true := (by assumption)
        have hsk := shK_all hyes
        have hpr := prod_4 (k := k) (shK_le hsk (by omega)) (by omega)
        rw [← hpp] at hpr
        have hvk := inR_iff.1 (allK_at hsk k (by omega))
        have hps := prod_step (p := p) (v := xs[k]?.getD 0) ⟨hpr.1, by omega⟩ (by omega)
        refine idx_rd hp ?_ ?_ fun b5 o5 hb5 => ?_
        · omega
        · omega
        refine load_allN 0 (k) rfl hp ?_ ?_ hb5 rfl (mem_at 0 rfl) fun l6 hl6 => ?_
        · omega
        · omega
        obtain ⟨rfl, hw6⟩ := hl6; simp only [flStr, flInt, okI] at hw6
        apply loop_stepA (k + 1, p * (xs[k]?.getD 0))
        · exact .refl _
        · repeat' (first | exact trivial | refine ⟨⟨_, rfl, by first | rfl | exact inc_eq _ (by omega) | (refine sl_eq ?_; simp; done) | rw [wrap_of (x := p * (xs[k]?.getD 0)) (by omega) (by omega)], by first | exact trivial | simp [SV.ok]⟩, ?_⟩)
        · exact trivial
        · try dsimp only
          exact ⟨by omega, by rw [hpp]; rfl⟩
        · try dsimp only
          omega
      ·
        simp at q4
        (have hke : k = xs.length := (by omega); subst hke; exact ⟨[], ⟨by rw [cells_yes (by omega) (by assumption), ← hpp], rfl⟩, (.le fun a => by (try simp only [setR, List.cons_append, List.nil_append]); simp [List.count_cons, Blk.ent, idOf]; try omega)⟩)
theorem addN_pos (l : List ByteArray) (s : ByteArray) : 1 ≤ (addN l s).length := by
  unfold addN
  split
  · rename_i h
    cases l with
    | nil => exact absurd h (by show ¬ (false = true); decide)
    | cons a r => simp
  · simp
theorem names_pos {ats : List Atom} (h : 1 ≤ ats.length) : 1 ≤ (namesM ats).length := by
  have e := namesM_step (ats := ats) (k := ats.length - 1) (by omega)
  rw [show ats.length - 1 + 1 = ats.length by omega, List.take_length] at e
  rw [e]; exact addN_pos _ _
theorem query_names {x : Query} (h : queryM x = true) : 1 ≤ (namesM x.atoms).length ∧ (namesM x.atoms).length ≤ 4 := by
  have h1 : queryP x := by
    apply Classical.byContradiction
    intro e
    rw [q_no e] at h; cases h
  exact ⟨names_pos h1.1.1, h1.1.2.2.2.2.2⟩
attribute [local irreducible] namesM
noncomputable def sharesM (x : Query) (s : List Int) : Bool := queryM x && (shOk s && decide (s.length = (namesM x.atoms).length))
theorem shares_no1 {x : Query} {s : List Int} (h : queryM x = false) : sharesM x s = false := by unfold sharesM; rw [h]; rfl
theorem shares_no2 {x : Query} {s : List Int} (h : ¬ s.length = (namesM x.atoms).length) : sharesM x s = false := by unfold sharesM; rw [decide_eq_false h]; simp
theorem shares_val {x : Query} {s : List Int} (h : queryM x = true) (h1 : s.length = (namesM x.atoms).length) : sharesM x s = decide (0 < cellsM s) := by
  have hn := query_names h
  unfold sharesM
  rw [h, decide_eq_true h1, Bool.true_and, Bool.and_true]
  cases e : shOk s with
  | false => rw [cells_no2 e]; rfl
  | true =>
    rw [cells_yes (by omega) e]
    have := prod_rng (shK_all e)
    rw [decide_eq_true (by omega)]
theorem atoms_len {x : Query} (h : gQuery.sz x ≤ 1048576) : x.atoms.length ≤ 1048576 := by
  have h1 := gQuery_sz x
  have h2 := len_szL gAtom x.atoms
  omega
--@ct impl.SharesOk val implSharesOk_ct _ _ _ _ $1 $2 ?_ | ⟨%1, %2⟩
theorem implSharesOk_ct (l : List Value) (b : Option Addr) (m c : Nat) (x : Query) (s : List Int) (hx : gQuery.sz x ≤ 1048576) : Ct Tryz.prog 87 [.agg ⟨l⟩, .slice b m c] [] (fun H => gQuery.rd H l x ∧ (gSl 3 gI).rd H [.slice b m c] s) (fun v A => v = .bool (sharesM x s) ∧ A = []) := by
  refine Ct.intro0 G_ok Tryz.func87 rfl rfl rfl fun E H hp => ?_
  obtain ⟨hp, hq⟩ := hp
  obtain ⟨rfl, hcl, hl⟩ := sl_len hq
  obtain ⟨b1p, c1p, b2p, c2p, b3p, c3p, rfl, h1p, h2p, h3p⟩ := gQuery_rd.1 hp
  have hal := atoms_len hx
  refine VCnew.intro fun x0 => ?_
  refine call_val (implQueryOk_ct _ (x) ?_) (Rp.mono _ (mem_at 0 rfl) hp) ?_
  · trivial
  rintro _ rfl
  refine VCsplit.intro (fun q2 => ?_) (fun q2 => ?_)
  ·
    refine call_new (implNamesOf_ct _ (x) ?_) (Rp.mono _ (mem_at 0 rfl) hp) ?_
    · trivial
    rintro v3 A3 o3
    obtain ⟨b3, c3, rfl, o3⟩ := o3
    refine VCsplit.intro (fun q4 => ?_) (fun q4 => ?_)
    ·
      simp at q4
      refine call_val (implCellsOf_ct _ _ _ (s)) (Rp.mono _ (mem_at 1 rfl) hq) ?_
      rintro _ rfl
      exact ⟨[], ⟨congrArg Value.bool (shares_val (by assumption) (by omega)).symm, rfl⟩, (.le fun a => by (try simp only [setR, List.cons_append, List.nil_append]); simp [List.count_cons, Blk.ent, idOf]; try omega)⟩
    ·
      simp at q4
      exact ⟨[], ⟨by rw [shares_no2 (by omega)], rfl⟩, (.le fun a => by (try simp only [setR, List.cons_append, List.nil_append]); simp [List.count_cons, Blk.ent, idOf]; try omega)⟩
  ·
    exact ⟨[], ⟨by rw [shares_no1 (by assumption)], rfl⟩, (.le fun a => by (try simp only [setR, List.cons_append, List.nil_append]); simp [List.count_cons, Blk.ent, idOf]; try omega)⟩
--@ct spec.SharesOk val specSharesOk_ct _ _ _ _ $1 $2 ?_ | ⟨%1, %2⟩
theorem specSharesOk_ct (l : List Value) (b : Option Addr) (m c : Nat) (x : Query) (s : List Int) (hx : gQuery.sz x ≤ 1048576) : Ct Tryz.prog 75 [.agg ⟨l⟩, .slice b m c] [] (fun H => gQuery.rd H l x ∧ (gSl 3 gI).rd H [.slice b m c] s) (fun v A => v = .bool (sharesM x s) ∧ A = []) := by
  refine Ct.intro0 G_ok Tryz.func75 rfl rfl rfl fun E H hp => ?_
  obtain ⟨hp, hq⟩ := hp
  obtain ⟨rfl, hcl, hl⟩ := sl_len hq
  obtain ⟨b1p, c1p, b2p, c2p, b3p, c3p, rfl, h1p, h2p, h3p⟩ := gQuery_rd.1 hp
  have hal := atoms_len hx
  refine VCnew.intro fun x0 => ?_
  refine call_val (specQueryOk_ct _ (x) ?_) (Rp.mono _ (mem_at 0 rfl) hp) ?_
  · trivial
  rintro _ rfl
  refine VCsplit.intro (fun q2 => ?_) (fun q2 => ?_)
  ·
    refine call_new (specNamesOf_ct _ (x) ?_) (Rp.mono _ (mem_at 0 rfl) hp) ?_
    · trivial
    rintro v3 A3 o3
    obtain ⟨b3, c3, rfl, o3⟩ := o3
    refine call_val (l13Number_ct _ _ _ (s) _) (Rp.mono _ (mem_at 1 rfl) hq) ?_
    rintro _ rfl
    exact ⟨[], ⟨congrArg Value.bool (by unfold sharesM; rw [‹queryM x = true›, Bool.true_and]; congr 1; rw [decide_eq_decide]; omega), rfl⟩, (.le fun a => by (try simp only [setR, List.cons_append, List.nil_append]); simp [List.count_cons, Blk.ent, idOf]; try omega)⟩
  ·
    exact ⟨[], ⟨by rw [shares_no1 (by assumption)], rfl⟩, (.le fun a => by (try simp only [setR, List.cons_append, List.nil_append]); simp [List.count_cons, Blk.ent, idOf]; try omega)⟩
--@ct impl.isCell val isCell_ct _ _ _ $1 _ | %1
theorem isCell_ct (b : Option Addr) (m c : Nat) (s : List Int) (n : Int) : Ct Tryz.prog 89 [.slice b m c, .int .i64 n] [] (fun H => (gSl 3 gI).rd H [.slice b m c] s) (fun v A => v = .bool (inR 0 (cellsM s - 1) n) ∧ A = []) := by
  refine Ct.intro0 G_ok Tryz.func89 rfl rfl rfl fun E H hp => ?_
  obtain ⟨rfl, hcl, hl⟩ := sl_len hp
  refine VCsplit.intro (fun q0 => ?_) (fun q0 => ?_)
  ·
    simp at q0
    refine call_val (implCellsOf_ct _ _ _ (s)) (Rp.mono _ (mem_at 0 rfl) hp) ?_
    rintro _ rfl
    exact ⟨[], ⟨congrArg Value.bool (by unfold inR; rw [Bool.eq_iff_iff]; simp; omega), rfl⟩, (.le fun a => by (try simp only [setR, List.cons_append, List.nil_append]); simp only [List.flatten_append, List.flatten_cons, List.flatten_nil, List.count_append, List.count_nil, List.append_nil, List.nil_append]; omega)⟩
  ·
    simp at q0
    exact ⟨[], ⟨congrArg Value.bool (by unfold inR; rw [Bool.eq_iff_iff]; simp; omega), rfl⟩, (.le fun a => by (try simp only [setR, List.cons_append, List.nil_append]); simp only [List.flatten_append, List.flatten_cons, List.flatten_nil, List.count_append, List.count_nil, List.append_nil, List.nil_append]; omega)⟩
end Go.Proofs.YtflfohphebmemaaGreat

namespace Go.Proofs.YtflfohphebmemaaGreat
open Go.SX Go.Proofs
set_option linter.unusedSimpArgs false
set_option linter.unusedVariables false
set_option maxHeartbeats 4000000
attribute [local irreducible] IntKind.wrap queryM namesM sharesM
theorem szI : ∀ xs : List Int, szL gI xs = xs.length
  | [] => rfl
  | x :: r => by
    have := szI r
    show 1 + 0 + szL gI r = _
    rw [this, List.length_cons]; omega
theorem shares_len {x : Query} {s : List Int} (h : sharesM x s = true) : s.length ≤ 4 := by
  unfold sharesM at h
  simp only [Bool.and_eq_true, decide_eq_true_iff] at h
  have := query_names h.1
  omega
noncomputable def cellR (x : Query) (s : List Int) (a n : Int) : Cell × Bool := if sharesM x s = true ∧ inR 0 (cellsM s - 1) a = true ∧ inR 1 8 n = true ∧ cellsM s ≤ n then (⟨x, s, a, n, []⟩, true) else (zCell, false)
theorem cellR_yes {x : Query} {s : List Int} {a n : Int} (h1 : sharesM x s = true) (h2 : inR 0 (cellsM s - 1) a = true) (h3 : inR 1 8 n = true) (h4 : cellsM s ≤ n) : cellR x s a n = (⟨x, s, a, n, []⟩, true) := if_pos ⟨h1, h2, h3, h4⟩
theorem cellR_no1 {x : Query} {s : List Int} {a n : Int} (h : sharesM x s = false) : cellR x s a n = (zCell, false) := if_neg fun e => by rw [h] at e; cases e.1
theorem cellR_no2 {x : Query} {s : List Int} {a n : Int} (h : inR 0 (cellsM s - 1) a = false) : cellR x s a n = (zCell, false) := if_neg fun e => by rw [h] at e; cases e.2.1
theorem cellR_no3 {x : Query} {s : List Int} {a n : Int} (h : inR 1 8 n = false) : cellR x s a n = (zCell, false) := if_neg fun e => by rw [h] at e; cases e.2.2.1
theorem cellR_no4 {x : Query} {s : List Int} {a n : Int} (h : ¬ cellsM s ≤ n) : cellR x s a n = (zCell, false) := if_neg fun e => h e.2.2.2
--@ct impl.CellNew new implCellNew_ct _ _ _ _ $1 $2 _ _ ?_ ?_ ?_ | ⟨%1, %2⟩ | obtain ⟨l#, rfl, o#⟩ := o# ;; have r# := Gt.owrd _ o# ;; @open{Cell r# x#}
--@ct spec.CellNew new specCellNew_ct _ _ _ _ $1 $2 _ _ ?_ ?_ ?_ | ⟨%1, %2⟩ | obtain ⟨l#, rfl, o#⟩ := o# ;; have r# := Gt.owrd _ o# ;; @open{Cell r# x#}
theorem implCellNew_ct (l : List Value) (b : Option Addr) (m c : Nat) (x : Query) (s : List Int) (a n : Int) (hx : gQuery.sz x ≤ 1048576) (ha : okI a) (hn : okI n) : Ct Tryz.prog 35 [.agg ⟨l⟩, .slice b m c, .int .i64 a, .int .i64 n] [] (fun H => gQuery.rd H l x ∧ (gSl 3 gI).rd H [.slice b m c] s) (fun v A => ∃ l, v = .tuple #[.agg ⟨l⟩, .bool (cellR x s a n).2] ∧ gCell.ow l (cellR x s a n).1 A) := by
  refine Ct.intro0 G_ok Tryz.func35 rfl rfl rfl fun E H hp => ?_
  obtain ⟨hp, hq⟩ := hp
  obtain ⟨rfl, hcl, hl⟩ := sl_len hq
  obtain ⟨b1p, c1p, b2p, c2p, b3p, c3p, rfl, h1p, h2p, h3p⟩ := gQuery_rd.1 hp
  have hcr := cells_rng s
  refine VCnew.intro fun x0 => ?_
  refine VCnew.intro fun x1 => ?_
  refine call_val (implSharesOk_ct _ _ _ _ (x) (s) ?_) ⟨(Rp.mono _ (mem_at 0 rfl) hp), (Rp.mono _ (mem_at 0 rfl) hq)⟩ ?_
  · trivial
  rintro _ rfl
  refine VCsplit.intro (fun q3 => ?_) (fun q3 => ?_)
  ·
    simp at q3
    (rw [cellR_no1 (by assumption)]; exact ⟨[], ⟨_, rfl, zCell_ow⟩, (.le fun a => by (try simp only [setR, List.cons_append, List.nil_append]); simp [List.count_cons, Blk.ent, idOf]; try omega)⟩)
  ·
    simp at q3
    refine call_val (isCell_ct _ _ _ (s) _) (Rp.mono _ (mem_at 0 rfl) hq) ?_
    rintro _ rfl
    refine VCsplit.intro (fun q5 => ?_) (fun q5 => ?_)
    ·
      simp at q5
      (rw [cellR_no2 (by assumption)]; exact ⟨[], ⟨_, rfl, zCell_ow⟩, (.le fun a => by (try simp only [setR, List.cons_append, List.nil_append]); simp [List.count_cons, Blk.ent, idOf]; try omega)⟩)
    ·
      simp at q5
      refine call_val (isWorkers_ct _) trivial ?_
      rintro _ rfl
      refine VCsplit.intro (fun q7 => ?_) (fun q7 => ?_)
      ·
        simp at q7
        (rw [cellR_no3 (by assumption)]; exact ⟨[], ⟨_, rfl, zCell_ow⟩, (.le fun a => by (try simp only [setR, List.cons_append, List.nil_append]); simp [List.count_cons, Blk.ent, idOf]; try omega)⟩)
      ·
        simp at q7
        refine call_val (implCellsOf_ct _ _ _ (s)) (Rp.mono _ (mem_at 0 rfl) hq) ?_
        rintro _ rfl
        refine VCsplit.intro (fun q9 => ?_) (fun q9 => ?_)
        ·
          simp at q9
          (rw [cellR_no4 (by omega)]; exact ⟨[], ⟨_, rfl, zCell_ow⟩, (.le fun a => by (try simp only [setR, List.cons_append, List.nil_append]); simp [List.count_cons, Blk.ent, idOf]; try omega)⟩)
        ·
          simp at q9
          refine call_new (copyQuery_ct _ (x) ?_) (Rp.mono _ (mem_at 0 rfl) hp) ?_
          · trivial
          rintro v10 A10 o10
          obtain ⟨l10, rfl, o10⟩ := o10
          have r10 := Gt.owrd _ o10
          obtain ⟨b1x10, c1x10, b2x10, c2x10, b3x10, c3x10, rfl, h1x10, h2x10, h3x10⟩ := gQuery_rd.1 r10
          refine call_new (cloneI_ct _ _ _ (s) ?_) (Rp.mono _ (mem_at 1 rfl) hq) ?_
          · (rw [szI]; have := shares_len ‹sharesM x s = true›; omega)
          rintro v11 A11 o11
          obtain ⟨b11, c11, rfl, o11⟩ := o11
          (rw [cellR_yes (by assumption) (by assumption) (by assumption) (by omega)]; exact ⟨_, ⟨_, rfl, gCell_ow.2 ⟨_, _, _, _, _, _, _, _, rfl, .refl _, by assumption, by assumption, ha, hn, sl_nil _ _ _⟩⟩, (.le fun a => by (try simp only [setR, List.cons_append, List.nil_append]); simp [List.count_cons, Blk.ent, idOf]; try omega)⟩)
theorem specCellNew_ct (l : List Value) (b : Option Addr) (m c : Nat) (x : Query) (s : List Int) (a n : Int) (hx : gQuery.sz x ≤ 1048576) (ha : okI a) (hn : okI n) : Ct Tryz.prog 34 [.agg ⟨l⟩, .slice b m c, .int .i64 a, .int .i64 n] [] (fun H => gQuery.rd H l x ∧ (gSl 3 gI).rd H [.slice b m c] s) (fun v A => ∃ l, v = .tuple #[.agg ⟨l⟩, .bool (cellR x s a n).2] ∧ gCell.ow l (cellR x s a n).1 A) := by
  refine Ct.intro0 G_ok Tryz.func34 rfl rfl rfl fun E H hp => ?_
  obtain ⟨hp, hq⟩ := hp
  obtain ⟨rfl, hcl, hl⟩ := sl_len hq
  obtain ⟨b1p, c1p, b2p, c2p, b3p, c3p, rfl, h1p, h2p, h3p⟩ := gQuery_rd.1 hp
  have hcr := cells_rng s
  refine VCnew.intro fun x0 => ?_
  refine VCnew.intro fun x1 => ?_
  refine call_val (specSharesOk_ct _ _ _ _ (x) (s) ?_) ⟨(Rp.mono _ (mem_at 0 rfl) hp), (Rp.mono _ (mem_at 0 rfl) hq)⟩ ?_
  · trivial
  rintro _ rfl
  refine VCsplit.intro (fun q3 => ?_) (fun q3 => ?_)
  ·
    simp at q3
    (rw [cellR_no1 (by assumption)]; exact ⟨[], ⟨_, rfl, zCell_ow⟩, (.le fun a => by (try simp only [setR, List.cons_append, List.nil_append]); simp [List.count_cons, Blk.ent, idOf]; try omega)⟩)
  ·
    simp at q3
    refine call_val (specCellsOf_ct _ _ _ (s)) (Rp.mono _ (mem_at 0 rfl) hq) ?_
    rintro _ rfl
    refine call_val (l01In_ct _ _ _) trivial ?_
    rintro _ rfl
    refine VCsplit.intro (fun q6 => ?_) (fun q6 => ?_)
    ·
      simp at q6
      simp (disch := omega) only [wrap_of] at q6
      (rw [cellR_no2 (by assumption)]; exact ⟨[], ⟨_, rfl, zCell_ow⟩, (.le fun a => by (try simp only [setR, List.cons_append, List.nil_append]); simp [List.count_cons, Blk.ent, idOf]; try omega)⟩)
    ·
      simp at q6
      simp (disch := omega) only [wrap_of] at q6
      refine call_val (l01In_ct _ _ _) trivial ?_
      rintro _ rfl
      refine VCsplit.intro (fun q8 => ?_) (fun q8 => ?_)
      ·
        simp at q8
        (rw [cellR_no3 (by assumption)]; exact ⟨[], ⟨_, rfl, zCell_ow⟩, (.le fun a => by (try simp only [setR, List.cons_append, List.nil_append]); simp [List.count_cons, Blk.ent, idOf]; try omega)⟩)
      ·
        simp at q8
        refine call_val (specCellsOf_ct _ _ _ (s)) (Rp.mono _ (mem_at 0 rfl) hq) ?_
        rintro _ rfl
        refine VCsplit.intro (fun q10 => ?_) (fun q10 => ?_)
        ·
          simp at q10
          (rw [cellR_no4 (by omega)]; exact ⟨[], ⟨_, rfl, zCell_ow⟩, (.le fun a => by (try simp only [setR, List.cons_append, List.nil_append]); simp [List.count_cons, Blk.ent, idOf]; try omega)⟩)
        ·
          simp at q10
          refine call_new (s_l08Copy_ct _ (x) ?_) (Rp.mono _ (mem_at 0 rfl) hp) ?_
          · trivial
          rintro v11 A11 o11
          obtain ⟨l11, rfl, o11⟩ := o11
          have r11 := Gt.owrd _ o11
          obtain ⟨b1x11, c1x11, b2x11, c2x11, b3x11, c3x11, rfl, h1x11, h2x11, h3x11⟩ := gQuery_rd.1 r11
          refine VCnew.intro fun x12 => ?_
          refine append_allN (g := gI) (T := (3 : TypeId)) G_ok (by repeat (first | exact fl_plain | apply plain_iso | apply plain_pair)) [] [[(x12, Obj.cells { toList := zeros (0 : Nat) [Value.int IntKind.i64 (0 : Int)] } (3 : TypeId))], A11, H] 2 ?_ (sl_nil _ _ _) rfl hq rfl rfl rfl rfl rfl rfl rfl rfl ?_ fun b13 c13 A13 o13 => ?_
          · exact .refl _
          · (have := shares_len ‹sharesM x s = true›; simp; omega)
          (rw [cellR_yes (by assumption) (by assumption) (by assumption) (by omega)]; exact ⟨_, ⟨_, rfl, gCell_ow.2 ⟨_, _, _, _, _, _, _, _, rfl, .refl _, by assumption, by assumption, ha, hn, sl_nil _ _ _⟩⟩, (.le fun a => by (try simp only [setR, List.cons_append, List.nil_append]); simp [List.count_cons, Blk.ent, idOf]; try omega)⟩)
end Go.Proofs.YtflfohphebmemaaGreat

namespace Go.Proofs.YtflfohphebmemaaGreat
open Go.SX Go.Proofs
set_option maxHeartbeats 4000000
set_option linter.unusedSimpArgs false
set_option linter.unusedVariables false
theorem dgs_size : ∀ (f k : Nat) (out : ByteArray), (dgs f k out).size ≤ f + out.size
  | 0, k, out => by simp [dgs]
  | f + 1, k, out => by
    unfold dgs
    split
    · omega
    · have := dgs_size f (k / 10) (⟨#[UInt8.ofNat (48 + k % 10)]⟩ ++ out)
      rw [ByteArray.size_append] at this
      have e : (⟨#[UInt8.ofNat (48 + k % 10)]⟩ : ByteArray).size = 1 := rfl
      omega
theorem sz1 (x : UInt8) : (⟨#[x]⟩ : ByteArray).size = 1 := rfl
theorem dgs_dig (q : Nat) : ((q : Int).tmod 10) = ((q % 10 : Nat) : Int) := by rw [Int.tmod_eq_emod_of_nonneg (by omega)]; omega
theorem dgs_fr (q : Nat) (o : ByteArray) : Value.string (⟨(([IntKind.u8.wrap (IntKind.i64.wrap (48 + (q : Int).tmod 10))] : List Int).map fun v => UInt8.ofNat v.toNat).toArray⟩ ++ o) = Value.string (⟨#[UInt8.ofNat (48 + q % 10)]⟩ ++ o) := by
  rw [dgs_dig]
  have h : IntKind.u8.wrap (IntKind.i64.wrap (48 + ((q % 10 : Nat) : Int))) = ((48 + q % 10 : Nat) : Int) := by
    simp (disch := omega) only [wrap_of, u8_wrap]; omega
  rw [h]; rfl
theorem mtx_size (k : Int) : (mtx k).size ≤ 9223372036854775807 := by
  unfold mtx
  split
  · decide
  · have := dgs_size 20 k.toNat .empty
    rw [ByteArray.size_append]
    have e : (⟨#[109]⟩ : ByteArray).size = 1 := rfl
    have e2 : ByteArray.empty.size = 0 := rfl
    omega
--@ct laws.markText val markText_ct _ ?_
theorem markText_ct (k : Int) (h1 : k ≤ 4611686018427387904) : Ct Tryz.prog 66 [.int .i64 k] [] (fun _ => True) (fun v A => v = .string (mtx k) ∧ A = []) := by
  refine Ct.intro0 G_ok Tryz.func66 rfl rfl rfl fun E H hp => ?_
  refine VCsplit.intro (fun q0 => ?_) (fun q0 => ?_)
  ·
    simp at q0
    exact ⟨[], ⟨by unfold mtx; rw [if_pos (by omega)], rfl⟩, (.le fun a => by (try simp only [setR, List.cons_append, List.nil_append]); simp only [List.flatten_append, List.flatten_cons, List.flatten_nil, List.count_append, List.count_nil, List.append_nil, List.nil_append]; omega)⟩
  ·
    simp at q0
    apply loop_mod (α := (Nat) × (Nat) × (ByteArray)) G_ok [6, 7, 8, 9, 10, 11, 12, 13, 14, 15, 3, 16, 17, 0] (fun z => [(3, .v (.string z.2.2)), (0, .v (.int .i64 z.2.1))]) (fun z => []) (fun z => [H]) (fun z => z.2.1) (fun z => dgs z.1 z.2.1 z.2.2 = dgs 20 k.toNat .empty ∧ z.2.1 < 10 ^ z.1 ∧ z.2.2.size + z.1 ≤ 20 ∧ z.2.1 ≤ 4611686018427387904) ((20, k.toNat, .empty))
    · repeat' (first | exact trivial | refine ⟨⟨_, rfl, by first | rfl | exact inc_eq _ (by omega) | (refine sl_eq ?_; simp; done) | (refine svi_eq ?_; (try dsimp only); omega) | exact dgs_fr q o | (refine svi_eq ?_; (try dsimp only); rw [Int.tdiv_eq_ediv_of_nonneg (show (0 : Int) ≤ (q : Int) by omega)]; (try simp (disch := omega) only [wrap_of]); omega), by first | exact trivial | simp [SV.ok]⟩, ?_⟩)
    · exact trivial
    · try dsimp only
      exact ⟨rfl, by omega, by decide, by omega⟩
    · exact .refl _
    rintro ⟨f, q, o⟩ hI
    obtain ⟨hd, hq, hs, hm⟩ : dgs f q o = dgs 20 k.toNat .empty ∧ q < 10 ^ f ∧ o.size + f ≤ 20 ∧ q ≤ 4611686018427387904 := hI
    try dsimp only
    refine VCsplit.intro (fun q1 => ?_) (fun q1 => ?_)
    ·
      simp at q1
      obtain ⟨f, rfl⟩ : ∃ f', f = f' + 1 := by cases f with | zero => simp at hq; omega | succ f' => exact ⟨f', rfl⟩
      refine VC.intro ?_ ?_
      · trivial
      refine VCnew.intro fun x2 => ?_
      refine conv_bs G_ok (([IntKind.u8.wrap (IntKind.i64.wrap ((48 : Int) + (↑q : Int).tmod (10 : Int)))] : List Int).map fun v => UInt8.ofNat v.toNat) rfl (lit_bs [IntKind.u8.wrap (IntKind.i64.wrap ((48 : Int) + (↑q : Int).tmod (10 : Int)))] (mem_at 0 rfl _ (List.mem_singleton.2 rfl)) rfl ?_ (by simp)) rfl rfl rfl ?_
      · (simp only [inU8, u8_wrap, and_true]; omega)
      refine VC.intro ?_ ?_
      · (rw [bsz]; simp only [List.length_map, List.length_cons, List.length_nil]; have : IntKind.i64.max = 9223372036854775807 := rfl; omega)
      refine VC.intro ?_ ?_
      · trivial
      apply loop_stepA (f, q / 10, ⟨#[UInt8.ofNat (48 + q % 10)]⟩ ++ o)
      · exact .sub (by repeat (first | exact .slnil | apply List.Sublist.cons_cons | apply List.Sublist.cons))
      · repeat' (first | exact trivial | refine ⟨⟨_, rfl, by first | rfl | exact inc_eq _ (by omega) | (refine sl_eq ?_; simp; done) | (refine svi_eq ?_; (try dsimp only); omega) | exact dgs_fr q o | (refine svi_eq ?_; (try dsimp only); rw [Int.tdiv_eq_ediv_of_nonneg (show (0 : Int) ≤ (q : Int) by omega)]; (try simp (disch := omega) only [wrap_of]); omega), by first | exact trivial | simp [SV.ok]⟩, ?_⟩)
      · exact trivial
      · try dsimp only
        exact ⟨by rw [← hd]; conv => rhs; unfold dgs; rw [if_neg (by omega : ¬ q = 0)], by rw [Nat.pow_succ] at hq; omega, by rw [ByteArray.size_append, sz1]; omega, by omega⟩
      · try dsimp only
        omega
    ·
      simp at q1
      obtain rfl : q = 0 := by omega
      have hd0 : o = dgs 20 k.toNat .empty := by rw [← hd]; cases f <;> simp [dgs]
      refine VC.intro ?_ ?_
      · (have e1 : (⟨#[109]⟩ : ByteArray).size = 1 := rfl; have : IntKind.i64.max = 9223372036854775807 := rfl; omega)
      exact ⟨[], ⟨by unfold mtx; rw [if_neg (by omega), hd0], rfl⟩, (.le fun a => by (try simp only [setR, List.cons_append, List.nil_append]); simp only [List.flatten_append, List.flatten_cons, List.flatten_nil, List.count_append, List.count_nil, List.append_nil, List.nil_append]; omega)⟩
--@ct laws.markIntS mark1 markIntS_ct _ _ _ _ _ _ ~ ?_ ?_
theorem markIntS_ct (b : Option Addr) (m c : Nat) (xs : List Int) (A : Hp) (k0 : Int) (ho : (gSl 3 gI).ow [.slice b m c] xs A) (h0 : 0 ≤ k0) (h1 : k0 + cntL gI xs ≤ 4611686018427387904) :
    CtR Tryz.prog 30 [.slice b m c, .int .i64 k0] A (fun _ => True) (fun v A => v = .int .i64 (k0 + cntL gI xs) ∧ (gSl 3 gI).ow [.slice b m c] (mkL gI k0 xs) A) := by
  obtain ⟨rfl, hcl, hl⟩ := sl_len (Gt.owrd _ ho)
  refine CtR.intro G_ok [A] Tryz.func30 rfl rfl rfl (by simp) fun E H hp => ?_
  apply loop_mod (α := (Nat) × (Hp)) G_ok [6, 7, 8, 9, 12, 13, 14, 15, 16, 17, 1, 10, 11, 5] (fun z => [(5, .v (.int .i64 z.1)), (1, .v (.int .i64 (k0 + cntL gI (xs.take z.1))))]) (fun z => []) (fun z => [z.2, H]) (fun z => xs.length - z.1) (fun z => z.1 ≤ xs.length ∧ (gSl 3 gI).ow [.slice b xs.length c] (mkL gI k0 (xs.take z.1) ++ xs.drop z.1) z.2) ((0, A))
  · repeat' (first | exact trivial | refine ⟨⟨_, rfl, by first | rfl | exact inc_eq _ (by omega) | (refine sl_eq ?_; simp; done) | (refine svi_eq ?_; subst_vars; (try dsimp only); (try simp (disch := omega) only [wrap_of]); omega) | (simp [cntL]), by first | exact trivial | simp [SV.ok]⟩, ?_⟩)
  · exact trivial
  · try dsimp only
    exact ⟨by omega, by simpa [mkL] using ho⟩
  · exact .refl _
  rintro ⟨k, B⟩ hI
  obtain ⟨hk, oB⟩ : k ≤ xs.length ∧ (gSl 3 gI).ow [.slice b xs.length c] (mkL gI k0 (xs.take k) ++ xs.drop k) B := hI
  try dsimp only
  refine VCsplit.intro (fun q0 => ?_) (fun q0 => ?_)
  ·
    simp at q0
    have hs : cntL gI (xs.take (k + 1)) = cntL gI (xs.take k) + 1 := (cntL_step gI xs k 0 (by omega))
    have hs2 := cntL_take_le gI xs (k + 1)
    refine idx_rd (Gt.owrd _ oB) ?_ ?_ fun b1 o1 hb1 => ?_
    · omega
    · (rw [mk_len _ _ _ _ (by omega)]; omega)
    refine gstoreN (Fld.id _) 0 (k) 0 rfl rfl oB ?_ ?_ hb1 rfl gI_pl _ (gI_ow ?_) fun A2 o2 => ?_
    · omega
    · (rw [mk_len _ _ _ _ (by omega)]; omega)
    · unfold okI; omega
    apply loop_stepA (k + 1, _)
    · exact .refl _
    · repeat' (first | exact trivial | refine ⟨⟨_, rfl, by first | rfl | exact inc_eq _ (by omega) | (refine sl_eq ?_; simp; done) | (refine svi_eq ?_; subst_vars; (try dsimp only); (try simp (disch := omega) only [wrap_of]); omega) | (simp [cntL]), by first | exact trivial | simp [SV.ok]⟩, ?_⟩)
    · exact trivial
    · try dsimp only
      exact ⟨by omega, by rw [← mk_step gI 0 xs k0 k (by omega)] ; assumption⟩
    · try dsimp only
      omega
  ·
    simp at q0
    obtain rfl : k = xs.length := by omega
    rw [List.take_length, List.drop_length, List.append_nil] at oB
    exact ⟨_, ⟨by rw [List.take_length], oB⟩, (.le fun a => by (try simp only [setR, List.cons_append, List.nil_append]); simp only [List.flatten_append, List.flatten_cons, List.flatten_nil, List.count_append, List.count_nil, List.append_nil, List.nil_append]; omega)⟩
--@ct laws.heldIntS val heldIntS_ct _ _ _ _ _ _ ?_ ?_ ?_ | %1
theorem heldIntS_ct (b : Option Addr) (m c : Nat) (xs : List Int) (k0 k1 : Int) (hk1 : k0 = k1) (h0 : 0 ≤ k0) (h1 : k0 + cntL gI xs ≤ 4611686018427387904) :
    Ct Tryz.prog 113 [.slice b m c, .int .i64 k0] [] (fun H => (gSl 3 gI).rd H [.slice b m c] (mkL gI k1 xs)) (fun v A => v = .int .i64 (k0 + cntL gI xs) ∧ A = []) := by
  subst hk1
  refine Ct.intro0 G_ok Tryz.func113 rfl rfl rfl fun E H hp => ?_
  have hm0 := (sl_len hp).1
  rw [mkL_len] at hm0; subst hm0
  obtain ⟨-, hcl, hl⟩ := sl_len hp
  rw [mkL_len] at hcl hl
  have hln := mkL_len gI xs k0
  apply loop_mod (α := (Nat)) G_ok [6, 7, 8, 9, 12, 13, 14, 15, 16, 17, 4, 18, 19, 1, 10, 11, 5] (fun z => [(5, .v (.int .i64 z)), (1, .v (.int .i64 (k0 + cntL gI (xs.take z))))]) (fun z => []) (fun z => [H]) (fun z => xs.length - z) (fun z => z ≤ xs.length) (0)
  · repeat' (first | exact trivial | refine ⟨⟨_, rfl, by first | rfl | exact inc_eq _ (by omega) | (refine sl_eq ?_; simp; done) | (refine svi_eq ?_; (try dsimp only); (try simp (disch := omega) only [wrap_of]); omega) | (simp [cntL]), by first | exact trivial | simp [SV.ok]⟩, ?_⟩)
  · exact trivial
  · omega
  · exact .refl _
  rintro k hI
  obtain hk : k ≤ xs.length := hI
  try dsimp only
  refine VCsplit.intro (fun q0 => ?_) (fun q0 => ?_)
  ·
    simp at q0
    have hs : cntL gI (xs.take (k + 1)) = cntL gI (xs.take k) + 1 := (cntL_step gI xs k 0 (by omega))
    have hs2 := cntL_take_le gI xs (k + 1)
    have hm : (mkL gI k0 xs)[k]?.getD 0 = k0 + cntL gI (xs.take k) := mkL_get gI 0 xs k0 k (by omega)
    refine idx_rd hp ?_ ?_ fun b1 o1 hb1 => ?_
    · omega
    · omega
    refine load_allN 0 (k) rfl hp ?_ ?_ hb1 rfl (mem_at 0 rfl) fun l2 hl2 => ?_
    · omega
    · omega
    rw [hm] at hl2
    obtain ⟨rfl, hw2⟩ := hl2; simp only [flStr, flInt, okI] at hw2
    refine VCsplit.intro (fun q3 => ?_) (fun q3 => ?_)
    ·
      simp at q3
    ·
      simp at q3
      apply loop_stepA (k + 1)
      · exact .refl _
      · repeat' (first | exact trivial | refine ⟨⟨_, rfl, by first | rfl | exact inc_eq _ (by omega) | (refine sl_eq ?_; simp; done) | (refine svi_eq ?_; (try dsimp only); (try simp (disch := omega) only [wrap_of]); omega) | (simp [cntL]), by first | exact trivial | simp [SV.ok]⟩, ?_⟩)
      · exact trivial
      · trivial
      · omega
  ·
    simp at q0
    obtain rfl : k = xs.length := by omega
    exact ⟨[], ⟨by rw [List.take_length], rfl⟩, (.le fun a => by (try simp only [setR, List.cons_append, List.nil_append]); simp only [List.flatten_append, List.flatten_cons, List.flatten_nil, List.count_append, List.count_nil, List.append_nil, List.nil_append]; omega)⟩
--@ct laws.markStringS mark1 markStringS_ct _ _ _ _ _ _ ~ ?_ ?_
theorem markStringS_ct (b : Option Addr) (m c : Nat) (xs : List ByteArray) (A : Hp) (k0 : Int) (ho : (gSl 9 gS).ow [.slice b m c] xs A) (h0 : 0 ≤ k0) (h1 : k0 + cntL gS xs ≤ 4611686018427387904) :
    CtR Tryz.prog 100 [.slice b m c, .int .i64 k0] A (fun _ => True) (fun v A => v = .int .i64 (k0 + cntL gS xs) ∧ (gSl 9 gS).ow [.slice b m c] (mkL gS k0 xs) A) := by
  obtain ⟨rfl, hcl, hl⟩ := sl_len (Gt.owrd _ ho)
  refine CtR.intro G_ok [A] Tryz.func100 rfl rfl rfl (by simp) fun E H hp => ?_
  apply loop_mod (α := (Nat) × (Hp)) G_ok [6, 7, 8, 9, 12, 13, 14, 15, 16, 17, 18, 1, 10, 11, 5] (fun z => [(5, .v (.int .i64 z.1)), (1, .v (.int .i64 (k0 + cntL gS (xs.take z.1))))]) (fun z => []) (fun z => [z.2, H]) (fun z => xs.length - z.1) (fun z => z.1 ≤ xs.length ∧ (gSl 9 gS).ow [.slice b xs.length c] (mkL gS k0 (xs.take z.1) ++ xs.drop z.1) z.2) ((0, A))
  · repeat' (first | exact trivial | refine ⟨⟨_, rfl, by first | rfl | exact inc_eq _ (by omega) | (refine sl_eq ?_; simp; done) | (refine svi_eq ?_; subst_vars; (try dsimp only); (try simp (disch := omega) only [wrap_of]); omega) | (simp [cntL]), by first | exact trivial | simp [SV.ok]⟩, ?_⟩)
  · exact trivial
  · try dsimp only
    exact ⟨by omega, by simpa [mkL] using ho⟩
  · exact .refl _
  rintro ⟨k, B⟩ hI
  obtain ⟨hk, oB⟩ : k ≤ xs.length ∧ (gSl 9 gS).ow [.slice b xs.length c] (mkL gS k0 (xs.take k) ++ xs.drop k) B := hI
  try dsimp only
  refine VCsplit.intro (fun q0 => ?_) (fun q0 => ?_)
  ·
    simp at q0
    have hs : cntL gS (xs.take (k + 1)) = cntL gS (xs.take k) + 1 := (cntL_step gS xs k ByteArray.empty (by omega))
    have hs2 := cntL_take_le gS xs (k + 1)
    refine call_val (markText_ct _ ?_) trivial ?_
    · omega
    rintro _ rfl
    refine idx_rd (Gt.owrd _ oB) ?_ ?_ fun b2 o2 hb2 => ?_
    · omega
    · (rw [mk_len _ _ _ _ (by omega)]; omega)
    refine gstoreN (Fld.id _) ByteArray.empty (k) 0 rfl rfl oB ?_ ?_ hb2 rfl fl_pl _ (gS_ow ?_) fun A3 o3 => ?_
    · omega
    · (rw [mk_len _ _ _ _ (by omega)]; omega)
    · exact mtx_size _
    apply loop_stepA (k + 1, _)
    · exact .refl _
    · repeat' (first | exact trivial | refine ⟨⟨_, rfl, by first | rfl | exact inc_eq _ (by omega) | (refine sl_eq ?_; simp; done) | (refine svi_eq ?_; subst_vars; (try dsimp only); (try simp (disch := omega) only [wrap_of]); omega) | (simp [cntL]), by first | exact trivial | simp [SV.ok]⟩, ?_⟩)
    · exact trivial
    · try dsimp only
      exact ⟨by omega, by rw [← mk_step gS ByteArray.empty xs k0 k (by omega)] ; assumption⟩
    · try dsimp only
      omega
  ·
    simp at q0
    obtain rfl : k = xs.length := by omega
    rw [List.take_length, List.drop_length, List.append_nil] at oB
    exact ⟨_, ⟨by rw [List.take_length], oB⟩, (.le fun a => by (try simp only [setR, List.cons_append, List.nil_append]); simp only [List.flatten_append, List.flatten_cons, List.flatten_nil, List.count_append, List.count_nil, List.append_nil, List.nil_append]; omega)⟩
--@ct laws.heldStringS val heldStringS_ct _ _ _ _ _ _ ?_ ?_ ?_ | %1
theorem heldStringS_ct (b : Option Addr) (m c : Nat) (xs : List ByteArray) (k0 k1 : Int) (hk1 : k0 = k1) (h0 : 0 ≤ k0) (h1 : k0 + cntL gS xs ≤ 4611686018427387904) :
    Ct Tryz.prog 149 [.slice b m c, .int .i64 k0] [] (fun H => (gSl 9 gS).rd H [.slice b m c] (mkL gS k1 xs)) (fun v A => v = .int .i64 (k0 + cntL gS xs) ∧ A = []) := by
  subst hk1
  refine Ct.intro0 G_ok Tryz.func149 rfl rfl rfl fun E H hp => ?_
  have hm0 := (sl_len hp).1
  rw [mkL_len] at hm0; subst hm0
  obtain ⟨-, hcl, hl⟩ := sl_len hp
  rw [mkL_len] at hcl hl
  have hln := mkL_len gS xs k0
  apply loop_mod (α := (Nat)) G_ok [6, 7, 8, 9, 12, 13, 14, 15, 16, 17, 18, 4, 19, 20, 1, 10, 11, 5] (fun z => [(5, .v (.int .i64 z)), (1, .v (.int .i64 (k0 + cntL gS (xs.take z))))]) (fun z => []) (fun z => [H]) (fun z => xs.length - z) (fun z => z ≤ xs.length) (0)
  · repeat' (first | exact trivial | refine ⟨⟨_, rfl, by first | rfl | exact inc_eq _ (by omega) | (refine sl_eq ?_; simp; done) | (refine svi_eq ?_; (try dsimp only); (try simp (disch := omega) only [wrap_of]); omega) | (simp [cntL]), by first | exact trivial | simp [SV.ok]⟩, ?_⟩)
  · exact trivial
  · omega
  · exact .refl _
  rintro k hI
  obtain hk : k ≤ xs.length := hI
  try dsimp only
  refine VCsplit.intro (fun q0 => ?_) (fun q0 => ?_)
  ·
    simp at q0
    have hs : cntL gS (xs.take (k + 1)) = cntL gS (xs.take k) + 1 := (cntL_step gS xs k ByteArray.empty (by omega))
    have hs2 := cntL_take_le gS xs (k + 1)
    have hm : (mkL gS k0 xs)[k]?.getD ByteArray.empty = mtx (k0 + cntL gS (xs.take k)) := mkL_get gS ByteArray.empty xs k0 k (by omega)
    refine draw G_ok mixed none (.q 0 (.q 1 (.q 2 (.q 3 (.q 4 (.f 5 (.q 6 (.nil)))))))) (by decide +kernel) ?_
    refine idx_rd hp ?_ ?_ fun b1 o1 hb1 => ?_
    · omega
    · omega
    refine load_allN ByteArray.empty (k) rfl hp ?_ ?_ hb1 rfl (mem_at 0 rfl) fun l2 hl2 => ?_
    · omega
    · omega
    rw [hm] at hl2
    obtain ⟨rfl, hw2⟩ := hl2; simp only [flStr, flInt, okI] at hw2
    refine call_val (markText_ct _ ?_) trivial ?_
    · omega
    rintro _ rfl
    refine VC.intro ?_ ?_
    · exact fun _ h => h
    refine VCsplit.intro (fun q4 => ?_) (fun q4 => ?_)
    ·
      simp at q4
    ·
      simp at q4
      apply loop_stepA (k + 1)
      · exact .refl _
      · repeat' (first | exact trivial | refine ⟨⟨_, rfl, by first | rfl | exact inc_eq _ (by omega) | (refine sl_eq ?_; simp; done) | (refine svi_eq ?_; (try dsimp only); (try simp (disch := omega) only [wrap_of]); omega) | (simp [cntL]), by first | exact trivial | simp [SV.ok]⟩, ?_⟩)
      · exact trivial
      · trivial
      · omega
  ·
    simp at q0
    obtain rfl : k = xs.length := by omega
    exact ⟨[], ⟨by rw [List.take_length], rfl⟩, (.le fun a => by (try simp only [setR, List.cons_append, List.nil_append]); simp only [List.flatten_append, List.flatten_cons, List.flatten_nil, List.count_append, List.count_nil, List.append_nil, List.nil_append]; omega)⟩
--@ct laws.markItemS mark1 markItemS_ct _ _ _ _ _ _ ~ ?_ ?_
theorem markItemS_ct (b : Option Addr) (m c : Nat) (xs : List Item) (A : Hp) (k0 : Int) (ho : (gSl 212 gItem).ow [.slice b m c] xs A) (h0 : 0 ≤ k0) (h1 : k0 + cntL gItem xs ≤ 4611686018427387904) :
    CtR Tryz.prog 103 [.slice b m c, .int .i64 k0] A (fun _ => True) (fun v A => v = .int .i64 (k0 + cntL gItem xs) ∧ (gSl 212 gItem).ow [.slice b m c] (mkL gItem k0 xs) A) := by
  obtain ⟨rfl, hcl, hl⟩ := sl_len (Gt.owrd _ ho)
  refine CtR.intro G_ok [A] Tryz.func103 rfl rfl rfl (by simp) fun E H hp => ?_
  apply loop_mod (α := (Nat) × (Hp)) G_ok [6, 7, 8, 9, 12, 13, 14, 15, 16, 17, 18, 1, 19, 20, 21, 22, 23, 24, 25, 10, 11, 5] (fun z => [(5, .v (.int .i64 z.1)), (1, .v (.int .i64 (k0 + cntL gItem (xs.take z.1))))]) (fun z => []) (fun z => [z.2, H]) (fun z => xs.length - z.1) (fun z => z.1 ≤ xs.length ∧ (gSl 212 gItem).ow [.slice b xs.length c] (mkL gItem k0 (xs.take z.1) ++ xs.drop z.1) z.2) ((0, A))
  · repeat' (first | exact trivial | refine ⟨⟨_, rfl, by first | rfl | exact inc_eq _ (by omega) | (refine sl_eq ?_; simp; done) | (refine svi_eq ?_; subst_vars; (try dsimp only); (try simp (disch := omega) only [wrap_of]); omega) | (simp [cntL]), by first | exact trivial | simp [SV.ok]⟩, ?_⟩)
  · exact trivial
  · try dsimp only
    exact ⟨by omega, by simpa [mkL] using ho⟩
  · exact .refl _
  rintro ⟨k, B⟩ hI
  obtain ⟨hk, oB⟩ : k ≤ xs.length ∧ (gSl 212 gItem).ow [.slice b xs.length c] (mkL gItem k0 (xs.take k) ++ xs.drop k) B := hI
  try dsimp only
  refine VCsplit.intro (fun q0 => ?_) (fun q0 => ?_)
  ·
    simp at q0
    have hs := (cntL_step gItem xs k default (by omega))
    simp only [gItem_cnt] at hs
    have hs2 := cntL_take_le gItem xs (k + 1)
    obtain ⟨y, ey, oe⟩ := OwE.mk default k oB (by rw [mk_len _ _ _ _ (by omega)]; omega)
    rw [mk_get _ _ _ _ _ (by omega)] at ey
    clear oB
    refine oe_idx oe ?_ fun b1 o1 hb1 => ?_
    · rfl
    refine oe_load gItem_row oe rfl hb1 rfl (mem_at 0 rfl) fun l2 hl2 hf2 => ?_
    obtain ⟨u2, w2, rfl, hl2⟩ := sl_rd hl2
    refine call_foc 0 rfl hf2 (fun Af3 oa3 => markIntS_ct _ _ _ _ _ _ oa3 ?_ ?_) (fun _ _ => trivial) ?_
    · omega
    · simp_all; omega
    rintro _ A3 rfl ⟨y3, ey3, o3⟩
    try dsimp only at ey3
    refine oe_idx o3 ?_ fun b4 o4 hb4 => ?_
    · rfl
    refine oe_store gItem_times 0 rfl o3 rfl hb4 rfl gI_pl _ (gI_ow ?_) fun y5 A5 ey5 o5 => ?_
    · (subst_vars; unfold okI; (try dsimp only at *); omega)
    apply loop_stepA (k + 1, _)
    · exact .refl _
    · repeat' (first | exact trivial | refine ⟨⟨_, rfl, by first | rfl | exact inc_eq _ (by omega) | (refine sl_eq ?_; simp; done) | (refine svi_eq ?_; subst_vars; (try dsimp only); (try simp (disch := omega) only [wrap_of]); omega) | (simp [cntL]), by first | exact trivial | simp [SV.ok]⟩, ?_⟩)
    · exact trivial
    · try dsimp only
      exact ⟨by omega, OwE.done (by assumption) (by rw [← mk_step gItem default xs k0 k (by omega)]; congr 1; subst_vars; (try simp only [gItem_mark, gItem_cnt]); (try simp (disch := omega) only [wrap_of]); (try rfl))⟩
    · try dsimp only
      omega
  ·
    simp at q0
    obtain rfl : k = xs.length := by omega
    rw [List.take_length, List.drop_length, List.append_nil] at oB
    exact ⟨_, ⟨by rw [List.take_length], oB⟩, (.le fun a => by (try simp only [setR, List.cons_append, List.nil_append]); simp only [List.flatten_append, List.flatten_cons, List.flatten_nil, List.count_append, List.count_nil, List.append_nil, List.nil_append]; omega)⟩
--@ct laws.heldItemS val heldItemS_ct _ _ _ _ _ _ ?_ ?_ ?_ | %1
theorem heldItemS_ct (b : Option Addr) (m c : Nat) (xs : List Item) (k0 k1 : Int) (hk1 : k0 = k1) (h0 : 0 ≤ k0) (h1 : k0 + cntL gItem xs ≤ 4611686018427387904) :
    Ct Tryz.prog 104 [.slice b m c, .int .i64 k0] [] (fun H => (gSl 212 gItem).rd H [.slice b m c] (mkL gItem k1 xs)) (fun v A => v = .int .i64 (k0 + cntL gItem xs) ∧ A = []) := by
  subst hk1
  refine Ct.intro0 G_ok Tryz.func104 rfl rfl rfl fun E H hp => ?_
  have hm0 := (sl_len hp).1
  rw [mkL_len] at hm0; subst hm0
  obtain ⟨-, hcl, hl⟩ := sl_len hp
  rw [mkL_len] at hcl hl
  have hln := mkL_len gItem xs k0
  apply loop_mod (α := (Nat)) G_ok [6, 7, 8, 9, 12, 13, 14, 15, 16, 17, 18, 1, 19, 20, 4, 21, 22, 23, 24, 25, 26, 27, 28, 29, 10, 11, 5] (fun z => [(5, .v (.int .i64 z)), (1, .v (.int .i64 (k0 + cntL gItem (xs.take z))))]) (fun z => []) (fun z => [H]) (fun z => xs.length - z) (fun z => z ≤ xs.length) (0)
  · repeat' (first | exact trivial | refine ⟨⟨_, rfl, by first | rfl | exact inc_eq _ (by omega) | (refine sl_eq ?_; simp; done) | (refine svi_eq ?_; (try dsimp only); (try simp (disch := omega) only [wrap_of]); omega) | (simp [cntL]), by first | exact trivial | simp [SV.ok]⟩, ?_⟩)
  · exact trivial
  · omega
  · exact .refl _
  rintro k hI
  obtain hk : k ≤ xs.length := hI
  try dsimp only
  refine VCsplit.intro (fun q0 => ?_) (fun q0 => ?_)
  ·
    simp at q0
    have hs := (cntL_step gItem xs k default (by omega))
    simp only [gItem_cnt] at hs
    have hs2 := cntL_take_le gItem xs (k + 1)
    have hm := mkL_get gItem default xs k0 k (by omega)
    simp only [gItem_mark, gItem_cnt] at hm
    refine idx_rd hp ?_ ?_ fun b1 o1 hb1 => ?_
    · omega
    · omega
    refine load_partN default (k) 0 rfl hp ?_ ?_ hb1 rfl (by decide) (mem_at 0 rfl) fun l2 hl2 => ?_
    · omega
    · omega
    rw [hm] at hl2
    obtain ⟨b0x2, c0x2, rfl, h0x2, w1x2⟩ := gItem_rd.1 hl2
    refine call_val (heldIntS_ct _ _ _ _ _ _ ?_ ?_ ?_) (Rp.mono _ (mem_at 0 rfl) h0x2) ?_
    · rfl
    · omega
    · omega
    rintro _ rfl
    refine VCsplit.intro (fun q4 => ?_) (fun q4 => ?_)
    ·
      simp at q4
      exfalso; omega
    ·
      simp at q4
      refine idx_rd hp ?_ ?_ fun b5 o5 hb5 => ?_
      · omega
      · omega
      refine load_partN default (k) 1 rfl hp ?_ ?_ hb5 rfl (by decide) (mem_at 0 rfl) fun l6 hl6 => ?_
      · omega
      · omega
      rw [hm] at hl6
      obtain ⟨b0x6, c0x6, rfl, h0x6, w1x6⟩ := gItem_rd.1 hl6
      refine VCsplit.intro (fun q7 => ?_) (fun q7 => ?_)
      ·
        simp at q7
      ·
        simp at q7
        apply loop_stepA (k + 1)
        · exact .refl _
        · repeat' (first | exact trivial | refine ⟨⟨_, rfl, by first | rfl | exact inc_eq _ (by omega) | (refine sl_eq ?_; simp; done) | (refine svi_eq ?_; (try dsimp only); (try simp (disch := omega) only [wrap_of]); omega) | (simp [cntL]), by first | exact trivial | simp [SV.ok]⟩, ?_⟩)
        · exact trivial
        · trivial
        · omega
  ·
    simp at q0
    obtain rfl : k = xs.length := by omega
    exact ⟨[], ⟨by rw [List.take_length], rfl⟩, (.le fun a => by (try simp only [setR, List.cons_append, List.nil_append]); simp only [List.flatten_append, List.flatten_cons, List.flatten_nil, List.count_append, List.count_nil, List.append_nil, List.nil_append]; omega)⟩
--@ct laws.markBag mark1 markBag_ct _ _ _ _ ~ ?_ ?_
--@ct laws.heldBag val heldBag_ct _ _ _ _ ?_ ?_ ?_ | %1
--@ct laws.markAtomS mark1 markAtomS_ct _ _ _ _ _ _ ~ ?_ ?_
theorem markAtomS_ct (b : Option Addr) (m c : Nat) (xs : List Atom) (A : Hp) (k0 : Int) (ho : (gSl 143 gAtom).ow [.slice b m c] xs A) (h0 : 0 ≤ k0) (h1 : k0 + cntL gAtom xs ≤ 4611686018427387904) :
    CtR Tryz.prog 101 [.slice b m c, .int .i64 k0] A (fun _ => True) (fun v A => v = .int .i64 (k0 + cntL gAtom xs) ∧ (gSl 143 gAtom).ow [.slice b m c] (mkL gAtom k0 xs) A) := by
  obtain ⟨rfl, hcl, hl⟩ := sl_len (Gt.owrd _ ho)
  refine CtR.intro G_ok [A] Tryz.func101 rfl rfl rfl (by simp) fun E H hp => ?_
  apply loop_mod (α := (Nat) × (Hp)) G_ok [6, 7, 8, 9, 12, 13, 14, 15, 16, 17, 18, 19, 1, 20, 21, 22, 23, 24, 25, 26, 27, 28, 29, 30, 31, 32, 33, 34, 35, 10, 11, 5] (fun z => [(5, .v (.int .i64 z.1)), (1, .v (.int .i64 (k0 + cntL gAtom (xs.take z.1))))]) (fun z => []) (fun z => [z.2, H]) (fun z => xs.length - z.1) (fun z => z.1 ≤ xs.length ∧ (gSl 143 gAtom).ow [.slice b xs.length c] (mkL gAtom k0 (xs.take z.1) ++ xs.drop z.1) z.2) ((0, A))
  · repeat' (first | exact trivial | refine ⟨⟨_, rfl, by first | rfl | exact inc_eq _ (by omega) | (refine sl_eq ?_; simp; done) | (refine svi_eq ?_; subst_vars; (try dsimp only); (try simp (disch := omega) only [wrap_of]); omega) | (simp [cntL]), by first | exact trivial | simp [SV.ok]⟩, ?_⟩)
  · exact trivial
  · try dsimp only
    exact ⟨by omega, by simpa [mkL] using ho⟩
  · exact .refl _
  rintro ⟨k, B⟩ hI
  obtain ⟨hk, oB⟩ : k ≤ xs.length ∧ (gSl 143 gAtom).ow [.slice b xs.length c] (mkL gAtom k0 (xs.take k) ++ xs.drop k) B := hI
  try dsimp only
  refine VCsplit.intro (fun q0 => ?_) (fun q0 => ?_)
  ·
    simp at q0
    have hs := (cntL_step gAtom xs k default (by omega))
    simp only [gAtom_cnt] at hs
    have hs2 := cntL_take_le gAtom xs (k + 1)
    obtain ⟨y, ey, oe⟩ := OwE.mk default k oB (by rw [mk_len _ _ _ _ (by omega)]; omega)
    rw [mk_get _ _ _ _ _ (by omega)] at ey
    clear oB
    refine call_val (markText_ct _ ?_) trivial ?_
    · omega
    rintro _ rfl
    refine oe_idx oe ?_ fun b2 o2 hb2 => ?_
    · rfl
    refine oe_store gAtom_from 0 rfl oe rfl hb2 rfl fl_pl _ (gS_ow ?_) fun y3 A3 ey3 o3 => ?_
    · exact mtx_size _
    refine call_val (markText_ct _ ?_) trivial ?_
    · (simp (disch := omega) only [wrap_of]; omega)
    rintro _ rfl
    refine oe_idx o3 ?_ fun b5 o5 hb5 => ?_
    · rfl
    refine oe_store gAtom_path 0 rfl o3 rfl hb5 rfl fl_pl _ (gS_ow ?_) fun y6 A6 ey6 o6 => ?_
    · exact mtx_size _
    refine call_val (markText_ct _ ?_) trivial ?_
    · (simp (disch := omega) only [wrap_of]; omega)
    rintro _ rfl
    refine oe_idx o6 ?_ fun b8 o8 hb8 => ?_
    · rfl
    refine oe_store gAtom_to 0 rfl o6 rfl hb8 rfl fl_pl _ (gS_ow ?_) fun y9 A9 ey9 o9 => ?_
    · exact mtx_size _
    apply loop_stepA (k + 1, _)
    · exact .refl _
    · repeat' (first | exact trivial | refine ⟨⟨_, rfl, by first | rfl | exact inc_eq _ (by omega) | (refine sl_eq ?_; simp; done) | (refine svi_eq ?_; subst_vars; (try dsimp only); (try simp (disch := omega) only [wrap_of]); omega) | (simp [cntL]), by first | exact trivial | simp [SV.ok]⟩, ?_⟩)
    · exact trivial
    · try dsimp only
      exact ⟨by omega, OwE.done (by assumption) (by rw [← mk_step gAtom default xs k0 k (by omega)]; congr 1; subst_vars; (try simp only [gAtom_mark, gAtom_cnt]); (try simp (disch := omega) only [wrap_of]); (try rfl))⟩
    · try dsimp only
      omega
  ·
    simp at q0
    obtain rfl : k = xs.length := by omega
    rw [List.take_length, List.drop_length, List.append_nil] at oB
    exact ⟨_, ⟨by rw [List.take_length], oB⟩, (.le fun a => by (try simp only [setR, List.cons_append, List.nil_append]); simp only [List.flatten_append, List.flatten_cons, List.flatten_nil, List.count_append, List.count_nil, List.append_nil, List.nil_append]; omega)⟩
--@ct laws.heldAtomS val heldAtomS_ct _ _ _ _ _ _ ?_ ?_ ?_ | %1
theorem heldAtomS_ct (b : Option Addr) (m c : Nat) (xs : List Atom) (k0 k1 : Int) (hk1 : k0 = k1) (h0 : 0 ≤ k0) (h1 : k0 + cntL gAtom xs ≤ 4611686018427387904) :
    Ct Tryz.prog 182 [.slice b m c, .int .i64 k0] [] (fun H => (gSl 143 gAtom).rd H [.slice b m c] (mkL gAtom k1 xs)) (fun v A => v = .int .i64 (k0 + cntL gAtom xs) ∧ A = []) := by
  subst hk1
  refine Ct.intro0 G_ok Tryz.func182 rfl rfl rfl fun E H hp => ?_
  have hm0 := (sl_len hp).1
  rw [mkL_len] at hm0; subst hm0
  obtain ⟨-, hcl, hl⟩ := sl_len hp
  rw [mkL_len] at hcl hl
  have hln := mkL_len gAtom xs k0
  apply loop_mod (α := (Nat)) G_ok [6, 7, 8, 9, 12, 13, 14, 15, 16, 17, 18, 19, 4, 20, 21, 1, 22, 23, 24, 25, 26, 27, 28, 29, 30, 31, 32, 33, 34, 35, 36, 37, 38, 39, 40, 41, 10, 11, 5] (fun z => [(5, .v (.int .i64 z)), (1, .v (.int .i64 (k0 + cntL gAtom (xs.take z))))]) (fun z => []) (fun z => [H]) (fun z => xs.length - z) (fun z => z ≤ xs.length) (0)
  · repeat' (first | exact trivial | refine ⟨⟨_, rfl, by first | rfl | exact inc_eq _ (by omega) | (refine sl_eq ?_; simp; done) | (refine svi_eq ?_; (try dsimp only); (try simp (disch := omega) only [wrap_of]); omega) | (simp [cntL]), by first | exact trivial | simp [SV.ok]⟩, ?_⟩)
  · exact trivial
  · omega
  · exact .refl _
  rintro k hI
  obtain hk : k ≤ xs.length := hI
  try dsimp only
  refine VCsplit.intro (fun q0 => ?_) (fun q0 => ?_)
  ·
    simp at q0
    have hs := (cntL_step gAtom xs k default (by omega))
    simp only [gAtom_cnt] at hs
    have hs2 := cntL_take_le gAtom xs (k + 1)
    have hm := mkL_get gAtom default xs k0 k (by omega)
    simp only [gAtom_mark, gAtom_cnt] at hm
    refine draw G_ok mixed none (.q 0 (.q 1 (.q 2 (.q 3 (.q 4 (.q 5 (.f 6 (.q 7 (.nil))))))))) (by decide +kernel) ?_
    refine idx_rd hp ?_ ?_ fun b1 o1 hb1 => ?_
    · omega
    · omega
    refine load_partN default (k) 0 rfl hp ?_ ?_ hb1 rfl (by decide) (mem_at 0 rfl) fun l2 hl2 => ?_
    · omega
    · omega
    rw [hm] at hl2
    obtain ⟨rfl, w0x2, w1x2, w2x2⟩ := gAtom_rd.1 hl2
    refine call_val (markText_ct _ ?_) trivial ?_
    · omega
    rintro _ rfl
    refine VC.intro ?_ ?_
    · exact fun _ h => h
    refine VCsplit.intro (fun q4 => ?_) (fun q4 => ?_)
    ·
      simp at q4
    ·
      simp at q4
      refine draw G_ok mixed none (.q 0 (.q 1 (.q 2 (.q 3 (.q 4 (.q 5 (.f 6 (.q 7 (.nil))))))))) (by decide +kernel) ?_
      refine idx_rd hp ?_ ?_ fun b5 o5 hb5 => ?_
      · omega
      · omega
      refine load_partN default (k) 1 rfl hp ?_ ?_ hb5 rfl (by decide) (mem_at 0 rfl) fun l6 hl6 => ?_
      · omega
      · omega
      rw [hm] at hl6
      obtain ⟨rfl, w0x6, w1x6, w2x6⟩ := gAtom_rd.1 hl6
      refine call_val (markText_ct _ ?_) trivial ?_
      · (simp (disch := omega) only [wrap_of]; omega)
      rintro _ rfl
      refine VC.intro ?_ ?_
      · exact fun _ h => h
      refine VCsplit.intro (fun q8 => ?_) (fun q8 => ?_)
      ·
        simp at q8
        simp only [str_inj, u8_inj, u8_wrap] at q8
        simp (disch := omega) only [wrap_of] at q8
        exact absurd trivial q8
      ·
        simp at q8
        simp only [str_inj, u8_inj, u8_wrap] at q8
        simp (disch := omega) only [wrap_of] at q8
        refine draw G_ok mixed none (.q 0 (.q 1 (.q 2 (.q 3 (.q 4 (.q 5 (.f 6 (.q 7 (.nil))))))))) (by decide +kernel) ?_
        refine idx_rd hp ?_ ?_ fun b9 o9 hb9 => ?_
        · omega
        · omega
        refine load_partN default (k) 2 rfl hp ?_ ?_ hb9 rfl (by decide) (mem_at 0 rfl) fun l10 hl10 => ?_
        · omega
        · omega
        rw [hm] at hl10
        obtain ⟨rfl, w0x10, w1x10, w2x10⟩ := gAtom_rd.1 hl10
        refine call_val (markText_ct _ ?_) trivial ?_
        · (simp (disch := omega) only [wrap_of]; omega)
        rintro _ rfl
        refine VC.intro ?_ ?_
        · exact fun _ h => h
        refine VCsplit.intro (fun q12 => ?_) (fun q12 => ?_)
        ·
          simp at q12
          simp only [str_inj, u8_inj, u8_wrap] at q12
          simp (disch := omega) only [wrap_of] at q12
          exact absurd trivial q12
        ·
          simp at q12
          simp only [str_inj, u8_inj, u8_wrap] at q12
          simp (disch := omega) only [wrap_of] at q12
          apply loop_stepA (k + 1)
          · exact .refl _
          · repeat' (first | exact trivial | refine ⟨⟨_, rfl, by first | rfl | exact inc_eq _ (by omega) | (refine sl_eq ?_; simp; done) | (refine svi_eq ?_; (try dsimp only); (try simp (disch := omega) only [wrap_of]); omega) | (simp [cntL]), by first | exact trivial | simp [SV.ok]⟩, ?_⟩)
          · exact trivial
          · trivial
          · omega
  ·
    simp at q0
    obtain rfl : k = xs.length := by omega
    exact ⟨[], ⟨by rw [List.take_length], rfl⟩, (.le fun a => by (try simp only [setR, List.cons_append, List.nil_append]); simp only [List.flatten_append, List.flatten_cons, List.flatten_nil, List.count_append, List.count_nil, List.append_nil, List.nil_append]; omega)⟩
--@ct laws.markFilterS mark1 markFilterS_ct _ _ _ _ _ _ ~ ?_ ?_
theorem markFilterS_ct (b : Option Addr) (m c : Nat) (xs : List Filter) (A : Hp) (k0 : Int) (ho : (gSl 214 gFilter).ow [.slice b m c] xs A) (h0 : 0 ≤ k0) (h1 : k0 + cntL gFilter xs ≤ 4611686018427387904) :
    CtR Tryz.prog 102 [.slice b m c, .int .i64 k0] A (fun _ => True) (fun v A => v = .int .i64 (k0 + cntL gFilter xs) ∧ (gSl 214 gFilter).ow [.slice b m c] (mkL gFilter k0 xs) A) := by
  obtain ⟨rfl, hcl, hl⟩ := sl_len (Gt.owrd _ ho)
  refine CtR.intro G_ok [A] Tryz.func102 rfl rfl rfl (by simp) fun E H hp => ?_
  apply loop_mod (α := (Nat) × (Hp)) G_ok [6, 7, 8, 9, 12, 13, 14, 15, 16, 17, 18, 19, 1, 20, 21, 22, 23, 24, 25, 26, 27, 28, 29, 30, 31, 32, 33, 34, 35, 36, 37, 38, 39, 40, 41, 10, 11, 5] (fun z => [(5, .v (.int .i64 z.1)), (1, .v (.int .i64 (k0 + cntL gFilter (xs.take z.1))))]) (fun z => []) (fun z => [z.2, H]) (fun z => xs.length - z.1) (fun z => z.1 ≤ xs.length ∧ (gSl 214 gFilter).ow [.slice b xs.length c] (mkL gFilter k0 (xs.take z.1) ++ xs.drop z.1) z.2) ((0, A))
  · repeat' (first | exact trivial | refine ⟨⟨_, rfl, by first | rfl | exact inc_eq _ (by omega) | (refine sl_eq ?_; simp; done) | (refine svi_eq ?_; subst_vars; (try dsimp only); (try simp (disch := omega) only [wrap_of]); omega) | (simp [cntL]), by first | exact trivial | simp [SV.ok]⟩, ?_⟩)
  · exact trivial
  · try dsimp only
    exact ⟨by omega, by simpa [mkL] using ho⟩
  · exact .refl _
  rintro ⟨k, B⟩ hI
  obtain ⟨hk, oB⟩ : k ≤ xs.length ∧ (gSl 214 gFilter).ow [.slice b xs.length c] (mkL gFilter k0 (xs.take k) ++ xs.drop k) B := hI
  try dsimp only
  refine VCsplit.intro (fun q0 => ?_) (fun q0 => ?_)
  ·
    simp at q0
    have hs := (cntL_step gFilter xs k default (by omega))
    simp only [gFilter_cnt] at hs
    have hs2 := cntL_take_le gFilter xs (k + 1)
    obtain ⟨y, ey, oe⟩ := OwE.mk default k oB (by rw [mk_len _ _ _ _ (by omega)]; omega)
    rw [mk_get _ _ _ _ _ (by omega)] at ey
    clear oB
    refine call_val (markText_ct _ ?_) trivial ?_
    · omega
    rintro _ rfl
    refine oe_idx oe ?_ fun b2 o2 hb2 => ?_
    · rfl
    refine oe_store gFilter_left 0 rfl oe rfl hb2 rfl fl_pl _ (gS_ow ?_) fun y3 A3 ey3 o3 => ?_
    · exact mtx_size _
    refine oe_idx o3 ?_ fun b4 o4 hb4 => ?_
    · rfl
    refine oe_store gFilter_op 0 rfl o3 rfl hb4 rfl gI_pl _ (gI_ow ?_) fun y5 A5 ey5 o5 => ?_
    · exact okI_wrap _
    refine call_val (markText_ct _ ?_) trivial ?_
    · (simp (disch := omega) only [wrap_of]; omega)
    rintro _ rfl
    refine oe_idx o5 ?_ fun b7 o7 hb7 => ?_
    · rfl
    refine oe_store gFilter_right 0 rfl o5 rfl hb7 rfl fl_pl _ (gS_ow ?_) fun y8 A8 ey8 o8 => ?_
    · exact mtx_size _
    refine oe_idx o8 ?_ fun b9 o9 hb9 => ?_
    · rfl
    refine oe_store gFilter_num 0 rfl o8 rfl hb9 rfl gI_pl _ (gI_ow ?_) fun y10 A10 ey10 o10 => ?_
    · exact okI_wrap _
    apply loop_stepA (k + 1, _)
    · exact .refl _
    · repeat' (first | exact trivial | refine ⟨⟨_, rfl, by first | rfl | exact inc_eq _ (by omega) | (refine sl_eq ?_; simp; done) | (refine svi_eq ?_; subst_vars; (try dsimp only); (try simp (disch := omega) only [wrap_of]); omega) | (simp [cntL]), by first | exact trivial | simp [SV.ok]⟩, ?_⟩)
    · exact trivial
    · try dsimp only
      exact ⟨by omega, OwE.done (by assumption) (by rw [← mk_step gFilter default xs k0 k (by omega)]; congr 1; subst_vars; (try simp only [gFilter_mark, gFilter_cnt]); (try simp (disch := omega) only [wrap_of]); (try rfl))⟩
    · try dsimp only
      omega
  ·
    simp at q0
    obtain rfl : k = xs.length := by omega
    rw [List.take_length, List.drop_length, List.append_nil] at oB
    exact ⟨_, ⟨by rw [List.take_length], oB⟩, (.le fun a => by (try simp only [setR, List.cons_append, List.nil_append]); simp only [List.flatten_append, List.flatten_cons, List.flatten_nil, List.count_append, List.count_nil, List.append_nil, List.nil_append]; omega)⟩
--@ct laws.heldFilterS val heldFilterS_ct _ _ _ _ _ _ ?_ ?_ ?_ | %1
theorem heldFilterS_ct (b : Option Addr) (m c : Nat) (xs : List Filter) (k0 k1 : Int) (hk1 : k0 = k1) (h0 : 0 ≤ k0) (h1 : k0 + cntL gFilter xs ≤ 4611686018427387904) :
    Ct Tryz.prog 183 [.slice b m c, .int .i64 k0] [] (fun H => (gSl 214 gFilter).rd H [.slice b m c] (mkL gFilter k1 xs)) (fun v A => v = .int .i64 (k0 + cntL gFilter xs) ∧ A = []) := by
  subst hk1
  refine Ct.intro0 G_ok Tryz.func183 rfl rfl rfl fun E H hp => ?_
  have hm0 := (sl_len hp).1
  rw [mkL_len] at hm0; subst hm0
  obtain ⟨-, hcl, hl⟩ := sl_len hp
  rw [mkL_len] at hcl hl
  have hln := mkL_len gFilter xs k0
  apply loop_mod (α := (Nat)) G_ok [6, 7, 8, 9, 12, 13, 14, 15, 16, 17, 18, 19, 4, 20, 21, 1, 22, 23, 24, 25, 26, 27, 28, 29, 30, 31, 32, 33, 34, 35, 36, 37, 38, 39, 40, 41, 42, 43, 44, 45, 46, 47, 48, 49, 10, 11, 5] (fun z => [(5, .v (.int .i64 z)), (1, .v (.int .i64 (k0 + cntL gFilter (xs.take z))))]) (fun z => []) (fun z => [H]) (fun z => xs.length - z) (fun z => z ≤ xs.length) (0)
  · repeat' (first | exact trivial | refine ⟨⟨_, rfl, by first | rfl | exact inc_eq _ (by omega) | (refine sl_eq ?_; simp; done) | (refine svi_eq ?_; (try dsimp only); (try simp (disch := omega) only [wrap_of]); omega) | (simp [cntL]), by first | exact trivial | simp [SV.ok]⟩, ?_⟩)
  · exact trivial
  · omega
  · exact .refl _
  rintro k hI
  obtain hk : k ≤ xs.length := hI
  try dsimp only
  refine VCsplit.intro (fun q0 => ?_) (fun q0 => ?_)
  ·
    simp at q0
    have hs := (cntL_step gFilter xs k default (by omega))
    simp only [gFilter_cnt] at hs
    have hs2 := cntL_take_le gFilter xs (k + 1)
    have hm := mkL_get gFilter default xs k0 k (by omega)
    simp only [gFilter_mark, gFilter_cnt] at hm
    refine draw G_ok mixed none (.q 0 (.q 1 (.q 2 (.q 3 (.q 4 (.q 5 (.f 6 (.q 7 (.nil))))))))) (by decide +kernel) ?_
    refine idx_rd hp ?_ ?_ fun b1 o1 hb1 => ?_
    · omega
    · omega
    refine load_partN default (k) 0 rfl hp ?_ ?_ hb1 rfl (by decide) (mem_at 0 rfl) fun l2 hl2 => ?_
    · omega
    · omega
    rw [hm] at hl2
    obtain ⟨rfl, w0x2, w1x2, w2x2, w3x2⟩ := gFilter_rd.1 hl2
    refine call_val (markText_ct _ ?_) trivial ?_
    · omega
    rintro _ rfl
    refine VC.intro ?_ ?_
    · exact fun _ h => h
    refine VCsplit.intro (fun q4 => ?_) (fun q4 => ?_)
    ·
      simp at q4
    ·
      simp at q4
      refine idx_rd hp ?_ ?_ fun b5 o5 hb5 => ?_
      · omega
      · omega
      refine load_partN default (k) 1 rfl hp ?_ ?_ hb5 rfl (by decide) (mem_at 0 rfl) fun l6 hl6 => ?_
      · omega
      · omega
      rw [hm] at hl6
      obtain ⟨rfl, w0x6, w1x6, w2x6, w3x6⟩ := gFilter_rd.1 hl6
      refine VCsplit.intro (fun q7 => ?_) (fun q7 => ?_)
      ·
        simp at q7
        simp (disch := omega) only [wrap_of] at q7
        exact absurd trivial q7
      ·
        simp at q7
        simp (disch := omega) only [wrap_of] at q7
        refine draw G_ok mixed none (.q 0 (.q 1 (.q 2 (.q 3 (.q 4 (.q 5 (.f 6 (.q 7 (.nil))))))))) (by decide +kernel) ?_
        refine idx_rd hp ?_ ?_ fun b8 o8 hb8 => ?_
        · omega
        · omega
        refine load_partN default (k) 2 rfl hp ?_ ?_ hb8 rfl (by decide) (mem_at 0 rfl) fun l9 hl9 => ?_
        · omega
        · omega
        rw [hm] at hl9
        obtain ⟨rfl, w0x9, w1x9, w2x9, w3x9⟩ := gFilter_rd.1 hl9
        refine call_val (markText_ct _ ?_) trivial ?_
        · (simp (disch := omega) only [wrap_of]; omega)
        rintro _ rfl
        refine VC.intro ?_ ?_
        · exact fun _ h => h
        refine VCsplit.intro (fun q11 => ?_) (fun q11 => ?_)
        ·
          simp at q11
          simp only [str_inj, u8_inj, u8_wrap] at q11
          simp (disch := omega) only [wrap_of] at q11
          exact absurd trivial q11
        ·
          simp at q11
          simp only [str_inj, u8_inj, u8_wrap] at q11
          simp (disch := omega) only [wrap_of] at q11
          refine idx_rd hp ?_ ?_ fun b12 o12 hb12 => ?_
          · omega
          · omega
          refine load_partN default (k) 3 rfl hp ?_ ?_ hb12 rfl (by decide) (mem_at 0 rfl) fun l13 hl13 => ?_
          · omega
          · omega
          rw [hm] at hl13
          obtain ⟨rfl, w0x13, w1x13, w2x13, w3x13⟩ := gFilter_rd.1 hl13
          refine VCsplit.intro (fun q14 => ?_) (fun q14 => ?_)
          ·
            simp at q14
            simp (disch := omega) only [wrap_of] at q14
            exact absurd trivial q14
          ·
            simp at q14
            simp (disch := omega) only [wrap_of] at q14
            apply loop_stepA (k + 1)
            · exact .refl _
            · repeat' (first | exact trivial | refine ⟨⟨_, rfl, by first | rfl | exact inc_eq _ (by omega) | (refine sl_eq ?_; simp; done) | (refine svi_eq ?_; (try dsimp only); (try simp (disch := omega) only [wrap_of]); omega) | (simp [cntL]), by first | exact trivial | simp [SV.ok]⟩, ?_⟩)
            · exact trivial
            · trivial
            · omega
  ·
    simp at q0
    obtain rfl : k = xs.length := by omega
    exact ⟨[], ⟨by rw [List.take_length], rfl⟩, (.le fun a => by (try simp only [setR, List.cons_append, List.nil_append]); simp only [List.flatten_append, List.flatten_cons, List.flatten_nil, List.count_append, List.count_nil, List.append_nil, List.nil_append]; omega)⟩
--@ct laws.markQuery mark1 markQuery_ct _ _ _ _ ~ ?_ ?_
theorem markQuery_ct (l : List Value) (x : Query) (A : Hp) (k0 : Int) (ho : gQuery.ow l x A) (h0 : 0 ≤ k0) (h1 : k0 + gQuery.cntV x ≤ 4611686018427387904) :
    CtR Tryz.prog 29 [.agg ⟨l⟩, .int .i64 k0] A (fun _ => True) (fun v A => v = .int .i64 (k0 + gQuery.cntV x) ∧ gQuery.ow l (gQuery.markV k0 x) A) := by
  obtain ⟨b1, c1, A1, b2, c2, A2, b3, c3, A3, rfl, hpm, h1, h2, h3⟩ := gQuery_ow.1 ho
  have hz := gQuery_cntV x
  refine CtR.introP G_ok [A1, A2, A3] Tryz.func29 rfl rfl rfl (hpm.trans (by simp)) fun E H hp => ?_
  refine VCnew.intro fun x0 => ?_
  refine callR_at 0 rfl (markStringS_ct _ _ _ _ _ _ h1 ?_ ?_) trivial ?_
  · trivial
  · omega
  rintro _ A1 ⟨rfl, o1⟩
  refine callR_at 1 rfl (markAtomS_ct _ _ _ _ _ _ h2 ?_ ?_) trivial ?_
  · omega
  · omega
  rintro _ A2 ⟨rfl, o2⟩
  refine callR_at 2 rfl (markFilterS_ct _ _ _ _ _ _ h3 ?_ ?_) trivial ?_
  · omega
  · omega
  rintro _ A3 ⟨rfl, o3⟩
  exact ⟨_, ⟨by rw [hz]; (try simp); (try omega), by rw [gQuery_markV]; exact gQuery_ow.2 ⟨_, _, _, _, _, _, _, _, _, by simp only [mkL_len]; rfl, .refl _, by rw [mkL_len]; assumption, by rw [mkL_len]; assumption, by rw [mkL_len]; assumption⟩⟩, (.le fun a => by (try simp only [setR, List.cons_append, List.nil_append]); simp only [List.flatten_append, List.flatten_cons, List.flatten_nil, List.count_append, List.count_nil, List.append_nil, List.nil_append]; omega)⟩
--@ct laws.heldQuery val heldQuery_ct _ _ _ _ ?_ ?_ ?_ | %1
theorem heldQuery_ct (l : List Value) (x : Query) (k0 k1 : Int) (hk1 : k0 = k1) (h0 : 0 ≤ k0) (h1 : k0 + gQuery.cntV x ≤ 4611686018427387904) :
    Ct Tryz.prog 112 [.agg ⟨l⟩, .int .i64 k0] [] (fun H => gQuery.rd H l (gQuery.markV k1 x)) (fun v A => v = .int .i64 (k0 + gQuery.cntV x) ∧ A = []) := by
  subst hk1
  refine Ct.intro0 G_ok Tryz.func112 rfl rfl rfl fun E H hp => ?_
  rw [gQuery_markV] at hp
  obtain ⟨b1, c1, b2, c2, b3, c3, rfl, h1, h2, h3⟩ := gQuery_rd.1 hp
  have hz := gQuery_cntV x
  refine VCnew.intro fun x0 => ?_
  refine call_val (heldStringS_ct _ _ _ _ _ _ ?_ ?_ ?_) (Rp.mono _ (mem_at 0 rfl) h1) ?_
  · rfl
  · trivial
  · omega
  rintro _ rfl
  refine VCsplit.intro (fun q2 => ?_) (fun q2 => ?_)
  ·
    simp at q2
    exfalso; omega
  ·
    simp at q2
    refine call_val (heldAtomS_ct _ _ _ _ _ _ ?_ ?_ ?_) (Rp.mono _ (mem_at 0 rfl) h2) ?_
    · rfl
    · trivial
    · omega
    rintro _ rfl
    refine VCsplit.intro (fun q4 => ?_) (fun q4 => ?_)
    ·
      simp at q4
      exfalso; omega
    ·
      simp at q4
      refine call_val (heldFilterS_ct _ _ _ _ _ _ ?_ ?_ ?_) (Rp.mono _ (mem_at 0 rfl) h3) ?_
      · rfl
      · trivial
      · omega
      rintro _ rfl
      refine VCsplit.intro (fun q6 => ?_) (fun q6 => ?_)
      ·
        simp at q6
        exfalso; omega
      ·
        simp at q6
        try dsimp only
        exact ⟨[], ⟨by rw [hz]; (try simp); (try omega), rfl⟩, (.le fun a => by (try simp only [setR, List.cons_append, List.nil_append]); simp only [List.flatten_append, List.flatten_cons, List.flatten_nil, List.count_append, List.count_nil, List.append_nil, List.nil_append]; omega)⟩
--@ct laws.markFileS mark1 markFileS_ct _ _ _ _ _ _ ~ ?_ ?_
--@ct laws.heldFileS val heldFileS_ct _ _ _ _ _ _ ?_ ?_ ?_ | %1
--@ct laws.markDisk mark1 markDisk_ct _ _ _ _ ~ ?_ ?_
--@ct laws.heldDisk val heldDisk_ct _ _ _ _ ?_ ?_ ?_ | %1
--@ct laws.markWalkS mark1 markWalkS_ct _ _ _ _ _ _ ~ ?_ ?_
--@ct laws.heldWalkS val heldWalkS_ct _ _ _ _ _ _ ?_ ?_ ?_ | %1
--@ct laws.markGotS mark1 markGotS_ct _ _ _ _ _ _ ~ ?_ ?_
theorem markGotS_ct (b : Option Addr) (m c : Nat) (xs : List Got) (A : Hp) (k0 : Int) (ho : (gSl 232 gGot).ow [.slice b m c] xs A) (h0 : 0 ≤ k0) (h1 : k0 + cntL gGot xs ≤ 4611686018427387904) :
    CtR Tryz.prog 111 [.slice b m c, .int .i64 k0] A (fun _ => True) (fun v A => v = .int .i64 (k0 + cntL gGot xs) ∧ (gSl 232 gGot).ow [.slice b m c] (mkL gGot k0 xs) A) := by
  obtain ⟨rfl, hcl, hl⟩ := sl_len (Gt.owrd _ ho)
  refine CtR.intro G_ok [A] Tryz.func111 rfl rfl rfl (by simp) fun E H hp => ?_
  apply loop_mod (α := (Nat) × (Hp)) G_ok [6, 7, 8, 9, 12, 13, 14, 15, 16, 17, 18, 1, 19, 20, 21, 22, 23, 24, 25, 26, 27, 28, 29, 30, 31, 32, 33, 10, 11, 5] (fun z => [(5, .v (.int .i64 z.1)), (1, .v (.int .i64 (k0 + cntL gGot (xs.take z.1))))]) (fun z => []) (fun z => [z.2, H]) (fun z => xs.length - z.1) (fun z => z.1 ≤ xs.length ∧ (gSl 232 gGot).ow [.slice b xs.length c] (mkL gGot k0 (xs.take z.1) ++ xs.drop z.1) z.2) ((0, A))
  · repeat' (first | exact trivial | refine ⟨⟨_, rfl, by first | rfl | exact inc_eq _ (by omega) | (refine sl_eq ?_; simp; done) | (refine svi_eq ?_; subst_vars; (try dsimp only); (try simp (disch := omega) only [wrap_of]); omega) | (simp [cntL]), by first | exact trivial | simp [SV.ok]⟩, ?_⟩)
  · exact trivial
  · try dsimp only
    exact ⟨by omega, by simpa [mkL] using ho⟩
  · exact .refl _
  rintro ⟨k, B⟩ hI
  obtain ⟨hk, oB⟩ : k ≤ xs.length ∧ (gSl 232 gGot).ow [.slice b xs.length c] (mkL gGot k0 (xs.take k) ++ xs.drop k) B := hI
  try dsimp only
  refine VCsplit.intro (fun q0 => ?_) (fun q0 => ?_)
  ·
    simp at q0
    have hs := (cntL_step gGot xs k default (by omega))
    simp only [gBag_cnt, gGot_cnt] at hs
    have hs2 := cntL_take_le gGot xs (k + 1)
    obtain ⟨y, ey, oe⟩ := OwE.mk default k oB (by rw [mk_len _ _ _ _ (by omega)]; omega)
    rw [mk_get _ _ _ _ _ (by omega)] at ey
    clear oB
    refine oe_idx oe ?_ fun b1 o1 hb1 => ?_
    · rfl
    refine oe_store gGot_from 0 rfl oe rfl hb1 rfl gI_pl _ (gI_ow ?_) fun y2 A2 ey2 o2 => ?_
    · unfold okI; omega
    refine oe_idx o2 ?_ fun b3 o3 hb3 => ?_
    · rfl
    refine oe_store gGot_atom 0 rfl o2 rfl hb3 rfl gI_pl _ (gI_ow ?_) fun y4 A4 ey4 o4 => ?_
    · exact okI_wrap _
    refine oe_idx o4 ?_ fun b5 o5 hb5 => ?_
    · rfl
    refine oe_load gGot_bag o4 rfl hb5 rfl (mem_at 0 rfl) fun l6 hl6 hf6 => ?_
    obtain ⟨b0x6, c0x6, rfl, h0x6⟩ := gBag_rd.1 hl6
    refine call_foc 0 rfl hf6 (fun Af7 oa7 => markItemS_ct _ _ _ _ _ _ oa7 ?_ ?_) (fun _ _ => trivial) ?_
    · (simp (disch := omega) only [wrap_of]; omega)
    · (subst_vars; (try dsimp only at *); (try simp (disch := omega) only [wrap_of] at *); omega)
    rintro _ A7 rfl ⟨y7, ey7, o7⟩
    try dsimp only at ey7
    apply loop_stepA (k + 1, _)
    · exact .refl _
    · repeat' (first | exact trivial | refine ⟨⟨_, rfl, by first | rfl | exact inc_eq _ (by omega) | (refine sl_eq ?_; simp; done) | (refine svi_eq ?_; subst_vars; (try dsimp only); (try simp (disch := omega) only [wrap_of]); omega) | (simp [cntL]), by first | exact trivial | simp [SV.ok]⟩, ?_⟩)
    · exact trivial
    · try dsimp only
      exact ⟨by omega, OwE.done (by assumption) (by rw [← mk_step gGot default xs k0 k (by omega)]; congr 1; subst_vars; (try simp only [gBag_mark, gBag_cnt, gGot_mark, gGot_cnt]); (try simp (disch := omega) only [wrap_of]); (try rfl))⟩
    · try dsimp only
      omega
  ·
    simp at q0
    obtain rfl : k = xs.length := by omega
    rw [List.take_length, List.drop_length, List.append_nil] at oB
    exact ⟨_, ⟨by rw [List.take_length], oB⟩, (.le fun a => by (try simp only [setR, List.cons_append, List.nil_append]); simp only [List.flatten_append, List.flatten_cons, List.flatten_nil, List.count_append, List.count_nil, List.append_nil, List.nil_append]; omega)⟩
--@ct laws.heldGotS val heldGotS_ct _ _ _ _ _ _ ?_ ?_ ?_ | %1
theorem heldGotS_ct (b : Option Addr) (m c : Nat) (xs : List Got) (k0 k1 : Int) (hk1 : k0 = k1) (h0 : 0 ≤ k0) (h1 : k0 + cntL gGot xs ≤ 4611686018427387904) :
    Ct Tryz.prog 114 [.slice b m c, .int .i64 k0] [] (fun H => (gSl 232 gGot).rd H [.slice b m c] (mkL gGot k1 xs)) (fun v A => v = .int .i64 (k0 + cntL gGot xs) ∧ A = []) := by
  subst hk1
  refine Ct.intro0 G_ok Tryz.func114 rfl rfl rfl fun E H hp => ?_
  have hm0 := (sl_len hp).1
  rw [mkL_len] at hm0; subst hm0
  obtain ⟨-, hcl, hl⟩ := sl_len hp
  rw [mkL_len] at hcl hl
  have hln := mkL_len gGot xs k0
  apply loop_mod (α := (Nat)) G_ok [6, 7, 8, 9, 12, 13, 14, 15, 16, 17, 18, 4, 19, 20, 1, 21, 22, 23, 24, 25, 26, 27, 28, 29, 30, 31, 32, 33, 34, 35, 36, 37, 38, 39, 10, 11, 5] (fun z => [(5, .v (.int .i64 z)), (1, .v (.int .i64 (k0 + cntL gGot (xs.take z))))]) (fun z => []) (fun z => [H]) (fun z => xs.length - z) (fun z => z ≤ xs.length) (0)
  · repeat' (first | exact trivial | refine ⟨⟨_, rfl, by first | rfl | exact inc_eq _ (by omega) | (refine sl_eq ?_; simp; done) | (refine svi_eq ?_; (try dsimp only); (try simp (disch := omega) only [wrap_of]); omega) | (simp [cntL]), by first | exact trivial | simp [SV.ok]⟩, ?_⟩)
  · exact trivial
  · omega
  · exact .refl _
  rintro k hI
  obtain hk : k ≤ xs.length := hI
  try dsimp only
  refine VCsplit.intro (fun q0 => ?_) (fun q0 => ?_)
  ·
    simp at q0
    have hs := (cntL_step gGot xs k default (by omega))
    simp only [gBag_cnt, gGot_cnt] at hs
    have hs2 := cntL_take_le gGot xs (k + 1)
    have hm := mkL_get gGot default xs k0 k (by omega)
    simp only [gBag_mark, gBag_cnt, gGot_mark, gGot_cnt] at hm
    refine idx_rd hp ?_ ?_ fun b1 o1 hb1 => ?_
    · omega
    · omega
    refine load_partN default (k) 0 rfl hp ?_ ?_ hb1 rfl (by decide) (mem_at 0 rfl) fun l2 hl2 => ?_
    · omega
    · omega
    rw [hm] at hl2
    obtain ⟨l2x2, rfl, w0x2, w1x2, h2x2⟩ := gGot_rd.1 hl2 ; obtain ⟨b0_2x2, c0_2x2, rfl, h0_2x2⟩ := gBag_rd.1 h2x2
    refine VCsplit.intro (fun q3 => ?_) (fun q3 => ?_)
    ·
      simp at q3
    ·
      simp at q3
      refine idx_rd hp ?_ ?_ fun b4 o4 hb4 => ?_
      · omega
      · omega
      refine load_partN default (k) 1 rfl hp ?_ ?_ hb4 rfl (by decide) (mem_at 0 rfl) fun l5 hl5 => ?_
      · omega
      · omega
      rw [hm] at hl5
      obtain ⟨l2x5, rfl, w0x5, w1x5, h2x5⟩ := gGot_rd.1 hl5 ; obtain ⟨b0_2x5, c0_2x5, rfl, h0_2x5⟩ := gBag_rd.1 h2x5
      refine VCsplit.intro (fun q6 => ?_) (fun q6 => ?_)
      ·
        simp at q6
        simp (disch := omega) only [wrap_of] at q6
        exact absurd trivial q6
      ·
        simp at q6
        simp (disch := omega) only [wrap_of] at q6
        refine idx_rd hp ?_ ?_ fun b7 o7 hb7 => ?_
        · omega
        · omega
        refine load_partN default (k) 2 rfl hp ?_ ?_ hb7 rfl (by decide) (mem_at 0 rfl) fun l8 hl8 => ?_
        · omega
        · omega
        rw [hm] at hl8
        obtain ⟨l2x8, rfl, w0x8, w1x8, h2x8⟩ := gGot_rd.1 hl8 ; obtain ⟨b0_2x8, c0_2x8, rfl, h0_2x8⟩ := gBag_rd.1 h2x8
        refine call_val (heldItemS_ct _ _ _ _ _ _ ?_ ?_ ?_) (Rp.mono _ (mem_at 0 rfl) h0_2x8) ?_
        · (simp (disch := omega) only [wrap_of])
        · (simp (disch := omega) only [wrap_of]; omega)
        · (simp (disch := omega) only [wrap_of]; omega)
        rintro _ rfl
        refine VCsplit.intro (fun q10 => ?_) (fun q10 => ?_)
        ·
          simp at q10
          simp (disch := omega) only [wrap_of] at q10
          exfalso; omega
        ·
          simp at q10
          simp (disch := omega) only [wrap_of] at q10
          apply loop_stepA (k + 1)
          · exact .refl _
          · repeat' (first | exact trivial | refine ⟨⟨_, rfl, by first | rfl | exact inc_eq _ (by omega) | (refine sl_eq ?_; simp; done) | (refine svi_eq ?_; (try dsimp only); (try simp (disch := omega) only [wrap_of]); omega) | (simp [cntL]), by first | exact trivial | simp [SV.ok]⟩, ?_⟩)
          · exact trivial
          · trivial
          · omega
  ·
    simp at q0
    obtain rfl : k = xs.length := by omega
    exact ⟨[], ⟨by rw [List.take_length], rfl⟩, (.le fun a => by (try simp only [setR, List.cons_append, List.nil_append]); simp only [List.flatten_append, List.flatten_cons, List.flatten_nil, List.count_append, List.count_nil, List.append_nil, List.nil_append]; omega)⟩
--@ct laws.markCell mark1 markCell_ct _ _ _ _ ~ ?_ ?_
theorem markCell_ct (l : List Value) (x : Cell) (A : Hp) (k0 : Int) (ho : gCell.ow l x A) (h0 : 0 ≤ k0) (h1 : k0 + gCell.cntV x ≤ 4611686018427387904) :
    CtR Tryz.prog 37 [.agg ⟨l⟩, .int .i64 k0] A (fun _ => True) (fun v A => v = .int .i64 (k0 + gCell.cntV x) ∧ gCell.ow l (gCell.markV k0 x) A) := by
  obtain ⟨l0, A0, b1, c1, A1, b4, c4, A4, rfl, hpm, h0, h1, w2, w3, h4⟩ := gCell_ow.1 ho
  have r0 := Gt.owrd _ h0
  obtain ⟨b1_0, c1_0, b2_0, c2_0, b3_0, c3_0, rfl, h1_0, h2_0, h3_0⟩ := gQuery_rd.1 r0
  have hz := gCell_cntV x
  refine CtR.introP G_ok [A0, A1, A4] Tryz.func37 rfl rfl rfl (hpm.trans (by simp)) fun E H hp => ?_
  refine VCnew.intro fun x0 => ?_
  refine callR_at 0 rfl (markQuery_ct _ _ _ _ h0 ?_ ?_) trivial ?_
  · trivial
  · omega
  rintro _ A1 ⟨rfl, o1⟩
  refine callR_at 1 rfl (markIntS_ct _ _ _ _ _ _ h1 ?_ ?_) trivial ?_
  · omega
  · omega
  rintro _ A2 ⟨rfl, o2⟩
  refine callR_at 2 rfl (markGotS_ct _ _ _ _ _ _ h4 ?_ ?_) trivial ?_
  · omega
  · omega
  rintro _ A3 ⟨rfl, o3⟩
  exact ⟨_, ⟨by rw [hz]; (try simp); (try omega), by rw [gCell_markV]; exact gCell_ow.2 ⟨_, _, _, _, _, _, _, _, by simp only [mkL_len]; rfl, .refl _, by assumption, by rw [mkL_len]; assumption, by assumption, by assumption, by rw [mkL_len]; assumption⟩⟩, (.le fun a => by (try simp only [setR, List.cons_append, List.nil_append]); simp only [List.flatten_append, List.flatten_cons, List.flatten_nil, List.count_append, List.count_nil, List.append_nil, List.nil_append]; omega)⟩
--@ct laws.heldCell val heldCell_ct _ _ _ _ ?_ ?_ ?_ | %1
theorem heldCell_ct (l : List Value) (x : Cell) (k0 k1 : Int) (hk1 : k0 = k1) (h0 : 0 ≤ k0) (h1 : k0 + gCell.cntV x ≤ 4611686018427387904) :
    Ct Tryz.prog 38 [.agg ⟨l⟩, .int .i64 k0] [] (fun H => gCell.rd H l (gCell.markV k1 x)) (fun v A => v = .int .i64 (k0 + gCell.cntV x) ∧ A = []) := by
  subst hk1
  refine Ct.intro0 G_ok Tryz.func38 rfl rfl rfl fun E H hp => ?_
  rw [gCell_markV] at hp
  obtain ⟨l0, b1, c1, b4, c4, rfl, h0, h1, w2, w3, h4⟩ := gCell_rd.1 hp
  obtain ⟨b1_0, c1_0, b2_0, c2_0, b3_0, c3_0, rfl, h1_0, h2_0, h3_0⟩ := gQuery_rd.1 h0
  have hz := gCell_cntV x
  refine VCnew.intro fun x0 => ?_
  refine call_val (heldQuery_ct _ _ _ _ ?_ ?_ ?_) (Rp.mono _ (mem_at 0 rfl) h0) ?_
  · rfl
  · trivial
  · omega
  rintro _ rfl
  refine VCsplit.intro (fun q2 => ?_) (fun q2 => ?_)
  ·
    simp at q2
    exfalso; omega
  ·
    simp at q2
    refine call_val (heldIntS_ct _ _ _ _ _ _ ?_ ?_ ?_) (Rp.mono _ (mem_at 0 rfl) h1) ?_
    · rfl
    · trivial
    · omega
    rintro _ rfl
    refine VCsplit.intro (fun q4 => ?_) (fun q4 => ?_)
    ·
      simp at q4
      exfalso; omega
    ·
      simp at q4
      refine call_val (heldGotS_ct _ _ _ _ _ _ ?_ ?_ ?_) (Rp.mono _ (mem_at 0 rfl) h4) ?_
      · rfl
      · trivial
      · omega
      rintro _ rfl
      refine VCsplit.intro (fun q6 => ?_) (fun q6 => ?_)
      ·
        simp at q6
        exfalso; omega
      ·
        simp at q6
        try dsimp only
        exact ⟨[], ⟨by rw [hz]; (try simp); (try omega), rfl⟩, (.le fun a => by (try simp only [setR, List.cons_append, List.nil_append]); simp only [List.flatten_append, List.flatten_cons, List.flatten_nil, List.count_append, List.count_nil, List.append_nil, List.nil_append]; omega)⟩
--@ct laws.markMailS mark1 markMailS_ct _ _ _ _ _ _ ~ ?_ ?_
--@ct laws.heldMailS val heldMailS_ct _ _ _ _ _ _ ?_ ?_ ?_ | %1
--@ct laws.markWork mark1 markWork_ct _ _ _ _ ~ ?_ ?_
--@ct laws.heldWork val heldWork_ct _ _ _ _ ?_ ?_ ?_ | %1
--@ct laws.markAsk mark1 markAsk_ct _ _ _ _ ~ ?_ ?_
--@ct laws.heldAsk val heldAsk_ct _ _ _ _ ?_ ?_ ?_ | %1
--@ct laws.markLinkS mark1 markLinkS_ct _ _ _ _ _ _ ~ ?_ ?_
--@ct laws.heldLinkS val heldLinkS_ct _ _ _ _ _ _ ?_ ?_ ?_ | %1
--@ct laws.markNode mark1 markNode_ct _ _ _ _ ~ ?_ ?_
--@ct laws.heldNode val heldNode_ct _ _ _ _ ?_ ?_ ?_ | %1
--@ct laws.markIntSS mark1 markIntSS_ct _ _ _ _ _ _ ~ ?_ ?_
--@ct laws.heldIntSS val heldIntSS_ct _ _ _ _ _ _ ?_ ?_ ?_ | %1
end Go.Proofs.YtflfohphebmemaaGreat

namespace Go.Proofs.YtflfohphebmemaaGreat
open Go.SX Go.Proofs
set_option linter.unusedSimpArgs false
set_option linter.unusedVariables false
set_option maxHeartbeats 8000000
theorem cntI : ∀ xs : List Int, cntL gI xs = xs.length := cntL_one gI fun _ => rfl
theorem query_cnt9 (x : Query) (h : gQuery.sz x ≤ 1048576) : (gQuery.cntV x : Int) ≤ 100000000 := by
  have h1 := gQuery.cntV_le x
  have h2 : gQuery.w ≤ 50 := by decide
  have := Nat.mul_le_mul h2 (show 1 + gQuery.sz x ≤ 1048577 by omega)
  omega
theorem cell_cnt9 (x : Query) (s : List Int) (a n : Int) (h : gQuery.sz x ≤ 1048576) (hs : s.length ≤ 1048576) : (gCell.cntV (cellR x s a n).1 : Int) ≤ 200000000 := by
  have h1 := query_cnt9 x h
  unfold cellR
  split
  · have h2 := gCell_cntV ⟨x, s, a, n, []⟩
    have h3 := cntI s
    have h4 : cntL gGot [] = 0 := rfl
    simp only [h3, h4] at h2
    show ((gCell.cntV ⟨x, s, a, n, []⟩ : Nat) : Int) ≤ 200000000
    omega
  · have : gCell.cntV zCell = 0 := rfl
    show (gCell.cntV zCell : Int) ≤ _
    omega
attribute [local irreducible] cellR
theorem fnExactCellNew_ct (v0 v1 v2 v3 : Value) :
    Ct Tryz.prog 5 [v0, v1, v2, v3] [] (fun H => (∃ x, rdV true gQuery.toRp H v0 x) ∧ (∃ x, rdV false (gSl 3 gI).toRp H v1 x) ∧ (∃ x, rdV false gI.toRp H v2 x) ∧ (∃ x, rdV false gI.toRp H v3 x)) (fun v A => v = .bool true ∧ A = []) := by
  refine Ct.intro0 G_ok Tryz.func5 rfl rfl rfl fun E H hp => ?_
  obtain ⟨⟨xa0, hp0⟩, ⟨xa1, hp1⟩, ⟨xa2, hp2⟩, ⟨xa3, hp3⟩⟩ := hp
  obtain ⟨la0, rfl, hp0⟩ := hp0
  obtain ⟨b1a0, c1a0, b2a0, c2a0, b3a0, c3a0, rfl, h1a0, h2a0, h3a0⟩ := gQuery_rd.1 hp0
  obtain ⟨ba1, ca1, ea1, hs1⟩ := sl_rd hp1; cases ea1; clear hp1
  obtain ⟨ea2, wa2⟩ := hp2; cases ea2
  obtain ⟨ea3, wa3⟩ := hp3; cases ea3
  refine VCnew.intro fun x0 => ?_
  refine VCsplit.intro (fun q1 => ?_) (fun q1 => ?_)
  ·
    simp at q1
    exact ⟨[], ⟨rfl, rfl⟩, (.le fun a => by (try simp only [setR, List.cons_append, List.nil_append]); simp only [List.flatten_append, List.flatten_cons, List.flatten_nil, List.count_append, List.count_nil, List.append_nil, List.nil_append]; omega)⟩
  ·
    simp at q1
    refine call_q (szQuery_ct _ (xa0) _ ?_ ?_) (Rp.mono _ (mem_at 0 rfl) hp0) ?_
    · trivial
    · trivial
    rintro _ ⟨r2, rfl, hr2⟩
    refine VCsplit.intro (fun q3 => ?_) (fun q3 => ?_)
    ·
      simp at q3
      exact ⟨[], ⟨rfl, rfl⟩, (.le fun a => by (try simp only [setR, List.cons_append, List.nil_append]); simp only [List.flatten_append, List.flatten_cons, List.flatten_nil, List.count_append, List.count_nil, List.append_nil, List.nil_append]; omega)⟩
    ·
      simp at q3
      refine call_new (toQuery_ct _ (xa0) ?_) (Rp.mono _ (mem_at 0 rfl) hp0) ?_
      · omega
      rintro v4 A4 o4
      obtain ⟨l4, rfl, o4⟩ := o4
      have r4 := Gt.owrd _ o4
      obtain ⟨b1x4, c1x4, b2x4, c2x4, b3x4, c3x4, rfl, h1x4, h2x4, h3x4⟩ := gQuery_rd.1 r4
      refine call_new (toIntS_ct _ _ _ (xa1) ?_) (Rp.mono _ (mem_at 1 rfl) hs1) ?_
      · (rw [szI]; omega)
      rintro v5 A5 o5
      obtain ⟨b5, c5, rfl, o5⟩ := o5
      refine call_new (specCellNew_ct _ _ _ _ (xa0) (xa1) _ _ ?_ ?_ ?_) ⟨(Rp.mono _ (mem_at 1 rfl) r4), (Rp.mono _ (mem_at 0 rfl) (Gt.owrd _ o5))⟩ ?_
      · omega
      · trivial
      · trivial
      rintro v6 A6 o6
      obtain ⟨l6, rfl, o6⟩ := o6
      have r6 := Gt.owrd _ o6
      obtain ⟨l0x6, b1x6, c1x6, b4x6, c4x6, rfl, h0x6, h1x6, w2x6, w3x6, h4x6⟩ := gCell_rd.1 r6
      obtain ⟨b1_0x6, c1_0x6, b2_0x6, c2_0x6, b3_0x6, c3_0x6, rfl, h1_0x6, h2_0x6, h3_0x6⟩ := gQuery_rd.1 h0x6
      refine VCnew.intro fun x7 => ?_
      refine call_new (toQuery_ct _ (xa0) ?_) (Rp.mono _ (mem_at 3 rfl) hp0) ?_
      · omega
      rintro v8 A8 o8
      obtain ⟨l8, rfl, o8⟩ := o8
      have r8 := Gt.owrd _ o8
      obtain ⟨b1x8, c1x8, b2x8, c2x8, b3x8, c3x8, rfl, h1x8, h2x8, h3x8⟩ := gQuery_rd.1 r8
      refine VCnew.intro fun x9 => ?_
      refine call_new (toIntS_ct _ _ _ (xa1) ?_) (Rp.mono _ (mem_at 4 rfl) hs1) ?_
      · (rw [szI]; omega)
      rintro v10 A10 o10
      obtain ⟨b10, c10, rfl, o10⟩ := o10
      refine call_new (implCellNew_ct _ _ _ _ (xa0) (xa1) _ _ ?_ ?_ ?_) ⟨(Rp.mono _ (mem_at 1 rfl) r8), (Rp.mono _ (mem_at 0 rfl) (Gt.owrd _ o10))⟩ ?_
      · omega
      · trivial
      · trivial
      rintro v11 A11 o11
      obtain ⟨l11, rfl, o11⟩ := o11
      have r11 := Gt.owrd _ o11
      obtain ⟨l0x11, b1x11, c1x11, b4x11, c4x11, rfl, h0x11, h1x11, w2x11, w3x11, h4x11⟩ := gCell_rd.1 r11
      obtain ⟨b1_0x11, c1_0x11, b2_0x11, c2_0x11, b3_0x11, c3_0x11, rfl, h1_0x11, h2_0x11, h3_0x11⟩ := gQuery_rd.1 h0x11
      refine VCnew.intro fun x12 => ?_
      refine call_val (eqCell_ct _ _ ((cellR xa0 xa1 xa2 xa3).fst) ((cellR xa0 xa1 xa2 xa3).fst)) ⟨(Rp.mono _ (mem_at 0 rfl) r11), (Rp.mono _ (mem_at 3 rfl) r6)⟩ ?_
      rintro _ rfl
      refine VCsplit.intro (fun q14 => ?_) (fun q14 => ?_)
      ·
        simp at q14
      ·
        simp at q14
        refine VCsplit.intro (fun q15 => ?_) (fun q15 => ?_)
        ·
          simp at q15
        ·
          simp at q15
          refine draw G_ok mixed none (.q 0 (.q 1 (.f 2 (.f 3 (.q 4 (.nil)))))) (by decide +kernel) ?_
          refine call_new (toQuery_ct _ (xa0) ?_) (Rp.mono _ (mem_at 6 rfl) hp0) ?_
          · omega
          rintro v16 A16 o16
          obtain ⟨l16, rfl, o16⟩ := o16
          have r16 := Gt.owrd _ o16
          obtain ⟨b1x16, c1x16, b2x16, c2x16, b3x16, c3x16, rfl, h1x16, h2x16, h3x16⟩ := gQuery_rd.1 r16
          refine VC.intro ?_ ?_
          · exact keep_new
          refine call_val (eqQuery_ct _ _ (xa0) (xa0)) ⟨(Rp.mono _ (mem_at 3 rfl) r8), (Rp.mono _ (mem_at 0 rfl) r16)⟩ ?_
          rintro _ rfl
          refine VC.intro ?_ ?_
          · exact keep_new
          refine VCsplit.intro (fun q18 => ?_) (fun q18 => ?_)
          ·
            simp at q18
          ·
            simp at q18
            refine call_new (toIntS_ct _ _ _ (xa1) ?_) (Rp.mono _ (mem_at 7 rfl) hs1) ?_
            · (rw [szI]; omega)
            rintro v19 A19 o19
            obtain ⟨b19, c19, rfl, o19⟩ := o19
            refine call_val (eqIntS_ct _ _ _ _ _ _ (xa1) (xa1)) ⟨(Rp.mono _ (mem_at 3 rfl) (Gt.owrd _ o10)), (Rp.mono _ (mem_at 0 rfl) (Gt.owrd _ o19))⟩ ?_
            rintro _ rfl
            refine VCsplit.intro (fun q21 => ?_) (fun q21 => ?_)
            ·
              simp at q21
            ·
              simp at q21
              refine callR_at 4 rfl (markQuery_ct _ _ _ _ o8 ?_ ?_) trivial ?_
              · trivial
              · (have := query_cnt9 xa0 (by omega); have := cntI xa1; omega)
              rintro _ A22 ⟨rfl, o22⟩
              refine callR_at 3 rfl (markIntS_ct _ _ _ _ _ _ o10 ?_ ?_) trivial ?_
              · omega
              · (have := query_cnt9 xa0 (by omega); have := cntI xa1; omega)
              rintro _ A23 ⟨rfl, o23⟩
              refine VCsplit.intro (fun q24 => ?_) (fun q24 => ?_)
              ·
                simp at q24
                exfalso; omega
              ·
                simp at q24
                refine call_val (eqCell_ct _ _ ((cellR xa0 xa1 xa2 xa3).fst) ((cellR xa0 xa1 xa2 xa3).fst)) ⟨(Rp.mono _ (mem_at 2 rfl) r11), (Rp.mono _ (mem_at 5 rfl) r6)⟩ ?_
                rintro _ rfl
                refine VCsplit.intro (fun q26 => ?_) (fun q26 => ?_)
                ·
                  simp at q26
                ·
                  simp at q26
                  refine VCsplit.intro (fun q27 => ?_) (fun q27 => ?_)
                  ·
                    simp at q27
                  ·
                    simp at q27
                    refine callR_at 2 rfl (markCell_ct _ _ _ _ o11 ?_ ?_) trivial ?_
                    · trivial
                    · (have := cell_cnt9 xa0 xa1 xa2 xa3 (by omega) (by omega); omega)
                    rintro _ A28 ⟨rfl, o28⟩
                    refine call_val (heldCell_ct _ _ _ _ ?_ ?_ ?_) (Rp.mono _ (mem_at 2 rfl) (Gt.owrd _ o28)) ?_
                    · rfl
                    · trivial
                    · (have := cell_cnt9 xa0 xa1 xa2 xa3 (by omega) (by omega); omega)
                    rintro _ rfl
                    refine VCsplit.intro (fun q30 => ?_) (fun q30 => ?_)
                    ·
                      simp at q30
                      exfalso; omega
                    ·
                      simp at q30
                      refine VCsplit.intro (fun q31 => ?_) (fun q31 => ?_)
                      ·
                        simp at q31
                      ·
                        simp at q31
                        refine call_new (toQuery_ct _ (xa0) ?_) (Rp.mono _ (mem_at 8 rfl) hp0) ?_
                        · omega
                        rintro v32 A32 o32
                        obtain ⟨l32, rfl, o32⟩ := o32
                        have r32 := Gt.owrd _ o32
                        obtain ⟨b1x32, c1x32, b2x32, c2x32, b3x32, c3x32, rfl, h1x32, h2x32, h3x32⟩ := gQuery_rd.1 r32
                        refine call_new (toIntS_ct _ _ _ (xa1) ?_) (Rp.mono _ (mem_at 9 rfl) hs1) ?_
                        · (rw [szI]; omega)
                        rintro v33 A33 o33
                        obtain ⟨b33, c33, rfl, o33⟩ := o33
                        refine call_new (implCellNew_ct _ _ _ _ (xa0) (xa1) _ _ ?_ ?_ ?_) ⟨(Rp.mono _ (mem_at 1 rfl) r32), (Rp.mono _ (mem_at 0 rfl) (Gt.owrd _ o33))⟩ ?_
                        · omega
                        · trivial
                        · trivial
                        rintro v34 A34 o34
                        obtain ⟨l34, rfl, o34⟩ := o34
                        have r34 := Gt.owrd _ o34
                        obtain ⟨l0x34, b1x34, c1x34, b4x34, c4x34, rfl, h0x34, h1x34, w2x34, w3x34, h4x34⟩ := gCell_rd.1 r34
                        obtain ⟨b1_0x34, c1_0x34, b2_0x34, c2_0x34, b3_0x34, c3_0x34, rfl, h1_0x34, h2_0x34, h3_0x34⟩ := gQuery_rd.1 h0x34
                        refine VCnew.intro fun x35 => ?_
                        refine call_val (eqCell_ct _ _ ((cellR xa0 xa1 xa2 xa3).fst) ((cellR xa0 xa1 xa2 xa3).fst)) ⟨(Rp.mono _ (mem_at 0 rfl) r34), (Rp.mono _ (mem_at 8 rfl) r6)⟩ ?_
                        rintro _ rfl
                        refine VCsplit.intro (fun q37 => ?_) (fun q37 => ?_)
                        ·
                          simp at q37
                        ·
                          simp at q37
                          refine VCsplit.intro (fun q38 => ?_) (fun q38 => ?_)
                          ·
                            simp at q38
                          ·
                            simp at q38
                            refine call_val (heldCell_ct _ _ _ _ ?_ ?_ ?_) (Rp.mono _ (mem_at 5 rfl) (Gt.owrd _ o28)) ?_
                            · rfl
                            · trivial
                            · (have := cell_cnt9 xa0 xa1 xa2 xa3 (by omega) (by omega); omega)
                            rintro _ rfl
                            refine VCsplit.intro (fun q40 => ?_) (fun q40 => ?_)
                            ·
                              simp at q40
                              exfalso; omega
                            ·
                              simp at q40
                              refine VCsplit.intro (fun q41 => ?_) (fun q41 => ?_)
                              ·
                                simp at q41
                              ·
                                simp at q41
                                exact ⟨[], ⟨rfl, rfl⟩, (.le fun a => by (try simp only [setR, List.cons_append, List.nil_append]); simp only [List.flatten_append, List.flatten_cons, List.flatten_nil, List.count_append, List.count_nil, List.append_nil, List.nil_append]; omega)⟩
end Go.Proofs.YtflfohphebmemaaGreat
