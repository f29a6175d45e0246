/-
 Parts of the law, put together. Conditions: none.
-/
import Derived.Test.YtcnclhjhnjpeiaaGreatDoorZw3
set_option maxHeartbeats 8000000
set_option linter.unusedSimpArgs false
set_option linter.unusedVariables false
namespace Go.Proofs.YtcnclhjhnjpeiaaGreatDoor
open Go.SX Go.Proofs
open Tryz
section
structure Span where
 first : Nat
 last : Nat
 empty : Bool
deriving DecidableEq, Inhabited
abbrev Pos := List UInt8 × List Nat
def rowStep (V : Nat → Pos → Pos × Span) (st : Pos × Span) (kid : Int) : Pos × Span :=
 (((V kid.toNat st.1).1.1, orAt (V kid.toNat st.1).1.2 st.2.last (V kid.toNat st.1).2.first), ⟨if st.2.empty = true then st.2.first ||| (V kid.toNat st.1).2.first else st.2.first, (if (V kid.toNat st.1).2.empty = true then st.2.last else 0) ||| (V kid.toNat st.1).2.last, st.2.empty && (V kid.toNat st.1).2.empty⟩)
def altStep (V : Nat → Pos → Pos × Span) (st : Pos × Span) (kid : Int) : Pos × Span :=
 ((V kid.toNat st.1).1, ⟨st.2.first ||| (V kid.toNat st.1).2.first, st.2.last ||| (V kid.toNat st.1).2.last, st.2.empty || (V kid.toNat st.1).2.empty⟩)
def oneStep (op : Int) (r : Pos × Span) : Pos × Span := ((r.1.1, if op = 6 then r.1.2 else orAt r.1.2 r.2.last r.2.first), ⟨r.2.first, r.2.last, r.2.empty || decide (op ≠ 5)⟩)
def visit (ps : List Piece) : Nat → Nat → Pos → Pos × Span
 | 0, _, s => (s, ⟨0, 0, false⟩)
 | n + 1, i, s =>
  if (ps[i]?.getD default).op = 1 then ((s.1 ++ [(ps[i]?.getD default).label], s.2 ++ [0]), ⟨2 ^ s.1.length, 2 ^ s.1.length, false⟩)
  else if (ps[i]?.getD default).op = 2 then (ps[i]?.getD default).kids.foldl (rowStep (visit ps n)) (s, ⟨0, 0, true⟩)
  else if (ps[i]?.getD default).op = 3 then (ps[i]?.getD default).kids.foldl (altStep (visit ps n)) (s, ⟨0, 0, false⟩)
  else oneStep (ps[i]?.getD default).op (visit ps n ((ps[i]?.getD default).kids[0]?.getD 0).toNat s)
def sumK (f : Nat → Nat) : List Int → Nat
 | [] => 0
 | k :: r => f k.toNat + sumK f r
def cntF (ps : List Piece) : Nat → Nat → Nat
 | 0, _ => 0
 | n + 1, i => if (ps[i]?.getD default).op = 1 then 1 else sumK (cntF ps n) (ps[i]?.getD default).kids
theorem sumK_take (f : Nat → Nat) : ∀ (l : List Int) (k : Nat), k < l.length → sumK f (l.take k) + f (l[k]?.getD 0).toNat ≤ sumK f l ∧ sumK f (l.take (k + 1)) = sumK f (l.take k) + f (l[k]?.getD 0).toNat
 | [], k, h => by simp at h
 | x :: l, 0, h => by simp [sumK]
 | x :: l, k + 1, h => by
  have ih := sumK_take f l k (by simpa using h)
  simp only [List.take_succ_cons, sumK, List.getElem?_cons_succ]
  omega
def Good (s : Pos) : Prop := s.1.length = s.2.length ∧ ∀ x ∈ s.2, x < 2 ^ s.1.length
def Fine (s : Pos) (c : Nat) (r : Pos × Span) : Prop := Good r.1 ∧ r.1.1.length = s.1.length + c ∧ r.2.first < 2 ^ r.1.1.length ∧ r.2.last < 2 ^ r.1.1.length
theorem pow_mono {a b : Nat} (h : a ≤ b) : 2 ^ a ≤ 2 ^ b := Nat.pow_le_pow_right (by omega) h
theorem orL_lt {next n : Nat} (hn : next < 2 ^ n) : ∀ (l : List Int) (fo : List Nat), (∀ x ∈ fo, x < 2 ^ n) → ∀ x ∈ orL fo l next, x < 2 ^ n
 | [], _, h => h
 | i :: l, fo, h => by
  show ∀ x ∈ orL (orStep next fo i) l next, x < 2 ^ n
  refine orL_lt hn l _ ?_
  intro x hx
  unfold orStep at hx
  rcases List.mem_or_eq_of_mem_set hx with h1 | h1
  ·exact h x h1
  rw [h1]
  refine Nat.or_lt_two_pow ?_ hn
  rcases Nat.lt_or_ge i.toNat fo.length with h2 | h2
  ·rw [List.getElem?_eq_getElem h2]; exact h _ (List.getElem_mem h2)
  rw [List.getElem?_eq_none h2]; exact Nat.two_pow_pos n
theorem orAt_good {lb : List UInt8} {fo : List Nat} {last next : Nat} (h : Good (lb, fo)) (hn : next < 2 ^ lb.length) : Good (lb, orAt fo last next) := by
 refine ⟨?_, orL_lt hn _ _ h.2⟩
 show lb.length = (orL fo _ next).length
 rw [orL_len]; exact h.1
theorem row_fine {s : Pos} {c d : Nat} {V : Nat → Pos → Pos × Span} {st : Pos × Span} {kid : Int} (h : Fine s c st) (hV : Fine st.1 d (V kid.toNat st.1)) : Fine s (c + d) (rowStep V st kid) := by
 obtain ⟨h1, h2, h3, h4⟩ := h
 obtain ⟨g1, g2, g3, g4⟩ := hV
 have hm := pow_mono (a := st.1.1.length) (b := (V kid.toNat st.1).1.1.length) (by omega)
 refine ⟨orAt_good g1 g3, by show (V kid.toNat st.1).1.1.length = _; omega, ?_, ?_⟩
 ·show (if st.2.empty = true then _ else _) < 2 ^ (V kid.toNat st.1).1.1.length
  split
  ·exact Nat.or_lt_two_pow (by omega) g3
  omega
 show (if (V kid.toNat st.1).2.empty = true then _ else _) ||| _ < 2 ^ (V kid.toNat st.1).1.1.length
 refine Nat.or_lt_two_pow ?_ g4
 split
 ·omega
 exact Nat.two_pow_pos _
theorem alt_fine {s : Pos} {c d : Nat} {V : Nat → Pos → Pos × Span} {st : Pos × Span} {kid : Int} (h : Fine s c st) (hV : Fine st.1 d (V kid.toNat st.1)) : Fine s (c + d) (altStep V st kid) := by
 obtain ⟨h1, h2, h3, h4⟩ := h
 obtain ⟨g1, g2, g3, g4⟩ := hV
 have hm := pow_mono (a := st.1.1.length) (b := (V kid.toNat st.1).1.1.length) (by omega)
 refine ⟨g1, by show (V kid.toNat st.1).1.1.length = _; omega, ?_, ?_⟩
 ·exact Nat.or_lt_two_pow (show st.2.first < 2 ^ (V kid.toNat st.1).1.1.length by omega) g3
 exact Nat.or_lt_two_pow (show st.2.last < 2 ^ (V kid.toNat st.1).1.1.length by omega) g4
theorem one_fine {s : Pos} {c : Nat} {op : Int} {r : Pos × Span} (h : Fine s c r) : Fine s c (oneStep op r) := by
 obtain ⟨h1, h2, h3, h4⟩ := h
 unfold oneStep
 refine ⟨?_, h2, h3, h4⟩
 split
 ·exact h1
 exact orAt_good h1 h3
theorem fine_zero {s : Pos} {e : Bool} (h : Good s) : Fine s 0 (s, ⟨0, 0, e⟩) := ⟨h, by simp, Nat.two_pow_pos _, Nat.two_pow_pos _⟩
theorem good_step {s : Pos} {b : UInt8} (h : Good s) : Good (s.1 ++ [b], s.2 ++ [0]) := by
 refine ⟨by simp [h.1], ?_⟩
 intro x hx
 have hm := pow_mono (a := s.1.length) (b := s.1.length + 1) (by omega)
 show x < 2 ^ (s.1 ++ [b]).length
 rw [List.length_append, List.length_singleton]
 rcases List.mem_append.1 hx with h1 | h1
 ·have := h.2 x h1; omega
 rw [List.mem_singleton.1 h1]; exact Nat.two_pow_pos _
def PsOk (ps : List Piece) : Prop := ∀ i, i < ps.length → pieceOk (ps[i]?.getD default) i = true
theorem psOk_of {ps : List Piece} (h : pathOk ⟨ps⟩ = true) : PsOk ps := by
 unfold pathOk at h
 simp only [Bool.and_eq_true, decide_eq_true_iff] at h
 intro i hi
 exact allK_at h.2.2 i hi
theorem visit_fine (ps : List Piece) : ∀ (n i : Nat) (s : Pos), Good s → PsOk ps → i < ps.length → i < n → Fine s (cntF ps n i) (visit ps n i s)
 | 0, i, s, _, _, _, h => by omega
 | n + 1, i, s, hg, hp, hi, hn => by
  have hk := piece_iff.1 (hp i hi)
  have hkid : (ps[i]?.getD default).op ≠ 1 → ∀ k ∈ (ps[i]?.getD default).kids, k.toNat < i := by
   intro h1 k hk2
   have h3 : kidsOk (ps[i]?.getD default).kids i = true := by
    rcases hk with h | h | h
    ·exact absurd h.1 h1
    ·exact h.2.2.2
    exact h.2.2.2
   unfold kidsOk at h3
   have := inR_iff.1 (List.all_eq_true.1 h3 k hk2)
   omega
  have hfold : ∀ (S : Pos × Span → Int → Pos × Span), (∀ c st kid, kid.toNat < i → Fine s c st → Fine s (c + cntF ps n kid.toNat) (S st kid)) → ∀ (l : List Int), (∀ k ∈ l, k.toNat < i) → ∀ c st, Fine s c st → Fine s (c + sumK (cntF ps n) l) (l.foldl S st) := by
   intro S hS l
   induction l with
   | nil => intro _ c st h; exact h
   | cons k l ih =>
    intro hl c st h
    have := ih (fun k hk => hl k (List.mem_cons_of_mem _ hk)) (c + cntF ps n k.toNat) (S st k) (hS c st k (hl k (List.mem_cons_self ..)) h)
    rw [List.foldl_cons, show c + sumK (cntF ps n) (k :: l) = c + cntF ps n k.toNat + sumK (cntF ps n) l by simp only [sumK]; omega]
    exact this
  unfold visit cntF
  split
  ·refine ⟨good_step hg, by simp, ?_, ?_⟩
   ·show 2 ^ s.1.length < 2 ^ (s.1 ++ [_]).length
    rw [List.length_append, List.length_singleton]; exact Nat.pow_lt_pow_right (by omega) (by omega)
   show 2 ^ s.1.length < 2 ^ (s.1 ++ [_]).length
   rw [List.length_append, List.length_singleton]; exact Nat.pow_lt_pow_right (by omega) (by omega)
  rename_i h1
  split
  ·have := hfold (rowStep (visit ps n)) (fun c st kid hk2 h => row_fine h (visit_fine ps n kid.toNat st.1 h.1 hp (by omega) (by omega))) _ (hkid h1) 0 _ (fine_zero (e := true) hg)
   rwa [Nat.zero_add] at this
  split
  ·have := hfold (altStep (visit ps n)) (fun c st kid hk2 h => alt_fine h (visit_fine ps n kid.toNat st.1 h.1 hp (by omega) (by omega))) _ (hkid h1) 0 _ (fine_zero (e := false) hg)
   rwa [Nat.zero_add] at this
  rename_i h2 h3
  have h4 : (ps[i]?.getD default).kids.length = 1 := by
   rcases hk with h | h | h
   ·exact absurd h.1 h1
   ·omega
   exact h.2.2.1
  obtain ⟨k, hk1⟩ := List.length_eq_one_iff.1 h4
  have hlt := hkid h1 k (by rw [hk1]; exact List.mem_singleton.2 rfl)
  rw [hk1]
  show Fine s (cntF ps n k.toNat + 0) _
  exact one_fine (visit_fine ps n k.toNat s hg hp (by omega) (by omega))
end
section
attribute [local irreducible] IntKind.wrap
theorem filtA_yes {α : Type} {p : α → Bool} {xs : List α} {k : Nat} (z : α) (h : k < xs.length) (hp : p (xs[k]?.getD z) = true) : (xs.take (k + 1)).filter p = (xs.take k).filter p ++ [xs[k]?.getD z] := by
 rw [List.getElem?_eq_getElem h] at hp ⊢
 rw [← List.take_append_getElem h, List.filter_append]
 simp only [Option.getD_some] at hp ⊢
 simp [hp]
theorem filtA_no {α : Type} {p : α → Bool} {xs : List α} {k : Nat} (z : α) (h : k < xs.length) (hp : p (xs[k]?.getD z) = false) : (xs.take (k + 1)).filter p = (xs.take k).filter p := by
 rw [List.getElem?_eq_getElem h] at hp
 rw [← List.take_append_getElem h, List.filter_append]
 simp only [Option.getD_some] at hp
 simp [hp]
def arcLess (a b : Arc) : Bool :=
 if a.from' = b.from' then (if a.label = b.label then decide (a.to < b.to) else decide ((a.label.toNat : Int) < (b.label.toNat : Int))) else decide (a.from' < b.from')
theorem arcLess_from {a b : Arc} (h : ¬ a.from' = b.from') : arcLess a b = decide (a.from' < b.from') := by unfold arcLess; rw [if_neg h]
theorem arcLess_label {a b : Arc} (h : a.from' = b.from') (h2 : ¬ a.label = b.label) : arcLess a b = decide ((a.label.toNat : Int) < (b.label.toNat : Int)) := by unfold arcLess; rw [if_pos h, if_neg h2]
theorem arcLess_to {a b : Arc} (h : a.from' = b.from') (h2 : a.label = b.label) : arcLess a b = decide (a.to < b.to) := by unfold arcLess; rw [if_pos h, if_pos h2]
def putA (xs : List Arc) (x : Arc) : List Arc := xs.filter (fun y => arcLess y x) ++ ([x] ++ xs.filter (fun y => arcLess x y))
theorem l07Less_ct (l1 l2 : List Value) (a b : Arc) :
  Ct prog 196 [.agg ⟨l1⟩, .agg ⟨l2⟩] [] (fun H => gArc.rd H l1 a ∧ gArc.rd H l2 b) (fun v A => v = .bool (arcLess a b) ∧ A = []) := by
 refine Ct.intro0 G_ok func196 rfl rfl rfl fun E H hp => ?_
 obtain ⟨hp1, hp2⟩ := hp
 obtain ⟨rfl, w0p, w2p⟩ := gArc_rd.1 hp1
 obtain ⟨rfl, w0f, w2f⟩ := gArc_rd.1 hp2
 refine ⟨fun x0 => ?_⟩
 refine ⟨fun x1 => ?_⟩
 refine ⟨fun q2 => ?_, fun q2 => ?_⟩
 ·simp at q2
  exact ⟨[], ⟨by rw [arcLess_from ‹¬ a.from' = b.from'›], rfl⟩, .mem (by simp)⟩
 ·simp at q2
  refine ⟨fun q3 => ?_, fun q3 => ?_⟩
  ·simp at q3
   simp only [str_inj, u8_inj, u8_wrap] at q3
   exact ⟨[], ⟨by rw [arcLess_label ‹a.from' = b.from'› ‹¬ a.label = b.label›], rfl⟩, .mem (by simp)⟩
  ·simp at q3
   simp only [str_inj, u8_inj, u8_wrap] at q3
   exact ⟨[], ⟨by rw [arcLess_to ‹a.from' = b.from'› ‹a.label = b.label›], rfl⟩, .mem (by simp)⟩
theorem l07Put_ct (b : Option Addr) (m c : Nat) (l : List Value) (xs : List Arc) (e : Arc) (hm : xs.length ≤ 400000000) :
  Ct prog 195 [.slice b m c, .agg ⟨l⟩] [] (fun H => (gSl 282 gArc).rd H [.slice b m c] xs ∧ gArc.rd H l e) (fun v A => ∃ b c, v = .slice b (putA xs e).length c ∧ (gSl 282 gArc).ow [.slice b (putA xs e).length c] (putA xs e) A) := by
 refine Ct.intro0 G_ok func195 rfl rfl rfl fun E H hp => ?_
 obtain ⟨hp, hp2⟩ := hp
 obtain ⟨rfl, hcl, hl⟩ := sl_len hp
 obtain ⟨rfl, w0f, w2f⟩ := gArc_rd.1 hp2
 refine ⟨fun x0 => ?_⟩
 refine ⟨fun x1 => ?_⟩
 apply loop_mod (α := (Nat) × (List Arc) × (Hp) × (Option Addr) × (Nat)) G_ok [9, 10, 11, 12, 15, 16, 17, 18, 19, 20, 21, 22, 23, 24, 25, 26, 27, 5, 13, 14, 6] (fun z => [(6, .v (.int .i64 z.1)), (5, .v (.slice z.2.2.2.1 z.2.1.length z.2.2.2.2))]) (fun z => [{ id := x0, cs := [Value.int IntKind.i64 e.from', Value.int IntKind.u8 (↑e.label.toNat : Int), Value.int IntKind.i64 e.to], ty := (282 : Nat) }]) (fun z => [z.2.2.1, H]) (fun z => xs.length - z.1) (fun z => z.1 ≤ xs.length ∧ z.2.1 = (xs.take z.1).filter (fun x => arcLess x e) ∧ (gSl 282 gArc).ow [.slice z.2.2.2.1 z.2.1.length z.2.2.2.2] z.2.1 z.2.2.1) ((0, [], [], _, 0))
 ·exact frI
 ·exact ⟨rfl, trivial⟩
 ·try dsimp only
  exact ⟨by omega, rfl, sl_nil _ _ _⟩
 ·exact .tl
 rintro ⟨k, o, A, lb, lc⟩ hI
 try dsimp only at hI
 obtain ⟨hk, ho, oA⟩ := hI
 try dsimp only
 refine ⟨fun q2 => ?_, fun q2 => ?_⟩
 ·simp at q2
  have hol : o.length ≤ k := by rw [ho]; exact Nat.le_trans (List.length_filter_le _ _) (by rw [List.length_take]; omega)
  refine draw G_ok mixed none (.q 0 (.q 1 (.q 2 (.q 3 (.q 4 (.f 5 (.nil))))))) (by decide +kernel) ?_
  refine idx_rd hp ?_ ?_ fun b3 o3 hb3 => ?_
  ·omega
  ·omega
  refine load_allN default (k) rfl hp ?_ ?_ hb3 rfl (mem_at 1 rfl) fun l4 hl4 => ?_
  ·omega
  ·omega
  obtain ⟨rfl, w0x4, w2x4⟩ := gArc_rd.1 hl4
  refine call_val (l07Less_ct _ _ (xs[k]?.getD default) (e)) ⟨(Rp.mono _ (mem_at 1 rfl) hl4), (Rp.mono _ (mem_at 1 rfl) hp2)⟩ ?_
  rintro _ rfl
  refine VC.intro ?_ ?_
  ·exact fun _ h => h
  refine ⟨fun q6 => ?_, fun q6 => ?_⟩
  ·refine idx_rd hp ?_ ?_ fun b7 o7 hb7 => ?_
   ·omega
   ·omega
   refine load_allN default (k) rfl hp ?_ ?_ hb7 rfl (mem_at 1 rfl) fun l8 hl8 => ?_
   ·omega
   ·omega
   obtain ⟨rfl, w0x8, w2x8⟩ := gArc_rd.1 hl8
   refine ⟨fun x9 => ?_⟩
   refine gappend1 (g := gArc) (T := (282 : TypeId)) G_ok A _ [H] ?_ oA (gArc_own ‹_›) (List.mem_of_getElem? (i := 0) rfl) rfl rfl rfl rfl rfl rfl rfl rfl ?_ fun b10 c10 A10 o10 => ?_
   ·exact .tl
   ·omega
   apply loop_stepA (k + 1, _, _, _, _)
   ·exact .refl _
   ·exact frI
   ·exact ⟨rfl, trivial⟩
   ·try dsimp only
    exact ⟨by omega, by rw [ho, filtA_yes default (by omega) (by exact ‹arcLess _ _ = true›)], ‹_›⟩
   try dsimp only
   omega
  ·apply loop_stepA (k + 1, _, _, _, _)
   ·exact .refl _
   ·exact frI
   ·exact ⟨rfl, trivial⟩
   ·try dsimp only
    exact ⟨by omega, by rw [ho, filtA_no default (by omega) (by exact ‹arcLess _ _ = false›)], ‹_›⟩
   try dsimp only
   omega
 ·simp at q2
  obtain rfl : k = xs.length := by omega
  rw [List.take_length] at ho
  have hol : o.length ≤ xs.length := by rw [ho]; exact List.length_filter_le _ _
  refine ⟨fun x11 => ?_⟩
  refine gappend1 (g := gArc) (T := (282 : TypeId)) G_ok A _ [H] ?_ oA (gArc_own ‹_›) (List.mem_of_getElem? (i := 0) rfl) rfl rfl rfl rfl rfl rfl rfl rfl ?_ fun b12 c12 A12 o12 => ?_
  ·exact .tl
  ·omega
  apply loop_mod (α := (Nat) × (List Arc) × (Hp) × (Option Addr) × (Nat)) G_ok [32, 33, 34, 35, 38, 39, 40, 41, 42, 43, 44, 45, 46, 47, 48, 49, 50, 5, 36, 37, 7] (fun z => [(7, .v (.int .i64 z.1)), (5, .v (.slice z.2.2.2.1 z.2.1.length z.2.2.2.2))]) (fun z => [{ id := x0, cs := [Value.int IntKind.i64 e.from', Value.int IntKind.u8 (↑e.label.toNat : Int), Value.int IntKind.i64 e.to], ty := (282 : Nat) }]) (fun z => [z.2.2.1, H]) (fun z => xs.length - z.1) (fun z => z.1 ≤ xs.length ∧ z.2.1 = xs.filter (fun x => arcLess x e) ++ ([e] ++ (xs.take z.1).filter (fun x => arcLess e x)) ∧ (gSl 282 gArc).ow [.slice z.2.2.2.1 z.2.1.length z.2.2.2.2] z.2.1 z.2.2.1) ((0, _, _, _, _))
  ·exact frI
  ·exact ⟨rfl, trivial⟩
  ·try dsimp only
   exact ⟨by omega, by rw [ho]; simp, ‹_›⟩
  ·exact .refl _
  rintro ⟨k, o, A, lb, lc⟩ hI
  try dsimp only at hI
  obtain ⟨hk, ho, oA⟩ := hI
  try dsimp only
  refine ⟨fun q13 => ?_, fun q13 => ?_⟩
  ·simp at q13
   have hol : o.length ≤ 2 * xs.length + 1 := by (rw [ho]; have h1 := List.length_filter_le (fun x => arcLess x e) xs; have h2 := List.length_filter_le (fun x => arcLess e x) (xs.take k); rw [List.length_take] at h2; simp only [List.length_append, List.length_cons, List.length_nil]; omega)
   refine draw G_ok mixed none (.q 0 (.q 1 (.q 2 (.q 3 (.q 4 (.f 5 (.nil))))))) (by decide +kernel) ?_
   refine idx_rd hp ?_ ?_ fun b14 o14 hb14 => ?_
   ·omega
   ·omega
   refine load_allN default (k) rfl hp ?_ ?_ hb14 rfl (mem_at 1 rfl) fun l15 hl15 => ?_
   ·omega
   ·omega
   obtain ⟨rfl, w0x15, w2x15⟩ := gArc_rd.1 hl15
   refine call_val (l07Less_ct _ _ (e) (xs[k]?.getD default)) ⟨(Rp.mono _ (mem_at 1 rfl) hp2), (Rp.mono _ (mem_at 1 rfl) hl15)⟩ ?_
   rintro _ rfl
   refine VC.intro ?_ ?_
   ·exact fun _ h => h
   refine ⟨fun q17 => ?_, fun q17 => ?_⟩
   ·refine idx_rd hp ?_ ?_ fun b18 o18 hb18 => ?_
    ·omega
    ·omega
    refine load_allN default (k) rfl hp ?_ ?_ hb18 rfl (mem_at 1 rfl) fun l19 hl19 => ?_
    ·omega
    ·omega
    obtain ⟨rfl, w0x19, w2x19⟩ := gArc_rd.1 hl19
    refine ⟨fun x20 => ?_⟩
    refine gappend1 (g := gArc) (T := (282 : TypeId)) G_ok A _ [H] ?_ oA (gArc_own ‹_›) (List.mem_of_getElem? (i := 0) rfl) rfl rfl rfl rfl rfl rfl rfl rfl ?_ fun b21 c21 A21 o21 => ?_
    ·exact .tl
    ·omega
    apply loop_stepA (k + 1, _, _, _, _)
    ·exact .refl _
    ·exact frI
    ·exact ⟨rfl, trivial⟩
    ·try dsimp only
     exact ⟨by omega, by rw [ho, filtA_yes default (by omega) (by exact ‹arcLess _ _ = true›)]; simp, ‹_›⟩
    try dsimp only
    omega
   ·apply loop_stepA (k + 1, _, _, _, _)
    ·exact .refl _
    ·exact frI
    ·exact ⟨rfl, trivial⟩
    ·try dsimp only
     exact ⟨by omega, by rw [ho, filtA_no default (by omega) (by exact ‹arcLess _ _ = false›)], ‹_›⟩
    try dsimp only
    omega
  ·simp at q13
   (have hke : k = xs.length := (by omega); subst hke; rw [List.take_length] at ho; subst ho; exact ⟨_, ⟨_, _, rfl, by assumption⟩, rlB⟩)
def arcOk (a : Nfa) (i : Nat) : Bool :=
 inR 0 (a.states - 1) (a.arcs[i]?.getD default).from' && (inR 0 (a.states - 1) (a.arcs[i]?.getD default).to && (labelOk (a.arcs[i]?.getD default).label && (decide (i = 0) || arcLess (a.arcs[i - 1]?.getD default) (a.arcs[i]?.getD default))))
def nfaOk (a : Nfa) : Bool := inR 1 24 a.states && (decide ((a.ends.length : Int) = a.states) && allK (arcOk a) a.arcs.length)
theorem nfaOk_no {a : Nfa} {k : Nat} (h1 : k < a.arcs.length) (h : arcOk a k = false) : nfaOk a = false := by unfold nfaOk; rw [allK_no h _ h1]; simp
theorem nfaOk_yes {a : Nfa} (h : 1 ≤ a.states ∧ a.states ≤ 24) (h1 : (a.ends.length : Int) = a.states) (h2 : allK (arcOk a) a.arcs.length = true) : nfaOk a = true := by unfold nfaOk; rw [inR_iff.2 h, decide_eq_true h1, h2]; rfl
theorem arcOk_no4 {a : Nfa} {i : Nat} (h0 : ¬ i = 0) (h : arcLess (a.arcs[i - 1]?.getD default) (a.arcs[i]?.getD default) = false) : arcOk a i = false := by unfold arcOk; rw [h, decide_eq_false h0]; simp
theorem arcOk_no3 {a : Nfa} {i : Nat} (h : ¬ (97 ≤ ((a.arcs[i]?.getD default).label.toNat : Int) ∧ ((a.arcs[i]?.getD default).label.toNat : Int) ≤ 100)) : arcOk a i = false := by
 unfold arcOk labelOk; rcases Classical.not_and_iff_not_or_not.1 h with h | h <;> (rw [decide_eq_false h]; simp)
theorem arcOk_no2 {a : Nfa} {i : Nat} (h : inR 0 (a.states - 1) (a.arcs[i]?.getD default).to = false) : arcOk a i = false := by unfold arcOk; rw [h]; simp
theorem arcOk_no1 {a : Nfa} {i : Nat} (h : inR 0 (a.states - 1) (a.arcs[i]?.getD default).from' = false) : arcOk a i = false := by unfold arcOk; rw [h]; simp
theorem arcOk_yes {a : Nfa} {i : Nat} (h1 : inR 0 (a.states - 1) (a.arcs[i]?.getD default).from' = true) (h2 : inR 0 (a.states - 1) (a.arcs[i]?.getD default).to = true) (h3 : 97 ≤ ((a.arcs[i]?.getD default).label.toNat : Int)) (h4 : ((a.arcs[i]?.getD default).label.toNat : Int) ≤ 100) (h5 : i = 0 ∨ arcLess (a.arcs[i - 1]?.getD default) (a.arcs[i]?.getD default) = true) : arcOk a i = true := by
 unfold arcOk labelOk; rw [h1, h2, decide_eq_true h3, decide_eq_true h4]
 rcases h5 with h | h
 ·rw [decide_eq_true h]; rfl
 rw [h]; simp
theorem specNfaOk_ct (l : List Value) (a : Nfa) : Ct prog 177 [.agg ⟨l⟩] [] (fun H => gNfa.rd H l a) (fun v A => v = .bool (nfaOk a) ∧ A = []) := by
 refine Ct.intro0 G_ok func177 rfl rfl rfl fun E H hp => ?_
 obtain ⟨b1p, c1p, b2p, c2p, rfl, w0p, h1p, h2p⟩ := gNfa_rd.1 hp
 have hl1 := (rd_len (xs := a.arcs) h1p).2
 refine ⟨fun x0 => ?_⟩
 refine call_val (l01In_ct _ _ _) trivial ?_
 rintro _ rfl
 refine ⟨fun q2 => ?_, fun q2 => ?_⟩
 ·simp at q2
  exact ⟨[], ⟨by unfold nfaOk; rw [‹inR 1 24 a.states = false›]; rfl, rfl⟩, .mem (by simp)⟩
 ·simp at q2
  have iq2 := inR_iff.1 q2
  refine ⟨fun q3 => ?_, fun q3 => ?_⟩
  ·simp at q3
   exact ⟨[], ⟨by unfold nfaOk; rw [decide_eq_false (by omega : ¬ (a.ends.length : Int) = a.states)]; simp, rfl⟩, .mem (by simp)⟩
  ·simp at q3
   apply loop_mod (α := (Nat)) G_ok [17, 18, 19, 20, 21, 24, 25, 26, 27, 28, 4, 29, 30, 31, 32, 33, 34, 35, 36, 37, 38, 39, 40, 41, 42, 43, 44, 45, 46, 47, 48, 49, 50, 51, 52, 53, 54, 55, 56, 57, 58, 59, 60, 61, 62, 63, 64, 65, 66, 67, 68, 69, 2, 22, 23, 3] (fun z => [(3, .v (.int .i64 z))]) (fun z => [{ id := x0, cs := [Value.int IntKind.i64 a.states, Value.slice b1p a.arcs.length c1p, Value.slice b2p a.ends.length c2p], ty := (212 : Nat) }]) (fun z => [H]) (fun z => a.arcs.length - z) (fun z => z ≤ a.arcs.length ∧ allK (arcOk a) z = true) (0)
   ·exact frI
   ·exact ⟨rfl, trivial⟩
   ·exact ⟨by omega, rfl⟩
   ·exact .refl _
   rintro k hI
   obtain ⟨hk, ha⟩ : k ≤ a.arcs.length ∧ allK (arcOk a) k = true := hI
   try dsimp only
   refine ⟨fun q4 => ?_, fun q4 => ?_⟩
   ·simp at q4
    refine idx_rd h1p ?_ ?_ fun b5 o5 hb5 => ?_
    ·omega
    ·omega
    refine load_allN default (k) rfl h1p ?_ ?_ hb5 rfl (mem_at 0 rfl) fun l6 hl6 => ?_
    ·omega
    ·omega
    obtain ⟨rfl, w0x6, w2x6⟩ := gArc_rd.1 hl6
    refine ⟨fun x7 => ?_⟩
    refine draw G_ok mixed none (.q 0 (.q 1 (.q 2 (.q 3 (.q 4 (.f 5 (.q 6 (.q 7 (.q 8 (.q 9 (.q 10 (.q 11 (.q 12 (.f 13 (.q 14 (.q 15 (.q 16 (.q 17 (.q 18 (.q 19 (.q 20 (.q 21 (.q 22 (.q 23 (.q 24 (.q 25 (.q 26 (.q 27 (.q 28 (.q 29 (.q 30 (.q 31 (.q 32 (.q 33 (.q 34 (.q 35 (.q 36 (.f 37 (.q 38 (.q 39 (.q 40 (.nil)))))))))))))))))))))))))))))))))))))))))) (by decide +kernel) ?_
    refine call_val (l01In_ct _ _ _) trivial ?_
    rintro _ rfl
    refine VC.intro ?_ ?_
    ·exact fun _ h => h
    refine ⟨fun q9 => ?_, fun q9 => ?_⟩
    ·simp at q9
     simp (disch := omega) only [wrap_of] at q9
     exact ⟨[], ⟨by rw [nfaOk_no (k := k) (by omega) (arcOk_no1 (by assumption))], rfl⟩, .mem (by simp)⟩
    ·simp at q9
     simp (disch := omega) only [wrap_of] at q9
     have iq9 := inR_iff.1 q9
     refine call_val (l01In_ct _ _ _) trivial ?_
     rintro _ rfl
     refine VC.intro ?_ ?_
     ·exact fun _ h => h
     refine ⟨fun q11 => ?_, fun q11 => ?_⟩
     ·simp at q11
      simp (disch := omega) only [wrap_of] at q11
      exact ⟨[], ⟨by rw [nfaOk_no (k := k) (by omega) (arcOk_no2 (by assumption))], rfl⟩, .mem (by simp)⟩
     ·simp at q11
      simp (disch := omega) only [wrap_of] at q11
      have iq11 := inR_iff.1 q11
      refine ⟨fun q12 => ?_, fun q12 => ?_⟩
      ·simp at q12
       exact ⟨[], ⟨by rw [nfaOk_no (k := k) (by omega) (arcOk_no3 (by omega))], rfl⟩, .mem (by simp)⟩
      ·simp at q12
       refine ⟨fun q13 => ?_, fun q13 => ?_⟩
       ·simp at q13
        exact ⟨[], ⟨by rw [nfaOk_no (k := k) (by omega) (arcOk_no3 (by omega))], rfl⟩, .mem (by simp)⟩
       ·simp at q13
        refine ⟨fun q14 => ?_, fun q14 => ?_⟩
        ·simp at q14
         refine idx_rd h1p ?_ ?_ fun b15 o15 hb15 => ?_
         ·(simp (disch := omega) only [wrap_of]; omega)
         ·(simp (disch := omega) only [wrap_of]; omega)
         refine load_all default h1p ?_ ?_ hb15 rfl (mem_at 0 rfl) fun l16 hl16 => ?_
         ·(simp (disch := omega) only [wrap_of]; omega)
         ·(simp (disch := omega) only [wrap_of]; omega)
         rw [show (IntKind.i64.wrap ((k : Int) - 1)).toNat = k - 1 by (simp (disch := omega) only [wrap_of]; omega)] at hl16
         obtain ⟨rfl, w0x16, w2x16⟩ := gArc_rd.1 hl16
         refine call_val (l07Less_ct _ _ (a.arcs[k - (1 : Nat)]?.getD default) (a.arcs[k]?.getD default)) ⟨(Rp.mono _ (mem_at 0 rfl) hl16), (Rp.mono _ (mem_at 0 rfl) hl6)⟩ ?_
         rintro _ rfl
         refine VC.intro ?_ ?_
         ·exact fun _ h => h
         refine ⟨fun q18 => ?_, fun q18 => ?_⟩
         ·simp at q18
          exact ⟨[], ⟨by rw [nfaOk_no (k := k) (by omega) (arcOk_no4 (by omega) (by assumption))], rfl⟩, .mem (by simp)⟩
         ·simp at q18
          apply loop_stepA (k + 1)
          ·exact .refl _
          ·exact frI
          ·exact ⟨rfl, trivial⟩
          ·exact ⟨by omega, allK_step ha (arcOk_yes (by assumption) (by assumption) (by omega) (by omega) (by first | exact .inr (by assumption) | exact .inl (by omega)))⟩
          omega
        ·simp at q14
         apply loop_stepA (k + 1)
         ·exact .refl _
         ·exact frI
         ·exact ⟨rfl, trivial⟩
         ·exact ⟨by omega, allK_step ha (arcOk_yes (by assumption) (by assumption) (by omega) (by omega) (by first | exact .inr (by assumption) | exact .inl (by omega)))⟩
         omega
   ·simp at q4
    (have hke : k = a.arcs.length := (by omega); subst hke; exact ⟨[], ⟨by rw [nfaOk_yes (by omega) (by omega) ha], rfl⟩, .mem (by simp)⟩)
end
section
attribute [local irreducible] IntKind.wrap
def codeA (a : Arc) : Nat := a.from'.toNat * 65536 + a.label.toNat * 256 + a.to.toNat
def rngA (a : Arc) : Prop := (0 ≤ a.from' ∧ a.from' ≤ 24) ∧ (0 ≤ a.to ∧ a.to ≤ 24)
theorem less_code {a b : Arc} (ha : rngA a) (hb : rngA b) : arcLess a b = true ↔ codeA a < codeA b := by
 obtain ⟨⟨a1, a2⟩, a3, a4⟩ := ha
 obtain ⟨⟨b1, b2⟩, b3, b4⟩ := hb
 have ha := a.label.toNat_lt
 have hb := b.label.toNat_lt
 unfold arcLess codeA
 split
 ·rename_i h1
  split
  ·rename_i h2; rw [h1, h2, decide_eq_true_iff]; omega
  rename_i h2
  have h3 : a.label.toNat ≠ b.label.toNat := fun e => h2 (UInt8.toNat_inj.1 e)
  rw [h1, decide_eq_true_iff]; omega
 rw [decide_eq_true_iff]; omega
def SortA (xs : List Arc) : Prop := xs.Pairwise (fun a b => codeA a < codeA b) ∧ ∀ x ∈ xs, rngA x
theorem incr_len : ∀ (xs : List Arc) (lo N : Nat), lo ≤ N → xs.Pairwise (fun a b => codeA a < codeA b) → (∀ x ∈ xs, lo ≤ codeA x) → (∀ x ∈ xs, codeA x < N) → lo + xs.length ≤ N
 | [], lo, N, h, _, _, _ => by simpa using h
 | x :: xs, lo, N, h, hp, h1, h2 => by
  obtain ⟨p1, p2⟩ := List.pairwise_cons.1 hp
  have hx := h1 x (List.mem_cons_self ..)
  have hN := h2 x (List.mem_cons_self ..)
  have := incr_len xs (codeA x + 1) N (by omega) p2 (fun y hy => p1 y hy) (fun y hy => h2 y (List.mem_cons_of_mem _ hy))
  rw [List.length_cons]; omega
theorem sortA_len {xs : List Arc} (h : SortA xs) : xs.length ≤ 2000000 := by
 have := incr_len xs 0 2000000 (by omega) h.1 (fun _ _ => Nat.zero_le _) (fun x hx => by
  obtain ⟨⟨a1, a2⟩, a3, a4⟩ := h.2 x hx
  have := x.label.toNat_lt
  unfold codeA; omega)
 omega
theorem putA_sort {xs : List Arc} {x : Arc} (h : SortA xs) (hx : rngA x) : SortA (putA xs x) := by
 have hl : ∀ y ∈ xs.filter (fun y => arcLess y x), codeA y < codeA x := fun y hy => (less_code (h.2 y (List.mem_filter.1 hy).1) hx).1 (List.mem_filter.1 hy).2
 have hr : ∀ y ∈ xs.filter (fun y => arcLess x y), codeA x < codeA y := fun y hy => (less_code hx (h.2 y (List.mem_filter.1 hy).1)).1 (List.mem_filter.1 hy).2
 unfold putA
 refine ⟨List.pairwise_append.2 ⟨h.1.filter _, List.pairwise_append.2 ⟨List.pairwise_singleton _ _, h.1.filter _, ?_⟩, ?_⟩, ?_⟩
 ·intro a ha b hb; rw [List.mem_singleton.1 ha]; exact hr b hb
 ·intro a ha b hb
  have h1 := hl a ha
  rcases List.mem_append.1 hb with hb | hb
  ·rw [List.mem_singleton.1 hb]; exact h1
  exact Nat.lt_trans h1 (hr b hb)
 intro a ha
 rcases List.mem_append.1 ha with ha | ha
 ·exact h.2 a (List.mem_filter.1 ha).1
 rcases List.mem_append.1 ha with ha | ha
 ·rw [List.mem_singleton.1 ha]; exact hx
 exact h.2 a (List.mem_filter.1 ha).1
def arcOf (lb : List UInt8) (f t : Int) : Arc := ⟨f, lb[(t - 1).toNat]?.getD default, t⟩
def joinT (lb : List UInt8) (f : Int) (to : List Int) (xs : List Arc) : List Arc := to.foldl (fun acc t => putA acc (arcOf lb f t)) xs
def joinA (lb : List UInt8) (fr to : List Int) (xs : List Arc) : List Arc := fr.foldl (fun acc f => joinT lb f to acc) xs
theorem joinT_next {lb : List UInt8} {f : Int} {to : List Int} {xs : List Arc} {k : Nat} (h : k < to.length) : joinT lb f (to.take (k + 1)) xs = putA (joinT lb f (to.take k) xs) (arcOf lb f (to[k]?.getD 0)) := by
 unfold joinT; rw [← List.take_append_getElem h, List.foldl_append, List.getElem?_eq_getElem h]; rfl
theorem joinA_next {lb : List UInt8} {fr to : List Int} {xs : List Arc} {k : Nat} (h : k < fr.length) : joinA lb (fr.take (k + 1)) to xs = joinT lb (fr[k]?.getD 0) to (joinA lb (fr.take k) to xs) := by
 unfold joinA; rw [← List.take_append_getElem h, List.foldl_append, List.getElem?_eq_getElem h]; rfl
def FromOk (l : List Int) : Prop := ∀ x ∈ l, 0 ≤ x ∧ x ≤ 24
def ToOk (n : Nat) (l : List Int) : Prop := ∀ x ∈ l, 1 ≤ x ∧ x ≤ n
theorem get_all {P : Int → Prop} {l : List Int} {k : Nat} (h : ∀ x ∈ l, P x) (hk : k < l.length) : P (l[k]?.getD 0) := by
 rw [List.getElem?_eq_getElem hk]; exact h _ (List.getElem_mem hk)
theorem joinT_sort {lb : List UInt8} {f : Int} {n : Nat} (hf : 0 ≤ f ∧ f ≤ 24) (hn : n ≤ 24) : ∀ {to : List Int} {xs : List Arc}, ToOk n to → SortA xs → SortA (joinT lb f to xs)
 | [], _, _, h => h
 | t :: to, xs, ht, h => by
  have h1 := ht t (List.mem_cons_self ..)
  exact joinT_sort (to := to) hf hn (fun x hx => ht x (List.mem_cons_of_mem _ hx)) (putA_sort h ⟨hf, by show 0 ≤ t ∧ t ≤ 24; omega⟩)
theorem joinA_sort {lb : List UInt8} {n : Nat} {to : List Int} (hn : n ≤ 24) (ht : ToOk n to) : ∀ {fr : List Int} {xs : List Arc}, FromOk fr → SortA xs → SortA (joinA lb fr to xs)
 | [], _, _, h => h
 | f :: fr, xs, hf, h => joinA_sort (fr := fr) hn ht (fun x hx => hf x (List.mem_cons_of_mem _ hx)) (joinT_sort (hf f (List.mem_cons_self ..)) hn ht h)
theorem take_all {P : Int → Prop} {l : List Int} (h : ∀ x ∈ l, P x) (k : Nat) : ∀ x ∈ l.take k, P x := fun x hx => h x (List.mem_of_mem_take hx)
theorem arcOf_rd {H : Hp} {lb : List UInt8} {f t : Int} {n : Nat} (hf : 0 ≤ f ∧ f ≤ 24) (ht : 1 ≤ t ∧ t ≤ n) (hn : n ≤ 24) : gArc.rd H [.int .i64 f, .int .u8 ((lb[(t - 1).toNat]?.getD default).toNat : Nat), .int .i64 t] (arcOf lb f t) := by
 have h1 : okI f := by unfold okI; omega
 have h2 : okI t := by unfold okI; omega
 exact gArc_rd.2 ⟨rfl, h1, h2⟩
theorem mJoin_ct (q : Nat) (v0 v3 : Value) (bl bf bt : Option Addr) (cl cf ct : Nat) (lb : List UInt8) (fr to : List Int) (b : Option Addr) (c : Nat) (xs : List Arc) (A : Hp) (hA : (gSl 282 gArc).ow [.slice b xs.length c] xs A) (hs : SortA xs) (hf : FromOk fr) (ht : ToOk lb.length to) (hn : lb.length ≤ 24) :
  CtR prog 176 [.pointer (some ⟨q, 0, none⟩), .slice bf fr.length cf, .slice bt to.length ct] ((q, Obj.cells ⟨[v0, .slice bl lb.length cl, .slice b xs.length c, v3]⟩ 249) :: A)
   (fun H => (gSl 5 gY).rd H [.slice bl lb.length cl] lb ∧ (gSl 3 gI).rd H [.slice bf fr.length cf] fr ∧ (gSl 3 gI).rd H [.slice bt to.length ct] to)
   (fun r D => ∃ b c A', r = .tuple #[] ∧ D = (q, Obj.cells ⟨[v0, .slice bl lb.length cl, .slice b (joinA lb fr to xs).length c, v3]⟩ 249) :: A' ∧ (gSl 282 gArc).ow [.slice b (joinA lb fr to xs).length c] (joinA lb fr to xs) A') := by
 refine CtR.introB G_ok [.p 0 0, .v (.slice bf fr.length cf), .v (.slice bt to.length ct)] [⟨q, [v0, .slice bl lb.length cl, .slice b xs.length c, v3], 249⟩] [A] func176 rfl rfl rfl rfl (by simp [SV.ok]) (by simp [Blk.ent]) fun E H hp => ?_
 obtain ⟨hpl, hpf, hpt⟩ := hp
 obtain ⟨_, hcf, hlf⟩ := sl_len hpf
 obtain ⟨_, hct, hlt⟩ := sl_len hpt
 apply loop_mod (α := (Nat) × (Option Addr) × (Nat) × (Hp)) G_ok [8, 9, 10, 11, 7, 14, 15, 16, 17, 20, 21, 22, 23, 24, 25, 26, 27, 28, 29, 30, 31, 32, 33, 34, 35, 36, 37, 38, 39, 40, 41, 42, 43, 44, 45, 46, 47, 18, 19, 12, 13, 6] (fun z => [(6, .v (.int .i64 z.1))]) (fun z => [⟨q, [v0, Value.slice bl lb.length cl, .slice z.2.1 (joinA lb (fr.take z.1) to xs).length z.2.2.1, v3], (249 : TypeId)⟩]) (fun z => [z.2.2.2, H]) (fun z => fr.length - z.1) (fun z => z.1 ≤ fr.length ∧ (gSl 282 gArc).ow [.slice z.2.1 (joinA lb (fr.take z.1) to xs).length z.2.2.1] (joinA lb (fr.take z.1) to xs) z.2.2.2) ((0, b, c, A))
 ·exact frI
 ·exact ⟨rfl, trivial⟩
 ·try dsimp only
  exact ⟨Nat.zero_le _, hA⟩
 ·exact .refl _
 rintro ⟨i, b2, c2, B⟩ hI
 try dsimp only at hI
 obtain ⟨hi, oB⟩ := hI
 try dsimp only
 refine ⟨fun q0 => ?_, fun q0 => ?_⟩
 ·simp at q0
  have hfi := get_all hf (by omega : i < fr.length)
  have hsi := joinA_sort (lb := lb) hn ht (take_all hf i) hs
  apply loop_mod (α := (Nat) × (Option Addr) × (Nat) × (Hp)) G_ok [14, 15, 16, 17, 20, 21, 22, 23, 24, 25, 26, 27, 28, 29, 30, 31, 32, 33, 34, 35, 36, 37, 38, 39, 40, 41, 42, 43, 44, 45, 46, 47, 18, 19, 7] (fun z => [(7, .v (.int .i64 z.1))]) (fun z => [⟨q, [v0, Value.slice bl lb.length cl, .slice z.2.1 (joinT lb (fr[i]?.getD 0) (to.take z.1) (joinA lb (fr.take i) to xs)).length z.2.2.1, v3], (249 : TypeId)⟩]) (fun z => [z.2.2.2, H]) (fun z => to.length - z.1) (fun z => z.1 ≤ to.length ∧ (gSl 282 gArc).ow [.slice z.2.1 (joinT lb (fr[i]?.getD 0) (to.take z.1) (joinA lb (fr.take i) to xs)).length z.2.2.1] (joinT lb (fr[i]?.getD 0) (to.take z.1) (joinA lb (fr.take i) to xs)) z.2.2.2) ((0, b2, c2, B))
  ·exact frI
  ·exact ⟨rfl, trivial⟩
  ·try dsimp only
   exact ⟨Nat.zero_le _, oB⟩
  ·exact .refl _
  rintro ⟨k, b3, c3, C⟩ hI
  try dsimp only at hI
  obtain ⟨hk, oC⟩ := hI
  try dsimp only
  refine ⟨fun q1 => ?_, fun q1 => ?_⟩
  ·simp at q1
   have hti := get_all ht (by omega : k < to.length)
   have hsk := sortA_len (joinT_sort (lb := lb) hfi hn (take_all ht k) hsi)
   refine draw G_ok mixed (some 28) (.q 0 (.q 1 (.q 2 (.q 3 (.q 4 (.q 5 (.q 6 (.q 7 (.q 8 (.q 9 (.q 10 (.q 11 (.q 12 (.q 13 (.q 14 (.q 15 (.q 16 (.q 17 (.q 18 (.q 19 (.q 20 (.q 21 (.q 22 (.q 23 (.q 24 (.f 25 (.q 26 (.q 27 (.tl 28 (.nil)))))))))))))))))))))))))))))) (by decide +kernel) ?_
   refine idx_rd hpf ?_ ?_ fun b2 o2 hb2 => ?_
   ·omega
   ·omega
   refine load_allN 0 (i) rfl hpf ?_ ?_ hb2 rfl (mem_at 1 rfl) fun l3 hl3 => ?_
   ·omega
   ·omega
   obtain ⟨rfl, hw3⟩ := hl3; simp only [flStr, flInt, okI] at hw3
   refine idx_rd hpt ?_ ?_ fun b4 o4 hb4 => ?_
   ·omega
   ·omega
   refine load_allN 0 (k) rfl hpt ?_ ?_ hb4 rfl (mem_at 1 rfl) fun l5 hl5 => ?_
   ·omega
   ·omega
   obtain ⟨rfl, hw5⟩ := hl5; simp only [flStr, flInt, okI] at hw5
   refine idx_rd hpl ?_ ?_ fun b6 o6 hb6 => ?_
   ·(simp (disch := omega) only [wrap_of]; omega)
   ·(simp (disch := omega) only [wrap_of]; omega)
   refine load_all 0 hpl ?_ ?_ hb6 rfl (mem_at 1 rfl) fun l7 hl7 => ?_
   ·(simp (disch := omega) only [wrap_of]; omega)
   ·(simp (disch := omega) only [wrap_of]; omega)
   rw [show (IntKind.i64.wrap ((to[k]?.getD 0) - 1)).toNat = ((to[k]?.getD 0) - 1).toNat by (simp (disch := omega) only [wrap_of])] at hl7
   obtain ⟨rfl, hw7⟩ := hl7
   refine idx_rd hpt ?_ ?_ fun b8 o8 hb8 => ?_
   ·omega
   ·omega
   refine load_allN 0 (k) rfl hpt ?_ ?_ hb8 rfl (mem_at 1 rfl) fun l9 hl9 => ?_
   ·omega
   ·omega
   obtain ⟨rfl, hw9⟩ := hl9; simp only [flStr, flInt, okI] at hw9
   refine call_new (l07Put_ct _ _ _ _ (joinT lb (fr[i]?.getD (0 : Int)) (List.take k to) (joinA lb (List.take i fr) to xs)) (arcOf lb (fr[i]?.getD 0) (to[k]?.getD 0)) ?_) ⟨(Rp.mono _ (mem_at 0 rfl) (Gt.owrd _ oC)), arcOf_rd hfi hti hn⟩ ?_
   ·omega
   rintro v10 A10 o10
   obtain ⟨b10, c10, rfl, o10⟩ := o10
   refine VC.intro ?_ ?_
   ·exact keep_new
   apply loop_stepA (k + 1, _, _, _)
   ·exact .sub (by repeat (first | exact .slnil | apply List.Sublist.cons_cons | apply List.Sublist.cons))
   ·exact frI
   ·(simp only [joinT_next ‹k < to.length›]; repeat' (first | exact trivial | refine ⟨by first | rfl | simp [Blk.ent], ?_⟩))
   ·try dsimp only
    (rw [joinT_next (by omega)]; exact ⟨by omega, by assumption⟩)
   try dsimp only
   omega
  ·simp at q1
   obtain rfl : k = to.length := by omega
   apply loop_stepA (i + 1, _, _, _)
   ·exact .refl _
   ·exact frI
   ·(simp only [joinA_next ‹i < fr.length›, List.take_length]; repeat' (first | exact trivial | refine ⟨by first | rfl | simp [Blk.ent], ?_⟩))
   ·try dsimp only
    (rw [List.take_length] at oC; rw [joinA_next (by omega)]; exact ⟨by omega, oC⟩)
   try dsimp only
   omega
 ·simp at q0
  (have hke : i = fr.length := (by omega); subst hke; rw [List.take_length] at oB; exact ⟨_, ⟨_, _, _, rfl, rfl, oB⟩, rlB⟩)
end
section
structure Look where
 first : List Int
 last : List Int
 null : Bool
deriving Inhabited
abbrev MkS := List UInt8 × List Arc
def badM (s : MkS) : Bool := decide (24 ≤ s.1.length)
def lkRow (st r : MkS × Look) : MkS × Look :=
 ((r.1.1, joinA r.1.1 st.2.last r.2.first r.1.2), ⟨if st.2.null = true then st.2.first ++ r.2.first else st.2.first, if r.2.null = true then st.2.last ++ r.2.last else r.2.last, st.2.null && r.2.null⟩)
def lkAlt (st r : MkS × Look) : MkS × Look := (r.1, ⟨st.2.first ++ r.2.first, st.2.last ++ r.2.last, st.2.null || r.2.null⟩)
def lkOne (op : Int) (r : MkS × Look) : MkS × Look := ((r.1.1, if op = 6 then r.1.2 else joinA r.1.1 r.2.last r.2.first r.1.2), ⟨r.2.first, r.2.last, r.2.null || decide (op ≠ 5)⟩)
def lkStep (op : Int) (V : Nat → MkS → MkS × Look) (st : MkS × Look) (kid : Int) : MkS × Look :=
 if badM st.1 = true then st else if op = 2 then lkRow st (V kid.toNat st.1) else if op = 3 then lkAlt st (V kid.toNat st.1) else lkOne op (V kid.toNat st.1)
def look (ps : List Piece) : Nat → Nat → MkS → MkS × Look
 | 0, _, s => (s, ⟨[], [], false⟩)
 | n + 1, i, s =>
  if (ps[i]?.getD default).op = 1 then ((s.1 ++ [(ps[i]?.getD default).label], s.2), ⟨[((s.1.length + 1 : Nat) : Int)], [((s.1.length + 1 : Nat) : Int)], false⟩)
  else (ps[i]?.getD default).kids.foldl (lkStep (ps[i]?.getD default).op (look ps n)) (s, ⟨[], [], decide ((ps[i]?.getD default).op = 2)⟩)
theorem putA_all {P : Arc → Prop} {xs : List Arc} {x : Arc} (h : ∀ y ∈ xs, P y) (hx : P x) : ∀ y ∈ putA xs x, P y := by
 intro y hy
 unfold putA at hy
 rcases List.mem_append.1 hy with hy | hy
 ·exact h y (List.mem_filter.1 hy).1
 rcases List.mem_append.1 hy with hy | hy
 ·rw [List.mem_singleton.1 hy]; exact hx
 exact h y (List.mem_filter.1 hy).1
theorem joinT_all {P : Arc → Prop} {lb : List UInt8} {f : Int} : ∀ {to : List Int} {xs : List Arc}, (∀ y ∈ xs, P y) → (∀ t ∈ to, P (arcOf lb f t)) → ∀ y ∈ joinT lb f to xs, P y
 | [], _, h, _ => h
 | t :: to, _, h, ht => joinT_all (to := to) (putA_all h (ht t (List.mem_cons_self ..))) (fun x hx => ht x (List.mem_cons_of_mem _ hx))
theorem joinA_all {P : Arc → Prop} {lb : List UInt8} {to : List Int} : ∀ {fr : List Int} {xs : List Arc}, (∀ y ∈ xs, P y) → (∀ f ∈ fr, ∀ t ∈ to, P (arcOf lb f t)) → ∀ y ∈ joinA lb fr to xs, P y
 | [], _, h, _ => h
 | f :: fr, _, h, ht => joinA_all (fr := fr) (joinT_all h (ht f (List.mem_cons_self ..))) (fun x hx => ht x (List.mem_cons_of_mem _ hx))
def GoodM (s : MkS) : Prop := SortA s.2 ∧ (∀ b ∈ s.1, labelOk b = true) ∧ ∀ x ∈ s.2, labelOk x.label = true ∧ x.from' ≤ s.1.length ∧ x.to ≤ s.1.length
theorem join_good {lb : List UInt8} {fr to : List Int} {xs : List Arc} (h : GoodM (lb, xs)) (hn : lb.length ≤ 24) (hf : ∀ f ∈ fr, 0 ≤ f ∧ f ≤ (lb.length : Int)) (ht : ToOk lb.length to) : GoodM (lb, joinA lb fr to xs) := by
 refine ⟨joinA_sort hn ht (fun f h1 => ?_) h.1, h.2.1, joinA_all h.2.2 (fun f h1 t h2 => ?_)⟩
 ·have := hf f h1; omega
 have a1 := hf f h1
 have a2 := ht t h2
 refine ⟨?_, a1.2, a2.2⟩
 show labelOk (lb[(t - 1).toNat]?.getD default) = true
 rw [List.getElem?_eq_getElem (by omega)]
 exact h.2.1 _ (List.getElem_mem _)
def LFine (s : MkS) (c : Nat) (r : MkS × Look) : Prop :=
 GoodM r.1 ∧ r.1.1.length = min 24 (s.1.length + c) ∧ ToOk r.1.1.length r.2.first ∧ ToOk r.1.1.length r.2.last ∧ r.2.first.length + s.1.length ≤ r.1.1.length ∧ r.2.last.length + s.1.length ≤ r.1.1.length
theorem toOk_mono {a b : Nat} {l : List Int} (h : ToOk a l) (hab : a ≤ b) : ToOk b l := fun x hx => by have := h x hx; omega
theorem toOk_app {n : Nat} {a b : List Int} (ha : ToOk n a) (hb : ToOk n b) : ToOk n (a ++ b) := fun x hx => (List.mem_append.1 hx).elim (ha x) (hb x)
theorem lkRow_fine {s : MkS} {c d : Nat} {st r : MkS × Look} (h : LFine s c st) (hr : LFine st.1 d r) : LFine s (c + d) (lkRow st r) := by
 obtain ⟨h1, h2, h3, h4, h5, h6⟩ := h
 obtain ⟨g1, g2, g3, g4, g5, g6⟩ := hr
 have hm : st.1.1.length ≤ r.1.1.length := by omega
 have hs : s.1.length ≤ st.1.1.length := by omega
 refine ⟨join_good g1 (by omega) (fun f hf => by have := h4 f hf; omega) g3, by show r.1.1.length = _; omega, ?_, ?_, ?_, ?_⟩
 ·show ToOk r.1.1.length (if _ then _ else _)
  split
  ·exact toOk_app (toOk_mono h3 hm) g3
  exact toOk_mono h3 hm
 ·show ToOk r.1.1.length (if _ then _ else _)
  split
  ·exact toOk_app (toOk_mono h4 hm) g4
  exact g4
 ·show (if _ then _ else _ : List Int).length + s.1.length ≤ r.1.1.length
  split
  ·rw [List.length_append]; omega
  omega
 show (if _ then _ else _ : List Int).length + s.1.length ≤ r.1.1.length
 split
 ·rw [List.length_append]; omega
 omega
theorem lkAlt_fine {s : MkS} {c d : Nat} {st r : MkS × Look} (h : LFine s c st) (hr : LFine st.1 d r) : LFine s (c + d) (lkAlt st r) := by
 obtain ⟨h1, h2, h3, h4, h5, h6⟩ := h
 obtain ⟨g1, g2, g3, g4, g5, g6⟩ := hr
 have hm : st.1.1.length ≤ r.1.1.length := by omega
 refine ⟨g1, by show r.1.1.length = _; omega, toOk_app (toOk_mono h3 hm) g3, toOk_app (toOk_mono h4 hm) g4, ?_, ?_⟩
 ·show (st.2.first ++ r.2.first).length + s.1.length ≤ r.1.1.length
  rw [List.length_append]; omega
 show (st.2.last ++ r.2.last).length + s.1.length ≤ r.1.1.length
 rw [List.length_append]; omega
theorem lkOne_fine {s : MkS} {c : Nat} {op : Int} {r : MkS × Look} (hr : LFine s c r) : LFine s c (lkOne op r) := by
 obtain ⟨g1, g2, g3, g4, g5, g6⟩ := hr
 refine ⟨?_, g2, g3, g4, g5, g6⟩
 unfold lkOne
 split
 ·exact g1
 exact join_good g1 (by omega) (fun f hf => by have := g4 f hf; omega) g3
theorem lfine_zero {s : MkS} {e : Bool} (h : GoodM s) (hs : s.1.length ≤ 23) : LFine s 0 (s, ⟨[], [], e⟩) := ⟨h, by show s.1.length = _; omega, (fun _ h => by cases h), (fun _ h => by cases h), Nat.le_of_eq (Nat.zero_add _), Nat.le_of_eq (Nat.zero_add _)⟩
theorem good_label {s : MkS} {b : UInt8} (h : GoodM s) (hb : labelOk b = true) : GoodM (s.1 ++ [b], s.2) := by
 refine ⟨h.1, ?_, ?_⟩
 ·intro x hx
  rcases List.mem_append.1 hx with hx | hx
  ·exact h.2.1 x hx
  rw [List.mem_singleton.1 hx]; exact hb
 intro x hx
 have := h.2.2 x hx
 refine ⟨this.1, ?_, ?_⟩ <;> (show _ ≤ (((s.1 ++ [b]).length : Nat) : Int); rw [List.length_append, List.length_singleton]; omega)
theorem lfine_bad {s : MkS} {c d : Nat} {st : MkS × Look} (h : LFine s c st) (hb : badM st.1 = true) : LFine s (c + d) st := by
 obtain ⟨h1, h2, h3, h4, h5, h6⟩ := h
 have := of_decide_eq_true hb
 exact ⟨h1, by omega, h3, h4, h5, h6⟩
theorem bad_not {s : MkS} (h : ¬ badM s = true) : s.1.length ≤ 23 := by unfold badM at h; rw [decide_eq_true_iff] at h; omega
theorem piece_label {ps : List Piece} (hp : PsOk ps) {i : Nat} (hi : i < ps.length) (h : (ps[i]?.getD default).op = 1) : labelOk (ps[i]?.getD default).label = true := by
 rcases piece_iff.1 (hp i hi) with h1 | h1 | h1
 ·unfold labelOk; rw [Bool.and_eq_true, decide_eq_true_iff, decide_eq_true_iff]; have := h1.2; omega
 ·omega
 omega
theorem look_fine (ps : List Piece) : ∀ (n i : Nat) (s : MkS), GoodM s → s.1.length ≤ 23 → PsOk ps → i < ps.length → i < n → LFine s (cntF ps n i) (look ps n i s)
 | 0, i, s, _, _, _, _, h => by omega
 | n + 1, i, s, hg, hs, hp, hi, hn => by
  have hk := piece_iff.1 (hp i hi)
  have hkid : (ps[i]?.getD default).op ≠ 1 → ∀ k ∈ (ps[i]?.getD default).kids, k.toNat < i := by
   intro h1 k hk2
   have h3 : kidsOk (ps[i]?.getD default).kids i = true := by
    rcases hk with h | h | h
    ·exact absurd h.1 h1
    ·exact h.2.2.2
    exact h.2.2.2
   unfold kidsOk at h3
   have := inR_iff.1 (List.all_eq_true.1 h3 k hk2)
   omega
  have hfold : ∀ (S : MkS × Look → Int → MkS × Look), (∀ c st kid, kid.toNat < i → LFine s c st → LFine s (c + cntF ps n kid.toNat) (S st kid)) → ∀ (l : List Int), (∀ k ∈ l, k.toNat < i) → ∀ c st, LFine s c st → LFine s (c + sumK (cntF ps n) l) (l.foldl S st) := by
   intro S hS l
   induction l with
   | nil => intro _ c st h; exact h
   | cons k l ih =>
    intro hl c st h
    have := ih (fun k hk => hl k (List.mem_cons_of_mem _ hk)) (c + cntF ps n k.toNat) (S st k) (hS c st k (hl k (List.mem_cons_self ..)) h)
    rw [List.foldl_cons, show c + sumK (cntF ps n) (k :: l) = c + cntF ps n k.toNat + sumK (cntF ps n) l by simp only [sumK]; omega]
    exact this
  unfold look cntF
  split
  ·rename_i h1
   have e : (s.1 ++ [(ps[i]?.getD default).label]).length = s.1.length + 1 := by rw [List.length_append, List.length_singleton]
   refine ⟨good_label hg (piece_label hp hi h1), by show (s.1 ++ [_]).length = _; omega, ?_, ?_, ?_, ?_⟩
   ·intro x hx; rw [List.mem_singleton.1 hx]; show (1 : Int) ≤ ((s.1.length + 1 : Nat) : Int) ∧ ((s.1.length + 1 : Nat) : Int) ≤ (((s.1 ++ [_]).length : Nat) : Int); omega
   ·intro x hx; rw [List.mem_singleton.1 hx]; show (1 : Int) ≤ ((s.1.length + 1 : Nat) : Int) ∧ ((s.1.length + 1 : Nat) : Int) ≤ (((s.1 ++ [_]).length : Nat) : Int); omega
   ·show 1 + s.1.length ≤ (s.1 ++ [_]).length; omega
   show 1 + s.1.length ≤ (s.1 ++ [_]).length; omega
  rename_i h1
  by_cases h23 : (ps[i]?.getD default).op = 2 ∨ (ps[i]?.getD default).op = 3
  ·have := hfold (lkStep (ps[i]?.getD default).op (look ps n)) (fun c st kid hk2 h => by
    unfold lkStep
    split
    ·rename_i hb; exact lfine_bad h hb
    rename_i hb
    have hv := look_fine ps n kid.toNat st.1 h.1 (bad_not hb) hp (by omega) (by omega)
    split
    ·exact lkRow_fine h hv
    rw [if_pos (by omega)]; exact lkAlt_fine h hv) _ (hkid h1) 0 _ (lfine_zero (e := decide ((ps[i]?.getD default).op = 2)) hg hs)
   rwa [Nat.zero_add] at this
  have h4 : (ps[i]?.getD default).kids.length = 1 := by
   rcases hk with h | h | h
   ·exact absurd h.1 h1
   ·omega
   exact h.2.2.1
  obtain ⟨k, hk1⟩ := List.length_eq_one_iff.1 h4
  have hlt := hkid h1 k (by rw [hk1]; exact List.mem_singleton.2 rfl)
  rw [hk1]
  show LFine s (cntF ps n k.toNat + 0) (lkStep _ _ _ _)
  unfold lkStep
  have hnb : ¬ badM s = true := by unfold badM; rw [decide_eq_true_iff]; omega
  rw [if_neg hnb, if_neg (by omega), if_neg (by omega)]
  exact lkOne_fine (look_fine ps n k.toNat s hg hs hp (by omega) (by omega))
end
section
attribute [local irreducible] IntKind.wrap
def VisCt (ps : List Piece) (n : Nat) : Prop :=
 ∀ (q : Nat) (ki : Int) (i : Nat) (lb : List UInt8) (fo : List Nat) (bp bl bf : Option Addr) (cp cl cf : Nat) (AL AF : Hp), ki = i → i < ps.length → i < n → Good (lb, fo) → lb.length + cntF ps n i ≤ 23 →
  (gSl 5 gY).ow [.slice bl lb.length cl] lb AL → (gSl 301 gU).ow [.slice bf fo.length cf] fo AF →
  CtR prog 211 [.pointer (some ⟨q, 0, none⟩), .int .i64 ki] ((q, Obj.cells ⟨[.slice bp ps.length cp, .slice bl lb.length cl, .slice bf fo.length cf]⟩ 300) :: (AL ++ AF)) (fun H => (gSl 279 gPiece).rd H [.slice bp ps.length cp] ps)
   (fun v D => ∃ bl' cl' bf' cf' AL' AF', v = .agg ⟨[.int .u32 ((visit ps n i (lb, fo)).2.first : Nat), .int .u32 ((visit ps n i (lb, fo)).2.last : Nat), .bool (visit ps n i (lb, fo)).2.empty]⟩ ∧
    D = (q, Obj.cells ⟨[.slice bp ps.length cp, .slice bl' (visit ps n i (lb, fo)).1.1.length cl', .slice bf' (visit ps n i (lb, fo)).1.2.length cf']⟩ 300) :: (AL' ++ AF') ∧
    (gSl 5 gY).ow [.slice bl' (visit ps n i (lb, fo)).1.1.length cl'] (visit ps n i (lb, fo)).1.1 AL' ∧ (gSl 301 gU).ow [.slice bf' (visit ps n i (lb, fo)).1.2.length cf'] (visit ps n i (lb, fo)).1.2 AF')
theorem shl_one {L : Nat} (h : L < 32) : IntKind.u32.wrap (1 * 2 ^ min (IntKind.u64.wrap (IntKind.i64.wrap (((L + 1 : Nat) : Int) - 1))).toNat IntKind.u32.bits) = ((2 ^ L : Nat) : Int) := by
 have e1 : IntKind.i64.wrap (((L + 1 : Nat) : Int) - 1) = (L : Int) := by rw [wrap_of (by omega) (by omega)]; omega
 have e2 : (IntKind.u64.wrap (L : Int)).toNat = L := by rw [w64u]; omega
 have h2 := pow_mono (a := L) (b := 31) (by omega)
 rw [e1, e2, show min L IntKind.u32.bits = L from Nat.min_eq_left (by show L ≤ 32; omega), u32_wrap, Int.one_mul]
 have h3 : ((2 ^ L : Nat) : Int) = (2 : Int) ^ L := by push_cast; rfl
 rw [← h3]
 generalize 2 ^ L = x at h2 ⊢
 omega
theorem shl_app {lb : List UInt8} {x : UInt8} (h : lb.length < 32) : IntKind.u32.wrap (1 * 2 ^ min (IntKind.u64.wrap (IntKind.i64.wrap ((((lb ++ [x]).length : Nat) : Int) - 1))).toNat IntKind.u32.bits) = ((2 ^ lb.length : Nat) : Int) := by
 rw [List.length_append, List.length_singleton]; exact shl_one h
theorem u32_of {x a : Nat} (h : x < 2 ^ a) (ha : a ≤ 32) : x < 4294967296 := Nat.lt_of_lt_of_le h (pow_mono ha)
theorem zor_u32 {b : Nat} (hb : b < 4294967296) : IntKind.u32.wrap (((BitVec.ofInt IntKind.u32.bits 0 ||| BitVec.ofInt IntKind.u32.bits ((b : Nat) : Int)).toNat : Nat) : Int) = ((b : Nat) : Int) := by
 have := or_u32 (a := 0) (b := b) (by omega) hb
 rw [Nat.zero_or] at this; exact this
theorem perm2 {e : Nat × Obj} {A B : Hp} : (e :: (A ++ B)).Perm (e :: [A, B].flatten) := by simp
theorem visit_step {ps : List Piece} {n i : Nat} {s : Pos} (h : (ps[i]?.getD default).op = 1) : visit ps (n + 1) i s = ((s.1 ++ [(ps[i]?.getD default).label], s.2 ++ [0]), ⟨2 ^ s.1.length, 2 ^ s.1.length, false⟩) := by unfold visit; rw [if_pos h]
def rowK (ps : List Piece) (n : Nat) (s : Pos) (l : List Int) : Pos × Span := l.foldl (rowStep (visit ps n)) (s, ⟨0, 0, true⟩)
def altK (ps : List Piece) (n : Nat) (s : Pos) (l : List Int) : Pos × Span := l.foldl (altStep (visit ps n)) (s, ⟨0, 0, false⟩)
theorem visit_row {ps : List Piece} {n i : Nat} {s : Pos} (h : (ps[i]?.getD default).op = 2) : visit ps (n + 1) i s = rowK ps n s (ps[i]?.getD default).kids := by unfold visit; rw [if_neg (by omega), if_pos h]; rfl
theorem visit_alt {ps : List Piece} {n i : Nat} {s : Pos} (h : (ps[i]?.getD default).op = 3) : visit ps (n + 1) i s = altK ps n s (ps[i]?.getD default).kids := by unfold visit; rw [if_neg (by omega), if_neg (by omega), if_pos h]; rfl
theorem visit_one {ps : List Piece} {n i : Nat} {s : Pos} (h : ¬ (ps[i]?.getD default).op = 1) (h2 : ¬ (ps[i]?.getD default).op = 2) (h3 : ¬ (ps[i]?.getD default).op = 3) : visit ps (n + 1) i s = oneStep (ps[i]?.getD default).op (visit ps n ((ps[i]?.getD default).kids[0]?.getD 0).toNat s) := by
 conv => lhs; unfold visit
 rw [if_neg h, if_neg h2, if_neg h3]
theorem rowK_next {ps : List Piece} {n : Nat} {s : Pos} {l : List Int} {j : Nat} (hj : j < l.length) : rowK ps n s (l.take (j + 1)) = rowStep (visit ps n) (rowK ps n s (l.take j)) (l[j]?.getD 0) := by
 unfold rowK; rw [← List.take_append_getElem hj, List.foldl_append, List.getElem?_eq_getElem hj]; rfl
theorem altK_next {ps : List Piece} {n : Nat} {s : Pos} {l : List Int} {j : Nat} (hj : j < l.length) : altK ps n s (l.take (j + 1)) = altStep (visit ps n) (altK ps n s (l.take j)) (l[j]?.getD 0) := by
 unfold altK; rw [← List.take_append_getElem hj, List.foldl_append, List.getElem?_eq_getElem hj]; rfl
theorem rowK_nil {ps : List Piece} {n : Nat} {s : Pos} : rowK ps n s [] = (s, ⟨0, 0, true⟩) := rfl
theorem altK_nil {ps : List Piece} {n : Nat} {s : Pos} : altK ps n s [] = (s, ⟨0, 0, false⟩) := rfl
def rowOf (st v : Pos × Span) : Pos × Span := ((v.1.1, orAt v.1.2 st.2.last v.2.first), ⟨if st.2.empty = true then st.2.first ||| v.2.first else st.2.first, (if v.2.empty = true then st.2.last else 0) ||| v.2.last, st.2.empty && v.2.empty⟩)
def altOf (st v : Pos × Span) : Pos × Span := (v.1, ⟨st.2.first ||| v.2.first, st.2.last ||| v.2.last, st.2.empty || v.2.empty⟩)
theorem kid_rng {ps : List Piece} (hps : PsOk ps) {i j : Nat} (hi : i < ps.length) (h : ¬ (ps[i]?.getD default).op = 1) (hj : j < (ps[i]?.getD default).kids.length) : 0 ≤ ((ps[i]?.getD default).kids[j]?.getD 0) ∧ ((ps[i]?.getD default).kids[j]?.getD 0) < i := by
 have h3 : kidsOk (ps[i]?.getD default).kids i = true := by
  rcases piece_iff.1 (hps i hi) with h1 | h1 | h1
  ·exact absurd h1.1 h
  ·exact h1.2.2.2
  exact h1.2.2.2
 unfold kidsOk at h3
 rw [List.getElem?_eq_getElem hj]
 have := inR_iff.1 (List.all_eq_true.1 h3 _ (List.getElem_mem hj))
 simp only [Option.getD_some]; omega
theorem ne_dec (x : Int) : (x != 5) = decide (x ≠ 5) := by by_cases h : x = 5 <;> simp [h]
theorem ne_emp {b : Bool} (h : b = false) (x : Int) : (x != 5) = (b || decide (x ≠ 5)) := by subst h; rw [Bool.false_or]; exact ne_dec x
theorem kids_one {ps : List Piece} (hps : PsOk ps) {i : Nat} (hi : i < ps.length) (h : ¬ (ps[i]?.getD default).op = 1) (h2 : ¬ (ps[i]?.getD default).op = 2) (h3 : ¬ (ps[i]?.getD default).op = 3) : (ps[i]?.getD default).kids.length = 1 := by
 rcases piece_iff.1 (hps i hi) with h1 | h1 | h1
 ·exact absurd h1.1 h
 ·omega
 exact h1.2.2.1
theorem sum_one {f : Nat → Nat} {l : List Int} (h : l.length = 1) : sumK f l = f (l[0]?.getD 0).toNat := by
 obtain ⟨k, rfl⟩ := List.length_eq_one_iff.1 h
 rfl
theorem cnt_kids {ps : List Piece} {n i : Nat} (h : ¬ (ps[i]?.getD default).op = 1) : cntF ps (n + 1) i = sumK (cntF ps n) (ps[i]?.getD default).kids := by
 conv => lhs; unfold cntF
 rw [if_neg h]
theorem rowK_fine {ps : List Piece} (hps : PsOk ps) {n i : Nat} (hi : i < ps.length) (hin : i < n + 1) {s : Pos} (hg : Good s) (h : ¬ (ps[i]?.getD default).op = 1) : ∀ j, Fine s (sumK (cntF ps n) ((ps[i]?.getD default).kids.take j)) (rowK ps n s ((ps[i]?.getD default).kids.take j))
 | 0 => fine_zero hg
 | j + 1 => by
  have ih := rowK_fine hps hi hin hg h j
  rcases Nat.lt_or_ge j (ps[i]?.getD default).kids.length with hj | hj
  ·rw [rowK_next hj, (sumK_take _ _ j hj).2]
   have hk := kid_rng hps hi h hj
   exact row_fine ih (visit_fine ps n _ _ ih.1 hps (by omega) (by omega))
  rw [List.take_of_length_le (by omega)] at ih ⊢; exact ih
theorem altK_fine {ps : List Piece} (hps : PsOk ps) {n i : Nat} (hi : i < ps.length) (hin : i < n + 1) {s : Pos} (hg : Good s) (h : ¬ (ps[i]?.getD default).op = 1) : ∀ j, Fine s (sumK (cntF ps n) ((ps[i]?.getD default).kids.take j)) (altK ps n s ((ps[i]?.getD default).kids.take j))
 | 0 => fine_zero hg
 | j + 1 => by
  have ih := altK_fine hps hi hin hg h j
  rcases Nat.lt_or_ge j (ps[i]?.getD default).kids.length with hj | hj
  ·rw [altK_next hj, (sumK_take _ _ j hj).2]
   have hk := kid_rng hps hi h hj
   exact alt_fine ih (visit_fine ps n _ _ ih.1 hps (by omega) (by omega))
  rw [List.take_of_length_le (by omega)] at ih ⊢; exact ih
attribute [local irreducible] visit rowK altK cntF sumK orAt
theorem psVisit_ct (ps : List Piece) (n : Nat) (hps : PsOk ps) (hlen : ps.length ≤ 60) (hI : VisCt ps n) : VisCt ps (n + 1) := by
 intro q ki i lb fo bp bl bf cp cl cf AL AF hki hi hin hg hcnt hL hF
 subst hki
 refine CtR.introB G_ok [.p 0 0, .v (.int .i64 (i : Int))] [⟨q, [.slice bp ps.length cp, .slice bl lb.length cl, .slice bf fo.length cf], 300⟩] [AL, AF] func211 rfl rfl rfl rfl (by simp [SV.ok]) (by simp [Blk.ent]) fun E H hp => ?_
 have hfl : lb.length = fo.length := hg.1
 have hpk := piece_iff.1 (hps i hi)
 refine ⟨fun x0 => ?_⟩
 refine idx_rd hp ?_ ?_ fun b1 o1 hb1 => ?_
 ·omega
 ·omega
 refine load_allN default (i) rfl hp ?_ ?_ hb1 rfl (mem_at 2 rfl) fun l2 hl2 => ?_
 ·omega
 ·omega
 obtain ⟨b2x2, c2x2, rfl, w0x2, h2x2⟩ := gPiece_rd.1 hl2
 refine ⟨fun x3 => ?_⟩
 refine ⟨fun q4 => ?_, fun q4 => ?_⟩
 ·simp at q4
  refine draw G_ok mixed (some 8) (.q 0 (.q 1 (.q 2 (.q 3 (.q 4 (.q 5 (.q 6 (.f 7 (.tl 8 (.f 9 (.f 10 (.f 11 (.nil))))))))))))) (by decide +kernel) ?_
  refine ⟨fun x5 => ?_⟩
  refine VC.intro ?_ ?_
  ·exact keep_new
  refine gappend1 (g := gY) (T := (5 : TypeId)) G_ok AL [] [AF, H] ?_ hL ( gY_ow trivial) (List.mem_of_getElem? (i := 0) rfl) rfl rfl rfl rfl rfl rfl rfl rfl ?_ fun b6 c6 A6 o6 => ?_
  ·exact .tl
  ·omega
  refine ⟨fun x7 => ?_⟩
  refine gappend1 (g := gU) (T := (301 : TypeId)) G_ok AF [] [A6, H] ?_ hF (gU_ow (x := 0) ?_) (List.mem_of_getElem? (i := 0) rfl) rfl rfl rfl rfl rfl rfl rfl rfl ?_ fun b8 c8 A8 o8 => ?_
  ·exact rlA
  ·trivial
  ·omega
  refine VC.intro ?_ ?_
  ·(rw [w64u]; omega)
  (rw [visit_step ‹(ps[i]?.getD default).op = 1›, shl_app (by omega)]; exact ⟨_, ⟨_, _, _, _, _, _, rfl, rfl, by assumption, by assumption⟩, rlB⟩)
 ·simp at q4
  refine ⟨fun q9 => ?_, fun q9 => ?_⟩
  ·simp at q9
   refine ⟨fun x10 => ?_⟩
   apply loop_mod (α := (Nat) × (Hp) × (Option Addr) × (Nat) × (Hp) × (Option Addr) × (Nat)) G_ok [66, 67, 68, 9, 69, 70, 71, 10, 72, 73, 74, 75, 76, 77, 78, 79, 80, 81, 82, 83, 84, 85, 86, 87, 88, 89, 90, 91, 92, 93, 94, 95, 96, 97, 98, 99, 100, 101, 102, 103, 65] (fun z => [(65, .v (.int .i64 z.1))]) (fun z => [⟨q, [Value.slice bp ps.length cp, .slice z.2.2.1 (rowK ps n (lb, fo) ((ps[i]?.getD default).kids.take z.1)).1.1.length z.2.2.2.1, .slice z.2.2.2.2.2.1 (rowK ps n (lb, fo) ((ps[i]?.getD default).kids.take z.1)).1.2.length z.2.2.2.2.2.2], (300 : TypeId)⟩, ⟨x0, [Value.int IntKind.u32 (0 : Int), Value.int IntKind.u32 (0 : Int), Value.bool false], (303 : Nat)⟩, ⟨x3, [Value.int IntKind.i64 (ps[i]?.getD default).op, Value.int IntKind.u8 (↑(ps[i]?.getD default).label.toNat : Int), Value.slice b2x2 (ps[i]?.getD default).kids.length c2x2], (279 : Nat)⟩, ⟨x10, [.int .u32 ((rowK ps n (lb, fo) ((ps[i]?.getD default).kids.take z.1)).2.first : Nat), .int .u32 ((rowK ps n (lb, fo) ((ps[i]?.getD default).kids.take z.1)).2.last : Nat), .bool (rowK ps n (lb, fo) ((ps[i]?.getD default).kids.take z.1)).2.empty], (303 : Nat)⟩]) (fun z => [z.2.1, z.2.2.2.2.1, H]) (fun z => (ps[i]?.getD default).kids.length - z.1) (fun z => z.1 ≤ (ps[i]?.getD default).kids.length ∧ (gSl 5 gY).ow [.slice z.2.2.1 (rowK ps n (lb, fo) ((ps[i]?.getD default).kids.take z.1)).1.1.length z.2.2.2.1] (rowK ps n (lb, fo) ((ps[i]?.getD default).kids.take z.1)).1.1 z.2.1 ∧ (gSl 301 gU).ow [.slice z.2.2.2.2.2.1 (rowK ps n (lb, fo) ((ps[i]?.getD default).kids.take z.1)).1.2.length z.2.2.2.2.2.2] (rowK ps n (lb, fo) ((ps[i]?.getD default).kids.take z.1)).1.2 z.2.2.2.2.1) ((0, AL, bl, cl, AF, bf, cf))
   ·exact frI
   ·(simp only [List.take_zero, rowK_nil, altK_nil]; repeat' (first | exact trivial | refine ⟨by first | rfl | simp [Blk.ent], ?_⟩))
   ·try dsimp only
    (simp only [List.take_zero, rowK_nil, altK_nil]; exact ⟨Nat.zero_le _, hL, hF⟩)
   ·exact .refl _
   rintro ⟨j, L, bl2, cl2, F, bf2, cf2⟩ hI
   try dsimp only at hI
   obtain ⟨hj, oL, oF⟩ := hI
   try dsimp only
   refine ⟨fun q11 => ?_, fun q11 => ?_⟩
   ·simp at q11
    have hsum := sumK_take (cntF ps n) (ps[i]?.getD default).kids j (by omega)
    have hkd := kid_rng hps hi (by assumption) (by omega : j < (ps[i]?.getD default).kids.length)
    have hfine := rowK_fine hps hi hin hg (by assumption) j
    have hfl2 : (rowK ps n (lb, fo) ((ps[i]?.getD default).kids.take j)).1.1.length = lb.length + sumK (cntF ps n) ((ps[i]?.getD default).kids.take j) := hfine.2.1
    have hck := cnt_kids (ps := ps) (n := n) (i := i) (by assumption)
    have hV := visit_fine ps n ((ps[i]?.getD default).kids[j]?.getD 0).toNat ((rowK ps n (lb, fo) ((ps[i]?.getD default).kids.take j)).1.1, (rowK ps n (lb, fo) ((ps[i]?.getD default).kids.take j)).1.2) hfine.1 hps (by omega) (by omega)
    have hv1 : (visit ps n ((ps[i]?.getD default).kids[j]?.getD 0).toNat ((rowK ps n (lb, fo) ((ps[i]?.getD default).kids.take j)).1.1, (rowK ps n (lb, fo) ((ps[i]?.getD default).kids.take j)).1.2)).1.1.length = (rowK ps n (lb, fo) ((ps[i]?.getD default).kids.take j)).1.1.length + cntF ps n ((ps[i]?.getD default).kids[j]?.getD 0).toNat := hV.2.1
    have hv2 : (visit ps n ((ps[i]?.getD default).kids[j]?.getD 0).toNat ((rowK ps n (lb, fo) ((ps[i]?.getD default).kids.take j)).1.1, (rowK ps n (lb, fo) ((ps[i]?.getD default).kids.take j)).1.2)).1.1.length = (visit ps n ((ps[i]?.getD default).kids[j]?.getD 0).toNat ((rowK ps n (lb, fo) ((ps[i]?.getD default).kids.take j)).1.1, (rowK ps n (lb, fo) ((ps[i]?.getD default).kids.take j)).1.2)).1.2.length := hV.1.1
    have hb1 : (visit ps n ((ps[i]?.getD default).kids[j]?.getD 0).toNat ((rowK ps n (lb, fo) ((ps[i]?.getD default).kids.take j)).1.1, (rowK ps n (lb, fo) ((ps[i]?.getD default).kids.take j)).1.2)).2.first < 4294967296 := u32_of hV.2.2.1 (by omega)
    have hb2 : (visit ps n ((ps[i]?.getD default).kids[j]?.getD 0).toNat ((rowK ps n (lb, fo) ((ps[i]?.getD default).kids.take j)).1.1, (rowK ps n (lb, fo) ((ps[i]?.getD default).kids.take j)).1.2)).2.last < 4294967296 := u32_of hV.2.2.2 (by omega)
    have hb3 : (rowK ps n (lb, fo) ((ps[i]?.getD default).kids.take j)).2.first < 4294967296 := u32_of hfine.2.2.1 (by omega)
    have hb4 : (rowK ps n (lb, fo) ((ps[i]?.getD default).kids.take j)).2.last < 4294967296 := u32_of hfine.2.2.2 (by omega)
    have hb5 : (rowK ps n (lb, fo) ((ps[i]?.getD default).kids.take j)).2.last < 2 ^ (visit ps n ((ps[i]?.getD default).kids[j]?.getD 0).toNat ((rowK ps n (lb, fo) ((ps[i]?.getD default).kids.take j)).1.1, (rowK ps n (lb, fo) ((ps[i]?.getD default).kids.take j)).1.2)).1.2.length := Nat.lt_of_lt_of_le hfine.2.2.2 (pow_mono (by omega))
    have hkl := (rd_len (xs := (ps[i]?.getD default).kids) (by assumption)).2
    have hnx : rowK ps n (lb, fo) ((ps[i]?.getD default).kids.take (j + 1)) = rowOf (rowK ps n (lb, fo) ((ps[i]?.getD default).kids.take j)) (visit ps n ((ps[i]?.getD default).kids[j]?.getD 0).toNat ((rowK ps n (lb, fo) ((ps[i]?.getD default).kids.take j)).1.1, (rowK ps n (lb, fo) ((ps[i]?.getD default).kids.take j)).1.2)) := rowK_next (ps := ps) (n := n) (s := (lb, fo)) (by omega : j < (ps[i]?.getD default).kids.length)
    refine idx_rd h2x2 ?_ ?_ fun b12 o12 hb12 => ?_
    ·omega
    ·omega
    refine load_allN 0 (j) rfl h2x2 ?_ ?_ hb12 rfl (mem_at 2 rfl) fun l13 hl13 => ?_
    ·omega
    ·omega
    obtain ⟨rfl, hw13⟩ := hl13; simp only [flStr, flInt, okI] at hw13
    refine callR_blk 0 (L ++ F) [H] rfl ?_ (hI _ _ _ _ _ _ _ _ _ _ _ _ _ (Int.toNat_of_nonneg ?_).symm ?_ ?_ ?_ ?_ oL oF) (Rp.mono _ (mem_at 0 rfl) hp) ?_
    ·exact rlA
    ·omega
    ·omega
    ·omega
    ·exact hfine.1
    ·omega
    rintro _ A14 ⟨bl1, cl1, bf1, cf1, AL1, AF1, rfl, rfl, oL1, oF1⟩
    refine ⟨_, _, [AL1, AF1], rfl, perm2, ?_⟩
    refine ⟨fun x15 => ?_⟩
    refine callR_blk 0 (AF1) [AL1, H] rfl ?_ (psConnect_ct _ _ _ _ _ _ _ _ _ oF1 ?_ ?_ ?_) trivial ?_
    ·exact rlA
    ·trivial
    ·trivial
    ·omega
    rintro _ A16 ⟨bf, cf, Af, rfl, rfl, of'⟩
    refine ⟨_, _, [Af], rfl, perm1, ?_⟩
    refine ⟨fun q17 => ?_, fun q17 => ?_⟩
    ·(have hRt : (rowK ps n (lb, fo) ((ps[i]?.getD default).kids.take j)).2.empty = true := q17)
     refine ⟨fun q18 => ?_, fun q18 => ?_⟩
     ·simp at q18
      (have hVf : (visit ps n ((ps[i]?.getD default).kids[j]?.getD 0).toNat ((rowK ps n (lb, fo) ((ps[i]?.getD default).kids.take j)).1.1, (rowK ps n (lb, fo) ((ps[i]?.getD default).kids.take j)).1.2)).2.empty = false := q18)
      refine ⟨fun q19 => ?_, fun q19 => ?_⟩
      ·(have hRt : (rowK ps n (lb, fo) ((ps[i]?.getD default).kids.take j)).2.empty = true := q19)
       apply loop_stepI (j + 1, AL1, bl1, cl1, Af, bf, cf)
       ·exact frI
       ·(simp only [hnx, rowOf, hRt, hVf, or_u32 hb3 hb1, or_u32 hb4 hb2, zor_u32 hb2, zor_u32 hb1, if_true, if_false, Bool.false_eq_true, Bool.true_and, Bool.and_true, Bool.false_and, Bool.and_false, Bool.true_or, Bool.false_or, Bool.or_true, Bool.or_false, Nat.zero_or, reduceIte]; repeat' (first | exact trivial | refine ⟨by first | rfl | simp [Blk.ent], ?_⟩))
       ·try dsimp only
        (rw [hnx]; exact ⟨by omega, oL1, of'⟩)
       ·exact rlA
       try dsimp only
       omega
      ·exact absurd (hRt.symm.trans q19) (by decide)
     ·simp at q18
      (have hVt : (visit ps n ((ps[i]?.getD default).kids[j]?.getD 0).toNat ((rowK ps n (lb, fo) ((ps[i]?.getD default).kids.take j)).1.1, (rowK ps n (lb, fo) ((ps[i]?.getD default).kids.take j)).1.2)).2.empty = true := q18)
      refine ⟨fun q20 => ?_, fun q20 => ?_⟩
      ·(have hRt : (rowK ps n (lb, fo) ((ps[i]?.getD default).kids.take j)).2.empty = true := q20)
       apply loop_stepI (j + 1, AL1, bl1, cl1, Af, bf, cf)
       ·exact frI
       ·(simp only [hnx, rowOf, hRt, hVt, or_u32 hb3 hb1, or_u32 hb4 hb2, zor_u32 hb2, zor_u32 hb1, if_true, if_false, Bool.false_eq_true, Bool.true_and, Bool.and_true, Bool.false_and, Bool.and_false, Bool.true_or, Bool.false_or, Bool.or_true, Bool.or_false, Nat.zero_or, reduceIte]; repeat' (first | exact trivial | refine ⟨by first | rfl | simp [Blk.ent], ?_⟩))
       ·try dsimp only
        (rw [hnx]; exact ⟨by omega, oL1, of'⟩)
       ·exact rlA
       try dsimp only
       omega
      ·exact absurd (hRt.symm.trans q20) (by decide)
    ·(have hRf : (rowK ps n (lb, fo) ((ps[i]?.getD default).kids.take j)).2.empty = false := q17)
     refine ⟨fun q21 => ?_, fun q21 => ?_⟩
     ·simp at q21
      (have hVf : (visit ps n ((ps[i]?.getD default).kids[j]?.getD 0).toNat ((rowK ps n (lb, fo) ((ps[i]?.getD default).kids.take j)).1.1, (rowK ps n (lb, fo) ((ps[i]?.getD default).kids.take j)).1.2)).2.empty = false := q21)
      refine ⟨fun q22 => ?_, fun q22 => ?_⟩
      ·exact absurd (hRf.symm.trans q22) (by decide)
      ·(have hRf : (rowK ps n (lb, fo) ((ps[i]?.getD default).kids.take j)).2.empty = false := q22)
       apply loop_stepI (j + 1, AL1, bl1, cl1, Af, bf, cf)
       ·exact frI
       ·(simp only [hnx, rowOf, hRf, hVf, or_u32 hb3 hb1, or_u32 hb4 hb2, zor_u32 hb2, zor_u32 hb1, if_true, if_false, Bool.false_eq_true, Bool.true_and, Bool.and_true, Bool.false_and, Bool.and_false, Bool.true_or, Bool.false_or, Bool.or_true, Bool.or_false, Nat.zero_or, reduceIte]; repeat' (first | exact trivial | refine ⟨by first | rfl | simp [Blk.ent], ?_⟩))
       ·try dsimp only
        (rw [hnx]; exact ⟨by omega, oL1, of'⟩)
       ·exact rlA
       try dsimp only
       omega
     ·simp at q21
      (have hVt : (visit ps n ((ps[i]?.getD default).kids[j]?.getD 0).toNat ((rowK ps n (lb, fo) ((ps[i]?.getD default).kids.take j)).1.1, (rowK ps n (lb, fo) ((ps[i]?.getD default).kids.take j)).1.2)).2.empty = true := q21)
      refine ⟨fun q23 => ?_, fun q23 => ?_⟩
      ·exact absurd (hRf.symm.trans q23) (by decide)
      ·(have hRf : (rowK ps n (lb, fo) ((ps[i]?.getD default).kids.take j)).2.empty = false := q23)
       apply loop_stepI (j + 1, AL1, bl1, cl1, Af, bf, cf)
       ·exact frI
       ·(simp only [hnx, rowOf, hRf, hVt, or_u32 hb3 hb1, or_u32 hb4 hb2, zor_u32 hb2, zor_u32 hb1, if_true, if_false, Bool.false_eq_true, Bool.true_and, Bool.and_true, Bool.false_and, Bool.and_false, Bool.true_or, Bool.false_or, Bool.or_true, Bool.or_false, Nat.zero_or, reduceIte]; repeat' (first | exact trivial | refine ⟨by first | rfl | simp [Blk.ent], ?_⟩))
       ·try dsimp only
        (rw [hnx]; exact ⟨by omega, oL1, of'⟩)
       ·exact rlA
       try dsimp only
       omega
   ·simp at q11
    (have hje : j = (ps[i]?.getD default).kids.length := (by omega); subst hje; rw [List.take_length] at oL oF ⊢; rw [visit_row ‹(ps[i]?.getD default).op = 2›]; exact ⟨_, ⟨_, _, _, _, _, _, rfl, rfl, oL, oF⟩, rlB⟩)
  ·simp at q9
   refine ⟨fun q24 => ?_, fun q24 => ?_⟩
   ·simp at q24
    refine ⟨fun x25 => ?_⟩
    apply loop_mod (α := (Nat) × (Hp) × (Option Addr) × (Nat) × (Hp) × (Option Addr) × (Nat)) G_ok [111, 112, 113, 13, 114, 115, 116, 14, 117, 118, 119, 120, 121, 122, 123, 124, 125, 126, 127, 128, 129, 130, 131, 132, 133, 134, 110] (fun z => [(110, .v (.int .i64 z.1))]) (fun z => [⟨q, [Value.slice bp ps.length cp, .slice z.2.2.1 (altK ps n (lb, fo) ((ps[i]?.getD default).kids.take z.1)).1.1.length z.2.2.2.1, .slice z.2.2.2.2.2.1 (altK ps n (lb, fo) ((ps[i]?.getD default).kids.take z.1)).1.2.length z.2.2.2.2.2.2], (300 : TypeId)⟩, ⟨x0, [Value.int IntKind.u32 (0 : Int), Value.int IntKind.u32 (0 : Int), Value.bool false], (303 : Nat)⟩, ⟨x3, [Value.int IntKind.i64 (ps[i]?.getD default).op, Value.int IntKind.u8 (↑(ps[i]?.getD default).label.toNat : Int), Value.slice b2x2 (ps[i]?.getD default).kids.length c2x2], (279 : Nat)⟩, ⟨x25, [.int .u32 ((altK ps n (lb, fo) ((ps[i]?.getD default).kids.take z.1)).2.first : Nat), .int .u32 ((altK ps n (lb, fo) ((ps[i]?.getD default).kids.take z.1)).2.last : Nat), .bool (altK ps n (lb, fo) ((ps[i]?.getD default).kids.take z.1)).2.empty], (303 : Nat)⟩]) (fun z => [z.2.1, z.2.2.2.2.1, H]) (fun z => (ps[i]?.getD default).kids.length - z.1) (fun z => z.1 ≤ (ps[i]?.getD default).kids.length ∧ (gSl 5 gY).ow [.slice z.2.2.1 (altK ps n (lb, fo) ((ps[i]?.getD default).kids.take z.1)).1.1.length z.2.2.2.1] (altK ps n (lb, fo) ((ps[i]?.getD default).kids.take z.1)).1.1 z.2.1 ∧ (gSl 301 gU).ow [.slice z.2.2.2.2.2.1 (altK ps n (lb, fo) ((ps[i]?.getD default).kids.take z.1)).1.2.length z.2.2.2.2.2.2] (altK ps n (lb, fo) ((ps[i]?.getD default).kids.take z.1)).1.2 z.2.2.2.2.1) ((0, AL, bl, cl, AF, bf, cf))
    ·exact frI
    ·(simp only [List.take_zero, rowK_nil, altK_nil]; repeat' (first | exact trivial | refine ⟨by first | rfl | simp [Blk.ent], ?_⟩))
    ·try dsimp only
     (simp only [List.take_zero, rowK_nil, altK_nil]; exact ⟨Nat.zero_le _, hL, hF⟩)
    ·exact .refl _
    rintro ⟨j, L, bl2, cl2, F, bf2, cf2⟩ hI
    try dsimp only at hI
    obtain ⟨hj, oL, oF⟩ := hI
    try dsimp only
    refine ⟨fun q26 => ?_, fun q26 => ?_⟩
    ·simp at q26
     have hsum := sumK_take (cntF ps n) (ps[i]?.getD default).kids j (by omega)
     have hkd := kid_rng hps hi (by assumption) (by omega : j < (ps[i]?.getD default).kids.length)
     have hfine := altK_fine hps hi hin hg (by assumption) j
     have hfl2 : (altK ps n (lb, fo) ((ps[i]?.getD default).kids.take j)).1.1.length = lb.length + sumK (cntF ps n) ((ps[i]?.getD default).kids.take j) := hfine.2.1
     have hck := cnt_kids (ps := ps) (n := n) (i := i) (by assumption)
     have hV := visit_fine ps n ((ps[i]?.getD default).kids[j]?.getD 0).toNat ((altK ps n (lb, fo) ((ps[i]?.getD default).kids.take j)).1.1, (altK ps n (lb, fo) ((ps[i]?.getD default).kids.take j)).1.2) hfine.1 hps (by omega) (by omega)
     have hv1 : (visit ps n ((ps[i]?.getD default).kids[j]?.getD 0).toNat ((altK ps n (lb, fo) ((ps[i]?.getD default).kids.take j)).1.1, (altK ps n (lb, fo) ((ps[i]?.getD default).kids.take j)).1.2)).1.1.length = (altK ps n (lb, fo) ((ps[i]?.getD default).kids.take j)).1.1.length + cntF ps n ((ps[i]?.getD default).kids[j]?.getD 0).toNat := hV.2.1
     have hv2 : (visit ps n ((ps[i]?.getD default).kids[j]?.getD 0).toNat ((altK ps n (lb, fo) ((ps[i]?.getD default).kids.take j)).1.1, (altK ps n (lb, fo) ((ps[i]?.getD default).kids.take j)).1.2)).1.1.length = (visit ps n ((ps[i]?.getD default).kids[j]?.getD 0).toNat ((altK ps n (lb, fo) ((ps[i]?.getD default).kids.take j)).1.1, (altK ps n (lb, fo) ((ps[i]?.getD default).kids.take j)).1.2)).1.2.length := hV.1.1
     have hb1 : (visit ps n ((ps[i]?.getD default).kids[j]?.getD 0).toNat ((altK ps n (lb, fo) ((ps[i]?.getD default).kids.take j)).1.1, (altK ps n (lb, fo) ((ps[i]?.getD default).kids.take j)).1.2)).2.first < 4294967296 := u32_of hV.2.2.1 (by omega)
     have hb2 : (visit ps n ((ps[i]?.getD default).kids[j]?.getD 0).toNat ((altK ps n (lb, fo) ((ps[i]?.getD default).kids.take j)).1.1, (altK ps n (lb, fo) ((ps[i]?.getD default).kids.take j)).1.2)).2.last < 4294967296 := u32_of hV.2.2.2 (by omega)
     have hb3 : (altK ps n (lb, fo) ((ps[i]?.getD default).kids.take j)).2.first < 4294967296 := u32_of hfine.2.2.1 (by omega)
     have hb4 : (altK ps n (lb, fo) ((ps[i]?.getD default).kids.take j)).2.last < 4294967296 := u32_of hfine.2.2.2 (by omega)
     have hb5 : (altK ps n (lb, fo) ((ps[i]?.getD default).kids.take j)).2.last < 2 ^ (visit ps n ((ps[i]?.getD default).kids[j]?.getD 0).toNat ((altK ps n (lb, fo) ((ps[i]?.getD default).kids.take j)).1.1, (altK ps n (lb, fo) ((ps[i]?.getD default).kids.take j)).1.2)).1.2.length := Nat.lt_of_lt_of_le hfine.2.2.2 (pow_mono (by omega))
     have hkl := (rd_len (xs := (ps[i]?.getD default).kids) (by assumption)).2
     have hnx : altK ps n (lb, fo) ((ps[i]?.getD default).kids.take (j + 1)) = altOf (altK ps n (lb, fo) ((ps[i]?.getD default).kids.take j)) (visit ps n ((ps[i]?.getD default).kids[j]?.getD 0).toNat ((altK ps n (lb, fo) ((ps[i]?.getD default).kids.take j)).1.1, (altK ps n (lb, fo) ((ps[i]?.getD default).kids.take j)).1.2)) := altK_next (ps := ps) (n := n) (s := (lb, fo)) (by omega : j < (ps[i]?.getD default).kids.length)
     refine idx_rd h2x2 ?_ ?_ fun b27 o27 hb27 => ?_
     ·omega
     ·omega
     refine load_allN 0 (j) rfl h2x2 ?_ ?_ hb27 rfl (mem_at 2 rfl) fun l28 hl28 => ?_
     ·omega
     ·omega
     obtain ⟨rfl, hw28⟩ := hl28; simp only [flStr, flInt, okI] at hw28
     refine callR_blk 0 (L ++ F) [H] rfl ?_ (hI _ _ _ _ _ _ _ _ _ _ _ _ _ (Int.toNat_of_nonneg ?_).symm ?_ ?_ ?_ ?_ oL oF) (Rp.mono _ (mem_at 0 rfl) hp) ?_
     ·exact rlA
     ·omega
     ·omega
     ·omega
     ·exact hfine.1
     ·omega
     rintro _ A29 ⟨bl1, cl1, bf1, cf1, AL1, AF1, rfl, rfl, oL1, oF1⟩
     refine ⟨_, _, [AL1, AF1], rfl, perm2, ?_⟩
     refine ⟨fun x30 => ?_⟩
     refine ⟨fun q31 => ?_, fun q31 => ?_⟩
     ·(have hRt : (altK ps n (lb, fo) ((ps[i]?.getD default).kids.take j)).2.empty = true := q31)
      apply loop_stepA (j + 1, AL1, bl1, cl1, AF1, bf1, cf1)
      ·exact .refl _
      ·exact frI
      ·(simp only [hnx, altOf, hRt, or_u32 hb3 hb1, or_u32 hb4 hb2, if_true, if_false, Bool.false_eq_true, Bool.true_and, Bool.and_true, Bool.false_and, Bool.and_false, Bool.true_or, Bool.false_or, Bool.or_true, Bool.or_false, Nat.zero_or, reduceIte]; repeat' (first | exact trivial | refine ⟨by first | rfl | simp [Blk.ent], ?_⟩))
      ·try dsimp only
       (rw [hnx]; exact ⟨by omega, oL1, oF1⟩)
      try dsimp only
      omega
     ·(have hRf : (altK ps n (lb, fo) ((ps[i]?.getD default).kids.take j)).2.empty = false := q31)
      apply loop_stepA (j + 1, AL1, bl1, cl1, AF1, bf1, cf1)
      ·exact .refl _
      ·exact frI
      ·(simp only [hnx, altOf, hRf, or_u32 hb3 hb1, or_u32 hb4 hb2, if_true, if_false, Bool.false_eq_true, Bool.true_and, Bool.and_true, Bool.false_and, Bool.and_false, Bool.true_or, Bool.false_or, Bool.or_true, Bool.or_false, Nat.zero_or, reduceIte]; repeat' (first | exact trivial | refine ⟨by first | rfl | simp [Blk.ent], ?_⟩))
      ·try dsimp only
       (rw [hnx]; exact ⟨by omega, oL1, oF1⟩)
      try dsimp only
      omega
    ·simp at q26
     (have hje : j = (ps[i]?.getD default).kids.length := (by omega); subst hje; rw [List.take_length] at oL oF ⊢; rw [visit_alt ‹(ps[i]?.getD default).op = 3›]; exact ⟨_, ⟨_, _, _, _, _, _, rfl, rfl, oL, oF⟩, rlB⟩)
   ·simp at q24
    have hkl1 := kids_one hps hi (by assumption) (by assumption) (by assumption)
    have hkd := kid_rng hps hi (by assumption) (by omega : 0 < (ps[i]?.getD default).kids.length)
    have hck := cnt_kids (ps := ps) (n := n) (i := i) (by assumption)
    have hs1 := sum_one (f := cntF ps n) hkl1
    have hV := visit_fine ps n ((ps[i]?.getD default).kids[0]?.getD 0).toNat (lb, fo) hg hps (by omega) (by omega)
    have hv1 : (visit ps n ((ps[i]?.getD default).kids[0]?.getD 0).toNat (lb, fo)).1.1.length = lb.length + cntF ps n ((ps[i]?.getD default).kids[0]?.getD 0).toNat := hV.2.1
    have hv2 : (visit ps n ((ps[i]?.getD default).kids[0]?.getD 0).toNat (lb, fo)).1.1.length = (visit ps n ((ps[i]?.getD default).kids[0]?.getD 0).toNat (lb, fo)).1.2.length := hV.1.1
    have hb1 : (visit ps n ((ps[i]?.getD default).kids[0]?.getD 0).toNat (lb, fo)).2.first < 4294967296 := u32_of hV.2.2.1 (by omega)
    have hb2 : (visit ps n ((ps[i]?.getD default).kids[0]?.getD 0).toNat (lb, fo)).2.last < 4294967296 := u32_of hV.2.2.2 (by omega)
    have hb5 : (visit ps n ((ps[i]?.getD default).kids[0]?.getD 0).toNat (lb, fo)).2.last < 2 ^ (visit ps n ((ps[i]?.getD default).kids[0]?.getD 0).toNat (lb, fo)).1.2.length := Nat.lt_of_lt_of_le hV.2.2.2 (pow_mono (by omega))
    have hvo := visit_one (ps := ps) (n := n) (i := i) (s := (lb, fo)) (by assumption) (by assumption) (by assumption)
    refine idx_rd h2x2 ?_ ?_ fun b32 o32 hb32 => ?_
    ·trivial
    ·omega
    refine load_allN 0 (0) rfl h2x2 ?_ ?_ hb32 rfl (mem_at 2 rfl) fun l33 hl33 => ?_
    ·trivial
    ·omega
    obtain ⟨rfl, hw33⟩ := hl33; simp only [flStr, flInt, okI] at hw33
    refine callR_blk 0 (AL ++ AF) [H] rfl ?_ (hI _ _ _ _ _ _ _ _ _ _ _ _ _ (Int.toNat_of_nonneg ?_).symm ?_ ?_ ?_ ?_ hL hF) (Rp.mono _ (mem_at 0 rfl) hp) ?_
    ·exact rlA
    ·omega
    ·omega
    ·omega
    ·trivial
    ·omega
    rintro _ A34 ⟨bl1, cl1, bf1, cf1, AL1, AF1, rfl, rfl, oL1, oF1⟩
    refine ⟨_, _, [AL1, AF1], rfl, perm2, ?_⟩
    refine ⟨fun x35 => ?_⟩
    refine ⟨fun q36 => ?_, fun q36 => ?_⟩
    ·simp at q36
     refine callR_blk 0 (AF1) [AL1, H] rfl ?_ (psConnect_ct _ _ _ _ _ _ _ _ _ oF1 ?_ ?_ ?_) trivial ?_
     ·exact rlA
     ·trivial
     ·trivial
     ·omega
     rintro _ A37 ⟨bf, cf, Af, rfl, rfl, of'⟩
     refine ⟨_, _, [Af], rfl, perm1, ?_⟩
     refine ⟨fun q38 => ?_, fun q38 => ?_⟩
     ·(rw [hvo]; unfold oneStep; rw [if_neg (by assumption)]; exact ⟨_, ⟨_, _, _, _, _, _, by simp_all, rfl, oL1, of'⟩, rlB⟩)
     ·(have h9 := ‹(visit ps n ((ps[i]?.getD default).kids[0]?.getD 0).toNat (lb, fo)).2.empty = false›; have e5 := ne_emp h9 (ps[i]?.getD default).op; rw [hvo]; unfold oneStep; rw [if_neg ‹¬ (ps[i]?.getD default).op = 6›]; exact ⟨_, ⟨_, _, _, _, _, _, congrArg (fun x => Value.agg ⟨[.int .u32 ((visit ps n ((ps[i]?.getD default).kids[0]?.getD 0).toNat (lb, fo)).2.first : Nat), .int .u32 ((visit ps n ((ps[i]?.getD default).kids[0]?.getD 0).toNat (lb, fo)).2.last : Nat), .bool x]⟩) e5, rfl, oL1, of'⟩, rlB⟩)
    ·simp at q36
     refine ⟨fun q39 => ?_, fun q39 => ?_⟩
     ·(rw [hvo]; unfold oneStep; simp only [‹(ps[i]?.getD default).op = 6›, if_true]; exact ⟨_, ⟨_, _, _, _, _, _, by simp_all, rfl, oL1, oF1⟩, rlB⟩)
     ·(rw [hvo]; unfold oneStep; simp only [‹(ps[i]?.getD default).op = 6›, if_true]; exact ⟨_, ⟨_, _, _, _, _, _, by simp_all, rfl, oL1, oF1⟩, rlB⟩)
theorem vis_all (ps : List Piece) (hps : PsOk ps) (hlen : ps.length ≤ 60) : ∀ n, VisCt ps n
 | 0 => by intro q ki i lb fo bp bl bf cp cl cf AL AF _ _ h; omega
 | n + 1 => psVisit_ct ps n hps hlen (vis_all ps hps hlen n)
end
section
attribute [local irreducible] IntKind.wrap
def LookCt (ps : List Piece) (n : Nat) : Prop :=
 ∀ (q : Nat) (ki : Int) (i : Nat) (lb : List UInt8) (xs : List Arc) (bp bl ba : Option Addr) (cp cl ca : Nat) (AL AX : Hp) (bd : Bool), ki = i → i < ps.length → i < n → bd = false → GoodM (lb, xs) → lb.length ≤ 23 →
  (gSl 5 gY).ow [.slice bl lb.length cl] lb AL → (gSl 282 gArc).ow [.slice ba xs.length ca] xs AX →
  CtR prog 175 [.pointer (some ⟨q, 0, none⟩), .int .i64 ki] ((q, Obj.cells ⟨[.slice bp ps.length cp, .slice bl lb.length cl, .slice ba xs.length ca, .bool bd]⟩ 249) :: (AL ++ AX)) (fun H => (gSl 279 gPiece).rd H [.slice bp ps.length cp] ps)
   (fun v D => ∃ bl' cl' ba' ca' AL' AX' b1 c1 A1 b2 c2 A2, v = .agg ⟨[.slice b1 (look ps n i (lb, xs)).2.first.length c1, .slice b2 (look ps n i (lb, xs)).2.last.length c2, .bool (look ps n i (lb, xs)).2.null]⟩ ∧
    D = (q, Obj.cells ⟨[.slice bp ps.length cp, .slice bl' (look ps n i (lb, xs)).1.1.length cl', .slice ba' (look ps n i (lb, xs)).1.2.length ca', .bool (badM (look ps n i (lb, xs)).1)]⟩ 249) :: (AL' ++ (AX' ++ (A1 ++ A2))) ∧
    (gSl 5 gY).ow [.slice bl' (look ps n i (lb, xs)).1.1.length cl'] (look ps n i (lb, xs)).1.1 AL' ∧ (gSl 282 gArc).ow [.slice ba' (look ps n i (lb, xs)).1.2.length ca'] (look ps n i (lb, xs)).1.2 AX' ∧
    (gSl 3 gI).ow [.slice b1 (look ps n i (lb, xs)).2.first.length c1] (look ps n i (lb, xs)).2.first A1 ∧ (gSl 3 gI).ow [.slice b2 (look ps n i (lb, xs)).2.last.length c2] (look ps n i (lb, xs)).2.last A2)
theorem perm4 {e : Nat × Obj} {A B C D : Hp} : (e :: (A ++ (B ++ (C ++ D)))).Perm (e :: [A, B, C, D].flatten) := by simp
theorem look_step {ps : List Piece} {n i : Nat} {s : MkS} (h : (ps[i]?.getD default).op = 1) : look ps (n + 1) i s = ((s.1 ++ [(ps[i]?.getD default).label], s.2), ⟨[((s.1.length + 1 : Nat) : Int)], [((s.1.length + 1 : Nat) : Int)], false⟩) := by unfold look; rw [if_pos h]
def lkK (ps : List Piece) (n : Nat) (op : Int) (s : MkS) (l : List Int) : MkS × Look := l.foldl (lkStep op (look ps n)) (s, ⟨[], [], decide (op = 2)⟩)
theorem look_kids {ps : List Piece} {n i : Nat} {s : MkS} (h : ¬ (ps[i]?.getD default).op = 1) : look ps (n + 1) i s = lkK ps n (ps[i]?.getD default).op s (ps[i]?.getD default).kids := by
 conv => lhs; unfold look
 rw [if_neg h]; rfl
theorem lkK_nil {ps : List Piece} {n : Nat} {op : Int} {s : MkS} : lkK ps n op s [] = (s, ⟨[], [], decide (op = 2)⟩) := rfl
theorem lkK_next {ps : List Piece} {n : Nat} {op : Int} {s : MkS} {l : List Int} {j : Nat} (hj : j < l.length) : lkK ps n op s (l.take (j + 1)) = lkStep op (look ps n) (lkK ps n op s (l.take j)) (l[j]?.getD 0) := by
 unfold lkK; rw [← List.take_append_getElem hj, List.foldl_append, List.getElem?_eq_getElem hj]; rfl
theorem foldl_bad {op : Int} {V : Nat → MkS → MkS × Look} {st : MkS × Look} (h : badM st.1 = true) : ∀ l : List Int, l.foldl (lkStep op V) st = st
 | [] => rfl
 | k :: l => by
  have e : lkStep op V st k = st := by unfold lkStep; rw [if_pos h]
  rw [List.foldl_cons, e]; exact foldl_bad h l
theorem lkK_bad {ps : List Piece} {n : Nat} {op : Int} {s : MkS} {l : List Int} {j : Nat} (h : badM (lkK ps n op s (l.take j)).1 = true) : lkK ps n op s l = lkK ps n op s (l.take j) := by
 conv => lhs; rw [← List.take_append_drop j l]
 unfold lkK at h ⊢
 rw [List.foldl_append]; exact foldl_bad h _
theorem lkK_fine {ps : List Piece} (hps : PsOk ps) {n i : Nat} (hi : i < ps.length) (hin : i < n + 1) {s : MkS} (hg : GoodM s) (hs : s.1.length ≤ 23) (h : ¬ (ps[i]?.getD default).op = 1) : ∀ j, (2 ≤ (ps[i]?.getD default).op ∧ (ps[i]?.getD default).op ≤ 3 ∨ j ≤ 1) → LFine s (sumK (cntF ps n) ((ps[i]?.getD default).kids.take j)) (lkK ps n (ps[i]?.getD default).op s ((ps[i]?.getD default).kids.take j))
 | 0, _ => lfine_zero hg hs
 | j + 1, hj1 => by
  have ih := lkK_fine hps hi hin hg hs h j (by omega)
  rcases Nat.lt_or_ge j (ps[i]?.getD default).kids.length with hj | hj
  ·rw [lkK_next hj, (sumK_take _ _ j hj).2]
   have hk := kid_rng hps hi h hj
   unfold lkStep
   split
   ·rename_i hb; exact lfine_bad ih hb
   rename_i hb
   have hv := look_fine ps n _ _ ih.1 (bad_not hb) hps (by omega : ((ps[i]?.getD default).kids[j]?.getD 0).toNat < ps.length) (by omega)
   split
   ·exact lkRow_fine ih hv
   split
   ·exact lkAlt_fine ih hv
   obtain rfl : j = 0 := by omega
   have e : sumK (cntF ps n) ((ps[i]?.getD default).kids.take 0) = 0 := rfl
   rw [e, Nat.zero_add]; exact lkOne_fine hv
  rw [List.take_of_length_le (by omega)] at ih ⊢; exact ih
end
section
attribute [local irreducible] IntKind.wrap look lkK cntF sumK joinA
theorem one_lit {k : Int} {x : Nat} (h : okI k) : (gSl 3 gI).ow [.slice (some ⟨x, 0, none⟩) 1 1] [k] [(x, Obj.cells ⟨[.int .i64 k]⟩ 3)] :=
 ow_fl (Ow.lit (f := flInt) (T := 3) (b := x) (xs := [k]) (by simpa [flInt] using h) (by simp))
theorem look_step2 {ps : List Piece} {n i : Nat} {lb : List UInt8} {xs : List Arc} (h : (ps[i]?.getD default).op = 1) : look ps (n + 1) i (lb, xs) = ((lb ++ [(ps[i]?.getD default).label], xs), ⟨[(((lb ++ [(ps[i]?.getD default).label]).length : Nat) : Int)], [(((lb ++ [(ps[i]?.getD default).label]).length : Nat) : Int)], false⟩) := by
 rw [look_step h, List.length_append, List.length_singleton]
theorem bad_app {lb : List UInt8} {b : UInt8} {xs : List Arc} : badM (lb ++ [b], xs) = decide (24 ≤ lb.length + 1) := by unfold badM; rw [show (lb ++ [b], xs).1.length = lb.length + 1 from List.length_append]
theorem badM_mk (r : MkS) (x : List Arc) : badM (r.1, x) = badM r := rfl
theorem lkS_row {op : Int} {r st : MkS × Look} (hb : ¬ badM st.1 = true) (h : op = 2) : lkStep op (fun _ _ => r) st 0 = lkRow st r := by unfold lkStep; rw [if_neg hb, if_pos h]
theorem lkS_alt {op : Int} {r st : MkS × Look} (hb : ¬ badM st.1 = true) (h2 : ¬ op = 2) (h : op = 3) : lkStep op (fun _ _ => r) st 0 = lkAlt st r := by unfold lkStep; rw [if_neg hb, if_neg h2, if_pos h]
theorem lkS_one {op : Int} {r st : MkS × Look} (hb : ¬ badM st.1 = true) (h2 : ¬ op = 2) (h : ¬ op = 3) : lkStep op (fun _ _ => r) st 0 = lkOne op r := by unfold lkStep; rw [if_neg hb, if_neg h2, if_neg h]
theorem lk_next2 {ps : List Piece} {n : Nat} {op : Int} {s : MkS} {l : List Int} {j : Nat} {st r : MkS × Look} (hj : j < l.length) (hst : st = lkK ps n op s (l.take j)) (hr : look ps n (l[j]?.getD 0).toNat (st.1.1, st.1.2) = r) : lkStep op (fun _ _ => r) st 0 = lkK ps n op s (l.take (j + 1)) := by
 have hr2 : look ps n (l[j]?.getD 0).toNat st.1 = r := hr
 rw [lkK_next hj, ← hst]
 unfold lkStep
 rw [hr2]
theorem look_ct (ps : List Piece) (n : Nat) (hps : PsOk ps) (hlen : ps.length ≤ 60) (hI : LookCt ps n) : LookCt ps (n + 1) := by
 intro q ki i lb xs bp bl ba cp cl ca AL AX bd hki hi hin hbd hg hlb hL hX
 subst hki hbd
 refine CtR.introB G_ok [.p 0 0, .v (.int .i64 (i : Int))] [⟨q, [.slice bp ps.length cp, .slice bl lb.length cl, .slice ba xs.length ca, .bool false], 249⟩] [AL, AX] func175 rfl rfl rfl rfl (by simp [SV.ok]) (by simp [Blk.ent]) fun E H hp => ?_
 have hpk := piece_iff.1 (hps i hi)
 have hbf : badM (lb, xs) = false := decide_eq_false (by show ¬ 24 ≤ lb.length; omega)
 refine ⟨fun x0 => ?_⟩
 refine idx_rd hp ?_ ?_ fun b1 o1 hb1 => ?_
 ·omega
 ·omega
 refine load_allN default (i) rfl hp ?_ ?_ hb1 rfl (mem_at 2 rfl) fun l2 hl2 => ?_
 ·omega
 ·omega
 obtain ⟨b2x2, c2x2, rfl, w0x2, h2x2⟩ := gPiece_rd.1 hl2
 refine ⟨fun x3 => ?_⟩
 refine ⟨fun x4 => ?_⟩
 refine ⟨fun q5 => ?_, fun q5 => ?_⟩
 ·simp at q5
  refine draw G_ok mixed (some 8) (.q 0 (.q 1 (.q 2 (.q 3 (.q 4 (.q 5 (.q 6 (.f 7 (.tl 8 (.f 9 (.f 10 (.f 11 (.nil))))))))))))) (by decide +kernel) ?_
  refine ⟨fun x6 => ?_⟩
  refine VC.intro ?_ ?_
  ·exact keep_new
  refine gappend1 (g := gY) (T := (5 : TypeId)) G_ok AL [] [AX, H] ?_ hL ( gY_ow trivial) (List.mem_of_getElem? (i := 0) rfl) rfl rfl rfl rfl rfl rfl rfl rfl ?_ fun b7 c7 A7 o7 => ?_
  ·exact .tl
  ·omega
  refine ⟨fun q8 => ?_, fun q8 => ?_⟩
  ·simp at q8
   refine ⟨fun x9 => ?_⟩
   refine ⟨fun x10 => ?_⟩
   try dsimp only
   (have hll := @List.length_append _ lb [(ps[i]?.getD default).label]; rw [List.length_singleton] at hll; have hz : List.append ([] : List Value) (zeros 0 [Value.int .i64 0]) = [] := rfl; simp only [look_step2 ‹(ps[i]?.getD default).op = 1›, bad_app, hz]; exact ⟨_, ⟨_, _, _, _, _, _, _, _, _, _, _, _, rfl, by rw [decide_eq_true (by omega : 24 ≤ lb.length + 1)], by assumption, by assumption, one_lit (by unfold okI; omega), one_lit (by unfold okI; omega)⟩, rlB⟩)
  ·simp at q8
   refine ⟨fun x11 => ?_⟩
   refine ⟨fun x12 => ?_⟩
   try dsimp only
   (have hll := @List.length_append _ lb [(ps[i]?.getD default).label]; rw [List.length_singleton] at hll; have hz : List.append ([] : List Value) (zeros 0 [Value.int .i64 0]) = [] := rfl; simp only [look_step2 ‹(ps[i]?.getD default).op = 1›, bad_app, hz]; exact ⟨_, ⟨_, _, _, _, _, _, _, _, _, _, _, _, rfl, by rw [decide_eq_false (by omega : ¬ 24 ≤ lb.length + 1)], by assumption, by assumption, one_lit (by unfold okI; omega), one_lit (by unfold okI; omega)⟩, rlB⟩)
 ·simp at q5
  refine ⟨fun q13 => ?_, fun q13 => ?_⟩
  ·simp at q13
   apply loop_mod (α := (Nat) × (MkS × Look) × (Hp) × (Option Addr) × (Nat) × (Hp) × (Option Addr) × (Nat) × (Hp) × (Option Addr) × (Nat) × (Hp) × (Option Addr) × (Nat)) G_ok [52, 53, 54, 55, 56, 57, 58, 59, 60, 61, 62, 63, 66, 67, 68, 69, 70, 71, 72, 9, 73, 74, 94, 93, 95, 96, 97, 98, 99, 100, 101, 102, 103, 104, 105, 106, 107, 108, 109, 110, 111, 112, 113, 114, 115, 116, 117, 118, 119, 120, 121, 122, 123, 124, 125, 126, 127, 128, 130, 129, 131, 132, 133, 134, 135, 136, 137, 138, 139, 140, 141, 142, 143, 144, 145, 146, 147, 148, 149, 75, 76, 77, 78, 79, 80, 81, 82, 83, 84, 85, 86, 87, 88, 89, 90, 91, 92, 64, 65, 8] (fun z => [(8, .v (.int .i64 z.1))]) (fun z => [⟨q, [Value.slice bp ps.length cp, .slice z.2.2.2.1 z.2.1.1.1.length z.2.2.2.2.1, .slice z.2.2.2.2.2.2.1 z.2.1.1.2.length z.2.2.2.2.2.2.2.1, .bool (badM z.2.1.1)], (249 : TypeId)⟩, ⟨x0, [Value.slice none (0 : Nat) (0 : Nat), Value.slice none (0 : Nat) (0 : Nat), Value.bool false], (251 : Nat)⟩, ⟨x3, [Value.int IntKind.i64 (ps[i]?.getD default).op, Value.int IntKind.u8 (↑(ps[i]?.getD default).label.toNat : Int), Value.slice b2x2 (ps[i]?.getD default).kids.length c2x2], (279 : Nat)⟩, ⟨x4, [.slice z.2.2.2.2.2.2.2.2.2.1 z.2.1.2.first.length z.2.2.2.2.2.2.2.2.2.2.1, .slice z.2.2.2.2.2.2.2.2.2.2.2.2.1 z.2.1.2.last.length z.2.2.2.2.2.2.2.2.2.2.2.2.2, .bool z.2.1.2.null], (251 : Nat)⟩]) (fun z => [z.2.2.1, z.2.2.2.2.2.1, z.2.2.2.2.2.2.2.2.1, z.2.2.2.2.2.2.2.2.2.2.2.1, H]) (fun z => (ps[i]?.getD default).kids.length - z.1) (fun z => z.1 ≤ (ps[i]?.getD default).kids.length ∧ z.2.1 = (lkK ps n (ps[i]?.getD default).op (lb, xs) ((ps[i]?.getD default).kids.take z.1)) ∧ (gSl 5 gY).ow [.slice z.2.2.2.1 z.2.1.1.1.length z.2.2.2.2.1] z.2.1.1.1 z.2.2.1 ∧ (gSl 282 gArc).ow [.slice z.2.2.2.2.2.2.1 z.2.1.1.2.length z.2.2.2.2.2.2.2.1] z.2.1.1.2 z.2.2.2.2.2.1 ∧ (gSl 3 gI).ow [.slice z.2.2.2.2.2.2.2.2.2.1 z.2.1.2.first.length z.2.2.2.2.2.2.2.2.2.2.1] z.2.1.2.first z.2.2.2.2.2.2.2.2.1 ∧ (gSl 3 gI).ow [.slice z.2.2.2.2.2.2.2.2.2.2.2.2.1 z.2.1.2.last.length z.2.2.2.2.2.2.2.2.2.2.2.2.2] z.2.1.2.last z.2.2.2.2.2.2.2.2.2.2.2.1) ((0, ((lb, xs), ⟨[], [], decide ((ps[i]?.getD default).op = 2)⟩), AL, bl, cl, AX, ba, ca, [], none, 0, [], none, 0))
   ·exact frI
   ·(simp only [hbf, ‹(ps[i]?.getD default).op = 2›, decide_true, List.length_nil]; repeat' (first | exact trivial | refine ⟨by first | rfl | simp [Blk.ent], ?_⟩))
   ·try dsimp only
    exact ⟨Nat.zero_le _, lkK_nil.symm, hL, hX, sl_nil _ _ _, sl_nil _ _ _⟩
   ·exact .refl _
   rintro ⟨j, st, L, bl2, cl2, X, ba2, ca2, F, b1, c1, T, b2, c2⟩ hI
   try dsimp only at hI
   obtain ⟨hj, hst, oL, oX, oF, oT⟩ := hI
   try dsimp only
   refine ⟨fun q14 => ?_, fun q14 => ?_⟩
   ·simp at q14
    refine ⟨fun q15 => ?_, fun q15 => ?_⟩
    ·simp at q15
     have hkl := (rd_len (xs := (ps[i]?.getD default).kids) (by assumption)).2
     have hkd := kid_rng hps hi ‹¬ (ps[i]?.getD default).op = 1› (by omega : j < (ps[i]?.getD default).kids.length)
     have hfine : LFine (lb, xs) (sumK (cntF ps n) ((ps[i]?.getD default).kids.take j)) st := (by rw [hst]; exact lkK_fine hps hi hin hg hlb ‹¬ (ps[i]?.getD default).op = 1› j (by omega))
     have hbd9 : ¬ badM st.1 = true := (by rw [‹badM st.1 = false›]; decide)
     have hnb := bad_not (s := st.1) hbd9
     have hV := look_fine ps n ((ps[i]?.getD default).kids[j]?.getD 0).toNat (st.1.1, st.1.2) hfine.1 hnb hps (by omega) (by omega)
     obtain ⟨hf1, hf2, hf3, hf4, hf5, hf6⟩ := hfine
     have rF := Gt.owrd _ oF
     have rT := Gt.owrd _ oT
     refine idx_rd h2x2 ?_ ?_ fun b16 o16 hb16 => ?_
     ·omega
     ·omega
     refine load_allN 0 (j) rfl h2x2 ?_ ?_ hb16 rfl (mem_at 4 rfl) fun l17 hl17 => ?_
     ·omega
     ·omega
     obtain ⟨rfl, hw17⟩ := hl17; simp only [flStr, flInt, okI] at hw17
     refine callR_blk 0 (L ++ X) [F, T, H] rfl ?_ (hI _ _ _ _ _ _ _ _ _ _ _ _ _ _ (Int.toNat_of_nonneg ?_).symm ?_ ?_ ?_ ?_ ?_ oL oX) (Rp.mono _ (mem_at 2 rfl) hp) ?_
     ·exact rlA
     ·omega
     ·omega
     ·omega
     ·trivial
     ·trivial
     ·trivial
     rintro _ A18 ⟨bl1, cl1, ba1, ca1, AL1, AX1, b11, c11, A11, b21, c21, A21, rfl, rfl, oL1, oX1, oF1, oT1⟩
     generalize hr : look ps n ((ps[i]?.getD default).kids[j]?.getD 0).toNat (st.1.1, st.1.2) = r at *
     obtain ⟨hv1, hv2, hv3, hv4, hv5, hv6⟩ := hV
     have hnxR := lkS_row (op := (ps[i]?.getD default).op) (r := r) hbd9
     have hnxA := lkS_alt (op := (ps[i]?.getD default).op) (r := r) hbd9
     have hnxO := lkS_one (op := (ps[i]?.getD default).op) (r := r) hbd9
     have rL1 := Gt.owrd _ oL1
     have rF1 := Gt.owrd _ oF1
     have rT1 := Gt.owrd _ oT1
     refine ⟨_, _, [AL1, AX1, A11, A21], rfl, perm4, ?_⟩
     refine ⟨fun x19 => ?_⟩
     refine ⟨fun q20 => ?_, fun q20 => ?_⟩
     ·simp at q20
      refine callR_blk 0 (AX1) [AL1, A11, A21, F, T, H] rfl ?_ (mJoin_ct _ _ _ _ _ _ _ _ _ (r.fst.fst) (st.snd.last) (r.snd.first) _ _ _ _ oX1 ?_ ?_ ?_ ?_) ⟨(Rp.mono _ (mem_at 0 rfl) rL1), (Rp.mono _ (mem_at 4 rfl) rT), (Rp.mono _ (mem_at 1 rfl) rF1)⟩ ?_
      ·exact rlA
      ·exact hv1.1
      ·exact (fun x hx => by have := hf4 x hx; have h9 : st.1.1.length = _ := hf2; have h8 : st.1.1.length ≤ 23 := hnb; omega)
      ·trivial
      ·omega
      rintro _ A21 ⟨bj21, cj21, Aj21, rfl, rfl, oj21⟩
      refine ⟨_, _, [Aj21], rfl, perm1, ?_⟩
      refine ⟨fun q22 => ?_, fun q22 => ?_⟩
      ·(have hRt : st.2.null = true := q22)
       refine append_allN (g := gI) (T := (3 : TypeId)) G_ok (by repeat (first | exact fl_plain | apply plain_iso | apply plain_pair)) F [Aj21, AL1, A11, A21, T, H] 2 ?_ oF rfl rF1 rfl rfl rfl rfl rfl rfl rfl rfl ?_ fun b23 c23 A23 o23 => ?_
       ·exact rlA
       ·omega
       refine ⟨fun q24 => ?_, fun q24 => ?_⟩
       ·(have hVt : r.2.null = true := q24)
        refine draw G_ok mixed (some 6) (.q 1 (.q 2 (.q 4 (.q 5 (.f 0 (.f 3 (.tl 6 (.f 7 (.f 8 (.nil)))))))))) (by decide +kernel) ?_
        refine ⟨fun x25 => ?_⟩
        refine VC.intro ?_ ?_
        ·exact keep_new
        refine append_allN (g := gI) (T := (3 : TypeId)) G_ok (by repeat (first | exact fl_plain | apply plain_iso | apply plain_pair)) [] [[(x25, Obj.cells { toList := zeros (0 : Nat) [Value.int IntKind.i64 (0 : Int)] } (3 : TypeId))], A23, Aj21, AL1, A11, A21, T, H] 6 ?_ (sl_nil _ _ _) rfl rT rfl rfl rfl rfl rfl rfl rfl rfl ?_ fun b26 c26 A26 o26 => ?_
        ·exact .refl _
        ·simp; omega
        refine VC.intro ?_ ?_
        ·exact keep_sub (by simp) (by simp)
        refine append_allN (g := gI) (T := (3 : TypeId)) G_ok (by repeat (first | exact fl_plain | apply plain_iso | apply plain_pair)) A26 [[(x25, Obj.cells { toList := zeros (0 : Nat) [Value.int IntKind.i64 (0 : Int)] } (3 : TypeId))], A23, Aj21, AL1, A11, A21, T, H] 5 ?_ o26 rfl rT1 rfl rfl rfl rfl rfl rfl rfl rfl ?_ fun b27 c27 A27 o27 => ?_
        ·exact .refl _
        ·simp; omega
        refine ⟨fun q28 => ?_, fun q28 => ?_⟩
        ·(have hRt : st.2.null = true := q28)
         apply loop_stepI (j + 1, lkStep (ps[i]?.getD default).op (fun _ _ => r) st 0, _, _, _, _, _, _, _, _, _, _, _, _)
         ·exact frI
         ·(simp only [hnxR ‹(ps[i]?.getD default).op = 2›, lkRow, hRt, hVt, badM_mk, Bool.false_eq_true, Bool.true_and, Bool.and_true, Bool.false_and, Bool.and_false, Bool.true_or, Bool.false_or, Bool.or_true, Bool.or_false, if_true, if_false, reduceIte, decide_true, decide_false, List.nil_append]; repeat' (first | exact trivial | refine ⟨by first | rfl | simp [Blk.ent], ?_⟩))
         ·try dsimp only
          (refine ⟨by omega, lk_next2 (by omega) hst hr, ?_⟩; simp only [hnxR ‹(ps[i]?.getD default).op = 2›, lkRow, hRt, hVt, Bool.false_eq_true, Bool.true_and, Bool.and_true, Bool.false_and, Bool.and_false, Bool.true_or, Bool.false_or, Bool.or_true, Bool.or_false, if_true, if_false, reduceIte, decide_true, decide_false, List.nil_append]; exact ⟨oL1, by assumption, by assumption, by assumption⟩)
         ·exact rlA
         try dsimp only
         omega
        ·exact absurd (‹st.2.null = true›.symm.trans q28) (by decide)
       ·(have hVf : r.2.null = false := q24)
        refine ⟨fun q29 => ?_, fun q29 => ?_⟩
        ·(have hRt : st.2.null = true := q29)
         apply loop_stepI (j + 1, lkStep (ps[i]?.getD default).op (fun _ _ => r) st 0, _, _, _, _, _, _, _, _, _, _, _, _)
         ·exact frI
         ·(simp only [hnxR ‹(ps[i]?.getD default).op = 2›, lkRow, hRt, hVf, badM_mk, Bool.false_eq_true, Bool.true_and, Bool.and_true, Bool.false_and, Bool.and_false, Bool.true_or, Bool.false_or, Bool.or_true, Bool.or_false, if_true, if_false, reduceIte, decide_true, decide_false, List.nil_append]; repeat' (first | exact trivial | refine ⟨by first | rfl | simp [Blk.ent], ?_⟩))
         ·try dsimp only
          (refine ⟨by omega, lk_next2 (by omega) hst hr, ?_⟩; simp only [hnxR ‹(ps[i]?.getD default).op = 2›, lkRow, hRt, hVf, Bool.false_eq_true, Bool.true_and, Bool.and_true, Bool.false_and, Bool.and_false, Bool.true_or, Bool.false_or, Bool.or_true, Bool.or_false, if_true, if_false, reduceIte, decide_true, decide_false, List.nil_append]; exact ⟨oL1, by assumption, by assumption, oT1⟩)
         ·exact rlA
         try dsimp only
         omega
        ·exact absurd (‹st.2.null = true›.symm.trans q29) (by decide)
      ·(have hRf : st.2.null = false := q22)
       refine ⟨fun q30 => ?_, fun q30 => ?_⟩
       ·(have hVt : r.2.null = true := q30)
        refine draw G_ok mixed (some 6) (.q 1 (.q 2 (.q 4 (.q 5 (.f 0 (.f 3 (.tl 6 (.f 7 (.f 8 (.nil)))))))))) (by decide +kernel) ?_
        refine ⟨fun x31 => ?_⟩
        refine VC.intro ?_ ?_
        ·exact keep_new
        refine append_allN (g := gI) (T := (3 : TypeId)) G_ok (by repeat (first | exact fl_plain | apply plain_iso | apply plain_pair)) [] [[(x31, Obj.cells { toList := zeros (0 : Nat) [Value.int IntKind.i64 (0 : Int)] } (3 : TypeId))], Aj21, AL1, A11, A21, F, T, H] 6 ?_ (sl_nil _ _ _) rfl rT rfl rfl rfl rfl rfl rfl rfl rfl ?_ fun b32 c32 A32 o32 => ?_
        ·exact .refl _
        ·simp; omega
        refine VC.intro ?_ ?_
        ·exact keep_sub (by simp) (by simp)
        refine append_allN (g := gI) (T := (3 : TypeId)) G_ok (by repeat (first | exact fl_plain | apply plain_iso | apply plain_pair)) A32 [[(x31, Obj.cells { toList := zeros (0 : Nat) [Value.int IntKind.i64 (0 : Int)] } (3 : TypeId))], Aj21, AL1, A11, A21, F, T, H] 4 ?_ o32 rfl rT1 rfl rfl rfl rfl rfl rfl rfl rfl ?_ fun b33 c33 A33 o33 => ?_
        ·exact .refl _
        ·simp; omega
        refine ⟨fun q34 => ?_, fun q34 => ?_⟩
        ·exact absurd (‹st.2.null = false›.symm.trans q34) (by decide)
        ·(have hRf : st.2.null = false := q34)
         apply loop_stepI (j + 1, lkStep (ps[i]?.getD default).op (fun _ _ => r) st 0, _, _, _, _, _, _, _, _, _, _, _, _)
         ·exact frI
         ·(simp only [hnxR ‹(ps[i]?.getD default).op = 2›, lkRow, hRf, hVt, badM_mk, Bool.false_eq_true, Bool.true_and, Bool.and_true, Bool.false_and, Bool.and_false, Bool.true_or, Bool.false_or, Bool.or_true, Bool.or_false, if_true, if_false, reduceIte, decide_true, decide_false, List.nil_append]; repeat' (first | exact trivial | refine ⟨by first | rfl | simp [Blk.ent], ?_⟩))
         ·try dsimp only
          (refine ⟨by omega, lk_next2 (by omega) hst hr, ?_⟩; simp only [hnxR ‹(ps[i]?.getD default).op = 2›, lkRow, hRf, hVt, Bool.false_eq_true, Bool.true_and, Bool.and_true, Bool.false_and, Bool.and_false, Bool.true_or, Bool.false_or, Bool.or_true, Bool.or_false, if_true, if_false, reduceIte, decide_true, decide_false, List.nil_append]; exact ⟨oL1, by assumption, oF, by assumption⟩)
         ·exact rlA
         try dsimp only
         omega
       ·(have hVf : r.2.null = false := q30)
        refine ⟨fun q35 => ?_, fun q35 => ?_⟩
        ·exact absurd (‹st.2.null = false›.symm.trans q35) (by decide)
        ·(have hRf : st.2.null = false := q35)
         apply loop_stepI (j + 1, lkStep (ps[i]?.getD default).op (fun _ _ => r) st 0, _, _, _, _, _, _, _, _, _, _, _, _)
         ·exact frI
         ·(simp only [hnxR ‹(ps[i]?.getD default).op = 2›, lkRow, hRf, hVf, badM_mk, Bool.false_eq_true, Bool.true_and, Bool.and_true, Bool.false_and, Bool.and_false, Bool.true_or, Bool.false_or, Bool.or_true, Bool.or_false, if_true, if_false, reduceIte, decide_true, decide_false, List.nil_append]; repeat' (first | exact trivial | refine ⟨by first | rfl | simp [Blk.ent], ?_⟩))
         ·try dsimp only
          (refine ⟨by omega, lk_next2 (by omega) hst hr, ?_⟩; simp only [hnxR ‹(ps[i]?.getD default).op = 2›, lkRow, hRf, hVf, Bool.false_eq_true, Bool.true_and, Bool.and_true, Bool.false_and, Bool.and_false, Bool.true_or, Bool.false_or, Bool.or_true, Bool.or_false, if_true, if_false, reduceIte, decide_true, decide_false, List.nil_append]; exact ⟨oL1, by assumption, oF, oT1⟩)
         ·exact rlA
         try dsimp only
         omega
     ·simp at q20
      exfalso; omega
    ·simp at q15
     (rw [look_kids ‹¬ (ps[i]?.getD default).op = 1›, lkK_bad (j := j) (by rw [← hst]; exact ‹badM st.1 = true›), ← hst]; exact ⟨_, ⟨_, _, _, _, _, _, _, _, _, _, _, _, rfl, rfl, oL, oX, oF, oT⟩, rlB⟩)
   ·simp at q14
    (have hke : j = (ps[i]?.getD default).kids.length := (by omega); subst hke; rw [List.take_length] at hst; rw [look_kids ‹¬ (ps[i]?.getD default).op = 1›, ← hst]; exact ⟨_, ⟨_, _, _, _, _, _, _, _, _, _, _, _, rfl, rfl, oL, oX, oF, oT⟩, rlB⟩)
  ·simp at q13
   apply loop_mod (α := (Nat) × (MkS × Look) × (Hp) × (Option Addr) × (Nat) × (Hp) × (Option Addr) × (Nat) × (Hp) × (Option Addr) × (Nat) × (Hp) × (Option Addr) × (Nat)) G_ok [52, 53, 54, 55, 56, 57, 58, 59, 60, 61, 62, 63, 66, 67, 68, 69, 70, 71, 72, 9, 73, 74, 94, 93, 95, 96, 97, 98, 99, 100, 101, 102, 103, 104, 105, 106, 107, 108, 109, 110, 111, 112, 113, 114, 115, 116, 117, 118, 119, 120, 121, 122, 123, 124, 125, 126, 127, 128, 130, 129, 131, 132, 133, 134, 135, 136, 137, 138, 139, 140, 141, 142, 143, 144, 145, 146, 147, 148, 149, 75, 76, 77, 78, 79, 80, 81, 82, 83, 84, 85, 86, 87, 88, 89, 90, 91, 92, 64, 65, 8] (fun z => [(8, .v (.int .i64 z.1))]) (fun z => [⟨q, [Value.slice bp ps.length cp, .slice z.2.2.2.1 z.2.1.1.1.length z.2.2.2.2.1, .slice z.2.2.2.2.2.2.1 z.2.1.1.2.length z.2.2.2.2.2.2.2.1, .bool (badM z.2.1.1)], (249 : TypeId)⟩, ⟨x0, [Value.slice none (0 : Nat) (0 : Nat), Value.slice none (0 : Nat) (0 : Nat), Value.bool false], (251 : Nat)⟩, ⟨x3, [Value.int IntKind.i64 (ps[i]?.getD default).op, Value.int IntKind.u8 (↑(ps[i]?.getD default).label.toNat : Int), Value.slice b2x2 (ps[i]?.getD default).kids.length c2x2], (279 : Nat)⟩, ⟨x4, [.slice z.2.2.2.2.2.2.2.2.2.1 z.2.1.2.first.length z.2.2.2.2.2.2.2.2.2.2.1, .slice z.2.2.2.2.2.2.2.2.2.2.2.2.1 z.2.1.2.last.length z.2.2.2.2.2.2.2.2.2.2.2.2.2, .bool z.2.1.2.null], (251 : Nat)⟩]) (fun z => [z.2.2.1, z.2.2.2.2.2.1, z.2.2.2.2.2.2.2.2.1, z.2.2.2.2.2.2.2.2.2.2.2.1, H]) (fun z => (ps[i]?.getD default).kids.length - z.1) (fun z => z.1 ≤ (ps[i]?.getD default).kids.length ∧ z.2.1 = (lkK ps n (ps[i]?.getD default).op (lb, xs) ((ps[i]?.getD default).kids.take z.1)) ∧ (gSl 5 gY).ow [.slice z.2.2.2.1 z.2.1.1.1.length z.2.2.2.2.1] z.2.1.1.1 z.2.2.1 ∧ (gSl 282 gArc).ow [.slice z.2.2.2.2.2.2.1 z.2.1.1.2.length z.2.2.2.2.2.2.2.1] z.2.1.1.2 z.2.2.2.2.2.1 ∧ (gSl 3 gI).ow [.slice z.2.2.2.2.2.2.2.2.2.1 z.2.1.2.first.length z.2.2.2.2.2.2.2.2.2.2.1] z.2.1.2.first z.2.2.2.2.2.2.2.2.1 ∧ (gSl 3 gI).ow [.slice z.2.2.2.2.2.2.2.2.2.2.2.2.1 z.2.1.2.last.length z.2.2.2.2.2.2.2.2.2.2.2.2.2] z.2.1.2.last z.2.2.2.2.2.2.2.2.2.2.2.1) ((0, ((lb, xs), ⟨[], [], decide ((ps[i]?.getD default).op = 2)⟩), AL, bl, cl, AX, ba, ca, [], none, 0, [], none, 0))
   ·exact frI
   ·(simp only [hbf, ‹¬ (ps[i]?.getD default).op = 2›, decide_false, List.length_nil]; repeat' (first | exact trivial | refine ⟨by first | rfl | simp [Blk.ent], ?_⟩))
   ·try dsimp only
    exact ⟨Nat.zero_le _, lkK_nil.symm, hL, hX, sl_nil _ _ _, sl_nil _ _ _⟩
   ·exact .refl _
   rintro ⟨j, st, L, bl2, cl2, X, ba2, ca2, F, b1, c1, T, b2, c2⟩ hI
   try dsimp only at hI
   obtain ⟨hj, hst, oL, oX, oF, oT⟩ := hI
   try dsimp only
   refine ⟨fun q36 => ?_, fun q36 => ?_⟩
   ·simp at q36
    refine ⟨fun q37 => ?_, fun q37 => ?_⟩
    ·simp at q37
     have hkl := (rd_len (xs := (ps[i]?.getD default).kids) (by assumption)).2
     have hkd := kid_rng hps hi ‹¬ (ps[i]?.getD default).op = 1› (by omega : j < (ps[i]?.getD default).kids.length)
     have hfine : LFine (lb, xs) (sumK (cntF ps n) ((ps[i]?.getD default).kids.take j)) st := (by rw [hst]; exact lkK_fine hps hi hin hg hlb ‹¬ (ps[i]?.getD default).op = 1› j (by omega))
     have hbd9 : ¬ badM st.1 = true := (by rw [‹badM st.1 = false›]; decide)
     have hnb := bad_not (s := st.1) hbd9
     have hV := look_fine ps n ((ps[i]?.getD default).kids[j]?.getD 0).toNat (st.1.1, st.1.2) hfine.1 hnb hps (by omega) (by omega)
     obtain ⟨hf1, hf2, hf3, hf4, hf5, hf6⟩ := hfine
     have rF := Gt.owrd _ oF
     have rT := Gt.owrd _ oT
     refine idx_rd h2x2 ?_ ?_ fun b38 o38 hb38 => ?_
     ·omega
     ·omega
     refine load_allN 0 (j) rfl h2x2 ?_ ?_ hb38 rfl (mem_at 4 rfl) fun l39 hl39 => ?_
     ·omega
     ·omega
     obtain ⟨rfl, hw39⟩ := hl39; simp only [flStr, flInt, okI] at hw39
     refine callR_blk 0 (L ++ X) [F, T, H] rfl ?_ (hI _ _ _ _ _ _ _ _ _ _ _ _ _ _ (Int.toNat_of_nonneg ?_).symm ?_ ?_ ?_ ?_ ?_ oL oX) (Rp.mono _ (mem_at 2 rfl) hp) ?_
     ·exact rlA
     ·omega
     ·omega
     ·omega
     ·trivial
     ·trivial
     ·trivial
     rintro _ A40 ⟨bl1, cl1, ba1, ca1, AL1, AX1, b11, c11, A11, b21, c21, A21, rfl, rfl, oL1, oX1, oF1, oT1⟩
     generalize hr : look ps n ((ps[i]?.getD default).kids[j]?.getD 0).toNat (st.1.1, st.1.2) = r at *
     obtain ⟨hv1, hv2, hv3, hv4, hv5, hv6⟩ := hV
     have hnxR := lkS_row (op := (ps[i]?.getD default).op) (r := r) hbd9
     have hnxA := lkS_alt (op := (ps[i]?.getD default).op) (r := r) hbd9
     have hnxO := lkS_one (op := (ps[i]?.getD default).op) (r := r) hbd9
     have rL1 := Gt.owrd _ oL1
     have rF1 := Gt.owrd _ oF1
     have rT1 := Gt.owrd _ oT1
     refine ⟨_, _, [AL1, AX1, A11, A21], rfl, perm4, ?_⟩
     refine ⟨fun x41 => ?_⟩
     refine ⟨fun q42 => ?_, fun q42 => ?_⟩
     ·simp at q42
      exfalso; omega
     ·simp at q42
      refine ⟨fun q43 => ?_, fun q43 => ?_⟩
      ·simp at q43
       refine append_allN (g := gI) (T := (3 : TypeId)) G_ok (by repeat (first | exact fl_plain | apply plain_iso | apply plain_pair)) F [AL1, AX1, A11, A21, T, H] 2 ?_ oF rfl rF1 rfl rfl rfl rfl rfl rfl rfl rfl ?_ fun b44 c44 A44 o44 => ?_
       ·exact rlA
       ·omega
       refine append_allN (g := gI) (T := (3 : TypeId)) G_ok (by repeat (first | exact fl_plain | apply plain_iso | apply plain_pair)) T [A44, AL1, AX1, A11, A21, H] 4 ?_ oT rfl rT1 rfl rfl rfl rfl rfl rfl rfl rfl ?_ fun b45 c45 A45 o45 => ?_
       ·exact rlA
       ·omega
       refine ⟨fun q46 => ?_, fun q46 => ?_⟩
       ·(have hRt : st.2.null = true := q46)
        apply loop_stepI (j + 1, lkStep (ps[i]?.getD default).op (fun _ _ => r) st 0, _, _, _, _, _, _, _, _, _, _, _, _)
        ·exact frI
        ·(simp only [hnxA ‹¬ (ps[i]?.getD default).op = 2› ‹(ps[i]?.getD default).op = 3›, lkAlt, hRt, Bool.false_eq_true, Bool.true_and, Bool.and_true, Bool.false_and, Bool.and_false, Bool.true_or, Bool.false_or, Bool.or_true, Bool.or_false, if_true, if_false, reduceIte, decide_true, decide_false, List.nil_append]; repeat' (first | exact trivial | refine ⟨by first | rfl | simp [Blk.ent], ?_⟩))
        ·try dsimp only
         (refine ⟨by omega, lk_next2 (by omega) hst hr, ?_⟩; simp only [hnxA ‹¬ (ps[i]?.getD default).op = 2› ‹(ps[i]?.getD default).op = 3›, lkAlt]; exact ⟨oL1, oX1, by assumption, by assumption⟩)
        ·exact rlA
        try dsimp only
        omega
       ·(have hRf : st.2.null = false := q46)
        apply loop_stepI (j + 1, lkStep (ps[i]?.getD default).op (fun _ _ => r) st 0, _, _, _, _, _, _, _, _, _, _, _, _)
        ·exact frI
        ·(simp only [hnxA ‹¬ (ps[i]?.getD default).op = 2› ‹(ps[i]?.getD default).op = 3›, lkAlt, hRf, Bool.false_eq_true, Bool.true_and, Bool.and_true, Bool.false_and, Bool.and_false, Bool.true_or, Bool.false_or, Bool.or_true, Bool.or_false, if_true, if_false, reduceIte, decide_true, decide_false, List.nil_append]; repeat' (first | exact trivial | refine ⟨by first | rfl | simp [Blk.ent], ?_⟩))
        ·try dsimp only
         (refine ⟨by omega, lk_next2 (by omega) hst hr, ?_⟩; simp only [hnxA ‹¬ (ps[i]?.getD default).op = 2› ‹(ps[i]?.getD default).op = 3›, lkAlt]; exact ⟨oL1, oX1, by assumption, by assumption⟩)
        ·exact rlA
        try dsimp only
        omega
      ·simp at q43
       refine ⟨fun q47 => ?_, fun q47 => ?_⟩
       ·simp at q47
        refine callR_blk 0 (AX1) [AL1, A11, A21, F, T, H] rfl ?_ (mJoin_ct _ _ _ _ _ _ _ _ _ (r.fst.fst) (r.snd.last) (r.snd.first) _ _ _ _ oX1 ?_ ?_ ?_ ?_) ⟨(Rp.mono _ (mem_at 0 rfl) rL1), (Rp.mono _ (mem_at 2 rfl) rT1), (Rp.mono _ (mem_at 1 rfl) rF1)⟩ ?_
        ·exact rlA
        ·exact hv1.1
        ·exact (fun x hx => by have := hv4 x hx; have h9 : r.1.1.length = _ := hv2; omega)
        ·trivial
        ·omega
        rintro _ A48 ⟨bj48, cj48, Aj48, rfl, rfl, oj48⟩
        refine ⟨_, _, [Aj48], rfl, perm1, ?_⟩
        refine ⟨fun q49 => ?_, fun q49 => ?_⟩
        ·(have hVt : r.2.null = true := q49)
         apply loop_stepI (j + 1, lkStep (ps[i]?.getD default).op (fun _ _ => r) st 0, _, _, _, _, _, _, _, _, _, _, _, _)
         ·exact frI
         ·(simp only [hnxO ‹¬ (ps[i]?.getD default).op = 2› ‹¬ (ps[i]?.getD default).op = 3›, lkOne, if_neg ‹¬ (ps[i]?.getD default).op = 6›, hVt, badM_mk, Bool.false_eq_true, Bool.true_and, Bool.and_true, Bool.false_and, Bool.and_false, Bool.true_or, Bool.false_or, Bool.or_true, Bool.or_false, if_true, if_false, reduceIte, decide_true, decide_false, List.nil_append]; repeat' (first | exact trivial | refine ⟨by first | rfl | simp [Blk.ent], ?_⟩))
         ·try dsimp only
          (refine ⟨by omega, lk_next2 (by omega) hst hr, ?_⟩; simp only [hnxO ‹¬ (ps[i]?.getD default).op = 2› ‹¬ (ps[i]?.getD default).op = 3›, lkOne, if_neg ‹¬ (ps[i]?.getD default).op = 6›]; exact ⟨oL1, by assumption, oF1, oT1⟩)
         ·exact rlA
         try dsimp only
         omega
        ·(have hVf : r.2.null = false := q49)
         apply loop_stepI (j + 1, lkStep (ps[i]?.getD default).op (fun _ _ => r) st 0, _, _, _, _, _, _, _, _, _, _, _, _)
         ·exact frI
         ·(simp only [hnxO ‹¬ (ps[i]?.getD default).op = 2› ‹¬ (ps[i]?.getD default).op = 3›, lkOne, if_neg ‹¬ (ps[i]?.getD default).op = 6›, hVf, badM_mk, Bool.false_eq_true, Bool.true_and, Bool.and_true, Bool.false_and, Bool.and_false, Bool.true_or, Bool.false_or, Bool.or_true, Bool.or_false, if_true, if_false, reduceIte, decide_true, decide_false, List.nil_append, ne_dec]; repeat' (first | exact trivial | refine ⟨by first | rfl | simp [Blk.ent], ?_⟩))
         ·try dsimp only
          (refine ⟨by omega, lk_next2 (by omega) hst hr, ?_⟩; simp only [hnxO ‹¬ (ps[i]?.getD default).op = 2› ‹¬ (ps[i]?.getD default).op = 3›, lkOne, if_neg ‹¬ (ps[i]?.getD default).op = 6›]; exact ⟨oL1, by assumption, oF1, oT1⟩)
         ·exact rlA
         try dsimp only
         omega
       ·simp at q47
        refine ⟨fun q50 => ?_, fun q50 => ?_⟩
        ·(have hVt : r.2.null = true := q50)
         apply loop_stepI (j + 1, lkStep (ps[i]?.getD default).op (fun _ _ => r) st 0, _, _, _, _, _, _, _, _, _, _, _, _)
         ·exact frI
         ·(simp only [hnxO ‹¬ (ps[i]?.getD default).op = 2› ‹¬ (ps[i]?.getD default).op = 3›, lkOne, if_pos ‹(ps[i]?.getD default).op = 6›, hVt, badM_mk, Bool.false_eq_true, Bool.true_and, Bool.and_true, Bool.false_and, Bool.and_false, Bool.true_or, Bool.false_or, Bool.or_true, Bool.or_false, if_true, if_false, reduceIte, decide_true, decide_false, List.nil_append]; repeat' (first | exact trivial | refine ⟨by first | rfl | simp [Blk.ent], ?_⟩))
         ·try dsimp only
          (refine ⟨by omega, lk_next2 (by omega) hst hr, ?_⟩; simp only [hnxO ‹¬ (ps[i]?.getD default).op = 2› ‹¬ (ps[i]?.getD default).op = 3›, lkOne, if_pos ‹(ps[i]?.getD default).op = 6›]; exact ⟨oL1, oX1, oF1, oT1⟩)
         ·exact rlA
         try dsimp only
         omega
        ·(have hVf : r.2.null = false := q50)
         apply loop_stepI (j + 1, lkStep (ps[i]?.getD default).op (fun _ _ => r) st 0, _, _, _, _, _, _, _, _, _, _, _, _)
         ·exact frI
         ·(simp only [hnxO ‹¬ (ps[i]?.getD default).op = 2› ‹¬ (ps[i]?.getD default).op = 3›, lkOne, if_pos ‹(ps[i]?.getD default).op = 6›, hVf, badM_mk, Bool.false_eq_true, Bool.true_and, Bool.and_true, Bool.false_and, Bool.and_false, Bool.true_or, Bool.false_or, Bool.or_true, Bool.or_false, if_true, if_false, reduceIte, decide_true, decide_false, List.nil_append, ne_dec]; repeat' (first | exact trivial | refine ⟨by first | rfl | simp [Blk.ent], ?_⟩))
         ·try dsimp only
          (refine ⟨by omega, lk_next2 (by omega) hst hr, ?_⟩; simp only [hnxO ‹¬ (ps[i]?.getD default).op = 2› ‹¬ (ps[i]?.getD default).op = 3›, lkOne, if_pos ‹(ps[i]?.getD default).op = 6›]; exact ⟨oL1, oX1, oF1, oT1⟩)
         ·exact rlA
         try dsimp only
         omega
    ·simp at q37
     (rw [look_kids ‹¬ (ps[i]?.getD default).op = 1›, lkK_bad (j := j) (by rw [← hst]; exact ‹badM st.1 = true›), ← hst]; exact ⟨_, ⟨_, _, _, _, _, _, _, _, _, _, _, _, rfl, rfl, oL, oX, oF, oT⟩, rlB⟩)
   ·simp at q36
    (have hke : j = (ps[i]?.getD default).kids.length := (by omega); subst hke; rw [List.take_length] at hst; rw [look_kids ‹¬ (ps[i]?.getD default).op = 1›, ← hst]; exact ⟨_, ⟨_, _, _, _, _, _, _, _, _, _, _, _, rfl, rfl, oL, oX, oF, oT⟩, rlB⟩)
end
end Go.Proofs.YtcnclhjhnjpeiaaGreatDoor
namespace Go.SX
open Go.Proofs Go.Sort Go.Shelf
theorem world_eq {a b : World} (h1 : a.heap = b.heap) (h2 : a.tape = b.tape) (h3 : a.drawn = b.drawn) (h4 : a.os = b.os) (h5 : a.output = b.output) : a = b := by
 cases a; cases b; simp only at h1 h2 h3 h4 h5; subst h1 h2 h3 h4 h5; rfl
theorem grown_of_sat {W w' : World} {A : Hp} (h : Sat W (A ++ allOf W) w') : ∃ q os', w' = Sort.grow (W.drewN q) os' := by
 have hb := below_of_sat h
 refine ⟨w'.drawn - W.drawn, w'.heap.extract W.heap.size w'.heap.size, world_eq ?_ hb.tape ?_ hb.os hb.output⟩
 ·show w'.heap = W.heap ++ w'.heap.extract W.heap.size w'.heap.size
  apply Array.ext_getElem?
  intro i
  rw [Array.getElem?_append]
  split
  ·rename_i hi; rw [hb.block i hi]
  rename_i hi
  have h2 := hb.size
  rw [Array.getElem?_extract]
  split
  ·congr 1; omega
  rename_i h3
  rw [Array.getElem?_eq_none (by omega)]
 show w'.drawn = W.drawn + (w'.drawn - W.drawn)
 have := h.dr; omega
theorem Sat.grow {E : World} {H : Hp} {w : World} (h : Sat E H w) (os : Array Obj) : Sat E H (Sort.grow w os) :=
 ⟨h.os, h.out, h.tape, fun b o hm => by
  show (w.heap ++ os)[b]? = some o
  rw [Array.getElem?_append_left (h.lt hm)]; exact h.mem b o hm, h.nodup, h.dr⟩
theorem Sat.ahead {E : World} {H : Hp} {w : World} (h : Sat E H w) (n : Nat) : Sat E H (Sort.ahead w n) :=
 ⟨h.os, h.out, h.tape, h.mem, h.nodup, Nat.le_trans h.dr (Nat.le_add_right _ _)⟩
theorem putCells_all (F0 sp : List Value) (F : Array Value) (hl : F0.length = F.size) : putCells id 0 F (⟨F0 ++ sp⟩ : Array Value) = ⟨F.toList ++ sp⟩ := by
 apply Array.ext_getElem?
 intro i
 unfold putCells
 rw [Array.getElem?_mapIdx]
 simp only [List.getElem?_toArray, Nat.zero_add, Nat.zero_le, true_and, Nat.sub_zero, id]
 by_cases hi : i < F.size
 ·rw [List.getElem?_append_left (by omega), List.getElem?_append_left (by simpa using hi), List.getElem?_eq_getElem (by omega : i < F0.length)]
  simp [hi]
 rw [List.getElem?_append_right (by omega), List.getElem?_append_right (by simpa using hi)]
 simp [hi, hl]
theorem Sat.putRow {E : World} {B : Hp} {w : World} {b : Nat} {T : TypeId} {F0 sp : List Value} (F : Array Value) (h : Sat E ((b, Obj.cells ⟨F0 ++ sp⟩ T) :: B) w) (hl : F0.length = F.size) : Sat E ((b, Obj.cells ⟨F.toList ++ sp⟩ T) :: B) (Sort.putRow id w b 0 F) := by
 refine Sat.upd (A := []) (o' := Obj.cells ⟨F.toList ++ sp⟩ T) h rfl rfl rfl ?_ ?_
 ·have h2 := h.mem b _ (List.mem_cons_self ..)
  show (w.heap.modify b (onCells (putCells id 0 F)))[b]? = _
  rw [Array.getElem?_modify, if_pos rfl, h2]
  simp only [Option.map_some, onCells, putCells_all F0 sp F hl]
 intro i hi
 show (w.heap.modify b _)[i]? = _
 rw [Array.getElem?_modify, if_neg (Ne.symm hi)]
theorem holds_row {E : World} {B : Hp} {w : World} {b : Nat} {T : TypeId} {sp : List Value} {F : Array Value} (h : Sat E ((b, Obj.cells ⟨F.toList ++ sp⟩ T) :: B) w) : Sort.Holds id w b 0 F := by
 intro j hj
 have h2 := h.mem b _ (List.mem_cons_self ..)
 refine ⟨?_, ?_⟩
 ·rw [Nat.zero_add, h.cell (List.mem_cons_self ..)]
  simp only [List.getElem?_toArray, id]
  rw [List.getElem?_append_left (by simpa using hj)]
  simp [hj]
 simp [World.frozen?, h2]
theorem flatK_list {α : Type} [Inhabited α] (f : Fl α) (d : Array α) : (flatK f.enc f.size d).toList = d.toList.flatMap f.enc := by
 apply List.ext_getElem?
 intro t
 have hl := flat_length f d.toList
 by_cases ht : t < d.size * f.size
 ·have hp := f.pos
  have hq : t / f.size < d.size := (Nat.div_lt_iff_lt_mul hp).2 ht
  have hm : t % f.size < f.size := Nat.mod_lt _ hp
  have h1 := flat_get f d.toList (t / f.size) (t % f.size) (by simpa using hq) hm
  rw [Nat.mul_comm (t / f.size), Nat.div_add_mod] at h1
  rw [h1]
  have h2 := get_flatK f.enc f.size d t ht
  have h3 : t < (flatK f.enc f.size d).size := by rw [size_flatK]; exact ht
  rw [getElem!_pos _ t h3] at h2
  rw [Array.getElem?_toList, Array.getElem?_eq_getElem h3, h2, getElem!_pos d _ hq]
  rw [List.getElem?_eq_getElem (by rw [f.len]; exact hm), getElem!_pos _ _ (by rw [f.len]; exact hm)]
  rfl
 rw [List.getElem?_eq_none (by simpa using (by omega : d.size * f.size ≤ t)), List.getElem?_eq_none (by rw [hl]; simpa using (by omega : d.size * f.size ≤ t))]
theorem one_all : ∀ {l : List Value}, allOne l = true → ∀ v ∈ l, v.oneCell' = true
 | [], _, _, h => by cases h
 | x :: r, h, v, hv => by
  have h1 : x.oneCell' = true ∧ allOne r = true := by
   cases x <;> simp_all [allOne, Value.oneCell']
  rcases List.mem_cons.1 hv with rfl | hv
  ·exact h1.1
  exact one_all h1.2 v hv
section
variable {P : Program} {ρ : Ren} {α : Type}
def flSub (f : Fl α) : Fl { x : α // f.wf x } := ⟨f.size, fun x => f.enc x.1, fun _ => True, fun x => f.len x.1, fun x => f.one x.1, f.pos⟩
theorem sub_flat (f : Fl α) : ∀ l : List { x : α // f.wf x }, l.flatMap (flSub f).enc = (l.map (·.1)).flatMap f.enc
 | [] => rfl
 | x :: r => by simp only [List.flatMap_cons, List.map_cons, sub_flat f r]; rfl
theorem bears_fn {g : FuncId} {B : Func} (h : Bears P g B) (hb : B.body.isSome = true) : ∃ fn, P.funcs[g]? = some fn ∧ fn.name ≠ "runtime.NumGoroutine" ∧ fn.body.isSome = true := by
 obtain ⟨nm, h1, h2⟩ := h
 exact ⟨_, h2, by simpa using h1, hb⟩
theorem sortK_ct [Inhabited α] (L : SlLaysF0.n6 P ρ) (f : Fl α) (hwd : f.wf default) (aE : ∀ w, (isAgg (ρ.t 24)).run P w = .ok true w) (zE : ∀ w, (Go.sizeOf (ρ.t 24)).run P w = .ok f.size w)
  (cf : α → α → Int) (hO : SWO (ltOf cf)) (g : Nat) (eg : ∀ args w, (callFunc g args).run P w = .ok (.enter g args) w) (T : TypeId)
  (hc : ∀ x y, f.wf x → f.wf y → Ct P g [.agg ⟨f.enc x⟩, .agg ⟨f.enc y⟩] [] (fun _ => True) (fun v A => v = .int .i64 (cf x y) ∧ A = []))
  {base : Option Addr} {n cap : Nat} {xs : List α} {A0 : Hp} (ho : Ow f T (.slice base n cap) xs A0) (hn : xs.length < 4611686018427387904) :
  CtR P (ρ.f 6) [.slice base n cap, .func (.func g) #[] #[]] A0 (fun _ => True) (fun v A => v = .tuple #[] ∧ ∃ xs', xs'.Perm xs ∧ xs'.Pairwise (fun a b => ltOf cf b a = false) ∧ Ow f T (.slice base xs'.length cap) xs' A) := by
 refine ⟨bears_fn L.f6 rfl, fun E H w hs _ => ?_⟩
 obtain ⟨hw, hl, base0, cap0, e, h3⟩ := ho
 cases e
 rcases h3 with ⟨rfl, rfl, rfl⟩ | ⟨b, sp, rfl, rfl, h4, h5⟩
 ·refine (AnyF.slices_SortFunc_none L base 0 _ w).mono ?_
  rintro e w' ⟨rfl, rfl⟩
  exact ⟨_, [], rfl, ⟨rfl, [], .refl _, .nil, Ow.nil T base⟩, hs⟩
 letI : Inhabited { x : α // f.wf x } := ⟨⟨default, hwd⟩⟩
 let ys : List { x : α // f.wf x } := xs.pmap Subtype.mk hw
 have hys : ys.map (·.1) = xs := by simp [ys, List.map_pmap]
 have hfl : (flatK (flSub f).enc (flSub f).size ys.toArray).toList = xs.flatMap f.enc := by
  rw [flatK_list (flSub f) ys.toArray, sub_flat, hys]
 have hsz : ys.toArray.size = xs.length := by simp [ys]
 have hs1 : Sat E ((b, Obj.cells ⟨(flatK (flSub f).enc (flSub f).size ys.toArray).toList ++ sp⟩ T) :: H) w := by rw [hfl]; exact hs
 have hHolds : HoldsK (flSub f).enc (flSub f).size w b 0 ys.toArray := holds_row hs1
 have hcmp : CmpLays P g #[] (flSub f).enc (flSub f).size (fun x y => cf x.1 y.1) b 0 ys.toArray.size w := by
  intro m os dk _ x y
  have h6 := (hc x.1 y.1 x.2 y.2).2 _ (allOf (sortWorldK (flSub f).enc (flSub f).size w b 0 m dk os)) _ (sat_allOf _) trivial
  refine Calls.mono h6 ?_
  rintro e w' ⟨v, A, rfl, ⟨rfl, rfl⟩, h7⟩
  exact ⟨rfl, grown_of_sat h7⟩
 have hmain := AnyQ.slices_SortFunc L (flSub f).size aE zE (flSub f).enc (fun x => f.len x.1) (fun x => one_all (f.one x.1)) (fun x y => cf x.1 y.1)
  ⟨fun x => hO.irrefl x.1, fun x y z => hO.trans x.1 y.1 z.1, fun x y z => hO.ntrans x.1 y.1 z.1⟩ g #[] b 0 cap ys.toArray w eg hcmp hHolds (hs.lt (List.mem_cons_self ..)) (by rw [hsz]; exact hn)
 rw [hsz] at hmain
 refine Calls.mono hmain ?_
 rintro e w' ⟨rfl, d', m, os, hp, hso, rfl⟩
 have hds : d'.size = xs.length := by rw [hp.1, hsz]
 have hperm : d'.toList.Perm ys := by
  have h8 := hp.2.2
  have e1 : d'.extract 0 xs.length = d' := by rw [← hds]; simp
  have e2 : ys.toArray.extract 0 xs.length = ys.toArray := by rw [← hsz]; simp
  rw [e1, e2] at h8; exact h8
 have hperm2 : (d'.toList.map (·.1)).Perm xs := by rw [← hys]; exact hperm.map _
 have hlen : (d'.toList.map (·.1)).length = xs.length := hperm2.length_eq
 refine ⟨_, [(b, Obj.cells ⟨(d'.toList.map (·.1)).flatMap f.enc ++ sp⟩ T)], rfl, ⟨rfl, d'.toList.map (·.1), hperm2, ?_, fun x hx => hw x (hperm2.mem_iff.1 hx), by omega, _, _, rfl, .inr ⟨b, sp, rfl, rfl, by omega, by rw [hlen]; exact h5⟩⟩, ?_⟩
 ·rw [List.pairwise_map, List.pairwise_iff_getElem]
  intro i j hi hj hij
  have h9 := hso i j (Nat.zero_le _) hij (by simpa [hds] using hj)
  rw [getElem!_pos d' j (by simpa using hj), getElem!_pos d' i (by simpa using hi)] at h9
  exact h9
 have h10 : Sat E ((b, Obj.cells ⟨(flatK (flSub f).enc (flSub f).size d').toList ++ sp⟩ T) :: H) (sortWorldK (flSub f).enc (flSub f).size w b 0 m d' os) :=
  (Sat.putRow (F0 := xs.flatMap f.enc) _ (hs.ahead m) (by rw [flat_length, size_flatK, hds]; rfl)).grow os
 rw [flatK_list (flSub f) d', sub_flat] at h10
 exact h10
end
end Go.SX
namespace Go.Proofs.YtcnclhjhnjpeiaaGreatDoor
open Go.SX Go.Proofs
open Tryz
section
theorem arc_ext {a b : Arc} (h1 : a.from' = b.from') (h2 : a.label = b.label) (h3 : a.to = b.to) : a = b := by
 cases a; cases b; simp only at h1 h2 h3; subst h1 h2 h3; rfl
theorem less_total {a b : Arc} (h : a ≠ b) : arcLess a b = true ∨ arcLess b a = true := by
 by_cases h1 : a.from' = b.from'
 ·by_cases h2 : a.label = b.label
  ·rw [arcLess_to h1 h2, arcLess_to h1.symm h2.symm, decide_eq_true_iff, decide_eq_true_iff]
   have h3 : a.to ≠ b.to := fun h3 => h (arc_ext h1 h2 h3)
   omega
  rw [arcLess_label h1 h2, arcLess_label h1.symm (fun e => h2 e.symm), decide_eq_true_iff, decide_eq_true_iff]
  have h3 : a.label.toNat ≠ b.label.toNat := fun e => h2 (UInt8.toNat_inj.1 e)
  omega
 rw [arcLess_from h1, arcLess_from (fun e => h1 e.symm), decide_eq_true_iff, decide_eq_true_iff]; omega
theorem mem_putA {xs : List Arc} {x y : Arc} : y ∈ putA xs x ↔ y = x ∨ y ∈ xs := by
 unfold putA
 simp only [List.mem_append, List.mem_filter, List.mem_singleton]
 constructor
 ·rintro (h | h | h)
  ·exact .inr h.1
  ·exact .inl h
  exact .inr h.1
 intro h
 by_cases e : y = x
 ·exact .inr (.inl e)
 rcases h with h | h
 ·exact absurd h e
 rcases less_total e with h2 | h2
 ·exact .inl ⟨h, h2⟩
 exact .inr (.inr ⟨h, h2⟩)
theorem mem_joinT {lb : List UInt8} {f : Int} {y : Arc} : ∀ {to : List Int} {xs : List Arc}, y ∈ joinT lb f to xs ↔ y ∈ xs ∨ ∃ t ∈ to, y = arcOf lb f t
 | [], xs => by show y ∈ xs ↔ _; simp
 | t :: to, xs => by
  show y ∈ joinT lb f to (putA xs (arcOf lb f t)) ↔ _
  rw [mem_joinT, mem_putA]
  constructor
  ·rintro ((h | h) | ⟨t', h1, h2⟩)
   ·exact .inr ⟨t, List.mem_cons_self .., h⟩
   ·exact .inl h
   exact .inr ⟨t', List.mem_cons_of_mem _ h1, h2⟩
  rintro (h | ⟨t', h1, h2⟩)
  ·exact .inl (.inr h)
  rcases List.mem_cons.1 h1 with rfl | h1
  ·exact .inl (.inl h2)
  exact .inr ⟨t', h1, h2⟩
theorem mem_joinA {lb : List UInt8} {to : List Int} {y : Arc} : ∀ {fr : List Int} {xs : List Arc}, y ∈ joinA lb fr to xs ↔ y ∈ xs ∨ ∃ f ∈ fr, ∃ t ∈ to, y = arcOf lb f t
 | [], xs => by show y ∈ xs ↔ _; simp
 | f :: fr, xs => by
  show y ∈ joinA lb fr to (joinT lb f to xs) ↔ _
  rw [mem_joinA, mem_joinT]
  constructor
  ·rintro ((h | ⟨t, h1, h2⟩) | ⟨f', h1, h2⟩)
   ·exact .inl h
   ·exact .inr ⟨f, List.mem_cons_self .., t, h1, h2⟩
   exact .inr ⟨f', List.mem_cons_of_mem _ h1, h2⟩
  rintro (h | ⟨f', h1, h2⟩)
  ·exact .inl (.inl h)
  rcases List.mem_cons.1 h1 with rfl | h1
  ·exact .inl (.inr h2)
  exact .inr ⟨f', h1, h2⟩
theorem orL_bit {next i j : Nat} : ∀ (l : List Int) (fo : List Nat), i < fo.length → (∀ x ∈ l, 0 ≤ x) → ((orL fo l next)[i]?.getD 0).testBit j = ((fo[i]?.getD 0).testBit j || (decide ((i : Int) ∈ l) && next.testBit j))
 | [], fo, _, _ => by show (fo[i]?.getD 0).testBit j = _; simp
 | k :: l, fo, hi, hp => by
  show ((orL (orStep next fo k) l next)[i]?.getD 0).testBit j = _
  have hk := hp k (List.mem_cons_self ..)
  rw [orL_bit l _ (by unfold orStep; rw [List.length_set]; exact hi) (fun x hx => hp x (List.mem_cons_of_mem _ hx))]
  unfold orStep
  by_cases e : k.toNat = i
  ·have e2 : (i : Int) = k := by omega
   rw [e, List.getElem?_set_self hi]
   simp only [Option.getD_some, Nat.testBit_or, e2, List.mem_cons, true_or, decide_true, Bool.true_and]
   cases (fo[i]?.getD 0).testBit j <;> cases next.testBit j <;> simp
  have e2 : ¬ (i : Int) = k := by omega
  rw [List.getElem?_set_ne e]
  simp [e2]
theorem mem_bitsL {s n i : Nat} : ((i : Int) ∈ bitsL s n) ↔ i < n ∧ s.testBit i = true := by
 constructor
 ·intro h; have := bitsL_at h; exact ⟨by omega, by simpa using this.2.2⟩
 rintro ⟨h1, h2⟩
 unfold bitsL
 exact List.mem_map.2 ⟨i, List.mem_filter.2 ⟨List.mem_range.2 h1, h2⟩, rfl⟩
theorem orAt_bit {fo : List Nat} {last next i j : Nat} (hi : i < fo.length) (h32 : i < 32) : ((orAt fo last next)[i]?.getD 0).testBit j = ((fo[i]?.getD 0).testBit j || (last.testBit i && next.testBit j)) := by
 unfold orAt
 rw [orL_bit _ _ hi (fun x hx => (bitsL_at hx).1)]
 congr 2
 rw [Bool.eq_iff_iff, decide_eq_true_iff, mem_bitsL]
 exact ⟨fun h => h.2, fun h => ⟨h32, h⟩⟩
def memS (m : Nat) (l : List Int) : Prop := (∀ x ∈ l, 1 ≤ x) ∧ ∀ k : Nat, m.testBit k = true ↔ ((k : Int) + 1) ∈ l
theorem memS_at {m : Nat} {l : List Int} (h : memS m l) {x : Int} (hx : x ∈ l) : ∃ k : Nat, x = (k : Int) + 1 ∧ m.testBit k = true := by
 have h1 := h.1 x hx
 refine ⟨(x - 1).toNat, by omega, (h.2 _).2 ?_⟩
 rwa [show (((x - 1).toNat : Nat) : Int) + 1 = x by omega]
theorem memS_zero : memS 0 [] := ⟨fun _ h => (by cases h), fun k => by simp⟩
theorem memS_or {a b : Nat} {l r : List Int} (h : memS a l) (h2 : memS b r) : memS (a ||| b) (l ++ r) := by
 refine ⟨fun x hx => (List.mem_append.1 hx).elim (h.1 x) (h2.1 x), fun k => ?_⟩
 rw [Nat.testBit_or, Bool.or_eq_true, List.mem_append, h.2, h2.2]
theorem memS_one (n : Nat) : memS (2 ^ n) [((n + 1 : Nat) : Int)] := by
 refine ⟨fun x hx => by rw [List.mem_singleton.1 hx]; omega, fun k => ?_⟩
 rw [Nat.testBit_two_pow, decide_eq_true_iff, List.mem_singleton]; omega
def relS (p : Pos) (s : MkS) : Prop := p.1 = s.1 ∧ ∀ x : Arc, x ∈ s.2 ↔ ∃ i j : Nat, i < p.2.length ∧ (p.2[i]?.getD 0).testBit j = true ∧ x = ⟨(i : Int) + 1, p.1[j]?.getD default, (j : Int) + 1⟩
def relR (r : Pos × Span) (q : MkS × Look) : Prop := relS r.1 q.1 ∧ memS r.2.first q.2.first ∧ memS r.2.last q.2.last ∧ r.2.empty = q.2.null
theorem arcOf_nat (lb : List UInt8) (f : Int) (j : Nat) : arcOf lb f ((j : Int) + 1) = ⟨f, lb[j]?.getD default, (j : Int) + 1⟩ := by
 unfold arcOf
 rw [show ((j : Int) + 1 - 1).toNat = j by omega]
theorem rel_join {lb : List UInt8} {fo : List Nat} {xs : List Arc} {last first : Nat} {L F : List Int} (h : relS (lb, fo) (lb, xs)) (hl : memS last L) (hf : memS first F) (hb : last < 2 ^ fo.length) (h32 : fo.length ≤ 32) :
  relS (lb, orAt fo last first) (lb, joinA lb L F xs) := by
 refine ⟨rfl, fun x => ?_⟩
 show x ∈ joinA lb L F xs ↔ _
 rw [mem_joinA, h.2 x]
 have hlen : (orAt fo last first).length = fo.length := orL_len _ _ _
 constructor
 ·rintro (⟨i, j, h1, h2, h3⟩ | ⟨f, h1, t, h2, h3⟩)
  ·refine ⟨i, j, by show i < (orAt fo last first).length; rw [hlen]; exact h1, ?_, h3⟩
   rw [orAt_bit h1 (Nat.lt_of_lt_of_le h1 h32), show (fo[i]?.getD 0).testBit j = true from h2]; rfl
  obtain ⟨i, rfl, h4⟩ := memS_at hl h1
  obtain ⟨j, rfl, h5⟩ := memS_at hf h2
  have hi := bit_lt hb h4
  refine ⟨i, j, by show i < (orAt fo last first).length; rw [hlen]; exact hi, ?_, by rw [h3, arcOf_nat]⟩
  rw [orAt_bit hi (Nat.lt_of_lt_of_le hi h32), h4, h5]; simp
 rintro ⟨i, j, h1, h2, h3⟩
 have h1 : i < fo.length := by rw [← hlen]; exact h1
 rw [orAt_bit h1 (Nat.lt_of_lt_of_le h1 h32), Bool.or_eq_true, Bool.and_eq_true] at h2
 rcases h2 with h2 | ⟨h4, h5⟩
 ·exact .inl ⟨i, j, h1, h2, h3⟩
 exact .inr ⟨_, (hl.2 i).1 h4, _, (hf.2 j).1 h5, by rw [h3, arcOf_nat]⟩
theorem rel_row {st v : Pos × Span} {q r : MkS × Look} (h : relR st q) (hv : relR v r) (h1 : st.2.last < 2 ^ v.1.2.length) (h32 : v.1.2.length ≤ 32) : relR (rowOf st v) (lkRow q r) := by
 obtain ⟨⟨a1, a2⟩, a3, a4, a5⟩ := h
 obtain ⟨⟨vl, vf⟩, vs⟩ := v
 obtain ⟨⟨rl, ra⟩, rs⟩ := r
 obtain ⟨b1, b3, b4, b5⟩ := hv
 have e : vl = rl := b1.1
 subst e
 have hj := rel_join b1 a4 b3 h1 h32
 unfold rowOf lkRow
 refine ⟨hj, ?_, ?_, ?_⟩
 ·dsimp only
  rw [← a5]
  split
  ·exact memS_or a3 b3
  exact a3
 ·dsimp only at b5 ⊢
  rw [← b5]
  split
  ·exact memS_or a4 b4
  rw [Nat.zero_or]; exact b4
 dsimp only at b5 ⊢
 rw [a5, b5]
theorem rel_alt {st v : Pos × Span} {q r : MkS × Look} (h : relR st q) (hv : relR v r) : relR (altOf st v) (lkAlt q r) := by
 obtain ⟨-, a3, a4, a5⟩ := h
 obtain ⟨b1, b3, b4, b5⟩ := hv
 exact ⟨b1, memS_or a3 b3, memS_or a4 b4, by show (st.2.empty || v.2.empty) = (q.2.null || r.2.null); rw [a5, b5]⟩
theorem rel_one {op : Int} {v : Pos × Span} {r : MkS × Look} (hv : relR v r) (h1 : v.2.last < 2 ^ v.1.2.length) (h32 : v.1.2.length ≤ 32) : relR (oneStep op v) (lkOne op r) := by
 obtain ⟨⟨vl, vf⟩, vs⟩ := v
 obtain ⟨⟨rl, ra⟩, rs⟩ := r
 obtain ⟨b1, b3, b4, b5⟩ := hv
 have e : vl = rl := b1.1
 subst e
 unfold oneStep lkOne
 refine ⟨?_, b3, b4, ?_⟩
 ·dsimp only
  split
  ·exact b1
  exact rel_join b1 b4 b3 h1 h32
 dsimp only at b5 ⊢
 rw [b5]
theorem rel_step {p : Pos} {s : MkS} {b : UInt8} (h : relS p s) (hg : Good p) : relS (p.1 ++ [b], p.2 ++ [0]) (s.1 ++ [b], s.2) := by
 obtain ⟨lb, fo⟩ := p
 obtain ⟨lb', xs⟩ := s
 obtain ⟨rfl, h2⟩ := h
 refine ⟨rfl, fun x => ?_⟩
 have hz : ∀ i : Nat, (fo ++ [0])[i]?.getD 0 = fo[i]?.getD 0 := by
  intro i
  rcases Nat.lt_or_ge i fo.length with h | h
  ·rw [List.getElem?_append_left h]
  rw [List.getElem?_append_right h, List.getElem?_eq_none h]
  rcases Nat.eq_zero_or_pos (i - fo.length) with e | e
  ·rw [e]; rfl
  rw [List.getElem?_eq_none (by rw [List.length_singleton]; omega)]
 have hb : ∀ i j : Nat, (fo[i]?.getD 0).testBit j = true → j < lb.length ∧ i < fo.length := by
  intro i j hj
  rcases Nat.lt_or_ge i fo.length with h | h
  ·rw [List.getElem?_eq_getElem h] at hj
   exact ⟨bit_lt (hg.2 _ (List.getElem_mem h)) hj, h⟩
  rw [List.getElem?_eq_none h] at hj; simp at hj
 have hlb : ∀ j, j < lb.length → (lb ++ [b])[j]?.getD default = lb[j]?.getD default := fun j hj => by rw [List.getElem?_append_left hj]
 refine (h2 x).trans ?_
 constructor
 ·rintro ⟨i, j, h3, h4, h5⟩
  refine ⟨i, j, ?_, ?_, ?_⟩
  ·show i < (fo ++ [0]).length
   rw [List.length_append]; exact Nat.lt_of_lt_of_le h3 (Nat.le_add_right _ _)
  ·show ((fo ++ [0])[i]?.getD 0).testBit j = true
   rw [hz]; exact h4
  rw [h5]
  show (⟨_, lb[j]?.getD default, _⟩ : Arc) = ⟨_, (lb ++ [b])[j]?.getD default, _⟩
  rw [hlb j (hb i j h4).1]
 rintro ⟨i, j, h3, h4, h5⟩
 have h4 : ((fo ++ [0])[i]?.getD 0).testBit j = true := h4
 rw [hz] at h4
 obtain ⟨h6, h7⟩ := hb i j h4
 refine ⟨i, j, h7, h4, ?_⟩
 rw [h5]
 show (⟨_, (lb ++ [b])[j]?.getD default, _⟩ : Arc) = ⟨_, lb[j]?.getD default, _⟩
 rw [hlb j h6]
theorem fine_last {s : Pos} {c : Nat} {r : Pos × Span} (h : Fine s c r) : r.2.last < 2 ^ r.1.2.length := by
 rw [← h.1.1]; exact h.2.2.2
theorem rel_bad {p : Pos} {s : MkS} (h : relS p s) (hl : p.1.length ≤ 23) : badM s = false := by
 unfold badM; rw [← h.1]; exact decide_eq_false (by omega)
theorem fold_row {ps : List Piece} {n i : Nat} (hps : PsOk ps) (hi : i < ps.length) (hin : i ≤ n) (ih : ∀ j p s, j < i → relS p s → Good p → p.1.length + cntF ps n j ≤ 23 → relR (visit ps n j p) (look ps n j s)) :
  ∀ (l : List Int), (∀ k ∈ l, k.toNat < i) → ∀ (st : Pos × Span) (q : MkS × Look) (s0 : Pos) (c : Nat), Fine s0 c st → relR st q → st.1.1.length + sumK (cntF ps n) l ≤ 23 → relR (l.foldl (rowStep (visit ps n)) st) (l.foldl (lkStep 2 (look ps n)) q)
 | [], _, _, _, _, _, _, h, _ => h
 | k :: l, hk, st, q, s0, c, hf, h, hc => by
  have hk0 := hk k (List.mem_cons_self ..)
  simp only [sumK] at hc
  have hv := ih k.toNat st.1 q.1 hk0 h.1 hf.1 (by omega)
  have hvf := visit_fine ps n k.toNat st.1 hf.1 hps (by omega) (by omega)
  have e1 : rowStep (visit ps n) st k = rowOf st (visit ps n k.toNat st.1) := rfl
  have e2 : lkStep 2 (look ps n) q k = lkRow q (look ps n k.toNat q.1) := by
   unfold lkStep; rw [rel_bad h.1 (by omega)]; rfl
  have hlen : (visit ps n k.toNat st.1).1.1.length = st.1.1.length + cntF ps n k.toNat := hvf.2.1
  have hl2 := hvf.1.1
  rw [List.foldl_cons, List.foldl_cons, e1, e2]
  refine fold_row hps hi hin ih l (fun k hk' => hk k (List.mem_cons_of_mem _ hk')) _ _ s0 _ (row_fine hf hvf) (rel_row h hv ?_ (by omega)) ?_
  ·rw [← hl2]; exact Nat.lt_of_lt_of_le hf.2.2.2 (pow_mono (by omega))
  show (visit ps n k.toNat st.1).1.1.length + _ ≤ 23
  omega
theorem fold_alt {ps : List Piece} {n i : Nat} (hps : PsOk ps) (hi : i < ps.length) (hin : i ≤ n) (ih : ∀ j p s, j < i → relS p s → Good p → p.1.length + cntF ps n j ≤ 23 → relR (visit ps n j p) (look ps n j s)) :
  ∀ (l : List Int), (∀ k ∈ l, k.toNat < i) → ∀ (st : Pos × Span) (q : MkS × Look) (s0 : Pos) (c : Nat), Fine s0 c st → relR st q → st.1.1.length + sumK (cntF ps n) l ≤ 23 → relR (l.foldl (altStep (visit ps n)) st) (l.foldl (lkStep 3 (look ps n)) q)
 | [], _, _, _, _, _, _, h, _ => h
 | k :: l, hk, st, q, s0, c, hf, h, hc => by
  have hk0 := hk k (List.mem_cons_self ..)
  simp only [sumK] at hc
  have hv := ih k.toNat st.1 q.1 hk0 h.1 hf.1 (by omega)
  have hvf := visit_fine ps n k.toNat st.1 hf.1 hps (by omega) (by omega)
  have e1 : altStep (visit ps n) st k = altOf st (visit ps n k.toNat st.1) := rfl
  have e2 : lkStep 3 (look ps n) q k = lkAlt q (look ps n k.toNat q.1) := by
   unfold lkStep; rw [rel_bad h.1 (by omega)]; rfl
  have hlen : (visit ps n k.toNat st.1).1.1.length = st.1.1.length + cntF ps n k.toNat := hvf.2.1
  rw [List.foldl_cons, List.foldl_cons, e1, e2]
  refine fold_alt hps hi hin ih l (fun k hk' => hk k (List.mem_cons_of_mem _ hk')) _ _ s0 _ (alt_fine hf hvf) (rel_alt h hv) ?_
  show (visit ps n k.toNat st.1).1.1.length + _ ≤ 23
  omega
theorem visit_look {ps : List Piece} (hps : PsOk ps) : ∀ (n i : Nat) (p : Pos) (s : MkS), i < ps.length → i < n → relS p s → Good p → p.1.length + cntF ps n i ≤ 23 → relR (visit ps n i p) (look ps n i s)
 | 0, _, _, _, _, h, _, _, _ => by omega
 | n + 1, i, p, s, hi, hin, hr, hg, hc => by
  have ih : ∀ j p s, j < i → relS p s → Good p → p.1.length + cntF ps n j ≤ 23 → relR (visit ps n j p) (look ps n j s) :=
   fun j p s hj h1 h2 h3 => visit_look hps n j p s (by omega) (by omega) h1 h2 h3
  by_cases h1 : (ps[i]?.getD default).op = 1
  ·rw [visit_step h1, look_step h1]
   have e := hr.1
   refine ⟨rel_step hr hg, ?_, ?_, rfl⟩
   ·rw [← e]; exact memS_one _
   rw [← e]; exact memS_one _
  have hk : ∀ k ∈ (ps[i]?.getD default).kids, k.toNat < i := by
   intro k hk
   obtain ⟨j, hj, rfl⟩ := List.mem_iff_getElem.1 hk
   have h3 := kid_rng hps hi h1 hj
   rw [List.getElem?_eq_getElem hj] at h3
   simp only [Option.getD_some] at h3
   omega
  rw [cnt_kids h1] at hc
  rw [look_kids h1]
  by_cases h2 : (ps[i]?.getD default).op = 2
  ·rw [visit_row h2]
   unfold rowK lkK
   rw [h2]
   exact fold_row hps hi (by omega) ih _ hk _ _ p 0 (fine_zero hg) ⟨hr, memS_zero, memS_zero, rfl⟩ hc
  by_cases h3 : (ps[i]?.getD default).op = 3
  ·rw [visit_alt h3]
   unfold altK lkK
   rw [h3]
   exact fold_alt hps hi (by omega) ih _ hk _ _ p 0 (fine_zero hg) ⟨hr, memS_zero, memS_zero, rfl⟩ hc
  rw [visit_one h1 h2 h3]
  have hkl := kids_one hps hi h1 h2 h3
  obtain ⟨k, hk1⟩ := List.length_eq_one_iff.1 hkl
  rw [hk1] at hc hk ⊢
  have hk0 := hk k (List.mem_singleton.2 rfl)
  simp only [sumK] at hc
  have hv := ih k.toNat p s hk0 hr hg (by omega)
  have hvf := visit_fine ps n k.toNat p hg hps (by omega) (by omega)
  have hlen : (visit ps n k.toNat p).1.1.length = p.1.length + cntF ps n k.toNat := hvf.2.1
  have hl2 := hvf.1.1
  have e2 : lkK ps n (ps[i]?.getD default).op s [k] = lkOne (ps[i]?.getD default).op (look ps n k.toNat s) := by
   show lkStep _ _ _ _ = _
   unfold lkStep
   rw [rel_bad hr (by omega), if_neg (by decide), if_neg h2, if_neg h3]
  rw [e2]
  show relR (oneStep _ (visit ps n k.toNat p)) _
  exact rel_one hv (fine_last hvf) (by omega)
end
section
theorem arcLess_iff {a b : Arc} : arcLess a b = true ↔ a.from' < b.from' ∨ (a.from' = b.from' ∧ (a.label.toNat < b.label.toNat ∨ (a.label.toNat = b.label.toNat ∧ a.to < b.to))) := by
 by_cases h1 : a.from' = b.from'
 ·by_cases h2 : a.label = b.label
  ·rw [arcLess_to h1 h2, decide_eq_true_iff, h1, h2]; omega
  rw [arcLess_label h1 h2, decide_eq_true_iff]
  have h3 : a.label.toNat ≠ b.label.toNat := fun e => h2 (UInt8.toNat_inj.1 e)
  omega
 rw [arcLess_from h1, decide_eq_true_iff]; omega
def cmpA (a b : Arc) : Int := cmpL [a.from', (a.label.toNat : Int), a.to] [b.from', (b.label.toNat : Int), b.to]
theorem cmpA_lt (a b : Arc) : decide (cmpA a b < 0) = arcLess a b := by
 rw [Bool.eq_iff_iff, decide_eq_true_iff, arcLess_iff]
 unfold cmpA
 simp only [cmpL]
 split
 ·omega
 split
 ·omega
 split
 ·omega
 split
 ·omega
 split
 ·omega
 split <;> omega
theorem ltOf_cmpA : ltOf cmpA = arcLess := by
 funext a b
 rw [← cmpA_lt a b]; rfl
theorem arcLess_no {a b : Arc} : arcLess a b = false ↔ ¬ (a.from' < b.from' ∨ (a.from' = b.from' ∧ (a.label.toNat < b.label.toNat ∨ (a.label.toNat = b.label.toNat ∧ a.to < b.to)))) := by
 rw [← arcLess_iff, Bool.not_eq_true]
theorem swo_cmpA : Sort.SWO (ltOf cmpA) where
 irrefl x := by rw [ltOf_cmpA, arcLess_no]; omega
 trans x y z h1 h2 := by rw [ltOf_cmpA, arcLess_iff] at *; omega
 ntrans x y z h1 h2 := by rw [ltOf_cmpA, arcLess_no] at *; omega
theorem sort_unique : ∀ {xs ys : List Arc}, xs.Pairwise (fun a b => codeA a < codeA b) → ys.Pairwise (fun a b => codeA a < codeA b) → (∀ x, x ∈ xs ↔ x ∈ ys) → xs = ys
 | [], [], _, _, _ => rfl
 | [], y :: ys, _, _, h => by have := (h y).2 (List.mem_cons_self ..); cases this
 | x :: xs, [], _, _, h => by have := (h x).1 (List.mem_cons_self ..); cases this
 | x :: xs, y :: ys, h1, h2, h => by
  obtain ⟨p1, q1⟩ := List.pairwise_cons.1 h1
  obtain ⟨p2, q2⟩ := List.pairwise_cons.1 h2
  have e : x = y := by
   rcases List.mem_cons.1 ((h x).1 (List.mem_cons_self ..)) with e | e
   ·exact e
   rcases List.mem_cons.1 ((h y).2 (List.mem_cons_self ..)) with e2 | e2
   ·exact e2.symm
   have a1 := p2 x e
   have a2 := p1 y e2
   omega
  subst e
  refine congrArg _ (sort_unique q1 q2 fun z => ?_)
  have hz := h z
  rw [List.mem_cons, List.mem_cons] at hz
  constructor
  ·intro h3
   rcases hz.1 (.inr h3) with e | e
   ·have := p1 z h3; rw [e] at this; omega
   exact e
  intro h3
  rcases hz.2 (.inr h3) with e | e
  ·have := p2 z h3; rw [e] at this; omega
  exact e
def arcsFrom (lb : List UInt8) (f : Int) (m : Nat) : List Arc := (bitsL m 32).map fun j => ⟨f, lb[j.toNat]?.getD default, j + 1⟩
def arcsK (lb : List UInt8) (fo : List Nat) (first : Nat) : Nat → List Arc
 | 0 => arcsFrom lb 0 first
 | k + 1 => arcsK lb fo first k ++ arcsFrom lb ((k : Int) + 1) (fo[k]?.getD 0)
theorem mem_arcsFrom {lb : List UInt8} {f : Int} {m : Nat} {x : Arc} : x ∈ arcsFrom lb f m ↔ ∃ j : Nat, j < 32 ∧ m.testBit j = true ∧ x = ⟨f, lb[j]?.getD default, (j : Int) + 1⟩ := by
 unfold arcsFrom
 rw [List.mem_map]
 constructor
 ·rintro ⟨i, h1, rfl⟩
  have h2 := bitsL_at h1
  exact ⟨i.toNat, by omega, h2.2.2, by rw [Int.toNat_of_nonneg h2.1]⟩
 rintro ⟨j, h1, h2, rfl⟩
 exact ⟨j, mem_bitsL.2 ⟨h1, h2⟩, by simp⟩
theorem mem_arcsK {lb : List UInt8} {fo : List Nat} {first : Nat} {x : Arc} : ∀ {k : Nat}, x ∈ arcsK lb fo first k ↔ x ∈ arcsFrom lb 0 first ∨ ∃ i : Nat, i < k ∧ x ∈ arcsFrom lb ((i : Int) + 1) (fo[i]?.getD 0)
 | 0 => by show x ∈ arcsFrom lb 0 first ↔ _; simp
 | k + 1 => by
  show x ∈ arcsK lb fo first k ++ _ ↔ _
  rw [List.mem_append, mem_arcsK]
  constructor
  ·rintro ((h | ⟨i, h1, h2⟩) | h)
   ·exact .inl h
   ·exact .inr ⟨i, by omega, h2⟩
   exact .inr ⟨k, by omega, h⟩
  rintro (h | ⟨i, h1, h2⟩)
  ·exact .inl (.inl h)
  rcases (by omega : i < k ∨ i = k) with h3 | rfl
  ·exact .inl (.inr ⟨i, h3, h2⟩)
  exact .inr h2
theorem from_arcs {lb : List UInt8} {f : Int} {m : Nat} {x : Arc} (h : x ∈ arcsFrom lb f m) : x.from' = f := by
 obtain ⟨j, _, _, rfl⟩ := mem_arcsFrom.1 h; rfl
theorem bitsL_nodup (m n : Nat) : (bitsL m n).Nodup := by
 unfold bitsL
 have h : ((List.range n).filter fun i => m.testBit i).Nodup := List.nodup_range.filter _
 rw [List.nodup_iff_pairwise_ne] at h ⊢
 rw [List.pairwise_map]
 exact h.imp fun h e => h (by omega)
theorem arcsFrom_nodup (lb : List UInt8) (f : Int) (m : Nat) : (arcsFrom lb f m).Nodup := by
 have h := bitsL_nodup m 32
 unfold arcsFrom
 rw [List.nodup_iff_pairwise_ne] at h ⊢
 rw [List.pairwise_map]
 exact h.imp fun h e => h (by have := congrArg Arc.to e; dsimp only at this; omega)
theorem arcsK_nodup (lb : List UInt8) (fo : List Nat) (first : Nat) : ∀ k, (arcsK lb fo first k).Nodup
 | 0 => arcsFrom_nodup _ _ _
 | k + 1 => by
  show (arcsK lb fo first k ++ _).Nodup
  rw [List.nodup_append]
  refine ⟨arcsK_nodup lb fo first k, arcsFrom_nodup _ _ _, ?_⟩
  intro a ha b hb e
  subst e
  have h1 := from_arcs hb
  rcases mem_arcsK.1 ha with h2 | ⟨i, h2, h3⟩
  ·have := from_arcs h2; omega
  have := from_arcs h3; omega
theorem arcsFrom_len (lb : List UInt8) (f : Int) (m : Nat) : (arcsFrom lb f m).length ≤ 32 := by
 unfold arcsFrom; rw [List.length_map]; exact bitsL_len m 32
theorem arcsK_len (lb : List UInt8) (fo : List Nat) (first : Nat) : ∀ k, (arcsK lb fo first k).length ≤ 32 * (k + 1)
 | 0 => arcsFrom_len _ _ _
 | k + 1 => by
  show (arcsK lb fo first k ++ _).length ≤ _
  rw [List.length_append]
  have h1 := arcsK_len lb fo first k
  have h2 := arcsFrom_len lb ((k : Int) + 1) (fo[k]?.getD 0)
  omega
theorem sorted_code {xs : List Arc} (hn : xs.Nodup) (hs : xs.Pairwise fun a b => ltOf cmpA b a = false) (hr : ∀ x ∈ xs, rngA x) : xs.Pairwise fun a b => codeA a < codeA b := by
 rw [List.nodup_iff_pairwise_ne] at hn
 refine List.Pairwise.imp_of_mem (fun {a b} ha hb h => ?_) (hn.and hs)
 obtain ⟨h1, h2⟩ := h
 rw [ltOf_cmpA] at h2
 rcases less_total h1 with h3 | h3
 ·exact (less_code (hr a ha) (hr b hb)).1 h3
 rw [h2] at h3; cases h3
def endsS (null : Bool) (last : List Int) (n : Nat) : List Bool := null :: (List.range n).map fun (i : Nat) => decide (((i : Int) + 1) ∈ last)
def endsI (e : Bool) (last : Nat) (n : Nat) : List Bool := e :: (List.range n).map fun i => last.testBit i
theorem ends_same {e : Bool} {last : Nat} {L : List Int} (h : memS last L) (n : Nat) : endsI e last n = endsS e L n := by
 unfold endsI endsS
 congr 1
 refine List.map_congr_left fun i _ => ?_
 rw [Bool.eq_iff_iff, h.2, decide_eq_true_iff]
def topL (ps : List Piece) : MkS × Look := look ps ps.length (ps.length - 1) ([], [])
def topV (ps : List Piece) : Pos × Span := visit ps ps.length (ps.length - 1) ([], [])
def nfaOf (ps : List Piece) : Nfa := ⟨((topL ps).1.1.length + 1 : Nat), joinA (topL ps).1.1 [0] (topL ps).2.first (topL ps).1.2, endsS (topL ps).2.null (topL ps).2.last (topL ps).1.1.length⟩
def nfaGo (ps : List Piece) : Bool := decide (cntF ps ps.length (ps.length - 1) ≤ 23)
theorem goodM_nil : GoodM ([], []) := ⟨⟨.nil, fun _ h => by cases h⟩, fun _ h => (by cases h), fun _ h => (by cases h)⟩
theorem good_nil : Good ([], []) := ⟨rfl, fun _ h => by cases h⟩
theorem rel_nil : relS ([], []) ([], []) := ⟨rfl, fun x => ⟨fun h => (by cases h), fun ⟨i, j, h, _⟩ => (by cases h)⟩⟩
theorem topL_fine {ps : List Piece} (hps : PsOk ps) (h : 1 ≤ ps.length) : LFine ([], []) (cntF ps ps.length (ps.length - 1)) (topL ps) := look_fine ps _ _ _ goodM_nil (Nat.zero_le _) hps (by omega) (by omega)
theorem topV_fine {ps : List Piece} (hps : PsOk ps) (h : 1 ≤ ps.length) : Fine ([], []) (cntF ps ps.length (ps.length - 1)) (topV ps) := visit_fine ps _ _ _ good_nil hps (by omega) (by omega)
theorem top_rel {ps : List Piece} (hps : PsOk ps) (h : 1 ≤ ps.length) (hg : nfaGo ps = true) : relR (topV ps) (topL ps) := by
 have := of_decide_eq_true hg
 exact visit_look hps _ _ _ _ (by omega) (by omega) rel_nil good_nil (by show 0 + _ ≤ 23; omega)
theorem top_arcs {ps : List Piece} (hps : PsOk ps) (h : 1 ≤ ps.length) (hg : nfaGo ps = true) {xs : List Arc} (hp : xs.Perm (arcsK (topV ps).1.1 (topV ps).1.2 (topV ps).2.first (topV ps).1.2.length)) (hs : xs.Pairwise fun a b => ltOf cmpA b a = false) :
  xs = (nfaOf ps).arcs := by
 have hr := top_rel hps h hg
 have hf := topL_fine hps h
 have hv := topV_fine hps h
 have hgo := of_decide_eq_true hg
 obtain ⟨hf1, hf2, hf3, hf4, hf5, hf6⟩ := hf
 have hlen : (topL ps).1.1.length ≤ 23 := by rw [hf2]; show min 24 (0 + _) ≤ 23; omega
 obtain ⟨⟨r1, r2⟩, r3, r4, r5⟩ := hr
 have hsort : SortA (joinA (topL ps).1.1 [0] (topL ps).2.first (topL ps).1.2) := joinA_sort (n := (topL ps).1.1.length) (by omega) hf3 (fun f hf => by rw [List.mem_singleton.1 hf]; omega) hf1.1
 have hmem : ∀ x, x ∈ xs ↔ x ∈ joinA (topL ps).1.1 [0] (topL ps).2.first (topL ps).1.2 := by
  intro x
  rw [hp.mem_iff, mem_arcsK, mem_joinA, r2 x]
  have hfl : (topV ps).1.1.length = (topV ps).1.2.length := hv.1.1
  have hl2 : (topV ps).1.1.length ≤ 23 := by rw [r1]; exact hlen
  have b32 : ∀ {m j : Nat}, m < 2 ^ (topV ps).1.1.length → m.testBit j = true → j < 32 := fun hm hj => by have := bit_lt hm hj; omega
  constructor
  ·rintro (h1 | ⟨i, h1, h2⟩)
   ·obtain ⟨j, h3, h4, rfl⟩ := mem_arcsFrom.1 h1
    refine .inr ⟨0, List.mem_singleton.2 rfl, (j : Int) + 1, (r3.2 j).1 h4, ?_⟩
    rw [arcOf_nat, r1]
   obtain ⟨j, h3, h4, rfl⟩ := mem_arcsFrom.1 h2
   exact .inl ⟨i, j, h1, h4, rfl⟩
  rintro (⟨i, j, h1, h2, h3⟩ | ⟨f, h1, t, h2, h3⟩)
  ·refine .inr ⟨i, h1, mem_arcsFrom.2 ⟨j, ?_, h2, h3⟩⟩
   rw [List.getElem?_eq_getElem h1] at h2
   exact b32 (hv.1.2 _ (List.getElem_mem h1)) h2
  rw [List.mem_singleton] at h1
  subst h1
  obtain ⟨j, rfl, h5⟩ := memS_at r3 h2
  exact .inl (mem_arcsFrom.2 ⟨j, b32 hv.2.2.1 h5, h5, by rw [h3, arcOf_nat, r1]⟩)
 refine sort_unique (sorted_code (hp.nodup_iff.2 (arcsK_nodup _ _ _ _)) hs (fun x hx => hsort.2 x ((hmem x).1 hx))) hsort.1 hmem
theorem top_ends {ps : List Piece} (hps : PsOk ps) (h : 1 ≤ ps.length) (hg : nfaGo ps = true) : endsI (topV ps).2.empty (topV ps).2.last (topV ps).1.2.length = (nfaOf ps).ends := by
 have hr := top_rel hps h hg
 have hv := topV_fine hps h
 show _ = endsS (topL ps).2.null (topL ps).2.last (topL ps).1.1.length
 rw [← hr.2.2.2, ← hr.1.1, show (topV ps).1.1.length = (topV ps).1.2.length from hv.1.1]
 exact ends_same hr.2.2.1 _
end
section
open Go.Proofs Go.Shelf
def laysSort_ren : Go.Shelf.Ren := ⟨fun | 6 => 214 | 15 => 229 | 14 => 228 | 28 => 243 | 29 => 218 | 20 => 235 | 21 => 236 | 22 => 237 | 23 => 238 | 24 => 239 | 25 => 240 | 26 => 241 | 27 => 242 | 46 => 244 | 47 => 245 | 48 => 246 | 49 => 247 | 50 => 248 | 57 => 249 | n => n, fun | 22 => 209 | 24 => 282 | 25 => 309 | 3 => 3 | 39 => 307 | 0 => 0 | 53 => 301 | 55 => 287 | 4 => 4 | 46 => 327 | 45 => 326 | 50 => 295 | 5 => 5 | 9 => 9 | 66 => 334 | 70 => 338 | 76 => 340 | 77 => 341 | n => n, fun | n => n⟩
theorem laysSort : Go.Proofs.SlLaysF0.n6 prog laysSort_ren where
 mixed := by kernel_rfl
 f6 := ⟨ "slices.SortFunc[[]loop.example/g00250/impl.Arc,loop.example/g00250/impl.Arc]", by decide, func214.trans (congrArg some (by kernel_rfl))⟩
 f14 := ⟨ "slices.pdqsortCmpFunc[loop.example/g00250/impl.Arc]", by decide, func228.trans (congrArg some (by kernel_rfl))⟩
 f15 := func229.trans (congrArg some (by kernel_rfl))
 f20 := ⟨ "slices.insertionSortCmpFunc[loop.example/g00250/impl.Arc]", by decide, func235.trans (congrArg some (by kernel_rfl))⟩
 f21 := ⟨ "slices.heapSortCmpFunc[loop.example/g00250/impl.Arc]", by decide, func236.trans (congrArg some (by kernel_rfl))⟩
 f22 := ⟨ "slices.breakPatternsCmpFunc[loop.example/g00250/impl.Arc]", by decide, func237.trans (congrArg some (by kernel_rfl))⟩
 f23 := ⟨ "slices.choosePivotCmpFunc[loop.example/g00250/impl.Arc]", by decide, func238.trans (congrArg some (by kernel_rfl))⟩
 f24 := ⟨ "slices.reverseRangeCmpFunc[loop.example/g00250/impl.Arc]", by decide, func239.trans (congrArg some (by kernel_rfl))⟩
 f25 := ⟨ "slices.partialInsertionSortCmpFunc[loop.example/g00250/impl.Arc]", by decide, func240.trans (congrArg some (by kernel_rfl))⟩
 f26 := ⟨ "slices.partitionEqualCmpFunc[loop.example/g00250/impl.Arc]", by decide, func241.trans (congrArg some (by kernel_rfl))⟩
 f27 := ⟨ "slices.partitionCmpFunc[loop.example/g00250/impl.Arc]", by decide, func242.trans (congrArg some (by kernel_rfl))⟩
 f28 := func243.trans (congrArg some (by kernel_rfl))
 f29 := func218.trans (congrArg some (by kernel_rfl))
 f46 := ⟨ "slices.siftDownCmpFunc[loop.example/g00250/impl.Arc]", by decide, func244.trans (congrArg some (by kernel_rfl))⟩
 f47 := func245.trans (congrArg some (by kernel_rfl))
 f48 := func246.trans (congrArg some (by kernel_rfl))
 f49 := ⟨ "slices.medianAdjacentCmpFunc[loop.example/g00250/impl.Arc]", by decide, func247.trans (congrArg some (by kernel_rfl))⟩
 f50 := ⟨ "slices.medianCmpFunc[loop.example/g00250/impl.Arc]", by decide, func248.trans (congrArg some (by kernel_rfl))⟩
 f57 := ⟨ "slices.order2CmpFunc[loop.example/g00250/impl.Arc]", by decide, func249.trans (congrArg some (by kernel_rfl))⟩
 t0 := underlying0
 a0 := Tryz.isAgg0
 z0 := Tryz.sizeOf0
 v0 := Tryz.zeroValue0
 t3 := underlying3
 a3 := Tryz.isAgg3
 z3 := Tryz.sizeOf3
 v3 := Tryz.zeroValue3
 t4 := underlying4
 a4 := Tryz.isAgg4
 z4 := Tryz.sizeOf4
 v4 := Tryz.zeroValue4
 t5 := underlying5
 a5 := Tryz.isAgg5
 z5 := Tryz.sizeOf5
 v5 := Tryz.zeroValue5
 t9 := underlying9
 a9 := Tryz.isAgg9
 z9 := Tryz.sizeOf9
 v9 := Tryz.zeroValue9
 t22 := underlying209
 a22 := Tryz.isAgg209
 z22 := Tryz.sizeOf209
 v22 := Tryz.zeroValue209
 t25 := underlying309
 a25 := Tryz.isAgg309
 z25 := Tryz.sizeOf309
 v25 := Tryz.zeroValue309
 t39 := underlying307
 a39 := Tryz.isAgg307
 z39 := Tryz.sizeOf307
 v39 := Tryz.zeroValue307
 t45 := underlying326
 a45 := Tryz.isAgg326
 z45 := Tryz.sizeOf326
 v45 := Tryz.zeroValue326
 t46 := underlying327
 a46 := Tryz.isAgg327
 z46 := Tryz.sizeOf327
 v46 := Tryz.zeroValue327
 t50 := underlying295
 a50 := Tryz.isAgg295
 z50 := Tryz.sizeOf295
 v50 := Tryz.zeroValue295
 t53 := underlying301
 a53 := Tryz.isAgg301
 z53 := Tryz.sizeOf301
 v53 := Tryz.zeroValue301
 t55 := underlying287
 a55 := Tryz.isAgg287
 z55 := Tryz.sizeOf287
 v55 := Tryz.zeroValue287
 t66 := underlying334
 a66 := Tryz.isAgg334
 z66 := Tryz.sizeOf334
 v66 := Tryz.zeroValue334
 t70 := underlying338
 a70 := Tryz.isAgg338
 z70 := Tryz.sizeOf338
 v70 := Tryz.zeroValue338
 t76 := underlying340
 a76 := Tryz.isAgg340
 z76 := Tryz.sizeOf340
 v76 := Tryz.zeroValue340
 t77 := underlying341
 a77 := Tryz.isAgg341
 z77 := Tryz.sizeOf341
 v77 := Tryz.zeroValue341
end
section
attribute [local irreducible] IntKind.wrap
def flArc : Fl Arc := ⟨3, fun x => [.int .i64 x.from', .int .u8 x.label.toNat, .int .i64 x.to], fun x => okI x.from' ∧ okI x.to, fun _ => rfl, fun _ => rfl, by omega⟩
theorem arc_fl {T : TypeId} {v : Value} {xs : List Arc} {A : Hp} (h : (gSl T gArc).ow [v] xs A) : Ow flArc T v xs A := by
 obtain ⟨v', ls, A0, As, e, ho, hp, hl⟩ := h
 cases e
 have hA : ∀ {ls : List (RawC gArc.size)} {xs : List Arc} {As : List Hp}, OwL gArc ls xs As → As.flatten = [] ∧ (∀ x ∈ xs, flArc.wf x) ∧ ls.flatMap (flRaw gArc.size gArc.pos).enc = xs.flatMap flArc.enc := by
  intro ls xs As h
  induction h with
  | nil => exact ⟨rfl, (fun _ h => by cases h), rfl⟩
  | cons h hr ih =>
   obtain ⟨h1, h2, h3, h4⟩ := gArc_ow.1 h
   refine ⟨by rw [List.flatten_cons, h2.eq_nil, ih.1]; rfl, ?_, ?_⟩
   ·intro y hy
    rcases List.mem_cons.1 hy with rfl | hy
    ·exact ⟨h3, h4⟩
    exact ih.2.1 y hy
   rw [List.flatMap_cons, List.flatMap_cons, ih.2.2]; congr 1
 obtain ⟨h1, h2, h3⟩ := hA hl
 rw [h1, List.append_nil] at hp
 obtain ⟨e1, _⟩ := hl.len
 obtain ⟨_, g1, base, cap, e, g2⟩ := ho
 rw [e1] at g1 e
 refine ⟨h2, g1, base, cap, e, ?_⟩
 rcases g2 with ⟨rfl, rfl, rfl⟩ | ⟨b, sp, g3, rfl, g4, g5⟩
 ·have : xs = [] := by cases hl; rfl
  exact .inl ⟨rfl, this, hp.eq_nil⟩
 refine .inr ⟨b, sp, g3, ?_, by rw [← e1]; exact g4, by rw [← e1]; exact g5⟩
 rw [← h3]
 exact List.perm_singleton.1 hp
theorem fl_arc {T : TypeId} {v : Value} {xs : List Arc} {A : Hp} (h : Ow flArc T v xs A) : (gSl T gArc).ow [v] xs A := by
 obtain ⟨h1, h2, base, cap, rfl, h3⟩ := h
 have key : ∀ (xs : List Arc), (∀ x ∈ xs, flArc.wf x) → ∃ ls As, OwL gArc ls xs As ∧ As.flatten = [] ∧ ls.flatMap (flRaw gArc.size gArc.pos).enc = xs.flatMap flArc.enc := by
  intro xs
  induction xs with
  | nil => intro _; exact ⟨[], [], .nil, rfl, rfl⟩
  | cons x r ih =>
   intro hw
   obtain ⟨ls, As, g1, g2, g3⟩ := ih (fun y hy => hw y (List.mem_cons_of_mem _ hy))
   have hx := hw x (List.mem_cons_self ..)
   refine ⟨⟨flArc.enc x, rfl, rfl⟩ :: ls, [] :: As, .cons (gArc_ow.2 ⟨rfl, .refl _, hx.1, hx.2⟩) g1, by rw [List.flatten_cons, g2]; rfl, ?_⟩
   exact congrArg (fun q => flArc.enc x ++ q) g3
 obtain ⟨ls, As, g1, g2, g3⟩ := key xs h1
 obtain ⟨e1, _⟩ := g1.len
 refine ⟨_, ls, A, As, rfl, ⟨fun _ _ => trivial, by rw [e1]; exact h2, base, cap, by rw [e1], ?_⟩, by rw [g2, List.append_nil], g1⟩
 rcases h3 with ⟨rfl, rfl, rfl⟩ | ⟨b, sp, h4, rfl, h5, h6⟩
 ·have : ls = [] := by cases g1; rfl
  exact .inl ⟨rfl, this, rfl⟩
 exact .inr ⟨b, sp, h4, by rw [g3], by rw [e1]; exact h5, by rw [e1]; exact h6⟩
theorem lblw (x : UInt8) : IntKind.i64.wrap ((x.toNat : Nat) : Int) = (x.toNat : Nat) := by
 have := x.toNat_lt
 exact wrap_of (by omega) (by omega)
theorem wrap_i64_ok (x : Int) : okI (IntKind.i64.wrap x) := by
 unfold IntKind.wrap okI
 simp [IntKind.bits, IntKind.signed]
 split <;> omega
theorem compareArcs_ct (a b : Arc) (ha : flArc.wf a) (hb : flArc.wf b) :
  Ct prog 215 [.agg ⟨flArc.enc a⟩, .agg ⟨flArc.enc b⟩] [] (fun _ => True) (fun v A => v = .int .i64 (cmpA a b) ∧ A = []) := by
 show Ct prog 215 [.agg ⟨[.int .i64 a.from', .int .u8 a.label.toNat, .int .i64 a.to]⟩, .agg ⟨[.int .i64 b.from', .int .u8 b.label.toNat, .int .i64 b.to]⟩] [] (fun _ => True) (fun v A => v = .int .i64 (cmpA a b) ∧ A = [])
 refine Ct.intro0 G_ok func215 rfl rfl rfl fun E H hp => ?_
 obtain ⟨ha1, ha2⟩ := ha
 obtain ⟨hb1, hb2⟩ := hb
 have k1 : okI (IntKind.i64.wrap ((a.label.toNat : Nat) : Int)) := wrap_i64_ok _
 have k2 : okI (IntKind.i64.wrap ((b.label.toNat : Nat) : Int)) := wrap_i64_ok _
 refine ⟨fun x0 => ?_⟩
 refine ⟨fun x1 => ?_⟩
 refine ⟨fun x2 => ?_⟩
 refine ⟨fun x3 => ?_⟩
 refine call_val (sCompare_ct _ _ _ _ _ _ ([a.from', IntKind.i64.wrap (↑a.label.toNat : Int), a.to]) ([b.from', IntKind.i64.wrap (↑b.label.toNat : Int), b.to])) ⟨(Rp.mono _ (mem_at 1 rfl) (Ow.rd (Ow.lit (f := flInt) (T := (3 : TypeId)) (b := x2) (xs := [a.from', IntKind.i64.wrap (↑a.label.toNat : Int), a.to]) (by first | (simp [flInt, okI]; done) | (simp only [List.forall_mem_cons]; simp_all [flInt, okI])) (by simp)))), (Rp.mono _ (mem_at 0 rfl) (Ow.rd (Ow.lit (f := flInt) (T := (3 : TypeId)) (b := x3) (xs := [b.from', IntKind.i64.wrap (↑b.label.toNat : Int), b.to]) (by first | (simp [flInt, okI]; done) | (simp only [List.forall_mem_cons]; simp_all [flInt, okI])) (by simp))))⟩ ?_
 rintro _ rfl
 try dsimp only
 exact ⟨[], ⟨by unfold cmpA; rw [lblw, lblw], rfl⟩, .mem (by simp)⟩
theorem sortArcs_ct (T : TypeId) (base : Option Addr) (n cap : Nat) (xs : List Arc) {A0 : Hp} (ho : (gSl T gArc).ow [.slice base n cap] xs A0) (hn : xs.length < 4611686018427387904) :
  CtR prog 214 [.slice base n cap, .func (.func 215) #[] #[]] A0 (fun _ => True) (fun v A => v = .tuple #[] ∧ ∃ xs', xs'.Perm xs ∧ xs'.Pairwise (fun a b => ltOf cmpA b a = false) ∧ (gSl T gArc).ow [.slice base xs'.length cap] xs' A) := by
 have h := sortK_ct (laysSort) flArc ⟨by unfold okI; decide, by unfold okI; decide⟩ Tryz.isAgg282 Tryz.sizeOf282 cmpA swo_cmpA 215 (enters_of func215 (by kernel_rfl) rfl) T (fun x y hx hy => compareArcs_ct x y hx hy) (arc_fl ho) hn
 refine ⟨h.1, fun E H w hs hp => (h.2 E H w hs hp).mono ?_⟩
 rintro e w' ⟨v, A, h1, ⟨h2, xs', h3, h4, h5⟩, h6⟩
 exact ⟨v, A, h1, ⟨h2, xs', h3, h4, fl_arc h5⟩, h6⟩
end
section
attribute [local irreducible] IntKind.wrap
def occS (cs : List Int) (a : Int) (kid : Int) : Int := min (a + (cs[kid.toNat]?.getD 0)) 24
def occP (cs : List Int) (x : Piece) : Int := x.kids.foldl (occS cs) (if x.op = 1 then 1 else 0)
def occL (ps : List Piece) : Nat → List Int
 | 0 => []
 | k + 1 => occL ps k ++ [occP (occL ps k) (ps[k]?.getD default)]
theorem occL_len (ps : List Piece) : ∀ k, (occL ps k).length = k
 | 0 => rfl
 | k + 1 => by simp [occL, occL_len ps k]
def occ (ps : List Piece) : Int := (occL ps ps.length)[ps.length - 1]?.getD 0
def occN (ps : List Piece) (k : Nat) (a : Int) : List Int := occL ps k ++ (a :: List.replicate (ps.length - k - 1) 0)
theorem occN_len {ps : List Piece} {k : Nat} {a : Int} (hk : k < ps.length) : (occN ps k a).length = ps.length := by
 unfold occN; simp [occL_len]; omega
theorem occN_set {ps : List Piece} {k : Nat} {a b : Int} : (occN ps k a).set k b = occN ps k b := by
 unfold occN
 rw [List.set_append_right _ _ (by rw [occL_len]; omega), occL_len, Nat.sub_self]; rfl
theorem occN_get {ps : List Piece} {k : Nat} {a : Int} : (occN ps k a)[k]?.getD 0 = a := by
 unfold occN
 rw [List.getElem?_append_right (by rw [occL_len]; omega), occL_len, Nat.sub_self]; rfl
theorem occN_at {ps : List Piece} {k i : Nat} {a : Int} (h : i < k) : (occN ps k a)[i]?.getD 0 = (occL ps k)[i]?.getD 0 := by
 unfold occN
 rw [List.getElem?_append_left (by rw [occL_len]; exact h)]
theorem occN_next {ps : List Piece} {k : Nat} (hk : k + 1 < ps.length) : occN ps k (occP (occL ps k) (ps[k]?.getD default)) = occN ps (k + 1) 0 := by
 unfold occN
 show _ = (occL ps k ++ [occP (occL ps k) (ps[k]?.getD default)]) ++ _
 rw [List.append_assoc]
 congr 1
 rw [show ps.length - k - 1 = (ps.length - (k + 1) - 1) + 1 by omega, List.replicate_succ]; rfl
theorem occN_end {ps : List Piece} {k : Nat} (hk : k + 1 = ps.length) : occN ps k (occP (occL ps k) (ps[k]?.getD default)) = occL ps ps.length := by
 unfold occN
 rw [show ps.length - k - 1 = 0 by omega, ← hk]; rfl
theorem occN_zero {ps : List Piece} (h : 0 < ps.length) : occN ps 0 0 = List.replicate ps.length 0 := by
 unfold occN
 rw [show ps.length = (ps.length - 0 - 1) + 1 by omega, List.replicate_succ]; rfl
theorem occS_rng {cs : List Int} {a kid : Int} (ha : 0 ≤ a ∧ a ≤ 24) (hc : ∀ c ∈ cs, 0 ≤ c ∧ c ≤ 24) : 0 ≤ occS cs a kid ∧ occS cs a kid ≤ 24 := by
 unfold occS
 have h : 0 ≤ (cs[kid.toNat]?.getD 0) := by
  rcases Nat.lt_or_ge kid.toNat cs.length with h2 | h2
  ·rw [List.getElem?_eq_getElem h2]; exact (hc _ (List.getElem_mem h2)).1
  rw [List.getElem?_eq_none h2]; exact Int.le_refl _
 omega
theorem occ_fold {cs : List Int} (hc : ∀ c ∈ cs, 0 ≤ c ∧ c ≤ 24) : ∀ (l : List Int) (a : Int), 0 ≤ a ∧ a ≤ 24 → 0 ≤ l.foldl (occS cs) a ∧ l.foldl (occS cs) a ≤ 24
 | [], _, h => h
 | _ :: l, _, h => occ_fold hc l _ (occS_rng h hc)
theorem occP_rng {cs : List Int} {x : Piece} (hc : ∀ c ∈ cs, 0 ≤ c ∧ c ≤ 24) : 0 ≤ occP cs x ∧ occP cs x ≤ 24 := by
 unfold occP; exact occ_fold hc _ _ (by split <;> omega)
theorem occL_rng (ps : List Piece) : ∀ k, ∀ c ∈ occL ps k, 0 ≤ c ∧ c ≤ 24
 | 0, c, h => by simp [occL] at h
 | k + 1, c, h => by
  unfold occL at h
  rcases List.mem_append.1 h with h1 | h1
  ·exact occL_rng ps k c h1
  rw [List.mem_singleton.1 h1]; exact occP_rng (occL_rng ps k)
theorem occL_cnt {ps : List Piece} (hps : PsOk ps) : ∀ (n k : Nat), k ≤ ps.length → ∀ i, i < k → i < n → (occL ps k)[i]?.getD 0 = min (cntF ps n i : Int) 24
 | n, 0, _, i, h, _ => by omega
 | n, k + 1, hk, i, hi, hn => by
  rcases Nat.lt_or_ge i k with h1 | h1
  ·unfold occL
   rw [List.getElem?_append_left (by rw [occL_len]; exact h1)]
   exact occL_cnt hps n k (by omega) i h1 hn
  have hik : i = k := by omega
  subst hik
  unfold occL
  rw [List.getElem?_append_right (by rw [occL_len]; omega), occL_len, Nat.sub_self]
  show occP (occL ps i) (ps[i]?.getD default) = _
  obtain ⟨n, rfl⟩ : ∃ m, n = m + 1 := ⟨n - 1, by omega⟩
  have hp := piece_iff.1 (hps i (by omega))
  unfold occP
  rw [show cntF ps (n + 1) i = if (ps[i]?.getD default).op = 1 then 1 else sumK (cntF ps n) (ps[i]?.getD default).kids from by conv => lhs; unfold cntF]
  by_cases h1 : (ps[i]?.getD default).op = 1
  ·rw [if_pos h1, if_pos h1]
   have h2 : (ps[i]?.getD default).kids = [] := by
    rcases hp with h | h | h
    ·exact List.length_eq_zero_iff.1 h.2.2.2
    ·omega
    omega
   rw [h2]; rfl
  rw [if_neg h1, if_neg h1]
  have hkid : ∀ k ∈ (ps[i]?.getD default).kids, k.toNat < i := by
   intro k hk2
   have h3 : kidsOk (ps[i]?.getD default).kids i = true := by
    rcases hp with h | h | h
    ·exact absurd h.1 h1
    ·exact h.2.2.2
    exact h.2.2.2
   unfold kidsOk at h3
   have := inR_iff.1 (List.all_eq_true.1 h3 k hk2)
   omega
  have hgen : ∀ (l : List Int), (∀ k ∈ l, k.toNat < i) → ∀ (a : Int) (b : Nat), a = min (b : Int) 24 → l.foldl (occS (occL ps i)) a = min ((b + sumK (cntF ps n) l : Nat) : Int) 24 := by
   intro l
   induction l with
   | nil => intro _ a b h; exact h
   | cons k l ih =>
    intro hl a b h
    rw [List.foldl_cons]
    have h4 := occL_cnt hps n i (by omega) k.toNat (hl k (List.mem_cons_self ..)) (by have := hl k (List.mem_cons_self ..); omega)
    rw [ih (fun k hk => hl k (List.mem_cons_of_mem _ hk)) _ (b + cntF ps n k.toNat) (by unfold occS; rw [h4, h]; push_cast; omega)]
    simp only [sumK]; congr 2; push_cast; omega
  have := hgen _ hkid 0 0 (by decide)
  rw [this]; simp
theorem occ_cnt {ps : List Piece} (hps : PsOk ps) (h : 0 < ps.length) : occ ps = min (cntF ps ps.length (ps.length - 1) : Int) 24 :=
 occL_cnt hps ps.length ps.length (Nat.le_refl _) (ps.length - 1) (by omega) (by omega)
def occQ (ps : List Piece) (k j : Nat) : Int := ((ps[k]?.getD default).kids.take j).foldl (occS (occL ps k)) (if (ps[k]?.getD default).op = 1 then 1 else 0)
theorem occQ_zero (ps : List Piece) (k : Nat) : occQ ps k 0 = if (ps[k]?.getD default).op = 1 then 1 else 0 := rfl
theorem occQ_end (ps : List Piece) (k : Nat) : occQ ps k (ps[k]?.getD default).kids.length = occP (occL ps k) (ps[k]?.getD default) := by unfold occQ occP; rw [List.take_length]
theorem occQ_next {ps : List Piece} {k j : Nat} (hj : j < (ps[k]?.getD default).kids.length) : occQ ps k (j + 1) = occS (occL ps k) (occQ ps k j) ((ps[k]?.getD default).kids[j]?.getD 0) := by
 unfold occQ; rw [← List.take_append_getElem hj, List.foldl_append, List.getElem?_eq_getElem hj]; rfl
theorem occQ_rng (ps : List Piece) (k j : Nat) : 0 ≤ occQ ps k j ∧ occQ ps k j ≤ 24 := by
 unfold occQ; exact occ_fold (occL_rng ps k) _ _ (by split <;> omega)
def occA (ps : List Piece) (k : Nat) : List Int := if k < ps.length then occN ps k 0 else occL ps ps.length
theorem occA_lt {ps : List Piece} {k : Nat} (h : k < ps.length) : occA ps k = occN ps k 0 := if_pos h
theorem occA_end {ps : List Piece} : occA ps ps.length = occL ps ps.length := if_neg (by omega)
theorem occA_next {ps : List Piece} {k : Nat} (h : k < ps.length) : occN ps k (occQ ps k (ps[k]?.getD default).kids.length) = occA ps (k + 1) := by
 rw [occQ_end]
 unfold occA
 split
 ·rename_i h1; exact occN_next h1
 rename_i h1; exact occN_end (by omega)
theorem occA_zero {ps : List Piece} (h : 1 ≤ ps.length) : occA ps 0 = List.replicate ps.length 0 := by rw [occA_lt h, occN_zero h]
theorem occA_len {ps : List Piece} {k : Nat} : (occA ps k).length = ps.length := by
 unfold occA; split
 ·rename_i h; exact occN_len h
 exact occL_len _ _
theorem kid_rng' {ps : List Piece} (hps : PsOk ps) {i j : Nat} (hi : i < ps.length) (hj : j < (ps[i]?.getD default).kids.length) : 0 ≤ ((ps[i]?.getD default).kids[j]?.getD 0) ∧ ((ps[i]?.getD default).kids[j]?.getD 0) < i := by
 have h3 : kidsOk (ps[i]?.getD default).kids i = true := by
  rcases piece_iff.1 (hps i hi) with h1 | h1 | h1
  ·omega
  ·exact h1.2.2.2
  exact h1.2.2.2
 unfold kidsOk at h3
 rw [List.getElem?_eq_getElem hj]
 have := inR_iff.1 (List.all_eq_true.1 h3 _ (List.getElem_mem hj))
 simp only [Option.getD_some]; omega
theorem occ_go {ps : List Piece} {k j : Nat} (hj : j < (ps[k]?.getD default).kids.length) (hk : ((ps[k]?.getD default).kids[j]?.getD 0).toNat < k) :
  (if 24 < IntKind.i64.wrap ((occN ps k (occQ ps k j))[k]?.getD 0 + (occN ps k (occQ ps k j))[((ps[k]?.getD default).kids[j]?.getD 0).toNat]?.getD 0) then 24 else IntKind.i64.wrap ((occN ps k (occQ ps k j))[k]?.getD 0 + (occN ps k (occQ ps k j))[((ps[k]?.getD default).kids[j]?.getD 0).toNat]?.getD 0)) = occQ ps k (j + 1) := by
 rw [occN_get, occN_at hk, occQ_next hj]
 have h1 := occQ_rng ps k j
 have h2 : 0 ≤ ((occL ps k)[((ps[k]?.getD default).kids[j]?.getD 0).toNat]?.getD 0) ∧ ((occL ps k)[((ps[k]?.getD default).kids[j]?.getD 0).toNat]?.getD 0) ≤ 24 := by
  rw [List.getElem?_eq_getElem (by rw [occL_len]; exact hk)]
  exact occL_rng ps k _ (List.getElem_mem _)
 unfold occS
 rw [wrap_of (by omega) (by omega)]
 split <;> omega
attribute [local irreducible] occN occQ occA occL occ
theorem occurrences_ct (l : List Value) (p : Path) (h1 : 1 ≤ p.pieces.length) (h60 : p.pieces.length ≤ 60) (hps : PsOk p.pieces) : Ct prog 210 [.agg ⟨l⟩] [] (fun H => gPath.rd H l p) (fun v A => v = .int .i64 (occ p.pieces) ∧ A = []) := by
 refine Ct.intro0 G_ok func210 rfl rfl rfl fun E H hp => ?_
 obtain ⟨b0p, c0p, rfl, h0p⟩ := gPath_rd.1 hp
 have hwl : IntKind.i64.wrap ((((p.pieces.length : Int).toNat : Nat) : Int) - 1) = ((p.pieces.length - 1 : Nat) : Int) := by
  rw [Int.toNat_natCast, wrap_of (by omega) (by omega)]; omega
 refine ⟨fun x0 => ?_⟩
 refine VCmake.intro ?_ ?_ ?_ ?_ fun x1 => ?_
 ·omega
 ·omega
 ·omega
 ·omega
 apply loop_mod (α := (Nat) × (Hp)) G_ok [16, 17, 18, 19, 5, 4, 20, 21, 22, 23, 24, 25, 26, 27, 28, 29, 30, 31, 32, 7, 33, 34, 35, 36, 37, 38, 39, 40, 41, 42, 43, 44, 45, 46, 47, 15] (fun z => [(15, .v (.int .i64 z.1))]) (fun z => [{ id := x0, cs := [Value.slice b0p p.pieces.length c0p], ty := (205 : Nat) }]) (fun z => [z.2, H]) (fun z => p.pieces.length - z.1) (fun z => z.1 ≤ p.pieces.length ∧ (gSl 3 gI).ow [.slice (some ⟨x1, 0, none⟩) p.pieces.length p.pieces.length] (occA p.pieces z.1) z.2) ((0, _))
 ·exact frI
 ·exact ⟨rfl, trivial⟩
 ·try dsimp only
  (rw [occA_zero h1]; exact ⟨Nat.zero_le _, gmake (gI_ow (x := 0) (by unfold okI; omega)) (Nat.le_refl _) (by omega)⟩)
 ·exact .refl _
 rintro ⟨k, A⟩ hI
 try dsimp only at hI
 obtain ⟨hk, oA⟩ := hI
 try dsimp only
 refine ⟨fun q2 => ?_, fun q2 => ?_⟩
 ·simp at q2
  rw [occA_lt (by omega)] at oA
  refine idx_rd h0p ?_ ?_ fun b3 o3 hb3 => ?_
  ·omega
  ·omega
  refine load_allN default (k) rfl h0p ?_ ?_ hb3 rfl (mem_at 1 rfl) fun l4 hl4 => ?_
  ·omega
  ·omega
  obtain ⟨b2x4, c2x4, rfl, w0x4, h2x4⟩ := gPiece_rd.1 hl4
  refine ⟨fun x5 => ?_⟩
  refine ⟨fun q6 => ?_, fun q6 => ?_⟩
  ·simp at q6
   refine idx_rd (Gt.owrd _ oA) ?_ ?_ fun b7 o7 hb7 => ?_
   ·omega
   ·(rw [occN_len (by omega)]; omega)
   refine gstoreN (Fld.id _) 0 (k) 0 rfl rfl oA ?_ ?_ hb7 rfl gI_pl _ (gI_ow ?_) fun A8 o8 => ?_
   ·omega
   ·(rw [occN_len (by omega)]; omega)
   ·trivial
   apply loop_mod (α := (Nat) × (Hp)) G_ok [30, 31, 32, 7, 33, 34, 35, 36, 37, 38, 39, 40, 41, 42, 43, 44, 45, 46, 29] (fun z => [(29, .v (.int .i64 z.1))]) (fun z => [{ id := x0, cs := [Value.slice b0p p.pieces.length c0p], ty := (205 : Nat) }, { id := x5, cs := [Value.int IntKind.i64 (p.pieces[k]?.getD default).op, Value.int IntKind.u8 (↑(p.pieces[k]?.getD default).label.toNat : Int), Value.slice b2x4 (p.pieces[k]?.getD default).kids.length c2x4], ty := (279 : Nat) }]) (fun z => [z.2, H]) (fun z => (p.pieces[k]?.getD default).kids.length - z.1) (fun z => z.1 ≤ (p.pieces[k]?.getD default).kids.length ∧ (gSl 3 gI).ow [.slice (some ⟨x1, 0, none⟩) p.pieces.length p.pieces.length] (occN p.pieces k (occQ p.pieces k z.1)) z.2) ((0, _))
   ·exact frI
   ·exact ⟨rfl, rfl, trivial⟩
   ·try dsimp only
    (rw [occQ_zero, if_pos ‹(p.pieces[k]?.getD default).op = 1›, ← occN_set (a := 0)]; exact ⟨Nat.zero_le _, by assumption⟩)
   ·exact .refl _
   rintro ⟨j, B⟩ hI
   try dsimp only at hI
   obtain ⟨hj, oB⟩ := hI
   try dsimp only
   refine ⟨fun q9 => ?_, fun q9 => ?_⟩
   ·simp at q9
    have hkd := kid_rng' hps (by omega : k < p.pieces.length) (by omega : j < (p.pieces[k]?.getD default).kids.length)
    have hkl := (rd_len (xs := (p.pieces[k]?.getD default).kids) (by assumption)).2
    have hq := occQ_rng p.pieces k j
    refine idx_rd h2x4 ?_ ?_ fun b10 o10 hb10 => ?_
    ·omega
    ·omega
    refine load_allN 0 (j) rfl h2x4 ?_ ?_ hb10 rfl (mem_at 1 rfl) fun l11 hl11 => ?_
    ·omega
    ·omega
    obtain ⟨rfl, hw11⟩ := hl11; simp only [flStr, flInt, okI] at hw11
    refine draw G_ok mixed (some 13) (.q 0 (.q 1 (.q 2 (.q 3 (.q 4 (.q 5 (.q 6 (.q 7 (.q 8 (.q 9 (.q 10 (.f 11 (.q 12 (.tl 13 (.nil))))))))))))))) (by decide +kernel) ?_
    refine idx_rd (Gt.owrd _ oB) ?_ ?_ fun b12 o12 hb12 => ?_
    ·omega
    ·(rw [occN_len (by omega)]; omega)
    refine load_allN 0 (k) rfl (Gt.owrd _ oB) ?_ ?_ hb12 rfl (mem_at 0 rfl) fun l13 hl13 => ?_
    ·omega
    ·(rw [occN_len (by omega)]; omega)
    obtain ⟨rfl, hw13⟩ := hl13; simp only [flStr, flInt, okI] at hw13
    refine idx_rd (Gt.owrd _ oB) ?_ ?_ fun b14 o14 hb14 => ?_
    ·omega
    ·(rw [occN_len (by omega)]; omega)
    refine load_all 0 (Gt.owrd _ oB) ?_ ?_ hb14 rfl (mem_at 0 rfl) fun l15 hl15 => ?_
    ·omega
    ·(rw [occN_len (by omega)]; omega)
    obtain ⟨rfl, hw15⟩ := hl15; simp only [flStr, flInt, okI] at hw15
    refine VC.intro ?_ ?_
    ·exact fun _ h => h
    refine idx_rd (Gt.owrd _ oB) ?_ ?_ fun b16 o16 hb16 => ?_
    ·omega
    ·(rw [occN_len (by omega)]; omega)
    refine gstoreN (Fld.id _) 0 (k) 0 rfl rfl oB ?_ ?_ hb16 rfl gI_pl _ (gI_ow ?_) fun A17 o17 => ?_
    ·omega
    ·(rw [occN_len (by omega)]; omega)
    ·(rw [occ_go (by omega) (by omega)]; have h9 := occQ_rng p.pieces k (j + 1); unfold okI; omega)
    apply loop_stepA (j + 1, _)
    ·exact .refl _
    ·exact frI
    ·exact ⟨rfl, rfl, trivial⟩
    ·try dsimp only
     (rw [← occ_go (by omega) (by omega), ← occN_set (a := occQ p.pieces k j)]; exact ⟨by omega, by assumption⟩)
    try dsimp only
    omega
   ·simp at q9
    obtain rfl : j = (p.pieces[k]?.getD default).kids.length := by omega
    rw [occA_next (by omega)] at oB
    apply loop_stepA (k + 1, _)
    ·exact .refl _
    ·exact frI
    ·exact ⟨rfl, trivial⟩
    ·try dsimp only
     exact ⟨by omega, oB⟩
    try dsimp only
    omega
  ·simp at q6
   apply loop_mod (α := (Nat) × (Hp)) G_ok [30, 31, 32, 7, 33, 34, 35, 36, 37, 38, 39, 40, 41, 42, 43, 44, 45, 46, 29] (fun z => [(29, .v (.int .i64 z.1))]) (fun z => [{ id := x0, cs := [Value.slice b0p p.pieces.length c0p], ty := (205 : Nat) }, { id := x5, cs := [Value.int IntKind.i64 (p.pieces[k]?.getD default).op, Value.int IntKind.u8 (↑(p.pieces[k]?.getD default).label.toNat : Int), Value.slice b2x4 (p.pieces[k]?.getD default).kids.length c2x4], ty := (279 : Nat) }]) (fun z => [z.2, H]) (fun z => (p.pieces[k]?.getD default).kids.length - z.1) (fun z => z.1 ≤ (p.pieces[k]?.getD default).kids.length ∧ (gSl 3 gI).ow [.slice (some ⟨x1, 0, none⟩) p.pieces.length p.pieces.length] (occN p.pieces k (occQ p.pieces k z.1)) z.2) ((0, _))
   ·exact frI
   ·exact ⟨rfl, rfl, trivial⟩
   ·try dsimp only
    (rw [occQ_zero, if_neg ‹¬ (p.pieces[k]?.getD default).op = 1›]; exact ⟨Nat.zero_le _, oA⟩)
   ·exact .refl _
   rintro ⟨j, B⟩ hI
   try dsimp only at hI
   obtain ⟨hj, oB⟩ := hI
   try dsimp only
   refine ⟨fun q18 => ?_, fun q18 => ?_⟩
   ·simp at q18
    have hkd := kid_rng' hps (by omega : k < p.pieces.length) (by omega : j < (p.pieces[k]?.getD default).kids.length)
    have hkl := (rd_len (xs := (p.pieces[k]?.getD default).kids) (by assumption)).2
    have hq := occQ_rng p.pieces k j
    refine idx_rd h2x4 ?_ ?_ fun b19 o19 hb19 => ?_
    ·omega
    ·omega
    refine load_allN 0 (j) rfl h2x4 ?_ ?_ hb19 rfl (mem_at 1 rfl) fun l20 hl20 => ?_
    ·omega
    ·omega
    obtain ⟨rfl, hw20⟩ := hl20; simp only [flStr, flInt, okI] at hw20
    refine draw G_ok mixed (some 13) (.q 0 (.q 1 (.q 2 (.q 3 (.q 4 (.q 5 (.q 6 (.q 7 (.q 8 (.q 9 (.q 10 (.f 11 (.q 12 (.tl 13 (.nil))))))))))))))) (by decide +kernel) ?_
    refine idx_rd (Gt.owrd _ oB) ?_ ?_ fun b21 o21 hb21 => ?_
    ·omega
    ·(rw [occN_len (by omega)]; omega)
    refine load_allN 0 (k) rfl (Gt.owrd _ oB) ?_ ?_ hb21 rfl (mem_at 0 rfl) fun l22 hl22 => ?_
    ·omega
    ·(rw [occN_len (by omega)]; omega)
    obtain ⟨rfl, hw22⟩ := hl22; simp only [flStr, flInt, okI] at hw22
    refine idx_rd (Gt.owrd _ oB) ?_ ?_ fun b23 o23 hb23 => ?_
    ·omega
    ·(rw [occN_len (by omega)]; omega)
    refine load_all 0 (Gt.owrd _ oB) ?_ ?_ hb23 rfl (mem_at 0 rfl) fun l24 hl24 => ?_
    ·omega
    ·(rw [occN_len (by omega)]; omega)
    obtain ⟨rfl, hw24⟩ := hl24; simp only [flStr, flInt, okI] at hw24
    refine VC.intro ?_ ?_
    ·exact fun _ h => h
    refine idx_rd (Gt.owrd _ oB) ?_ ?_ fun b25 o25 hb25 => ?_
    ·omega
    ·(rw [occN_len (by omega)]; omega)
    refine gstoreN (Fld.id _) 0 (k) 0 rfl rfl oB ?_ ?_ hb25 rfl gI_pl _ (gI_ow ?_) fun A26 o26 => ?_
    ·omega
    ·(rw [occN_len (by omega)]; omega)
    ·(rw [occ_go (by omega) (by omega)]; have h9 := occQ_rng p.pieces k (j + 1); unfold okI; omega)
    apply loop_stepA (j + 1, _)
    ·exact .refl _
    ·exact frI
    ·exact ⟨rfl, rfl, trivial⟩
    ·try dsimp only
     (rw [← occ_go (by omega) (by omega), ← occN_set (a := occQ p.pieces k j)]; exact ⟨by omega, by assumption⟩)
    try dsimp only
    omega
   ·simp at q18
    obtain rfl : j = (p.pieces[k]?.getD default).kids.length := by omega
    rw [occA_next (by omega)] at oB
    apply loop_stepA (k + 1, _)
    ·exact .refl _
    ·exact frI
    ·exact ⟨rfl, trivial⟩
    ·try dsimp only
     exact ⟨by omega, oB⟩
    try dsimp only
    omega
 ·simp at q2
  refine idx_rd (Gt.owrd _ oA) ?_ ?_ fun b27 o27 hb27 => ?_
  ·(simp (disch := omega) only [wrap_of]; omega)
  ·(rw [occA_len]; omega)
  refine load_all 0 (Gt.owrd _ oA) ?_ ?_ hb27 rfl (mem_at 0 rfl) fun l28 hl28 => ?_
  ·(simp (disch := omega) only [wrap_of]; omega)
  ·(rw [occA_len]; omega)
  obtain ⟨rfl, hw28⟩ := hl28; simp only [flStr, flInt, okI] at hw28
  (have hke : k = p.pieces.length := (by omega); subst hke; rw [hwl, Int.toNat_natCast, occA_end]; exact ⟨[], ⟨by unfold occ; rfl, rfl⟩, .mem (by simp)⟩)
end
section
attribute [local irreducible] IntKind.wrap
theorem load_ent {H : Hp} {b off s : Nat} {cs l : List Value} {T : TypeId} {F : List Value → Prop} (hm : (b, Obj.cells ⟨cs⟩ T) ∈ H) (hl : off + s ≤ cs.length) (e : (cs.drop off).take s = l) (c : F l) : VCload H b off s F := by
 subst e
 refine .intro _ ⟨by rw [List.length_take, List.length_drop]; omega, _, _, _, hm, fun j hj => ?_⟩ c
 rw [List.getElem?_take_of_lt hj, List.getElem?_drop]
 simp
def arcT (lb : List UInt8) (f : Int) (l : List Int) : List Arc := l.map fun j => ⟨f, lb[j.toNat]?.getD default, j + 1⟩
theorem arcT_next {lb : List UInt8} {f : Int} {l : List Int} {k : Nat} (h : k < l.length) : arcT lb f (l.take (k + 1)) = arcT lb f (l.take k) ++ [⟨f, lb[(l[k]?.getD 0).toNat]?.getD default, (l[k]?.getD 0) + 1⟩] := by
 unfold arcT
 rw [← List.take_append_getElem h, List.map_append, List.getElem?_eq_getElem h]; rfl
theorem arcT_from (lb : List UInt8) (f : Int) (m : Nat) : arcT lb f (bitsL m 32) = arcsFrom lb f m := rfl
theorem arcT_step {lb : List UInt8} {f : Int} {l : List Int} {xs : List Arc} {k : Nat} (h : k < l.length) (hw : IntKind.i64.wrap ((l[k]?.getD 0) + 1) = (l[k]?.getD 0) + 1) : (xs ++ arcT lb f (l.take k)) ++ [⟨f, lb[(l[k]?.getD 0).toNat]?.getD default, IntKind.i64.wrap ((l[k]?.getD 0) + 1)⟩] = xs ++ arcT lb f (l.take (k + 1)) := by
 rw [hw, arcT_next h, List.append_assoc]
theorem arcsFn_ct (q sb : Nat) (st ve v0 v2 : Value) (b bl : Option Addr) (c cl : Nat) (xs : List Arc) (A : Hp) (f : Int) (m : Nat) (lb : List UInt8) (ho : (gSl 282 gArc).ow [.slice b xs.length c] xs A) (hf : okI f) (hm : m < 2 ^ lb.length) (hl : lb.length ≤ 23) (hx : xs.length ≤ 1000000) :
  CtR prog 212 [.int .i64 f, .int .u32 (m : Int), .pointer (some ⟨q, 0, none⟩), .pointer (some ⟨sb, 0, none⟩)] ((q, Obj.cells ⟨[st, .slice b xs.length c, ve]⟩ 212) :: A)
   (fun H => (sb, Obj.cells ⟨[v0, .slice bl lb.length cl, v2]⟩ 300) ∈ H ∧ (gSl 5 gY).rd H [.slice bl lb.length cl] lb)
   (fun v D => ∃ b' c' A', v = .tuple #[] ∧ D = (q, Obj.cells ⟨[st, .slice b' (xs ++ arcsFrom lb f m).length c', ve]⟩ 212) :: A' ∧ (gSl 282 gArc).ow [.slice b' (xs ++ arcsFrom lb f m).length c'] (xs ++ arcsFrom lb f m) A') := by
 refine CtR.introB G_ok [.v (.int .i64 f), .v (.int .u32 (m : Int)), .p 0 0, .v (.pointer (some ⟨sb, 0, none⟩))] [⟨q, [st, .slice b xs.length c, ve], 212⟩] [A] func212 rfl rfl rfl rfl (by simp [SV.ok]) (by simp [Blk.ent]) fun E H hp => ?_
 obtain ⟨hms, hlb⟩ := hp
 have hm2 : m < 4294967296 := u32_of hm (by omega)
 have hbl := bitsL_len m 32
 refine call_new (bitsIn_ct _ ?_) trivial ?_
 ·trivial
 rintro v0 A0 o0
 obtain ⟨b0, c0, rfl, o0⟩ := o0
 apply loop_mod (α := (Nat) × (Hp) × (Option Addr) × (Nat)) G_ok [12, 13, 14, 7, 15, 16, 17, 18, 19, 20, 21, 22, 23, 24, 25, 26, 27, 28, 29, 11] (fun z => [(11, .v (.int .i64 z.1))]) (fun z => [⟨q, [st, .slice z.2.2.1 (xs ++ arcT lb f ((bitsL m 32).take z.1)).length z.2.2.2, ve], (212 : TypeId)⟩]) (fun z => [z.2.1, A0, H]) (fun z => (bitsL m 32).length - z.1) (fun z => z.1 ≤ (bitsL m 32).length ∧ (gSl 282 gArc).ow [.slice z.2.2.1 (xs ++ arcT lb f ((bitsL m 32).take z.1)).length z.2.2.2] (xs ++ arcT lb f ((bitsL m 32).take z.1)) z.2.1) ((0, A, b, c))
 ·exact frI
 ·(simp only [List.take_zero, arcT, List.map_nil, List.append_nil]; repeat' (first | exact trivial | refine ⟨by first | rfl | simp [Blk.ent], ?_⟩))
 ·try dsimp only
  (simp only [List.take_zero, arcT, List.map_nil, List.append_nil]; exact ⟨Nat.zero_le _, ho⟩)
 ·exact rlA
 rintro ⟨k, X, by2, cy2⟩ hI
 try dsimp only at hI
 obtain ⟨hk, oX⟩ := hI
 try dsimp only
 refine ⟨fun q1 => ?_, fun q1 => ?_⟩
 ·simp at q1
  have hb := bitsL_get hm (by omega : k < (bitsL m 32).length)
  have hst := arcT_step (lb := lb) (f := f) (xs := xs) (by omega : k < (bitsL m 32).length) (wrap_of (by omega) (by omega))
  have hxl : (xs ++ arcT lb f ((bitsL m 32).take k)).length ≤ 1000040 := (by rw [List.length_append]; unfold arcT; rw [List.length_map, List.length_take]; omega)
  refine idx_rd (Gt.owrd _ o0) ?_ ?_ fun b2 o2 hb2 => ?_
  ·omega
  ·omega
  refine load_allN 0 (k) rfl (Gt.owrd _ o0) ?_ ?_ hb2 rfl (mem_at 1 rfl) fun l3 hl3 => ?_
  ·omega
  ·omega
  obtain ⟨rfl, hw3⟩ := hl3; simp only [flStr, flInt, okI] at hw3
  refine draw G_ok mixed (some 12) (.q 0 (.q 1 (.q 2 (.q 3 (.q 4 (.q 5 (.q 6 (.q 7 (.q 8 (.q 9 (.q 10 (.f 11 (.tl 12 (.f 13 (.f 14 (.nil)))))))))))))))) (by decide +kernel) ?_
  refine load_ent (l := [.slice bl lb.length cl]) (mem_at 2 rfl _ hms) (by simp) rfl ?_
  refine idx_rd hlb ?_ ?_ fun b4 o4 hb4 => ?_
  ·omega
  ·omega
  refine load_all 0 hlb ?_ ?_ hb4 rfl (mem_at 2 rfl) fun l5 hl5 => ?_
  ·omega
  ·omega
  obtain ⟨rfl, hw5⟩ := hl5
  refine ⟨fun x6 => ?_⟩
  refine VC.intro ?_ ?_
  ·exact keep_new
  refine gappend1 (g := gArc) (T := (282 : TypeId)) G_ok X _ [A0, H] ?_ oX ((gArc_ow (x := ⟨f, lb[((bitsL m 32)[k]?.getD 0).toNat]?.getD default, IntKind.i64.wrap ((bitsL m 32)[k]?.getD 0 + 1)⟩)).2 ⟨rfl, .refl _, hf, wrap_i64_ok _⟩) (List.mem_of_getElem? (i := 0) rfl) rfl rfl rfl rfl rfl rfl rfl rfl ?_ fun b7 c7 A7 o7 => ?_
  ·exact .tl
  ·omega
  apply loop_stepA (k + 1, _, _, _)
  ·exact .refl _
  ·exact frI
  ·(rw [← hst]; repeat' (first | exact trivial | refine ⟨by first | rfl | simp [Blk.ent], ?_⟩))
  ·try dsimp only
   exact ⟨by omega, by rw [← hst]; assumption⟩
  try dsimp only
  omega
 ·simp at q1
  (have hke : k = (bitsL m 32).length := (by omega); rw [hke, List.take_length, arcT_from] at oX ⊢; exact ⟨_, ⟨_, _, _, rfl, rfl, oX⟩, rlB⟩)
end
section
attribute [local irreducible] IntKind.wrap topV topL nfaOf cntF arcsK
def nfaR (x : Path) : Nfa × Bool := if pathOk x = true ∧ nfaGo x.pieces = true then (nfaOf x.pieces, true) else (zNfa, false)
theorem nfaR_no1 {x : Path} (h : pathOk x = false) : nfaR x = (zNfa, false) := if_neg fun h2 => by rw [h] at h2; cases h2.1
theorem nfaR_no2 {x : Path} (h : nfaGo x.pieces = false) : nfaR x = (zNfa, false) := if_neg fun h2 => by rw [h] at h2; cases h2.2
theorem nfaR_yes {x : Path} (h : pathOk x = true) (h2 : nfaGo x.pieces = true) : nfaR x = (nfaOf x.pieces, true) := if_pos ⟨h, h2⟩
theorem path_all {x : Path} (h : pathOk x = true) : 1 ≤ x.pieces.length ∧ x.pieces.length ≤ 60 ∧ PsOk x.pieces := by
 have h1 := h
 unfold pathOk at h1
 simp only [Bool.and_eq_true, decide_eq_true_iff] at h1
 exact ⟨h1.1, h1.2.1, psOk_of h⟩
theorem occ_go1 {ps : List Piece} (hps : PsOk ps) (h : 1 ≤ ps.length) (ho : 24 ≤ occ ps) : nfaGo ps = false := by
 rw [occ_cnt hps h] at ho
 exact decide_eq_false (by omega)
theorem occ_go2 {ps : List Piece} (hps : PsOk ps) (h : 1 ≤ ps.length) (ho : occ ps < 24) : nfaGo ps = true := by
 rw [occ_cnt hps h] at ho
 exact decide_eq_true (by omega)
theorem topVis_ct (ps : List Piece) (hps : PsOk ps) (hlen : ps.length ≤ 60) (h1 : 1 ≤ ps.length) (hg : nfaGo ps = true) (q : Nat) (ki : Int) (bp bl bf : Option Addr) (cp cl cf : Nat) (hk : ki = ((ps.length - 1 : Nat) : Int)) (hL : (gSl 5 gY).ow [.slice bl 0 cl] [] []) (hF : (gSl 301 gU).ow [.slice bf 0 cf] [] []) :
  CtR prog 211 [.pointer (some ⟨q, 0, none⟩), .int .i64 ki] [(q, Obj.cells ⟨[.slice bp ps.length cp, .slice bl 0 cl, .slice bf 0 cf]⟩ 300)] (fun H => (gSl 279 gPiece).rd H [.slice bp ps.length cp] ps)
   (fun v D => ∃ bl' cl' bf' cf' AL' AF', v = .agg ⟨[.int .u32 ((topV ps).2.first : Nat), .int .u32 ((topV ps).2.last : Nat), .bool (topV ps).2.empty]⟩ ∧
    D = (q, Obj.cells ⟨[.slice bp ps.length cp, .slice bl' (topV ps).1.1.length cl', .slice bf' (topV ps).1.2.length cf']⟩ 300) :: (AL' ++ AF') ∧
    (gSl 5 gY).ow [.slice bl' (topV ps).1.1.length cl'] (topV ps).1.1 AL' ∧ (gSl 301 gU).ow [.slice bf' (topV ps).1.2.length cf'] (topV ps).1.2 AF') := by
 unfold topV
 exact vis_all ps hps hlen ps.length q ki (ps.length - 1) [] [] bp bl bf cp cl cf [] [] hk (by omega) (by omega) good_nil (by have := of_decide_eq_true hg; show 0 + _ ≤ 23; omega) hL hF
theorem endsI_next {e : Bool} {m n : Nat} : endsI e m (n + 1) = endsI e m n ++ [m.testBit n] := by
 unfold endsI; rw [List.range_succ, List.map_append]; rfl
theorem endsI_len {e : Bool} {m n : Nat} : (endsI e m n).length = n + 1 := by unfold endsI; simp
theorem arcsK_next {lb : List UInt8} {fo : List Nat} {first k : Nat} : arcsK lb fo first (k + 1) = arcsK lb fo first k ++ arcsFrom lb ((k : Int) + 1) (fo[k]?.getD 0) := by
 conv => lhs; unfold arcsK
theorem arcsK_zero {lb : List UInt8} {fo : List Nat} {first : Nat} : arcsK lb fo first 0 = arcsFrom lb 0 first := by unfold arcsK; rfl
theorem arcsFn2_ct (q sb : Nat) (st ve v0 v2 : Value) (b bl : Option Addr) (c cl n : Nat) (xs : List Arc) (A : Hp) (f : Int) (m : Nat) (lb : List UInt8) (ho : (gSl 282 gArc).ow [.slice b n c] xs A) (hf : okI f) (hm : m < 2 ^ lb.length) (hl : lb.length ≤ 23) (hx : xs.length ≤ 1000000) :
  CtR prog 212 [.int .i64 f, .int .u32 (m : Int), .pointer (some ⟨q, 0, none⟩), .pointer (some ⟨sb, 0, none⟩)] ((q, Obj.cells ⟨[st, .slice b n c, ve]⟩ 212) :: A)
   (fun H => (sb, Obj.cells ⟨[v0, .slice bl lb.length cl, v2]⟩ 300) ∈ H ∧ (gSl 5 gY).rd H [.slice bl lb.length cl] lb)
   (fun v D => ∃ b' c' A', v = .tuple #[] ∧ D = (q, Obj.cells ⟨[st, .slice b' (xs ++ arcsFrom lb f m).length c', ve]⟩ 212) :: A' ∧ (gSl 282 gArc).ow [.slice b' (xs ++ arcsFrom lb f m).length c'] (xs ++ arcsFrom lb f m) A') := by
 obtain ⟨rfl, -, -⟩ := sl_len (Gt.owrd _ ho)
 exact arcsFn_ct q sb st ve v0 v2 b bl c cl xs A f m lb ho hf hm hl hx
theorem sub_hall {A : Hp} {R : List Hp} {bl : List Blk} {fr : Fr} (h : A ∈ R) : ∀ p ∈ A, p ∈ St.hall ⟨fr, bl, R⟩ := fun p hp => List.mem_append_right _ (List.mem_flatten.2 ⟨A, h, hp⟩)
theorem top_le {ps : List Piece} (hps : PsOk ps) (h : 1 ≤ ps.length) (hg : nfaGo ps = true) : (topV ps).1.1.length ≤ 23 ∧ (topV ps).1.2.length = (topV ps).1.1.length ∧ (topV ps).2.first < 2 ^ (topV ps).1.1.length ∧ (topV ps).2.last < 4294967296 ∧ ∀ k, k < (topV ps).1.2.length → ((topV ps).1.2[k]?.getD 0) < 2 ^ (topV ps).1.1.length := by
 have h1 := topV_fine hps h
 have h2 := of_decide_eq_true hg
 obtain ⟨⟨a1, a2⟩, a3, a4, a5⟩ := h1
 have h3 : (topV ps).1.1.length ≤ 23 := by rw [a3]; show 0 + _ ≤ 23; omega
 refine ⟨h3, a1.symm, a4, u32_of a5 (by omega), fun k hk => ?_⟩
 rw [List.getElem?_eq_getElem hk]
 exact a2 _ (List.getElem_mem hk)
theorem nfa_done {ps : List Piece} (hps : PsOk ps) (h : 1 ≤ ps.length) (hg : nfaGo ps = true) {xs : List Arc} (hp : xs.Perm (arcsK (topV ps).1.1 (topV ps).1.2 (topV ps).2.first (topV ps).1.2.length)) (hs : xs.Pairwise fun a b => ltOf cmpA b a = false) :
  nfaOf ps = ⟨((topV ps).1.1.length + 1 : Nat), xs, endsI (topV ps).2.empty (topV ps).2.last (topV ps).1.2.length⟩ := by
 have e1 := top_arcs hps h hg hp hs
 have e2 := top_ends hps h hg
 have e3 := (top_rel hps h hg).1.1
 rw [e1, e2, e3]
 unfold nfaOf; rfl
theorem ends_lit {x : Nat} {e : Bool} : (gSl 4 gB).ow [.slice (some ⟨x, 0, none⟩) 1 1] [e] [(x, Obj.cells ⟨[.bool e]⟩ 4)] :=
 ow_fl (Ow.lit (f := flBool) (T := 4) (b := x) (xs := [e]) (by simp [flBool]) (by simp))
theorem endsI_zero {e : Bool} {m : Nat} : endsI e m 0 = [e] := rfl
theorem bit_eq {s k : Nat} (hs : s < 4294967296) (hk : k < 32) : (IntKind.u32.wrap (((BitVec.ofInt IntKind.u32.bits (((s : Nat) : Int).fdiv (2 ^ min (IntKind.u64.wrap (k : Int)).toNat IntKind.u32.bits)) &&& BitVec.ofInt IntKind.u32.bits 1).toNat : Nat) : Int) == 1) = s.testBit k := by
 rw [bit_at hs hk]
 cases s.testBit k <;> rfl
theorem step_arcs {lb : List UInt8} {fo : List Nat} {first k : Nat} (h : k < 100) : arcsK lb fo first k ++ arcsFrom lb (IntKind.i64.wrap ((k : Int) + 1)) (fo[k]?.getD default) = arcsK lb fo first (k + 1) := by
 rw [arcsK_next, wrap_of (by omega) (by omega)]; rfl
theorem step_ends {e : Bool} {s k : Nat} (hs : s < 4294967296) (hk : k < 32) : endsI e s k ++ [IntKind.u32.wrap (((BitVec.ofInt IntKind.u32.bits (((s : Nat) : Int).fdiv (2 ^ min (IntKind.u64.wrap (k : Int)).toNat IntKind.u32.bits)) &&& BitVec.ofInt IntKind.u32.bits 1).toNat : Nat) : Int) == 1] = endsI e s (k + 1) := by
 rw [endsI_next, bit_eq hs hk]
theorem implNfaOf_ct (l : List Value) (x : Path) :
  Ct prog 198 [.agg ⟨l⟩] [] (fun H => gPath.rd H l x) (fun v A => ∃ b c b2 c2, v = .tuple #[.agg ⟨[.int .i64 (nfaR x).1.states, .slice b (nfaR x).1.arcs.length c, .slice b2 (nfaR x).1.ends.length c2]⟩, .bool (nfaR x).2] ∧ gNfa.ow [.int .i64 (nfaR x).1.states, .slice b (nfaR x).1.arcs.length c, .slice b2 (nfaR x).1.ends.length c2] (nfaR x).1 A) := by
 refine Ct.intro0 G_ok func198 rfl rfl rfl fun E H hp => ?_
 obtain ⟨b0p, c0p, rfl, h0p⟩ := gPath_rd.1 hp
 refine ⟨fun x0 => ?_⟩
 refine ⟨fun x1 => ?_⟩
 refine call_val (implPathOk_ct _ (x)) (Rp.mono _ (mem_at 0 rfl) hp) ?_
 rintro _ rfl
 refine ⟨fun q3 => ?_, fun q3 => ?_⟩
 ·simp at q3
  (rw [nfaR_no1 (by assumption)]; exact ⟨[], ⟨none, 0, none, 0, rfl, zNfa_ow⟩, .mem (by simp)⟩)
 ·simp at q3
  have hpo3 := path_all q3
  refine call_val (occurrences_ct _ (x) (path_all ‹pathOk x = true›).1 (path_all ‹pathOk x = true›).2.1 (path_all ‹pathOk x = true›).2.2) (Rp.mono _ (mem_at 0 rfl) hp) ?_
  rintro _ rfl
  refine ⟨fun q5 => ?_, fun q5 => ?_⟩
  ·simp at q5
   (rw [nfaR_no2 (occ_go1 (path_all ‹pathOk x = true›).2.2 (path_all ‹pathOk x = true›).1 (by omega))]; exact ⟨[], ⟨none, 0, none, 0, rfl, zNfa_ow⟩, .mem (by simp)⟩)
  ·simp at q5
   have hgo := occ_go2 (path_all ‹pathOk x = true›).2.2 (path_all ‹pathOk x = true›).1 (by omega)
   obtain ⟨ht1, ht2, ht3, ht4, ht5⟩ := top_le (path_all ‹pathOk x = true›).2.2 (path_all ‹pathOk x = true›).1 hgo
   have hst : IntKind.i64.wrap (((topV x.pieces).1.1.length : Int) + 1) = (((topV x.pieces).1.1.length + 1 : Nat) : Int) := (by rw [wrap_of (by omega) (by omega)]; omega)
   refine ⟨fun x6 => ?_⟩
   refine callR_blk 2 ([]) [H] rfl ?_ (topVis_ct x.pieces (path_all ‹pathOk x = true›).2.2 (path_all ‹pathOk x = true›).2.1 (path_all ‹pathOk x = true›).1 (occ_go2 (path_all ‹pathOk x = true›).2.2 (path_all ‹pathOk x = true›).1 (by omega)) _ _ _ _ _ _ _ _ ?_ (sl_nil _ _ _) (sl_nil _ _ _)) (Rp.mono _ (mem_at 0 rfl) h0p) ?_
   ·exact .refl _
   ·(simp (disch := omega) only [wrap_of]; omega)
   rintro _ A7 ⟨bl1, cl1, bf1, cf1, AL1, AF1, rfl, rfl, oL1, oF1⟩
   refine ⟨_, _, [AL1, AF1], rfl, perm2, ?_⟩
   refine ⟨fun x8 => ?_⟩
   refine ⟨fun x9 => ?_⟩
   refine ⟨fun x10 => ?_⟩
   refine callR_blk 4 ([]) [[(x9, Obj.cells { toList := Value.bool (topV x.pieces).snd.empty :: [].append (zeros (nat_lit 0) [Value.bool false]) } (4 : TypeId))], AL1, AF1, H] rfl ?_ (arcsFn2_ct _ _ _ _ (.slice b0p x.pieces.length c0p) (.slice bf1 (topV x.pieces).1.2.length cf1) _ bl1 _ cl1 _ _ _ _ _ (topV x.pieces).1.1 (sl_nil _ _ _) ?_ ?_ ?_ ?_) ⟨(by simp [St.hall, delBlk, Blk.ent, idOf]), (Rp.mono _ (sub_hall (by simp)) (Gt.owrd _ oL1))⟩ ?_
   ·exact .refl _
   ·trivial
   ·trivial
   ·trivial
   ·trivial
   rintro _ A11 ⟨ba11, ca11, AA11, rfl, rfl, oa11⟩
   refine ⟨_, _, [AA11], rfl, perm1, ?_⟩
   apply loop_mod (α := (Nat) × (Hp) × (Option Addr) × (Nat) × (Hp) × (Option Addr) × (Nat)) G_ok [43, 44, 45, 46, 8, 9, 47, 48, 49, 50, 51, 52, 53, 54, 55, 56, 57, 58, 59, 60, 61, 62, 63, 64, 42] (fun z => [(42, .v (.int .i64 z.1))]) (fun z => [⟨x0, [Value.slice b0p x.pieces.length c0p], (205 : Nat)⟩, ⟨x1, [Value.int IntKind.i64 (0 : Int), Value.slice none (0 : Nat) (0 : Nat), Value.slice none (0 : Nat) (0 : Nat)], (212 : Nat)⟩, ⟨x6, [Value.slice b0p x.pieces.length c0p, Value.slice bl1 (topV x.pieces).fst.fst.length cl1, Value.slice bf1 (topV x.pieces).fst.snd.length cf1], (300 : Nat)⟩, ⟨x8, [Value.int IntKind.u32 (↑(topV x.pieces).snd.first : Int), Value.int IntKind.u32 (↑(topV x.pieces).snd.last : Int), Value.bool (topV x.pieces).snd.empty], (303 : Nat)⟩, ⟨x10, [Value.int IntKind.i64 (IntKind.i64.wrap ((↑(topV x.pieces).fst.fst.length : Int) + (1 : Int))), .slice z.2.2.1 (arcsK (topV x.pieces).1.1 (topV x.pieces).1.2 (topV x.pieces).2.first z.1).length z.2.2.2.1, .slice z.2.2.2.2.2.1 (endsI (topV x.pieces).2.empty (topV x.pieces).2.last z.1).length z.2.2.2.2.2.2], (212 : Nat)⟩]) (fun z => [z.2.1, z.2.2.2.2.1, AL1, AF1, H]) (fun z => (topV x.pieces).1.2.length - z.1) (fun z => z.1 ≤ (topV x.pieces).1.2.length ∧ (gSl 282 gArc).ow [.slice z.2.2.1 (arcsK (topV x.pieces).1.1 (topV x.pieces).1.2 (topV x.pieces).2.first z.1).length z.2.2.2.1] (arcsK (topV x.pieces).1.1 (topV x.pieces).1.2 (topV x.pieces).2.first z.1) z.2.1 ∧ (gSl 4 gB).ow [.slice z.2.2.2.2.2.1 (endsI (topV x.pieces).2.empty (topV x.pieces).2.last z.1).length z.2.2.2.2.2.2] (endsI (topV x.pieces).2.empty (topV x.pieces).2.last z.1) z.2.2.2.2.1) ((0, _, _, _, _, _, _))
   ·exact frI
   ·(simp only [endsI_zero, arcsK_zero, List.nil_append, List.length_singleton]; repeat' (first | exact trivial | refine ⟨by first | rfl | simp [Blk.ent], ?_⟩))
   ·try dsimp only
    (simp only [endsI_zero, arcsK_zero, List.nil_append] at *; exact ⟨Nat.zero_le _, by assumption, ends_lit⟩)
   ·exact .refl _
   rintro ⟨k, X, by2, cy2, W, bw, cw⟩ hI
   try dsimp only at hI
   obtain ⟨hk, oX, oW⟩ := hI
   try dsimp only
   refine ⟨fun q12 => ?_, fun q12 => ?_⟩
   ·simp at q12
    have hal := arcsK_len (topV x.pieces).1.1 (topV x.pieces).1.2 (topV x.pieces).2.first k
    have hel : (endsI (topV x.pieces).2.empty (topV x.pieces).2.last k).length = k + 1 := endsI_len
    have hX9 := step_arcs (lb := (topV x.pieces).1.1) (fo := (topV x.pieces).1.2) (first := (topV x.pieces).2.first) (k := k) (by omega)
    have hW9 := step_ends (e := (topV x.pieces).2.empty) (s := (topV x.pieces).2.last) (k := k) ht4 (by omega)
    refine idx_rd (Gt.owrd _ oF1) ?_ ?_ fun b13 o13 hb13 => ?_
    ·omega
    ·omega
    refine load_allN default (k) rfl (Gt.owrd _ oF1) ?_ ?_ hb13 rfl (mem_at 3 rfl) fun l14 hl14 => ?_
    ·omega
    ·omega
    obtain ⟨rfl, hw14⟩ := hl14; simp only [flU] at hw14
    refine VC.intro ?_ ?_
    ·(rw [w64u]; omega)
    refine ⟨fun x15 => ?_⟩
    refine gappend1 (g := gB) (T := (4 : TypeId)) G_ok W [] [X, AL1, AF1, H] ?_ oW (gB_ow ?_) (List.mem_of_getElem? (i := 0) rfl) rfl rfl rfl rfl rfl rfl rfl rfl ?_ fun b16 c16 A16 o16 => ?_
    ·exact rlA
    ·trivial
    ·omega
    refine callR_blk 4 (X) [A16, AL1, AF1, H] rfl ?_ (arcsFn2_ct _ _ _ _ (.slice b0p x.pieces.length c0p) (.slice bf1 (topV x.pieces).1.2.length cf1) _ bl1 _ cl1 _ _ _ _ _ (topV x.pieces).1.1 oX ?_ ?_ ?_ ?_) ⟨(by simp [St.hall, delBlk, Blk.ent, idOf]), (Rp.mono _ (sub_hall (by simp)) (Gt.owrd _ oL1))⟩ ?_
    ·exact rlA
    ·exact okI_wrap _
    ·simp_all
    ·trivial
    ·omega
    rintro _ A17 ⟨ba17, ca17, AA17, rfl, rfl, oa17⟩
    refine ⟨_, _, [AA17], rfl, perm1, ?_⟩
    apply loop_stepA (k + 1, _, _, _, _, _, _)
    ·exact .refl _
    ·exact frI
    ·(rw [← hX9, ← hW9]; repeat' (first | exact trivial | refine ⟨by first | rfl | simp [Blk.ent], ?_⟩))
    ·try dsimp only
     exact ⟨by omega, by rw [← hX9]; assumption, by rw [← hW9]; assumption⟩
    try dsimp only
    omega
   ·simp at q12
    have hal := arcsK_len (topV x.pieces).1.1 (topV x.pieces).1.2 (topV x.pieces).2.first k
    have hke : k = (topV x.pieces).1.2.length := (by omega)
    refine callR_part (X) [W, AL1, AF1, H] (sortArcs_ct _ _ _ _ _ oX ?_) ?_ trivial ?_
    ·omega
    ·exact .refl _
    rintro _ A18 ⟨rfl, xs9, hp9, hs9, o9⟩
    have hxl9 := hp9.length_eq
    refine ⟨[A18], by simp, ?_⟩
    (subst hke; rw [nfaR_yes ‹pathOk x = true› hgo, nfa_done (path_all ‹pathOk x = true›).2.2 (path_all ‹pathOk x = true›).1 hgo hp9 hs9, hst, ← hxl9]; exact ⟨_, ⟨_, _, _, _, rfl, gNfa_ow.2 ⟨_, _, _, _, _, _, rfl, .refl _, (by unfold okI; dsimp only; omega), by assumption, oW⟩⟩, rlB⟩)
end
section
theorem allK_all {p : Nat → Bool} : ∀ {n : Nat}, (∀ i, i < n → p i = true) → allK p n = true
 | 0, _ => rfl
 | n + 1, h => allK_step (allK_all fun i hi => h i (by omega)) (h n (by omega))
theorem nfaOk_of {n : Nat} {lb : List UInt8} {xs : List Arc} {ends : List Bool} (hg : GoodM (lb, xs)) (hl : lb.length = n) (hn : n ≤ 23) (he : ends.length = n + 1) : nfaOk ⟨((n + 1 : Nat) : Int), xs, ends⟩ = true := by
 obtain ⟨⟨g1, g2⟩, g3, g4⟩ := hg
 refine nfaOk_yes (by show (1 : Int) ≤ ((n + 1 : Nat) : Int) ∧ ((n + 1 : Nat) : Int) ≤ 24; omega) (by show ((ends.length : Nat) : Int) = ((n + 1 : Nat) : Int); rw [he]) (allK_all fun i hi => ?_)
 have hi : i < xs.length := hi
 have e1 : (xs[i]?.getD default) = xs[i] := by rw [List.getElem?_eq_getElem hi]; rfl
 have hm := List.getElem_mem hi
 have r := g2 _ hm
 have q := g4 _ hm
 unfold rngA at r
 have q2 : xs[i].from' ≤ (n : Int) ∧ xs[i].to ≤ (n : Int) := by
  have := q.2; rw [show (lb, xs).1.length = n from hl] at this; exact this
 unfold arcOk
 show (inR 0 (((n + 1 : Nat) : Int) - 1) (xs[i]?.getD default).from' && (inR 0 (((n + 1 : Nat) : Int) - 1) (xs[i]?.getD default).to && (labelOk (xs[i]?.getD default).label && (decide (i = 0) || arcLess (xs[i - 1]?.getD default) (xs[i]?.getD default))))) = true
 rw [e1, inR_iff.2 (by omega), inR_iff.2 (by omega), q.1, Bool.true_and, Bool.true_and, Bool.true_and]
 rcases Nat.eq_zero_or_pos i with h0 | h0
 ·rw [decide_eq_true h0]; rfl
 have hi1 : i - 1 < xs.length := by omega
 have e2 : (xs[i - 1]?.getD default) = xs[i - 1] := by rw [List.getElem?_eq_getElem hi1]; rfl
 rw [e2, Bool.or_eq_true]
 exact .inr ((less_code (g2 _ (List.getElem_mem hi1)) (g2 _ hm)).2 (List.pairwise_iff_getElem.1 g1 (i - 1) i hi1 hi (by omega)))
def endF (l : List Int) (e : List Bool) : List Bool := l.foldl (fun e i => e.set i.toNat true) e
theorem endF_len : ∀ (l : List Int) (e : List Bool), (endF l e).length = e.length
 | [], _ => rfl
 | i :: l, e => (endF_len l (e.set i.toNat true)).trans List.length_set
theorem endF_step {l : List Int} {e : List Bool} {k : Nat} (h : k < l.length) : endF (l.take (k + 1)) e = (endF (l.take k) e).set (l[k]?.getD 0).toNat true := by
 unfold endF
 rw [← List.take_append_getElem h, List.foldl_append, List.getElem?_eq_getElem h]; rfl
theorem endF_get : ∀ (l : List Int) (e : List Bool) (k : Nat), k < e.length → (endF l e)[k]? = if (∃ i ∈ l, i.toNat = k) then some true else e[k]?
 | [], e, k, _ => by rw [if_neg (by rintro ⟨i, h, _⟩; cases h)]; rfl
 | i :: l, e, k, hk => by
  show (endF l (e.set i.toNat true))[k]? = _
  rw [endF_get l _ k (by rw [List.length_set]; exact hk)]
  by_cases h1 : ∃ j ∈ l, j.toNat = k
  ·rw [if_pos h1, if_pos]
   obtain ⟨j, h2, h3⟩ := h1
   exact ⟨j, List.mem_cons_of_mem _ h2, h3⟩
  rw [if_neg h1]
  by_cases h2 : i.toNat = k
  ·rw [if_pos ⟨i, List.mem_cons_self .., h2⟩, h2, List.getElem?_set, if_pos rfl, if_pos hk]
  rw [if_neg, List.getElem?_set, if_neg h2]
  rintro ⟨j, h3, h4⟩
  rcases List.mem_cons.1 h3 with rfl | h3
  ·exact h2 h4
  exact h1 ⟨j, h3, h4⟩
theorem ends_done {n : Nat} {l : List Int} {e : Bool} (h : ToOk n l) : endF l (e :: List.replicate n false) = endsS e l n := by
 apply List.ext_getElem?
 intro k
 unfold endsS
 rcases Nat.lt_or_ge k (n + 1) with hk | hk
 ·rw [endF_get _ _ _ (by simpa using hk)]
  cases k with
  | zero =>
   rw [if_neg]
   ·rfl
   rintro ⟨i, h1, h2⟩
   have := h i h1
   omega
  | succ k =>
   have e1 : (List.replicate n false)[k]? = some false := by rw [List.getElem?_replicate, if_pos (by omega)]
   rw [List.getElem?_cons_succ, List.getElem?_cons_succ, e1, List.getElem?_map, List.getElem?_range (by omega)]
   show _ = some (decide (((k : Int) + 1) ∈ l))
   by_cases h1 : ((k : Int) + 1) ∈ l
   ·rw [decide_eq_true h1]; exact if_pos ⟨_, h1, by omega⟩
   rw [decide_eq_false h1]
   refine if_neg ?_
   rintro ⟨i, h2, h3⟩
   have := h i h2
   exact h1 (by rw [show (k : Int) + 1 = i by omega]; exact h2)
 rw [List.getElem?_eq_none (by rw [endF_len]; simpa using hk), List.getElem?_eq_none (by simpa using hk)]
theorem look_all (ps : List Piece) (hps : PsOk ps) (hlen : ps.length ≤ 60) : ∀ n, LookCt ps n
 | 0 => by intro q ki i lb xs bp bl ba cp cl ca AL AX bd _ _ h; omega
 | n + 1 => look_ct ps n hps hlen (look_all ps hps hlen n)
attribute [local irreducible] IntKind.wrap topV topL nfaOf cntF arcsK joinA endF
theorem topLook_ct (ps : List Piece) (hps : PsOk ps) (hlen : ps.length ≤ 60) (h1 : 1 ≤ ps.length) (q : Nat) (ki : Int) (bp bl ba : Option Addr) (cp cl ca : Nat) (hk : ki = ((ps.length - 1 : Nat) : Int)) (hL : (gSl 5 gY).ow [.slice bl 0 cl] [] []) (hX : (gSl 282 gArc).ow [.slice ba 0 ca] [] []) :
  CtR prog 175 [.pointer (some ⟨q, 0, none⟩), .int .i64 ki] [(q, Obj.cells ⟨[.slice bp ps.length cp, .slice bl 0 cl, .slice ba 0 ca, .bool false]⟩ 249)] (fun H => (gSl 279 gPiece).rd H [.slice bp ps.length cp] ps)
   (fun v D => ∃ bl' cl' ba' ca' AL' AX' b1 c1 A1 b2 c2 A2, v = .agg ⟨[.slice b1 (topL ps).2.first.length c1, .slice b2 (topL ps).2.last.length c2, .bool (topL ps).2.null]⟩ ∧
    D = (q, Obj.cells ⟨[.slice bp ps.length cp, .slice bl' (topL ps).1.1.length cl', .slice ba' (topL ps).1.2.length ca', .bool (badM (topL ps).1)]⟩ 249) :: (AL' ++ (AX' ++ (A1 ++ A2))) ∧
    (gSl 5 gY).ow [.slice bl' (topL ps).1.1.length cl'] (topL ps).1.1 AL' ∧ (gSl 282 gArc).ow [.slice ba' (topL ps).1.2.length ca'] (topL ps).1.2 AX' ∧
    (gSl 3 gI).ow [.slice b1 (topL ps).2.first.length c1] (topL ps).2.first A1 ∧ (gSl 3 gI).ow [.slice b2 (topL ps).2.last.length c2] (topL ps).2.last A2) := by
 unfold topL
 exact look_all ps hps hlen ps.length q ki (ps.length - 1) [] [] bp bl ba cp cl ca [] [] false hk (by omega) (by omega) rfl goodM_nil (by show 0 ≤ 23; omega) hL hX
theorem top_bad {ps : List Piece} (hps : PsOk ps) (h : 1 ≤ ps.length) (hb : badM (topL ps).1 = true) : nfaGo ps = false := by
 have hf := (topL_fine hps h).2.1
 have h1 := of_decide_eq_true hb
 have hf : (topL ps).1.1.length = min 24 (0 + cntF ps ps.length (ps.length - 1)) := hf
 exact decide_eq_false (by omega)
theorem top_good {ps : List Piece} (hps : PsOk ps) (h : 1 ≤ ps.length) (hb : badM (topL ps).1 = false) : nfaGo ps = true ∧ (topL ps).1.1.length ≤ 23 ∧ GoodM (topL ps).1 ∧ ToOk (topL ps).1.1.length (topL ps).2.first ∧ ToOk (topL ps).1.1.length (topL ps).2.last ∧ (topL ps).2.first.length ≤ 23 ∧ (topL ps).2.last.length ≤ 23 := by
 obtain ⟨f1, f2, f3, f4, f5, f6⟩ := topL_fine hps h
 have h1 := of_decide_eq_false hb
 have f2 : (topL ps).1.1.length = min 24 (0 + cntF ps ps.length (ps.length - 1)) := f2
 have f5 : (topL ps).2.first.length + 0 ≤ (topL ps).1.1.length := f5
 have f6 : (topL ps).2.last.length + 0 ≤ (topL ps).1.1.length := f6
 exact ⟨decide_eq_true (by omega), by omega, f1, f3, f4, by omega, by omega⟩
theorem nfa_spec {ps : List Piece} (h : ToOk (topL ps).1.1.length (topL ps).2.last) : nfaOf ps = ⟨((topL ps).1.1.length + 1 : Nat), joinA (topL ps).1.1 [0] (topL ps).2.first (topL ps).1.2, endF (topL ps).2.last ((topL ps).2.null :: List.replicate (topL ps).1.1.length false)⟩ := by
 rw [ends_done h]; unfold nfaOf; rfl
theorem nfa_spec_ok {ps : List Piece} (hl : (topL ps).1.1.length ≤ 23) (hg : GoodM (topL ps).1) (hf : ToOk (topL ps).1.1.length (topL ps).2.first) : nfaOk ⟨((topL ps).1.1.length + 1 : Nat), joinA (topL ps).1.1 [0] (topL ps).2.first (topL ps).1.2, endF (topL ps).2.last ((topL ps).2.null :: List.replicate (topL ps).1.1.length false)⟩ = true :=
 nfaOk_of (lb := (topL ps).1.1) (join_good (xs := (topL ps).1.2) hg (by omega) (fun f h => by rw [List.mem_singleton.1 h]; omega) hf) rfl hl (by rw [endF_len]; simp)
theorem rep_set {n m : Nat} {e : Bool} (h : n = m + 1) : (List.replicate n false).set 0 e = endF [] (e :: List.replicate m false) := by
 subst h; unfold endF; rfl
theorem spec_nn {ps : List Piece} (hl : (topL ps).1.1.length ≤ 23) : (IntKind.i64.wrap (((topL ps).1.1.length : Int) + 1)).toNat = (topL ps).1.1.length + 1 := by rw [wrap_of (by omega) (by omega)]; omega
theorem spec_el {ps : List Piece} {l : List Int} : (endF l ((topL ps).2.null :: List.replicate (topL ps).1.1.length false)).length = (topL ps).1.1.length + 1 := by rw [endF_len]; simp
theorem spec_cells {ps : List Piece} {bj bz : Option Addr} {cj : Nat} (hl : (topL ps).1.1.length ≤ 23) : [Value.int .i64 (IntKind.i64.wrap (((topL ps).1.1.length : Int) + 1)), .slice bj (joinA (topL ps).1.1 [0] (topL ps).2.first (topL ps).1.2).length cj, .slice bz (IntKind.i64.wrap (((topL ps).1.1.length : Int) + 1)).toNat (IntKind.i64.wrap (((topL ps).1.1.length : Int) + 1)).toNat] = [Value.int .i64 (((topL ps).1.1.length + 1 : Nat) : Int), .slice bj (joinA (topL ps).1.1 [0] (topL ps).2.first (topL ps).1.2).length cj, .slice bz (endF (topL ps).2.last ((topL ps).2.null :: List.replicate (topL ps).1.1.length false)).length (IntKind.i64.wrap (((topL ps).1.1.length : Int) + 1)).toNat] := by
 have e1 : IntKind.i64.wrap (((topL ps).1.1.length : Int) + 1) = (((topL ps).1.1.length + 1 : Nat) : Int) := by rw [wrap_of (by omega) (by omega)]; omega
 rw [spec_el, spec_nn hl, e1]
theorem spec_nfa {ps : List Piece} {bj bz : Option Addr} {cj : Nat} {AX V : Hp} (hl : (topL ps).1.1.length ≤ 23) (oX : (gSl 282 gArc).ow [.slice bj (joinA (topL ps).1.1 [0] (topL ps).2.first (topL ps).1.2).length cj] (joinA (topL ps).1.1 [0] (topL ps).2.first (topL ps).1.2) AX) (oV : (gSl 4 gB).ow [.slice bz (IntKind.i64.wrap (((topL ps).1.1.length : Int) + 1)).toNat (IntKind.i64.wrap (((topL ps).1.1.length : Int) + 1)).toNat] (endF (topL ps).2.last ((topL ps).2.null :: List.replicate (topL ps).1.1.length false)) V) :
  gNfa.ow [Value.int .i64 (IntKind.i64.wrap (((topL ps).1.1.length : Int) + 1)), .slice bj (joinA (topL ps).1.1 [0] (topL ps).2.first (topL ps).1.2).length cj, .slice bz (IntKind.i64.wrap (((topL ps).1.1.length : Int) + 1)).toNat (IntKind.i64.wrap (((topL ps).1.1.length : Int) + 1)).toNat] ⟨(((topL ps).1.1.length + 1 : Nat) : Int), (joinA (topL ps).1.1 [0] (topL ps).2.first (topL ps).1.2), (endF (topL ps).2.last ((topL ps).2.null :: List.replicate (topL ps).1.1.length false))⟩ (AX ++ V) :=
 gNfa_ow.2 ⟨bj, cj, AX, bz, (IntKind.i64.wrap (((topL ps).1.1.length : Int) + 1)).toNat, V, spec_cells hl, .refl _, by unfold okI; dsimp only; omega, oX, by
  show (gSl 4 gB).ow [.slice bz (endF (topL ps).2.last ((topL ps).2.null :: List.replicate (topL ps).1.1.length false)).length (IntKind.i64.wrap (((topL ps).1.1.length : Int) + 1)).toNat] (endF (topL ps).2.last ((topL ps).2.null :: List.replicate (topL ps).1.1.length false)) V
  rw [spec_el, ← spec_nn hl]; exact oV⟩
theorem sub_hall2 {A B : Hp} {R : List Hp} {bl : List Blk} {fr : Fr} (h1 : A ∈ R) (h2 : B ∈ R) : ∀ p ∈ A ++ B, p ∈ St.hall ⟨fr, bl, R⟩ := fun p hp => (List.mem_append.1 hp).elim (sub_hall h1 p) (sub_hall h2 p)
theorem specNfaOf_ct (l : List Value) (x : Path) :
  Ct prog 142 [.agg ⟨l⟩] [] (fun H => gPath.rd H l x) (fun v A => ∃ b c b2 c2, v = .tuple #[.agg ⟨[.int .i64 (nfaR x).1.states, .slice b (nfaR x).1.arcs.length c, .slice b2 (nfaR x).1.ends.length c2]⟩, .bool (nfaR x).2] ∧ gNfa.ow [.int .i64 (nfaR x).1.states, .slice b (nfaR x).1.arcs.length c, .slice b2 (nfaR x).1.ends.length c2] (nfaR x).1 A) := by
 refine Ct.intro0 G_ok func142 rfl rfl rfl fun E H hp => ?_
 obtain ⟨b0p, c0p, rfl, h0p⟩ := gPath_rd.1 hp
 refine ⟨fun x0 => ?_⟩
 refine ⟨fun x1 => ?_⟩
 refine call_val (specPathOk_ct _ (x)) (Rp.mono _ (mem_at 0 rfl) hp) ?_
 rintro _ rfl
 refine ⟨fun q3 => ?_, fun q3 => ?_⟩
 ·simp at q3
  (rw [nfaR_no1 (by assumption)]; exact ⟨[], ⟨none, 0, none, 0, rfl, zNfa_ow⟩, .mem (by simp)⟩)
 ·simp at q3
  have hpo3 := path_all q3
  refine ⟨fun x4 => ?_⟩
  refine callR_blk 2 ([]) [H] rfl ?_ (topLook_ct x.pieces (path_all ‹pathOk x = true›).2.2 (path_all ‹pathOk x = true›).2.1 (path_all ‹pathOk x = true›).1 _ _ _ _ _ _ _ _ ?_ (sl_nil _ _ _) (sl_nil _ _ _)) (Rp.mono _ (mem_at 0 rfl) h0p) ?_
  ·exact .refl _
  ·(simp (disch := omega) only [wrap_of]; omega)
  rintro _ A5 ⟨bl1, cl1, ba1, ca1, AL1, AX1, b11, c11, A11, b21, c21, A21, rfl, rfl, oL1, oX1, oF1, oT1⟩
  have rF1 := Gt.owrd _ oF1
  have rT1 := Gt.owrd _ oT1
  refine ⟨_, _, [AL1, AX1, A11, A21], rfl, perm4, ?_⟩
  refine ⟨fun x6 => ?_⟩
  refine ⟨fun q7 => ?_, fun q7 => ?_⟩
  ·(rw [nfaR_no2 (top_bad (path_all ‹pathOk x = true›).2.2 (path_all ‹pathOk x = true›).1 (by assumption))]; exact ⟨[], ⟨none, 0, none, 0, rfl, zNfa_ow⟩, .mem (by simp)⟩)
  ·obtain ⟨hgo, ht1, hG, hF9, hL9, ht6, ht7⟩ := top_good (path_all ‹pathOk x = true›).2.2 (path_all ‹pathOk x = true›).1 ‹badM (topL x.pieces).1 = false›
   refine ⟨fun x8 => ?_⟩
   refine callR_blk 2 (AX1) [[(x8, Obj.cells { toList := Value.int IntKind.i64 (0 : Int) :: [].append (zeros (nat_lit 0) [Value.int IntKind.i64 (0 : Int)]) } (3 : TypeId))], AL1, A11, A21, H] rfl ?_ (mJoin_ct _ _ _ _ _ _ _ _ _ ((topL x.pieces).fst.fst) ([(0 : Int)]) ((topL x.pieces).snd.first) _ _ _ _ oX1 ?_ ?_ ?_ ?_) ⟨(Rp.mono _ (mem_at 1 rfl) (Gt.owrd _ oL1)), (Rp.mono _ (mem_at 0 rfl) (Ow.rd (Ow.lit (f := flInt) (T := (3 : TypeId)) (b := x8) (xs := [(0 : Int)]) (by first | (simp [flInt, okI]; done) | (simp only [List.forall_mem_cons]; simp_all [flInt, okI])) (by simp)))), (Rp.mono _ (mem_at 2 rfl) rF1)⟩ ?_
   ·exact rlA
   ·exact hG.1
   ·exact (fun x hx => by rw [List.mem_singleton.1 hx]; omega)
   ·trivial
   ·omega
   rintro _ A9 ⟨bj9, cj9, Aj9, rfl, rfl, oj9⟩
   refine ⟨_, _, [Aj9], rfl, perm1, ?_⟩
   refine draw_joinK (α := (Nat) × (Nat) × (Hp)) [31, 32, 33, 34, 35, 36, 37, 38, 39, 40, 41, 42, 43, 44, 45, 46, 47, 48, 6] (fun z => [(6, .p 4 0)]) (fun z => [⟨x0, [.slice b0p x.pieces.length c0p], 205⟩, ⟨x1, [.int .i64 0, .slice none 0 0, .slice none 0 0], 212⟩, ⟨x4, [.slice b0p x.pieces.length c0p, .slice bl1 (topL x.pieces).1.1.length cl1, .slice bj9 (joinA (topL x.pieces).1.1 [0] (topL x.pieces).2.first (topL x.pieces).1.2).length cj9, .bool (badM (topL x.pieces).1)], 249⟩, ⟨x6, [.slice b11 (topL x.pieces).2.first.length c11, .slice b21 (topL x.pieces).2.last.length c21, .bool (topL x.pieces).2.null], 251⟩, ⟨z.1, [.int .i64 (IntKind.i64.wrap (((topL x.pieces).1.1.length : Int) + 1)), .slice bj9 (joinA (topL x.pieces).1.1 [0] (topL x.pieces).2.first (topL x.pieces).1.2).length cj9, .slice (some ⟨z.2.1, 0, none⟩) (IntKind.i64.wrap (((topL x.pieces).1.1.length : Int) + 1)).toNat (IntKind.i64.wrap (((topL x.pieces).1.1.length : Int) + 1)).toNat], 212⟩]) (fun z => [z.2.2, Aj9, AL1, A11, A21, H]) (fun z => (gSl 4 gB).ow [.slice (some ⟨z.2.1, 0, none⟩) (IntKind.i64.wrap (((topL x.pieces).1.1.length : Int) + 1)).toNat (IntKind.i64.wrap (((topL x.pieces).1.1.length : Int) + 1)).toNat] (List.replicate (IntKind.i64.wrap (((topL x.pieces).1.1.length : Int) + 1)).toNat false) z.2.2) ?_ ?_
   ·refine draw G_ok mixed (some 19) (.q 0 (.q 1 (.q 2 (.q 3 (.q 4 (.q 5 (.q 6 (.q 7 (.q 8 (.q 9 (.q 10 (.q 11 (.q 12 (.q 13 (.q 14 (.q 15 (.hd (.alt 16 (.q 17 (.f 18 (.tl 19 (.nil)))) (.alt 18 (.f 16 (.q 17 (.tl 19 (.nil)))) (.nil)))))))))))))))))))) (by decide +kernel) ?_
    refine VC.intro ?_ ?_
    ·refine VCmake.intro ?_ ?_ ?_ ?_ fun x10 => ?_
     ·(simp (disch := omega) only [wrap_of]; omega)
     ·(simp (disch := omega) only [wrap_of]; omega)
     ·(simp (disch := omega) only [wrap_of]; omega)
     ·(simp (disch := omega) only [wrap_of]; omega)
     refine VC.intro ?_ ?_
     ·exact keep_new
     refine ⟨fun x11 => ?_⟩
     refine VC.intro ?_ ?_
     ·exact keep_sub (by simp) (by simp)
     apply join_stepA (_, _, _)
     ·exact .sub (by repeat (first | exact .slnil | apply List.Sublist.cons_cons | apply List.Sublist.cons))
     ·exact frI
     ·repeat' (first | exact trivial | refine ⟨by first | rfl | simp [Blk.ent], ?_⟩)
     try dsimp only
     exact gmake (gB_ow (x := false) trivial) (Nat.le_refl _) (by rw [wrap_of (by omega) (by omega)]; omega)
    ·refine VC.intro ?_ ?_
     ·refine ⟨fun x12 => ?_⟩
      refine VC.intro ?_ ?_
      ·exact keep_sub (by simp) (by simp)
      refine VCmake.intro ?_ ?_ ?_ ?_ fun x13 => ?_
      ·(simp (disch := omega) only [wrap_of]; omega)
      ·(simp (disch := omega) only [wrap_of]; omega)
      ·(simp (disch := omega) only [wrap_of]; omega)
      ·(simp (disch := omega) only [wrap_of]; omega)
      refine VC.intro ?_ ?_
      ·exact keep_sub (by simp) (by simp)
      apply join_stepA (_, _, _)
      ·exact .sub (by repeat (first | exact .slnil | apply List.Sublist.cons_cons | apply List.Sublist.cons))
      ·exact frI
      ·repeat' (first | exact trivial | refine ⟨by first | rfl | simp [Blk.ent], ?_⟩)
      try dsimp only
      exact gmake (gB_ow (x := false) trivial) (Nat.le_refl _) (by rw [wrap_of (by omega) (by omega)]; omega)
     ·exact trivial
   rintro ⟨y, zb, W⟩ hI
   try dsimp only at hI
   obtain oW := hI
   try dsimp only
   have hn9 := spec_nn ht1
   refine idx_rd (Gt.owrd _ hI) ?_ ?_ fun b14 o14 hb14 => ?_
   ·trivial
   ·simp; omega
   refine gstoreN (Fld.id _) false (0) 0 rfl rfl hI ?_ ?_ hb14 rfl gB_pl _ (gB_ow trivial) fun A15 o15 => ?_
   ·trivial
   ·simp; omega
   apply loop_mod (α := (Nat) × (Hp)) G_ok [54, 55, 56, 57, 58, 61, 62, 63, 64, 65, 66, 67, 68, 59, 60, 7] (fun z => [(7, .v (.int .i64 z.1))]) (fun z => [{ id := x0, cs := [Value.slice b0p x.pieces.length c0p], ty := (205 : TypeId) }, { id := x1, cs := [Value.int IntKind.i64 (0 : Int), Value.slice none (0 : Nat) (0 : Nat), Value.slice none (0 : Nat) (0 : Nat)], ty := (212 : TypeId) }, { id := x4, cs := [Value.slice b0p x.pieces.length c0p, Value.slice bl1 (topL x.pieces).fst.fst.length cl1, Value.slice bj9 (joinA (topL x.pieces).fst.fst [(0 : Int)] (topL x.pieces).snd.first (topL x.pieces).fst.snd).length cj9, Value.bool (badM (topL x.pieces).fst)], ty := (249 : TypeId) }, { id := x6, cs := [Value.slice b11 (topL x.pieces).snd.first.length c11, Value.slice b21 (topL x.pieces).snd.last.length c21, Value.bool (topL x.pieces).snd.null], ty := (251 : TypeId) }, { id := y, cs := [Value.int IntKind.i64 (IntKind.i64.wrap ((↑(topL x.pieces).fst.fst.length : Int) + (1 : Int))), Value.slice bj9 (joinA (topL x.pieces).fst.fst [(0 : Int)] (topL x.pieces).snd.first (topL x.pieces).fst.snd).length cj9, Value.slice (some { block := zb, off := (0 : Nat) }) (IntKind.i64.wrap ((↑(topL x.pieces).fst.fst.length : Int) + (1 : Int))).toNat (IntKind.i64.wrap ((↑(topL x.pieces).fst.fst.length : Int) + (1 : Int))).toNat], ty := (212 : TypeId) }]) (fun z => [z.2, Aj9, AL1, A11, A21, H]) (fun z => (topL x.pieces).2.last.length - z.1) (fun z => z.1 ≤ (topL x.pieces).2.last.length ∧ (gSl 4 gB).ow [.slice (some ⟨zb, 0, none⟩) (IntKind.i64.wrap (((topL x.pieces).1.1.length : Int) + 1)).toNat (IntKind.i64.wrap (((topL x.pieces).1.1.length : Int) + 1)).toNat] (endF ((topL x.pieces).2.last.take z.1) ((topL x.pieces).2.null :: List.replicate (topL x.pieces).1.1.length false)) z.2) ((0, _))
   ·exact frI
   ·repeat' (first | exact trivial | refine ⟨by first | rfl | simp [Blk.ent], ?_⟩)
   ·try dsimp only
    exact ⟨Nat.zero_le _, by rw [List.take_zero, ← rep_set hn9]; assumption⟩
   ·exact .refl _
   rintro ⟨k, V⟩ hI
   try dsimp only at hI
   obtain ⟨hk, oV⟩ := hI
   try dsimp only
   refine ⟨fun q16 => ?_, fun q16 => ?_⟩
   ·simp at q16
    have hlk := get_all hL9 (by omega : k < (topL x.pieces).2.last.length)
    have hel := spec_el (ps := x.pieces) (l := (topL x.pieces).2.last.take k)
    refine draw G_ok mixed (some 8) (.q 0 (.q 1 (.q 2 (.q 3 (.q 4 (.q 5 (.q 6 (.q 7 (.tl 8 (.nil)))))))))) (by decide +kernel) ?_
    refine idx_rd rT1 ?_ ?_ fun b17 o17 hb17 => ?_
    ·omega
    ·omega
    refine load_allN 0 (k) rfl rT1 ?_ ?_ hb17 rfl (mem_at 4 rfl) fun l18 hl18 => ?_
    ·omega
    ·omega
    obtain ⟨rfl, hw18⟩ := hl18; simp only [flStr, flInt, okI] at hw18
    refine idx_rd (Gt.owrd _ oV) ?_ ?_ fun b19 o19 hb19 => ?_
    ·omega
    ·omega
    refine gstoreN (Fld.id _) false (Int.toNat ((topL x.pieces).snd.last[k]?.getD (0 : Int))) 0 rfl (Int.toNat_of_nonneg ?_).symm oV ?_ ?_ hb19 rfl gB_pl _ (gB_ow trivial) fun A20 o20 => ?_
    ·omega
    ·omega
    ·omega
    apply loop_stepA (k + 1, _)
    ·exact .refl _
    ·exact frI
    ·repeat' (first | exact trivial | refine ⟨by first | rfl | simp [Blk.ent], ?_⟩)
    ·try dsimp only
     exact ⟨by omega, by rw [endF_step (by omega)]; assumption⟩
    try dsimp only
    omega
   ·simp at q16
    have hke : k = (topL x.pieces).2.last.length := (by omega)
    subst hke
    rw [List.take_length] at oV
    refine call_val (specNfaOk_ct _ _) (gNfa.mono (sub_hall2 (by simp) (by simp)) (gNfa.owrd (spec_nfa ht1 oj9 oV))) ?_
    rintro _ rfl
    refine ⟨fun q22 => ?_, fun q22 => ?_⟩
    ·simp at q22
     exact absurd (q22.symm.trans (nfa_spec_ok ht1 hG hF9)) (by decide)
    ·simp at q22
     (rw [nfaR_yes ‹pathOk x = true› hgo, nfa_spec hL9]; exact ⟨_, ⟨bj9, cj9, some ⟨zb, 0, none⟩, (IntKind.i64.wrap (((topL x.pieces).1.1.length : Int) + 1)).toNat, congrArg (fun l => Value.tuple #[.agg ⟨l⟩, .bool true]) (spec_cells ht1), by rw [← spec_cells ht1]; exact spec_nfa ht1 oj9 oV⟩, rlB⟩)
end
section
attribute [local irreducible] IntKind.wrap nfaR readPath rpPath
def tnR (t : ByteArray) : Nfa × Bool := if (readPath t).isSome = true then nfaR (rpPath t) else (zNfa, false)
theorem tnR_no {t : ByteArray} (h : (readPath t).isSome = false) : tnR t = (zNfa, false) := if_neg (by rw [h]; decide)
theorem tnR_yes {t : ByteArray} (h : (readPath t).isSome = true) : tnR t = nfaR (rpPath t) := if_pos h
theorem nfaOfText_ct (t : ByteArray) (ht : t.size ≤ 1152921504606846976) :
  Ct prog 179 [.string t] [] (fun _ => True) (fun v A => ∃ b c b2 c2, v = .tuple #[.agg ⟨[.int .i64 (tnR t).1.states, .slice b (tnR t).1.arcs.length c, .slice b2 (tnR t).1.ends.length c2]⟩, .bool (tnR t).2] ∧ gNfa.ow [.int .i64 (tnR t).1.states, .slice b (tnR t).1.arcs.length c, .slice b2 (tnR t).1.ends.length c2] (tnR t).1 A) := by
 refine Ct.intro0 G_ok func179 rfl rfl rfl fun E H hp => ?_
 refine ⟨fun x0 => ?_⟩
 refine call_new (implReadPath_ct _ ?_) trivial ?_
 ·trivial
 rintro v1 A1 o1
 obtain ⟨bP, cP, rfl, oP⟩ := o1
 refine ⟨fun x2 => ?_⟩
 refine ⟨fun q3 => ?_, fun q3 => ?_⟩
 ·simp at q3
  (rw [tnR_no (by rw [‹readPath _ = none›]; rfl)]; exact ⟨[], ⟨none, 0, none, 0, rfl, zNfa_ow⟩, .mem (by simp)⟩)
 ·simp at q3
  refine call_new (implNfaOf_ct _ (rpPath t)) (gPath_rd.2 ⟨_, _, rfl, Rp.mono _ (sub_hall (by simp)) (Gt.owrd _ oP)⟩) ?_
  rintro v4 A4 o4
  obtain ⟨bN, cN, bbN, ccN, rfl, oN⟩ := o4
  (rw [tnR_yes (by assumption)]; exact ⟨_, ⟨_, _, _, _, rfl, oN⟩, rlB⟩)
def atomM (a : Atom) : Bool := nameOk a.from' && (nameOk a.to && (tnR a.path).2)
theorem atom_no1 {a : Atom} (h : nameOk a.from' = false) : atomM a = false := by unfold atomM; rw [h]; rfl
theorem atom_no2 {a : Atom} (h : nameOk a.to = false) : atomM a = false := by unfold atomM; rw [h]; simp
theorem atom_no3 {a : Atom} (h : (tnR a.path).2 = false) : atomM a = false := by unfold atomM; rw [h]; simp
theorem atom_yes {a : Atom} (h : nameOk a.from' = true) (h1 : nameOk a.to = true) : atomM a = (tnR a.path).2 := by unfold atomM; rw [h, h1]; rfl
theorem atomOk_ct (l : List Value) (a : Atom) (ht : a.path.size ≤ 1152921504606846976) : Ct prog 145 [.agg ⟨l⟩] [] (fun H => gAtom.rd H l a) (fun v A => v = .bool (atomM a) ∧ A = []) := by
 refine Ct.intro0 G_ok func145 rfl rfl rfl fun E H hp => ?_
 obtain ⟨rfl, w0p, w1p, w2p⟩ := gAtom_rd.1 hp
 refine ⟨fun x0 => ?_⟩
 refine call_val (implQueryName_ct _ ?_) trivial ?_
 ·trivial
 rintro _ rfl
 refine ⟨fun q2 => ?_, fun q2 => ?_⟩
 ·simp at q2
  exact ⟨[], ⟨by rw [atom_no1 (by assumption)], rfl⟩, .mem (by simp)⟩
 ·simp at q2
  refine call_val (implQueryName_ct _ ?_) trivial ?_
  ·trivial
  rintro _ rfl
  refine ⟨fun q4 => ?_, fun q4 => ?_⟩
  ·simp at q4
   exact ⟨[], ⟨by rw [atom_no2 (by assumption)], rfl⟩, .mem (by simp)⟩
  ·simp at q4
   refine call_new (nfaOfText_ct _ ?_) trivial ?_
   ·trivial
   rintro v5 A5 o5
   obtain ⟨b5, c5, bb5, cc5, rfl, o5⟩ := o5
   refine ⟨fun x6 => ?_⟩
   exact ⟨[], ⟨by rw [atom_yes (by assumption) (by assumption)], rfl⟩, .mem (by simp)⟩
theorem l08Atom_ct (l : List Value) (a : Atom) (ht : a.path.size ≤ 1152921504606846976) : Ct prog 88 [.agg ⟨l⟩] [] (fun H => gAtom.rd H l a) (fun v A => v = .bool (atomM a) ∧ A = []) := by
 refine Ct.intro0 G_ok func88 rfl rfl rfl fun E H hp => ?_
 obtain ⟨rfl, w0p, w1p, w2p⟩ := gAtom_rd.1 hp
 refine ⟨fun x0 => ?_⟩
 refine call_new (specReadPath_ct _ ?_) trivial ?_
 ·trivial
 rintro v1 A1 o1
 obtain ⟨bP, cP, rfl, oP⟩ := o1
 refine ⟨fun x2 => ?_⟩
 refine ⟨fun q3 => ?_, fun q3 => ?_⟩
 ·simp at q3
  exact ⟨[], ⟨by rw [atom_no3 (by rw [tnR_no (by rw [‹readPath _ = none›]; rfl)])], rfl⟩, .mem (by simp)⟩
 ·simp at q3
  refine call_val (specQueryName_ct _ ?_) trivial ?_
  ·trivial
  rintro _ rfl
  refine ⟨fun q5 => ?_, fun q5 => ?_⟩
  ·simp at q5
   exact ⟨[], ⟨by rw [atom_no1 (by assumption)], rfl⟩, .mem (by simp)⟩
  ·simp at q5
   refine call_val (specQueryName_ct _ ?_) trivial ?_
   ·trivial
   rintro _ rfl
   refine ⟨fun q7 => ?_, fun q7 => ?_⟩
   ·simp at q7
    exact ⟨[], ⟨by rw [atom_no2 (by assumption)], rfl⟩, .mem (by simp)⟩
   ·simp at q7
    refine call_new (specNfaOf_ct _ (rpPath a.path)) (gPath_rd.2 ⟨_, _, rfl, Rp.mono _ (sub_hall (by simp)) (Gt.owrd _ oP)⟩) ?_
    rintro v8 A8 o8
    obtain ⟨bN, cN, bbN, ccN, rfl, oN⟩ := o8
    refine ⟨fun x9 => ?_⟩
    exact ⟨[], ⟨by rw [atom_yes (by assumption) (by assumption), tnR_yes (by assumption)], rfl⟩, .mem (by simp)⟩
def addN (l : List ByteArray) (s : ByteArray) : List ByteArray := if hasS l s = true then l else l ++ [s]
theorem addN_yes {l : List ByteArray} {s : ByteArray} (h : hasS l s = true) : addN l s = l := if_pos h
theorem addN_no {l : List ByteArray} {s : ByteArray} (h : hasS l s = false) : addN l s = l ++ [s] := if_neg (by rw [h]; decide)
def namesM (ats : List Atom) : List ByteArray := ats.foldl (fun l a => addN (addN l a.from') a.to) []
theorem namesM_step {ats : List Atom} {k : Nat} (h : k < ats.length) : namesM (ats.take (k + 1)) = addN (addN (namesM (ats.take k)) (ats[k]?.getD default).from') (ats[k]?.getD default).to := by
 unfold namesM
 rw [← List.take_append_getElem h, List.foldl_append, List.getElem?_eq_getElem h]; rfl
theorem addN_len (l : List ByteArray) (s : ByteArray) : (addN l s).length ≤ l.length + 1 := by
 unfold addN; split
 ·omega
 rw [List.length_append]; exact Nat.le_refl _
theorem namesM_len : ∀ (ats : List Atom) (k : Nat), k ≤ ats.length → (namesM (ats.take k)).length ≤ 2 * k
 | ats, 0, _ => Nat.le_refl _
 | ats, k + 1, h => by
  have h1 := namesM_len ats k (by omega)
  rw [namesM_step (by omega)]
  have h2 := addN_len (namesM (ats.take k)) (ats[k]?.getD default).from'
  have h3 := addN_len (addN (namesM (ats.take k)) (ats[k]?.getD default).from') (ats[k]?.getD default).to
  omega
theorem specNamesOf_ct (l : List Value) (x : Query) (hx : x.atoms.length ≤ 1048576) : Ct prog 89 [.agg ⟨l⟩] [] (fun H => gQuery.rd H l x) (fun v A => ∃ b c, v = .slice b (namesM x.atoms).length c ∧ (gSl 9 gS).ow [.slice b (namesM x.atoms).length c] (namesM x.atoms) A) := by
 refine Ct.intro0 G_ok func89 rfl rfl rfl fun E H hp => ?_
 obtain ⟨b1p, c1p, b2p, c2p, b3p, c3p, rfl, h1p, h2p, h3p⟩ := gQuery_rd.1 hp
 refine ⟨fun x0 => ?_⟩
 refine ⟨fun x1 => ?_⟩
 apply loop_mod (α := (Nat) × (List ByteArray) × (Hp) × (Option Addr) × (Nat)) G_ok [6, 7, 8, 9, 10, 13, 14, 15, 16, 17, 18, 19, 20, 21, 22, 23, 24, 25, 26, 27, 28, 29, 30, 3, 31, 32, 33, 34, 35, 36, 37, 38, 39, 40, 41, 42, 43, 44, 45, 46, 47, 48, 11, 12, 4] (fun z => [(4, .v (.int .i64 z.1)), (3, .v (.slice z.2.2.2.1 z.2.1.length z.2.2.2.2))]) (fun z => [{ id := x0, cs := [Value.bool x.each, Value.slice b1p x.out.length c1p, Value.slice b2p x.atoms.length c2p, Value.slice b3p x.filters.length c3p], ty := (37 : Nat) }]) (fun z => [z.2.2.1, H]) (fun z => x.atoms.length - z.1) (fun z => z.1 ≤ x.atoms.length ∧ z.2.1 = namesM (x.atoms.take z.1) ∧ (gSl 9 gS).ow [.slice z.2.2.2.1 z.2.1.length z.2.2.2.2] z.2.1 z.2.2.1) ((0, [], [], _, 0))
 ·exact frI
 ·exact ⟨rfl, trivial⟩
 ·try dsimp only
  exact ⟨Nat.zero_le _, rfl, sl_nil _ _ _⟩
 ·exact .tl
 rintro ⟨k, o, A, lb, lc⟩ hI
 try dsimp only at hI
 obtain ⟨hk, ho, oA⟩ := hI
 try dsimp only
 refine ⟨fun q2 => ?_, fun q2 => ?_⟩
 ·simp at q2
  have hlen := namesM_len x.atoms k (by omega)
  have hol : o.length ≤ 2 * k := (by rw [ho]; exact hlen)
  refine idx_rd h2p ?_ ?_ fun b3 o3 hb3 => ?_
  ·omega
  ·omega
  refine load_partN default (k) 0 rfl h2p ?_ ?_ hb3 rfl (by decide) (mem_at 1 rfl) fun l4 hl4 => ?_
  ·omega
  ·omega
  obtain ⟨rfl, w0x4, w1x4, w2x4⟩ := gAtom_rd.1 hl4
  refine call_val (l08In_ct _ _ _ (o) _) (Rp.mono _ (mem_at 0 rfl) (Gt.owrd _ oA)) ?_
  rintro _ rfl
  refine ⟨fun q6 => ?_, fun q6 => ?_⟩
  ·simp at q6
   refine idx_rd h2p ?_ ?_ fun b7 o7 hb7 => ?_
   ·omega
   ·omega
   refine load_partN default (k) 0 rfl h2p ?_ ?_ hb7 rfl (by decide) (mem_at 1 rfl) fun l8 hl8 => ?_
   ·omega
   ·omega
   obtain ⟨rfl, w0x8, w1x8, w2x8⟩ := gAtom_rd.1 hl8
   refine ⟨fun x9 => ?_⟩
   refine gappend1 (g := gS) (T := (9 : TypeId)) G_ok A [] [H] ?_ oA (gS_ow ?_) (List.mem_of_getElem? (i := 0) rfl) rfl rfl rfl rfl rfl rfl rfl rfl ?_ fun b10 c10 A10 o10 => ?_
   ·exact .tl
   ·trivial
   ·omega
   refine idx_rd h2p ?_ ?_ fun b11 o11 hb11 => ?_
   ·omega
   ·omega
   refine load_partN default (k) 2 rfl h2p ?_ ?_ hb11 rfl (by decide) (mem_at 1 rfl) fun l12 hl12 => ?_
   ·omega
   ·omega
   obtain ⟨rfl, w0x12, w1x12, w2x12⟩ := gAtom_rd.1 hl12
   refine call_val (l08In_ct _ _ _ (o ++ [(x.atoms[k]?.getD default).from']) _) (Rp.mono _ (mem_at 0 rfl) (Gt.owrd _ o10)) ?_
   rintro _ rfl
   refine ⟨fun q14 => ?_, fun q14 => ?_⟩
   ·simp at q14
    refine idx_rd h2p ?_ ?_ fun b15 o15 hb15 => ?_
    ·omega
    ·omega
    refine load_partN default (k) 2 rfl h2p ?_ ?_ hb15 rfl (by decide) (mem_at 1 rfl) fun l16 hl16 => ?_
    ·omega
    ·omega
    obtain ⟨rfl, w0x16, w1x16, w2x16⟩ := gAtom_rd.1 hl16
    refine ⟨fun x17 => ?_⟩
    refine gappend1 (g := gS) (T := (9 : TypeId)) G_ok A10 [] [H] ?_ o10 (gS_ow ?_) (List.mem_of_getElem? (i := 0) rfl) rfl rfl rfl rfl rfl rfl rfl rfl ?_ fun b18 c18 A18 o18 => ?_
    ·exact .tl
    ·trivial
    ·simp; omega
    apply loop_stepA (k + 1, _, _, _, _)
    ·exact .refl _
    ·exact frI
    ·exact ⟨rfl, trivial⟩
    ·try dsimp only
     exact ⟨by omega, by rw [namesM_step (by omega), ← ho, addN_no (l := o) (s := (x.atoms[k]?.getD default).from') (by assumption), addN_no (by assumption)], by assumption⟩
    try dsimp only
    omega
   ·simp at q14
    apply loop_stepA (k + 1, _, _, _, _)
    ·exact .refl _
    ·exact frI
    ·exact ⟨rfl, trivial⟩
    ·try dsimp only
     exact ⟨by omega, by rw [namesM_step (by omega), ← ho, addN_no (l := o) (s := (x.atoms[k]?.getD default).from') (by assumption), addN_yes (by assumption)], by assumption⟩
    try dsimp only
    omega
  ·simp at q6
   refine idx_rd h2p ?_ ?_ fun b19 o19 hb19 => ?_
   ·omega
   ·omega
   refine load_partN default (k) 2 rfl h2p ?_ ?_ hb19 rfl (by decide) (mem_at 1 rfl) fun l20 hl20 => ?_
   ·omega
   ·omega
   obtain ⟨rfl, w0x20, w1x20, w2x20⟩ := gAtom_rd.1 hl20
   refine call_val (l08In_ct _ _ _ (o) _) (Rp.mono _ (mem_at 0 rfl) (Gt.owrd _ oA)) ?_
   rintro _ rfl
   refine ⟨fun q22 => ?_, fun q22 => ?_⟩
   ·simp at q22
    refine idx_rd h2p ?_ ?_ fun b23 o23 hb23 => ?_
    ·omega
    ·omega
    refine load_partN default (k) 2 rfl h2p ?_ ?_ hb23 rfl (by decide) (mem_at 1 rfl) fun l24 hl24 => ?_
    ·omega
    ·omega
    obtain ⟨rfl, w0x24, w1x24, w2x24⟩ := gAtom_rd.1 hl24
    refine ⟨fun x25 => ?_⟩
    refine gappend1 (g := gS) (T := (9 : TypeId)) G_ok A [] [H] ?_ oA (gS_ow ?_) (List.mem_of_getElem? (i := 0) rfl) rfl rfl rfl rfl rfl rfl rfl rfl ?_ fun b26 c26 A26 o26 => ?_
    ·exact .tl
    ·trivial
    ·omega
    apply loop_stepA (k + 1, _, _, _, _)
    ·exact .refl _
    ·exact frI
    ·exact ⟨rfl, trivial⟩
    ·try dsimp only
     exact ⟨by omega, by rw [namesM_step (by omega), ← ho, addN_yes (l := o) (s := (x.atoms[k]?.getD default).from') (by assumption), addN_no (by assumption)], by assumption⟩
    try dsimp only
    omega
   ·simp at q22
    apply loop_stepA (k + 1, _, _, _, _)
    ·exact .refl _
    ·exact frI
    ·exact ⟨rfl, trivial⟩
    ·try dsimp only
     exact ⟨by omega, by rw [namesM_step (by omega), ← ho, addN_yes (l := o) (s := (x.atoms[k]?.getD default).from') (by assumption), addN_yes (by assumption)], by assumption⟩
    try dsimp only
    omega
 ·simp at q2
  (have hke : k = x.atoms.length := (by omega); subst hke; rw [List.take_length] at ho; subst ho; exact ⟨_, ⟨_, _, rfl, by assumption⟩, rlB⟩)
end
end Go.Proofs.YtcnclhjhnjpeiaaGreatDoor
