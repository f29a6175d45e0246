/-
 Parts of the law, put together. Conditions: none.
-/
import Derived.Test.YtcnclhjhnjpeiaaGreatDoorZw5
set_option maxHeartbeats 8000000
set_option linter.unusedSimpArgs false
set_option linter.unusedVariables false
namespace Go.Proofs.YtcnclhjhnjpeiaaGreatDoor
open Go.SX Go.Proofs
open Tryz
section
attribute [local irreducible] IntKind.wrap atomM namesM queryM
theorem allK_ex {p : Nat → Bool} : ∀ {n : Nat}, allK p n = false → ∃ i, i < n ∧ p i = false
 | 0, h => by cases h
 | n + 1, h => by
  unfold allK at h
  cases h1 : allK p n with
  | false => obtain ⟨i, hi, h2⟩ := allK_ex h1; exact ⟨i, by omega, h2⟩
  | true => rw [h1] at h; exact ⟨n, by omega, by simpa using h⟩
theorem hasS_mem {l : List ByteArray} {s : ByteArray} (h : hasS l s = true) : s ∈ l := by
 unfold hasS at h
 obtain ⟨i, hi, h2⟩ := allK_ex (by simpa using h)
 have h3 : (l[i]?.getD ByteArray.empty).toList = s.toList := by simpa using h2
 rw [str_inj] at h3
 rw [← h3, List.getElem?_eq_getElem hi]
 exact List.getElem_mem hi
theorem addN_memq {l : List ByteArray} {s t : ByteArray} (h : t ∈ addN l s) : t ∈ l ∨ t = s := by
 unfold addN at h
 split at h
 ·exact .inl h
 simpa using h
section
attribute [local semireducible] namesM
theorem fold_names (P : ByteArray → Prop) : ∀ (ats : List Atom) (l : List ByteArray), (∀ s ∈ l, P s) → (∀ a ∈ ats, P a.from' ∧ P a.to) → ∀ s ∈ ats.foldl (fun l a => addN (addN l a.from') a.to) l, P s
 | [], l, h, _, s, hs => h s hs
 | a :: r, l, h, h2, s, hs => by
  refine fold_names P r (addN (addN l a.from') a.to) (fun t ht => ?_) (fun b hb => h2 b (List.mem_cons_of_mem _ hb)) s hs
  rcases addN_memq ht with ht | rfl
  ·rcases addN_memq ht with ht | rfl
   ·exact h t ht
   exact (h2 a List.mem_cons_self).1
  exact (h2 a List.mem_cons_self).2
theorem names_all {P : ByteArray → Prop} {ats : List Atom} (h : ∀ a ∈ ats, P a.from' ∧ P a.to) : ∀ s ∈ namesM ats, P s := by
 unfold namesM
 exact fold_names P ats [] (fun s hs => by cases hs) h
end
section
attribute [local semireducible] atomM
theorem nameOk_4 {s : ByteArray} (h : nameOk s = true) : s.size ≤ 4 := by
 unfold nameOk at h
 simp only [Bool.and_eq_true] at h
 have := inR_iff.1 h.2.1
 omega
theorem atomM_sz {a : Atom} (h : atomM a = true) : a.from'.size ≤ 4 ∧ a.to.size ≤ 4 ∧ a.path.size ≤ 20 := by
 unfold atomM at h
 simp only [Bool.and_eq_true] at h
 refine ⟨nameOk_4 h.1, nameOk_4 h.2.1, ?_⟩
 by_cases h1 : a.path.size ≤ 20
 ·exact h1
 have h2 := rpt_long h1
 have h3 : (readPath a.path).isSome = false := by rw [h2]; rfl
 rw [tnR_no h3] at h
 cases h.2.2
end
section
attribute [local semireducible] queryM
theorem query_sizes {x : Query} (h : queryM x = true) : (x.atoms.length ≤ 4 ∧ x.filters.length ≤ 3 ∧ x.out.length ≤ 4) ∧ (∀ s ∈ x.out, s.size ≤ 4) ∧ (∀ a ∈ x.atoms, a.from'.size ≤ 4 ∧ a.to.size ≤ 4 ∧ a.path.size ≤ 20) ∧
  ∀ f ∈ x.filters, f.left.size ≤ 4 ∧ f.right.size ≤ 4 ∧ (1 ≤ f.op ∧ f.op ≤ 2) ∧ 0 ≤ f.num ∧ f.num ≤ 99 := by
 have hP : queryP x := by
  apply Classical.byContradiction
  intro e
  rw [q_no e] at h; cases h
 obtain ⟨h1, h2, _, h4, h5⟩ := hP
 have ha : ∀ a ∈ x.atoms, a.from'.size ≤ 4 ∧ a.to.size ≤ 4 ∧ a.path.size ≤ 20 := fun a hm => by
  obtain ⟨k, hk, rfl⟩ := List.getElem_of_mem hm
  have := h2 k hk
  rw [List.getElem?_eq_getElem hk] at this
  exact atomM_sz this
 have hn : ∀ s ∈ namesM x.atoms, s.size ≤ 4 := names_all fun a hm => ⟨(ha a hm).1, (ha a hm).2.1⟩
 refine ⟨by omega, fun s hm => ?_, ha, fun f hm => ?_⟩
 ·obtain ⟨k, hk, rfl⟩ := List.getElem_of_mem hm
  unfold inAll at h4
  have := allK_at h4 k hk
  rw [List.getElem?_eq_getElem hk] at this
  exact hn _ (hasS_mem this)
 obtain ⟨k, hk, rfl⟩ := List.getElem_of_mem hm
 have := h5 k hk
 rw [List.getElem?_eq_getElem hk] at this
 have h6 : filterM (namesM x.atoms) x.filters[k] = true := this
 unfold filterM at h6
 simp only [Bool.and_eq_true] at h6
 have h7 := inR_iff.1 h6.2.1
 have h8 := h6.2.2
 refine ⟨hn _ (hasS_mem h6.1), ?_⟩
 split at h8
 ·have := inR_iff.1 h8
  exact ⟨by omega, h7, by omega⟩
 simp only [Bool.and_eq_true, decide_eq_true_eq] at h8
 exact ⟨hn _ (hasS_mem h8.2), h7, by omega⟩
end
def atomS (a : Atom) : ByteArray := a.from' ++ ⟨#[32, 91]⟩ ++ a.path ++ ⟨#[93, 32]⟩ ++ a.to
def filtS (f : Filter) : ByteArray := f.left ++ (if f.op = 2 then ⟨#[32, 61, 32]⟩ else ⟨#[32, 60, 32]⟩) ++ (if f.right.size = 0 then tx (dcT f.num) else f.right)
def condsT (q : Query) : List ByteArray := q.atoms.map atomS ++ q.filters.map filtS
def headQ (q : Query) : ByteArray := (if q.each = true then ⟨#[101, 97, 99, 104, 32]⟩ else .empty) ++ (tx (joinQ q.out) ++ ⟨#[32, 58, 32]⟩)
def showQ (q : Query) : ByteArray := headQ q ++ tx (joinQ (condsT q))
noncomputable def showOk (q : Query) : Bool := queryM q && decide ((showQ q).size ≤ 200)
noncomputable def showV (q : Query) : ByteArray := if showOk q = true then showQ q else .empty
theorem showV_no {q : Query} (h : showOk q = false) : showV q = .empty := if_neg (by rw [h]; decide)
theorem showV_yes {q : Query} (h : showOk q = true) : showV q = showQ q := if_pos h
theorem showOk_no1 {q : Query} (h : queryM q = false) : showOk q = false := by unfold showOk; rw [h]; rfl
theorem showOk_no2 {q : Query} (h : ¬ (showQ q).size ≤ 200) : showOk q = false := by unfold showOk; rw [decide_eq_false h]; simp
theorem showOk_yes {q : Query} (h : queryM q = true) (h2 : (showQ q).size ≤ 200) : showOk q = true := by unfold showOk; rw [h, decide_eq_true h2]; rfl
theorem joinQ_len : ∀ {xs : List ByteArray} {n : Nat}, (∀ s ∈ xs, s.size ≤ n) → (joinQ xs).length ≤ (n + 2) * xs.length
 | [], n, _ => Nat.le_refl _
 | x :: r, n, h => by
  have h1 : ∀ l : List ByteArray, (∀ s ∈ l, s.size ≤ n) → (l.flatMap fun s => [44, 32] ++ by' s).length ≤ (n + 2) * l.length := by
   intro l
   induction l with
   | nil => intro _; exact Nat.le_refl _
   | cons y t ih =>
    intro hl
    have h2 := ih fun s hs => hl s (List.mem_cons_of_mem _ hs)
    have h3 := hl y List.mem_cons_self
    rw [List.flatMap_cons, List.length_append, List.length_append, by_size, show (y :: t).length = t.length + 1 from rfl, Nat.mul_succ, show ([44, 32] : List UInt8).length = 2 from rfl]; omega
  have h2 := h1 r fun s hs => h s (List.mem_cons_of_mem _ hs)
  have h3 := h x List.mem_cons_self
  show (by' x ++ _).length ≤ _
  rw [List.length_append, by_size, List.length_cons, Nat.mul_succ]; omega
theorem atomS_sz {a : Atom} (h : a.from'.size ≤ 4 ∧ a.to.size ≤ 4 ∧ a.path.size ≤ 20) : (atomS a).size ≤ 32 := by
 unfold atomS
 simp only [ByteArray.size_append, bsz, List.length_cons, List.length_nil]
 omega
theorem filtS_sz {f : Filter} (h : f.left.size ≤ 4 ∧ f.right.size ≤ 4 ∧ (1 ≤ f.op ∧ f.op ≤ 2) ∧ 0 ≤ f.num ∧ f.num ≤ 99) : (filtS f).size ≤ 12 := by
 have h1 : (dcT f.num).length ≤ 2 := dec_len 1 f.num.toNat (by omega)
 have h2 : (if f.op = 2 then (⟨#[32, 61, 32]⟩ : ByteArray) else ⟨#[32, 60, 32]⟩).size = 3 := by split <;> rfl
 have h3 : (if f.right.size = 0 then tx (dcT f.num) else f.right).size ≤ 4 := by
  split
  ·rw [← by_size, by_tx]; omega
  omega
 unfold filtS
 rw [ByteArray.size_append, ByteArray.size_append, h2]; omega
theorem conds_sz {q : Query} (h : queryM q = true) : (∀ s ∈ condsT q, s.size ≤ 32) ∧ (condsT q).length ≤ 7 := by
 obtain ⟨h1, h2, h3, h4⟩ := query_sizes h
 refine ⟨fun s hs => ?_, by unfold condsT; rw [List.length_append, List.length_map, List.length_map]; omega⟩
 unfold condsT at hs
 rcases List.mem_append.1 hs with hs | hs
 ·obtain ⟨a, ha, rfl⟩ := List.mem_map.1 hs; exact atomS_sz (h3 a ha)
 obtain ⟨f, hf, rfl⟩ := List.mem_map.1 hs; have := filtS_sz (h4 f hf); omega
theorem out_sz {x : Query} (h : queryM x = true) : (tx (joinQ x.out)).size ≤ 24 := by
 obtain ⟨h1, h2, _, _⟩ := query_sizes h
 have h3 := joinQ_len h2
 have h4 := Nat.mul_le_mul_left (4 + 2) h1.2.2
 rw [← by_size, by_tx]; omega
theorem map_step {α : Type} [Inhabited α] (f : α → ByteArray) {xs : List α} {k : Nat} (hk : k < xs.length) : (xs.take (k + 1)).map f = (xs.take k).map f ++ [f (xs[k]?.getD default)] := by
 rw [← List.take_append_getElem hk, List.map_append, List.getElem?_eq_getElem hk]; rfl
theorem at_all {α : Type} [Inhabited α] {P : α → Prop} {xs : List α} (h : ∀ x ∈ xs, P x) {k : Nat} (hk : k < xs.length) : P (xs[k]?.getD default) := by
 rw [List.getElem?_eq_getElem hk]; exact h _ (List.getElem_mem hk)
theorem toL_nilq {s : ByteArray} : s.toList = [] ↔ s.size = 0 := by
 have e : (ByteArray.empty).toList = [] := by simp
 constructor
 ·intro h
  rw [← e, str_inj] at h
  rw [h]; rfl
 intro h
 have h2 : s = ByteArray.empty := by apply by_inj.1; rw [List.length_eq_zero_iff.1 (show (by' s).length = 0 by rw [by_size]; exact h)]; rfl
 rw [h2, e]
theorem filt_1 {f : Filter} (h : f.op = 2) (h2 : f.right.toList = []) : f.left ++ (⟨#[32, 61, 32]⟩ : ByteArray) ++ tx (dcT f.num) = filtS f := by unfold filtS; rw [if_pos h, if_pos (toL_nilq.1 h2)]
theorem filt_2 {f : Filter} (h : f.op = 2) (h2 : ¬ f.right.toList = []) : f.left ++ (⟨#[32, 61, 32]⟩ : ByteArray) ++ f.right = filtS f := by unfold filtS; rw [if_pos h, if_neg (fun e => h2 (toL_nilq.2 e))]
theorem filt_3 {f : Filter} (h : ¬ f.op = 2) (h2 : f.right.toList = []) : f.left ++ (⟨#[32, 60, 32]⟩ : ByteArray) ++ tx (dcT f.num) = filtS f := by unfold filtS; rw [if_neg h, if_pos (toL_nilq.1 h2)]
theorem filt_4 {f : Filter} (h : ¬ f.op = 2) (h2 : ¬ f.right.toList = []) : f.left ++ (⟨#[32, 60, 32]⟩ : ByteArray) ++ f.right = filtS f := by unfold filtS; rw [if_neg h, if_neg (fun e => h2 (toL_nilq.2 e))]
def signL : List ByteArray := [⟨#[]⟩, ⟨#[32, 60, 32]⟩, ⟨#[32, 61, 32]⟩]
theorem sign_val {n : Int} (h : 1 ≤ n ∧ n ≤ 2) : (signL[n.toNat]?.getD ByteArray.empty) = if n = 2 then (⟨#[32, 61, 32]⟩ : ByteArray) else ⟨#[32, 60, 32]⟩ := by
 have h1 : n = 1 ∨ n = 2 := by omega
 rcases h1 with rfl | rfl <;> rfl
theorem sign_sz {n : Int} (h : 1 ≤ n ∧ n ≤ 2) : (signL[n.toNat]?.getD ByteArray.empty).size = 3 := by
 rw [sign_val h]; split <;> rfl
theorem filt_5 {f : Filter} (h : 1 ≤ f.op ∧ f.op ≤ 2) (h2 : f.right.toList = []) : f.left ++ (signL[f.op.toNat]?.getD ByteArray.empty) ++ tx (dcT f.num) = filtS f := by rw [sign_val h]; unfold filtS; rw [if_pos (toL_nilq.1 h2)]
theorem filt_6 {f : Filter} (h : 1 ≤ f.op ∧ f.op ≤ 2) (h2 : ¬ f.right.toList = []) : f.left ++ (signL[f.op.toNat]?.getD ByteArray.empty) ++ f.right = filtS f := by rw [sign_val h]; unfold filtS; rw [if_neg (fun e => h2 (toL_nilq.2 e))]
theorem dc_szq {f : Filter} (h : f.left.size ≤ 4 ∧ f.right.size ≤ 4 ∧ (1 ≤ f.op ∧ f.op ≤ 2) ∧ 0 ≤ f.num ∧ f.num ≤ 99) : (tx (dcT f.num)).size ≤ 2 := by
 rw [← by_size, by_tx]; exact dec_len 1 f.num.toNat (by omega)
theorem conds_end {x : Query} {o : List ByteArray} (h : queryM x = true) (ho : o = x.atoms.map atomS ++ x.filters.map filtS) : (∀ s ∈ o, s.size ≤ 1000) ∧ o.length ≤ 1000 ∧ (tx (joinQ o)).size ≤ 238 := by
 have hc := conds_sz h
 have e : o = condsT x := ho
 rw [e]
 have h3 := joinQ_len hc.1
 have h4 := Nat.mul_le_mul_left (32 + 2) hc.2
 refine ⟨fun s hs => Nat.le_trans (hc.1 s hs) (by decide), by omega, ?_⟩
 rw [← by_size, by_tx]; omega
theorem show_each {x : Query} {o : List ByteArray} (h : x.each = true) (ho : o = x.atoms.map atomS ++ x.filters.map filtS) : (⟨#[101, 97, 99, 104, 32]⟩ : ByteArray) ++ (tx (joinQ x.out) ++ ⟨#[32, 58, 32]⟩) ++ tx (joinQ o) = showQ x := by
 rw [ho]; unfold showQ headQ condsT; rw [if_pos h]
theorem show_plain {x : Query} {o : List ByteArray} (h : x.each = false) (ho : o = x.atoms.map atomS ++ x.filters.map filtS) : tx (joinQ x.out) ++ (⟨#[32, 58, 32]⟩ : ByteArray) ++ tx (joinQ o) = showQ x := by
 rw [ho]; unfold showQ headQ condsT; rw [if_neg (by rw [h]; decide), ByteArray.empty_append]
theorem implShowQuery_ct (l : List Value) (x : Query) (hx : gQuery.sz x ≤ 1048576) : Ct prog 106 [.agg ⟨l⟩] [] (fun H => gQuery.rd H l x ∧ TabIn H) (fun v A => v = .tuple #[.string (showV x), .bool (showOk x)] ∧ A = []) := by
 refine Ct.intro0 G_ok func106 rfl rfl rfl fun E H hp => ?_
 obtain ⟨hp, hT⟩ := hp
 obtain ⟨b1p, c1p, b2p, c2p, b3p, c3p, rfl, h1p, h2p, h3p⟩ := gQuery_rd.1 hp
 have him : IntKind.i64.max = 9223372036854775807 := rfl
 have hl1 : (⟨#[32, 58, 32]⟩ : ByteArray).size = 3 := rfl
 have hl2 : (⟨#[101, 97, 99, 104, 32]⟩ : ByteArray).size = 5 := rfl
 have hl3 : (⟨#[32, 91]⟩ : ByteArray).size = 2 := rfl
 have hl4 : (⟨#[93, 32]⟩ : ByteArray).size = 2 := rfl
 have hl5 : (⟨#[32, 60, 32]⟩ : ByteArray).size = 3 := rfl
 have hl6 : (⟨#[32, 61, 32]⟩ : ByteArray).size = 3 := rfl
 refine ⟨fun x0 => ?_⟩
 refine call_val (implQueryOk_ct _ (x) ?_) (Rp.mono _ (mem_at 0 rfl) hp) ?_
 ·trivial
 rintro _ rfl
 refine ⟨fun q2 => ?_, fun q2 => ?_⟩
 ·simp at q2
  exact ⟨[], ⟨by rw [showV_no (showOk_no1 (by assumption)), showOk_no1 (by assumption)]; rfl, rfl⟩, .mem (by simp)⟩
 ·simp at q2
  (have hqs2 := query_sizes q2; have hos2 := out_sz q2)
  refine call_val (join_ct _ _ _ (x.out) ?_ ?_) (Rp.mono _ (mem_at 0 rfl) h1p) ?_
  ·omega
  ·grind
  rintro _ rfl
  refine VC.intro ?_ ?_
  ·omega
  refine ⟨fun q4 => ?_, fun q4 => ?_⟩
  ·refine VC.intro ?_ ?_
   ·simp; omega
   apply loop_mod (α := (Nat) × (List ByteArray) × (Hp) × (Option Addr) × (Nat)) G_ok [27, 28, 29, 7, 30, 31, 32, 33, 34, 35, 36, 37, 38, 39, 40, 41, 42, 5, 43, 26] (fun z => [(26, .v (.int .i64 z.1)), (5, .v (.slice z.2.2.2.1 z.2.1.length z.2.2.2.2))]) (fun z => [{ id := x0, cs := [Value.bool x.each, Value.slice b1p x.out.length c1p, Value.slice b2p x.atoms.length c2p, Value.slice b3p x.filters.length c3p], ty := (37 : Nat) }]) (fun z => [z.2.2.1, H]) (fun z => x.atoms.length - z.1) (fun z => z.1 ≤ x.atoms.length ∧ z.2.1 = (x.atoms.take z.1).map atomS ∧ (gSl 9 gS).ow [.slice z.2.2.2.1 z.2.1.length z.2.2.2.2] z.2.1 z.2.2.1) ((0, [], [], _, 0))
   ·exact frI
   ·exact ⟨rfl, trivial⟩
   ·try dsimp only
    exact ⟨Nat.zero_le _, rfl, sl_nil _ _ _⟩
   ·exact .refl _
   rintro ⟨k, o, A, lb, lc⟩ hI
   try dsimp only at hI
   obtain ⟨hk, ho, oA⟩ := hI
   try dsimp only
   refine ⟨fun q5 => ?_, fun q5 => ?_⟩
   ·simp at q5
    have haz := at_all hqs2.2.2.1 (k := k) (by omega)
    have hol : o.length ≤ 4 := (by rw [ho, List.length_map, List.length_take]; omega)
    refine idx_rd h2p ?_ ?_ fun b6 o6 hb6 => ?_
    ·omega
    ·omega
    refine load_allN default (k) rfl h2p ?_ ?_ hb6 rfl (mem_at 1 rfl) fun l7 hl7 => ?_
    ·omega
    ·omega
    obtain ⟨rfl, w0x7, w1x7, w2x7⟩ := gAtom_rd.1 hl7
    refine ⟨fun x8 => ?_⟩
    refine VC.intro ?_ ?_
    ·omega
    refine VC.intro ?_ ?_
    ·simp; omega
    refine VC.intro ?_ ?_
    ·simp; omega
    refine VC.intro ?_ ?_
    ·simp; omega
    refine ⟨fun x9 => ?_⟩
    refine gappend1 (g := gS) (T := (9 : TypeId)) G_ok A [] [H] ?_ oA (gS_ow ?_) (List.mem_of_getElem? (i := 0) rfl) rfl rfl rfl rfl rfl rfl rfl rfl ?_ fun b10 c10 A10 o10 => ?_
    ·exact .tl
    ·simp; omega
    ·omega
    apply loop_stepA (k + 1, _, _, _, _)
    ·exact .refl _
    ·exact frI
    ·exact ⟨rfl, trivial⟩
    ·try dsimp only
     exact ⟨by omega, by rw [ho, map_step atomS (by omega)]; rfl, ‹_›⟩
    try dsimp only
    omega
   ·simp at q5
    obtain rfl : k = x.atoms.length := by omega
    rw [List.take_length] at ho
    apply loop_mod (α := (Nat) × (List ByteArray) × (Hp) × (Option Addr) × (Nat)) G_ok [48, 49, 50, 9, 51, 52, 10, 11, 53, 54, 55, 56, 57, 58, 59, 60, 61, 62, 63, 64, 65, 66, 67, 68, 69, 5, 70, 47] (fun z => [(47, .v (.int .i64 z.1)), (5, .v (.slice z.2.2.2.1 z.2.1.length z.2.2.2.2))]) (fun z => [{ id := x0, cs := [Value.bool x.each, Value.slice b1p x.out.length c1p, Value.slice b2p x.atoms.length c2p, Value.slice b3p x.filters.length c3p], ty := (37 : Nat) }]) (fun z => [z.2.2.1, H]) (fun z => x.filters.length - z.1) (fun z => z.1 ≤ x.filters.length ∧ z.2.1 = x.atoms.map atomS ++ (x.filters.take z.1).map filtS ∧ (gSl 9 gS).ow [.slice z.2.2.2.1 z.2.1.length z.2.2.2.2] z.2.1 z.2.2.1) ((0, o, A, lb, lc))
    ·exact frI
    ·exact ⟨rfl, trivial⟩
    ·try dsimp only
     exact ⟨Nat.zero_le _, by rw [ho]; simp, oA⟩
    ·exact .refl _
    rintro ⟨j, o2, A2, lb2, lc2⟩ hI
    try dsimp only at hI
    obtain ⟨hj, ho2, oA2⟩ := hI
    try dsimp only
    refine ⟨fun q11 => ?_, fun q11 => ?_⟩
    ·simp at q11
     have hfz := at_all hqs2.2.2.2 (k := j) (by omega)
     have hdz := dc_szq hfz
     have hol2 : o2.length ≤ 7 := (by rw [ho2, List.length_append, List.length_map, List.length_map, List.length_take]; omega)
     refine idx_rd h3p ?_ ?_ fun b12 o12 hb12 => ?_
     ·omega
     ·omega
     refine load_allN default (j) rfl h3p ?_ ?_ hb12 rfl (mem_at 1 rfl) fun l13 hl13 => ?_
     ·omega
     ·omega
     obtain ⟨rfl, w0x13, w1x13, w2x13, w3x13⟩ := gFilter_rd.1 hl13
     refine ⟨fun x14 => ?_⟩
     refine draw G_ok mixed none (.q 0 (.q 1 (.q 2 (.q 3 (.nil))))) (by decide +kernel) ?_
     refine ⟨fun q15 => ?_, fun q15 => ?_⟩
     ·simp at q15
      refine ⟨fun q16 => ?_, fun q16 => ?_⟩
      ·simp at q16
       refine call_val (decimalAll_ct _ ?_) (by (try exact TabIn.mono hT (mem_at 0 rfl)); (try exact TabIn.mono hT (mem_at 1 rfl)); (try exact TabIn.mono hT (mem_at 2 rfl))) ?_
       ·omega
       rintro _ rfl
       refine VC.intro ?_ ?_
       ·omega
       refine VC.intro ?_ ?_
       ·simp; omega
       refine ⟨fun x18 => ?_⟩
       refine gappend1 (g := gS) (T := (9 : TypeId)) G_ok A2 [] [H] ?_ oA2 (gS_ow ?_) (List.mem_of_getElem? (i := 0) rfl) rfl rfl rfl rfl rfl rfl rfl rfl ?_ fun b19 c19 A19 o19 => ?_
       ·exact .tl
       ·simp; omega
       ·omega
       apply loop_stepA (j + 1, _, _, _, _)
       ·exact .refl _
       ·exact frI
       ·exact ⟨rfl, trivial⟩
       ·try dsimp only
        exact ⟨by omega, by rw [filt_1 (by assumption) (by assumption), ho2, map_step filtS (by omega), List.append_assoc], ‹_›⟩
       try dsimp only
       omega
      ·simp at q16
       refine VC.intro ?_ ?_
       ·omega
       refine VC.intro ?_ ?_
       ·simp; omega
       refine ⟨fun x20 => ?_⟩
       refine gappend1 (g := gS) (T := (9 : TypeId)) G_ok A2 [] [H] ?_ oA2 (gS_ow ?_) (List.mem_of_getElem? (i := 0) rfl) rfl rfl rfl rfl rfl rfl rfl rfl ?_ fun b21 c21 A21 o21 => ?_
       ·exact .tl
       ·simp; omega
       ·omega
       apply loop_stepA (j + 1, _, _, _, _)
       ·exact .refl _
       ·exact frI
       ·exact ⟨rfl, trivial⟩
       ·try dsimp only
        exact ⟨by omega, by rw [filt_2 (by assumption) (by assumption), ho2, map_step filtS (by omega), List.append_assoc], ‹_›⟩
       try dsimp only
       omega
     ·simp at q15
      refine ⟨fun q22 => ?_, fun q22 => ?_⟩
      ·simp at q22
       refine call_val (decimalAll_ct _ ?_) (by (try exact TabIn.mono hT (mem_at 0 rfl)); (try exact TabIn.mono hT (mem_at 1 rfl)); (try exact TabIn.mono hT (mem_at 2 rfl))) ?_
       ·omega
       rintro _ rfl
       refine VC.intro ?_ ?_
       ·omega
       refine VC.intro ?_ ?_
       ·simp; omega
       refine ⟨fun x24 => ?_⟩
       refine gappend1 (g := gS) (T := (9 : TypeId)) G_ok A2 [] [H] ?_ oA2 (gS_ow ?_) (List.mem_of_getElem? (i := 0) rfl) rfl rfl rfl rfl rfl rfl rfl rfl ?_ fun b25 c25 A25 o25 => ?_
       ·exact .tl
       ·simp; omega
       ·omega
       apply loop_stepA (j + 1, _, _, _, _)
       ·exact .refl _
       ·exact frI
       ·exact ⟨rfl, trivial⟩
       ·try dsimp only
        exact ⟨by omega, by rw [filt_3 (by assumption) (by assumption), ho2, map_step filtS (by omega), List.append_assoc], ‹_›⟩
       try dsimp only
       omega
      ·simp at q22
       refine VC.intro ?_ ?_
       ·omega
       refine VC.intro ?_ ?_
       ·simp; omega
       refine ⟨fun x26 => ?_⟩
       refine gappend1 (g := gS) (T := (9 : TypeId)) G_ok A2 [] [H] ?_ oA2 (gS_ow ?_) (List.mem_of_getElem? (i := 0) rfl) rfl rfl rfl rfl rfl rfl rfl rfl ?_ fun b27 c27 A27 o27 => ?_
       ·exact .tl
       ·simp; omega
       ·omega
       apply loop_stepA (j + 1, _, _, _, _)
       ·exact .refl _
       ·exact frI
       ·exact ⟨rfl, trivial⟩
       ·try dsimp only
        exact ⟨by omega, by rw [filt_4 (by assumption) (by assumption), ho2, map_step filtS (by omega), List.append_assoc], ‹_›⟩
       try dsimp only
       omega
    ·simp at q11
     obtain rfl : j = x.filters.length := by omega
     rw [List.take_length] at ho2
     obtain ⟨hc1, hc2, hc3⟩ := conds_end (by assumption) ho2
     have hse := show_each (by assumption) ho2
     have hze := congrArg ByteArray.size hse
     simp only [ByteArray.size_append] at hze
     refine call_val (join_ct _ _ _ (o2) ?_ ?_) (Rp.mono _ (mem_at 0 rfl) (Gt.owrd _ oA2)) ?_
     ·trivial
     ·trivial
     rintro _ rfl
     refine VC.intro ?_ ?_
     ·simp; omega
     refine ⟨fun q29 => ?_, fun q29 => ?_⟩
     ·simp at q29
      (have hno : ¬ (showQ x).size ≤ 200 := (by omega); exact ⟨[], ⟨by rw [showV_no (showOk_no2 hno), showOk_no2 hno]; rfl, rfl⟩, .mem (by simp)⟩)
     ·simp at q29
      (have hys : (showQ x).size ≤ 200 := (by omega); exact ⟨[], ⟨by rw [hse, showV_yes (showOk_yes (by assumption) hys), showOk_yes (by assumption) hys], rfl⟩, .mem (by simp)⟩)
  ·apply loop_mod (α := (Nat) × (List ByteArray) × (Hp) × (Option Addr) × (Nat)) G_ok [27, 28, 29, 7, 30, 31, 32, 33, 34, 35, 36, 37, 38, 39, 40, 41, 42, 5, 43, 26] (fun z => [(26, .v (.int .i64 z.1)), (5, .v (.slice z.2.2.2.1 z.2.1.length z.2.2.2.2))]) (fun z => [{ id := x0, cs := [Value.bool x.each, Value.slice b1p x.out.length c1p, Value.slice b2p x.atoms.length c2p, Value.slice b3p x.filters.length c3p], ty := (37 : Nat) }]) (fun z => [z.2.2.1, H]) (fun z => x.atoms.length - z.1) (fun z => z.1 ≤ x.atoms.length ∧ z.2.1 = (x.atoms.take z.1).map atomS ∧ (gSl 9 gS).ow [.slice z.2.2.2.1 z.2.1.length z.2.2.2.2] z.2.1 z.2.2.1) ((0, [], [], _, 0))
   ·exact frI
   ·exact ⟨rfl, trivial⟩
   ·try dsimp only
    exact ⟨Nat.zero_le _, rfl, sl_nil _ _ _⟩
   ·exact .refl _
   rintro ⟨k, o, A, lb, lc⟩ hI
   try dsimp only at hI
   obtain ⟨hk, ho, oA⟩ := hI
   try dsimp only
   refine ⟨fun q30 => ?_, fun q30 => ?_⟩
   ·simp at q30
    have haz := at_all hqs2.2.2.1 (k := k) (by omega)
    have hol : o.length ≤ 4 := (by rw [ho, List.length_map, List.length_take]; omega)
    refine idx_rd h2p ?_ ?_ fun b31 o31 hb31 => ?_
    ·omega
    ·omega
    refine load_allN default (k) rfl h2p ?_ ?_ hb31 rfl (mem_at 1 rfl) fun l32 hl32 => ?_
    ·omega
    ·omega
    obtain ⟨rfl, w0x32, w1x32, w2x32⟩ := gAtom_rd.1 hl32
    refine ⟨fun x33 => ?_⟩
    refine VC.intro ?_ ?_
    ·omega
    refine VC.intro ?_ ?_
    ·simp; omega
    refine VC.intro ?_ ?_
    ·simp; omega
    refine VC.intro ?_ ?_
    ·simp; omega
    refine ⟨fun x34 => ?_⟩
    refine gappend1 (g := gS) (T := (9 : TypeId)) G_ok A [] [H] ?_ oA (gS_ow ?_) (List.mem_of_getElem? (i := 0) rfl) rfl rfl rfl rfl rfl rfl rfl rfl ?_ fun b35 c35 A35 o35 => ?_
    ·exact .tl
    ·simp; omega
    ·omega
    apply loop_stepA (k + 1, _, _, _, _)
    ·exact .refl _
    ·exact frI
    ·exact ⟨rfl, trivial⟩
    ·try dsimp only
     exact ⟨by omega, by rw [ho, map_step atomS (by omega)]; rfl, ‹_›⟩
    try dsimp only
    omega
   ·simp at q30
    obtain rfl : k = x.atoms.length := by omega
    rw [List.take_length] at ho
    apply loop_mod (α := (Nat) × (List ByteArray) × (Hp) × (Option Addr) × (Nat)) G_ok [48, 49, 50, 9, 51, 52, 10, 11, 53, 54, 55, 56, 57, 58, 59, 60, 61, 62, 63, 64, 65, 66, 67, 68, 69, 5, 70, 47] (fun z => [(47, .v (.int .i64 z.1)), (5, .v (.slice z.2.2.2.1 z.2.1.length z.2.2.2.2))]) (fun z => [{ id := x0, cs := [Value.bool x.each, Value.slice b1p x.out.length c1p, Value.slice b2p x.atoms.length c2p, Value.slice b3p x.filters.length c3p], ty := (37 : Nat) }]) (fun z => [z.2.2.1, H]) (fun z => x.filters.length - z.1) (fun z => z.1 ≤ x.filters.length ∧ z.2.1 = x.atoms.map atomS ++ (x.filters.take z.1).map filtS ∧ (gSl 9 gS).ow [.slice z.2.2.2.1 z.2.1.length z.2.2.2.2] z.2.1 z.2.2.1) ((0, o, A, lb, lc))
    ·exact frI
    ·exact ⟨rfl, trivial⟩
    ·try dsimp only
     exact ⟨Nat.zero_le _, by rw [ho]; simp, oA⟩
    ·exact .refl _
    rintro ⟨j, o2, A2, lb2, lc2⟩ hI
    try dsimp only at hI
    obtain ⟨hj, ho2, oA2⟩ := hI
    try dsimp only
    refine ⟨fun q36 => ?_, fun q36 => ?_⟩
    ·simp at q36
     have hfz := at_all hqs2.2.2.2 (k := j) (by omega)
     have hdz := dc_szq hfz
     have hol2 : o2.length ≤ 7 := (by rw [ho2, List.length_append, List.length_map, List.length_map, List.length_take]; omega)
     refine idx_rd h3p ?_ ?_ fun b37 o37 hb37 => ?_
     ·omega
     ·omega
     refine load_allN default (j) rfl h3p ?_ ?_ hb37 rfl (mem_at 1 rfl) fun l38 hl38 => ?_
     ·omega
     ·omega
     obtain ⟨rfl, w0x38, w1x38, w2x38, w3x38⟩ := gFilter_rd.1 hl38
     refine ⟨fun x39 => ?_⟩
     refine draw G_ok mixed none (.q 0 (.q 1 (.q 2 (.q 3 (.nil))))) (by decide +kernel) ?_
     refine ⟨fun q40 => ?_, fun q40 => ?_⟩
     ·simp at q40
      refine ⟨fun q41 => ?_, fun q41 => ?_⟩
      ·simp at q41
       refine call_val (decimalAll_ct _ ?_) (by (try exact TabIn.mono hT (mem_at 0 rfl)); (try exact TabIn.mono hT (mem_at 1 rfl)); (try exact TabIn.mono hT (mem_at 2 rfl))) ?_
       ·omega
       rintro _ rfl
       refine VC.intro ?_ ?_
       ·omega
       refine VC.intro ?_ ?_
       ·simp; omega
       refine ⟨fun x43 => ?_⟩
       refine gappend1 (g := gS) (T := (9 : TypeId)) G_ok A2 [] [H] ?_ oA2 (gS_ow ?_) (List.mem_of_getElem? (i := 0) rfl) rfl rfl rfl rfl rfl rfl rfl rfl ?_ fun b44 c44 A44 o44 => ?_
       ·exact .tl
       ·simp; omega
       ·omega
       apply loop_stepA (j + 1, _, _, _, _)
       ·exact .refl _
       ·exact frI
       ·exact ⟨rfl, trivial⟩
       ·try dsimp only
        exact ⟨by omega, by rw [filt_1 (by assumption) (by assumption), ho2, map_step filtS (by omega), List.append_assoc], ‹_›⟩
       try dsimp only
       omega
      ·simp at q41
       refine VC.intro ?_ ?_
       ·omega
       refine VC.intro ?_ ?_
       ·simp; omega
       refine ⟨fun x45 => ?_⟩
       refine gappend1 (g := gS) (T := (9 : TypeId)) G_ok A2 [] [H] ?_ oA2 (gS_ow ?_) (List.mem_of_getElem? (i := 0) rfl) rfl rfl rfl rfl rfl rfl rfl rfl ?_ fun b46 c46 A46 o46 => ?_
       ·exact .tl
       ·simp; omega
       ·omega
       apply loop_stepA (j + 1, _, _, _, _)
       ·exact .refl _
       ·exact frI
       ·exact ⟨rfl, trivial⟩
       ·try dsimp only
        exact ⟨by omega, by rw [filt_2 (by assumption) (by assumption), ho2, map_step filtS (by omega), List.append_assoc], ‹_›⟩
       try dsimp only
       omega
     ·simp at q40
      refine ⟨fun q47 => ?_, fun q47 => ?_⟩
      ·simp at q47
       refine call_val (decimalAll_ct _ ?_) (by (try exact TabIn.mono hT (mem_at 0 rfl)); (try exact TabIn.mono hT (mem_at 1 rfl)); (try exact TabIn.mono hT (mem_at 2 rfl))) ?_
       ·omega
       rintro _ rfl
       refine VC.intro ?_ ?_
       ·omega
       refine VC.intro ?_ ?_
       ·simp; omega
       refine ⟨fun x49 => ?_⟩
       refine gappend1 (g := gS) (T := (9 : TypeId)) G_ok A2 [] [H] ?_ oA2 (gS_ow ?_) (List.mem_of_getElem? (i := 0) rfl) rfl rfl rfl rfl rfl rfl rfl rfl ?_ fun b50 c50 A50 o50 => ?_
       ·exact .tl
       ·simp; omega
       ·omega
       apply loop_stepA (j + 1, _, _, _, _)
       ·exact .refl _
       ·exact frI
       ·exact ⟨rfl, trivial⟩
       ·try dsimp only
        exact ⟨by omega, by rw [filt_3 (by assumption) (by assumption), ho2, map_step filtS (by omega), List.append_assoc], ‹_›⟩
       try dsimp only
       omega
      ·simp at q47
       refine VC.intro ?_ ?_
       ·omega
       refine VC.intro ?_ ?_
       ·simp; omega
       refine ⟨fun x51 => ?_⟩
       refine gappend1 (g := gS) (T := (9 : TypeId)) G_ok A2 [] [H] ?_ oA2 (gS_ow ?_) (List.mem_of_getElem? (i := 0) rfl) rfl rfl rfl rfl rfl rfl rfl rfl ?_ fun b52 c52 A52 o52 => ?_
       ·exact .tl
       ·simp; omega
       ·omega
       apply loop_stepA (j + 1, _, _, _, _)
       ·exact .refl _
       ·exact frI
       ·exact ⟨rfl, trivial⟩
       ·try dsimp only
        exact ⟨by omega, by rw [filt_4 (by assumption) (by assumption), ho2, map_step filtS (by omega), List.append_assoc], ‹_›⟩
       try dsimp only
       omega
    ·simp at q36
     obtain rfl : j = x.filters.length := by omega
     rw [List.take_length] at ho2
     obtain ⟨hc1, hc2, hc3⟩ := conds_end (by assumption) ho2
     have hse := show_plain (by assumption) ho2
     have hze := congrArg ByteArray.size hse
     simp only [ByteArray.size_append] at hze
     refine call_val (join_ct _ _ _ (o2) ?_ ?_) (Rp.mono _ (mem_at 0 rfl) (Gt.owrd _ oA2)) ?_
     ·trivial
     ·trivial
     rintro _ rfl
     refine VC.intro ?_ ?_
     ·simp; omega
     refine ⟨fun q54 => ?_, fun q54 => ?_⟩
     ·simp at q54
      (have hno : ¬ (showQ x).size ≤ 200 := (by omega); exact ⟨[], ⟨by rw [showV_no (showOk_no2 hno), showOk_no2 hno]; rfl, rfl⟩, .mem (by simp)⟩)
     ·simp at q54
      (have hys : (showQ x).size ≤ 200 := (by omega); exact ⟨[], ⟨by rw [hse, showV_yes (showOk_yes (by assumption) hys), showOk_yes (by assumption) hys], rfl⟩, .mem (by simp)⟩)
theorem specShowQuery_ct (l : List Value) (x : Query) (hx : gQuery.sz x ≤ 1048576) : Ct prog 94 [.agg ⟨l⟩] [] (fun H => gQuery.rd H l x) (fun v A => v = .tuple #[.string (showV x), .bool (showOk x)] ∧ A = []) := by
 refine Ct.intro0 G_ok func94 rfl rfl rfl fun E H hp => ?_
 obtain ⟨b1p, c1p, b2p, c2p, b3p, c3p, rfl, h1p, h2p, h3p⟩ := gQuery_rd.1 hp
 have him : IntKind.i64.max = 9223372036854775807 := rfl
 have hl1 : (⟨#[32, 58, 32]⟩ : ByteArray).size = 3 := rfl
 have hl2 : (⟨#[101, 97, 99, 104, 32]⟩ : ByteArray).size = 5 := rfl
 have hl3 : (⟨#[32, 91]⟩ : ByteArray).size = 2 := rfl
 have hl4 : (⟨#[93, 32]⟩ : ByteArray).size = 2 := rfl
 have hl5 : (⟨#[32, 60, 32]⟩ : ByteArray).size = 3 := rfl
 have hl6 : (⟨#[32, 61, 32]⟩ : ByteArray).size = 3 := rfl
 refine ⟨fun x0 => ?_⟩
 refine call_val (specQueryOk_ct _ (x) ?_) (Rp.mono _ (mem_at 0 rfl) hp) ?_
 ·trivial
 rintro _ rfl
 refine ⟨fun q2 => ?_, fun q2 => ?_⟩
 ·simp at q2
  exact ⟨[], ⟨by rw [showV_no (showOk_no1 (by assumption)), showOk_no1 (by assumption)]; rfl, rfl⟩, .mem (by simp)⟩
 ·simp at q2
  (have hqs2 := query_sizes q2; have hos2 := out_sz q2)
  refine call_val (l08Join_ct _ _ _ (x.out) ?_ ?_) (Rp.mono _ (mem_at 0 rfl) h1p) ?_
  ·omega
  ·grind
  rintro _ rfl
  refine VC.intro ?_ ?_
  ·omega
  refine ⟨fun q4 => ?_, fun q4 => ?_⟩
  ·refine VC.intro ?_ ?_
   ·simp; omega
   refine ⟨fun x5 => ?_⟩
   apply loop_mod (α := (Nat) × (List ByteArray) × (Hp) × (Option Addr) × (Nat)) G_ok [23, 24, 25, 26, 27, 30, 31, 32, 33, 34, 35, 36, 37, 38, 39, 40, 41, 42, 43, 44, 45, 46, 47, 48, 49, 50, 51, 52, 53, 54, 5, 28, 29, 6] (fun z => [(6, .v (.int .i64 z.1)), (5, .v (.slice z.2.2.2.1 z.2.1.length z.2.2.2.2))]) (fun z => [{ id := x0, cs := [Value.bool x.each, Value.slice b1p x.out.length c1p, Value.slice b2p x.atoms.length c2p, Value.slice b3p x.filters.length c3p], ty := (37 : Nat) }]) (fun z => [z.2.2.1, H]) (fun z => x.atoms.length - z.1) (fun z => z.1 ≤ x.atoms.length ∧ z.2.1 = (x.atoms.take z.1).map atomS ∧ (gSl 9 gS).ow [.slice z.2.2.2.1 z.2.1.length z.2.2.2.2] z.2.1 z.2.2.1) ((0, [], [], _, 0))
   ·exact frI
   ·exact ⟨rfl, trivial⟩
   ·try dsimp only
    exact ⟨Nat.zero_le _, rfl, sl_nil _ _ _⟩
   ·exact .tl
   rintro ⟨k, o, A, lb, lc⟩ hI
   try dsimp only at hI
   obtain ⟨hk, ho, oA⟩ := hI
   try dsimp only
   refine ⟨fun q6 => ?_, fun q6 => ?_⟩
   ·simp at q6
    have haz := at_all hqs2.2.2.1 (k := k) (by omega)
    have hol : o.length ≤ 4 := (by rw [ho, List.length_map, List.length_take]; omega)
    refine draw G_ok mixed (some 24) (.q 0 (.q 1 (.q 2 (.q 3 (.q 4 (.q 5 (.q 6 (.q 7 (.q 8 (.q 9 (.q 10 (.q 11 (.q 12 (.q 13 (.q 14 (.q 15 (.q 16 (.q 17 (.q 18 (.q 19 (.q 20 (.q 21 (.q 22 (.f 23 (.tl 24 (.f 25 (.nil))))))))))))))))))))))))))) (by decide +kernel) ?_
    refine idx_rd h2p ?_ ?_ fun b7 o7 hb7 => ?_
    ·omega
    ·omega
    refine load_partN default (k) 0 rfl h2p ?_ ?_ hb7 rfl (by decide) (mem_at 1 rfl) fun l8 hl8 => ?_
    ·omega
    ·omega
    obtain ⟨rfl, w0x8, w1x8, w2x8⟩ := gAtom_rd.1 hl8
    refine VC.intro ?_ ?_
    ·omega
    refine idx_rd h2p ?_ ?_ fun b9 o9 hb9 => ?_
    ·omega
    ·omega
    refine load_partN default (k) 1 rfl h2p ?_ ?_ hb9 rfl (by decide) (mem_at 1 rfl) fun l10 hl10 => ?_
    ·omega
    ·omega
    obtain ⟨rfl, w0x10, w1x10, w2x10⟩ := gAtom_rd.1 hl10
    refine VC.intro ?_ ?_
    ·simp; omega
    refine VC.intro ?_ ?_
    ·simp; omega
    refine idx_rd h2p ?_ ?_ fun b11 o11 hb11 => ?_
    ·omega
    ·omega
    refine load_partN default (k) 2 rfl h2p ?_ ?_ hb11 rfl (by decide) (mem_at 1 rfl) fun l12 hl12 => ?_
    ·omega
    ·omega
    obtain ⟨rfl, w0x12, w1x12, w2x12⟩ := gAtom_rd.1 hl12
    refine VC.intro ?_ ?_
    ·simp; omega
    refine ⟨fun x13 => ?_⟩
    refine VC.intro ?_ ?_
    ·exact keep_new
    refine gappend1 (g := gS) (T := (9 : TypeId)) G_ok A [] [H] ?_ oA (gS_ow ?_) (List.mem_of_getElem? (i := 0) rfl) rfl rfl rfl rfl rfl rfl rfl rfl ?_ fun b14 c14 A14 o14 => ?_
    ·exact .tl
    ·simp; omega
    ·omega
    apply loop_stepA (k + 1, _, _, _, _)
    ·exact .refl _
    ·exact frI
    ·exact ⟨rfl, trivial⟩
    ·try dsimp only
     exact ⟨by omega, by rw [ho, map_step atomS (by omega)]; rfl, ‹_›⟩
    try dsimp only
    omega
   ·simp at q6
    obtain rfl : k = x.atoms.length := by omega
    rw [List.take_length] at ho
    refine ⟨fun x15 => ?_⟩
    have ol15 : Ow flStr (9 : TypeId) (.slice (some ⟨x15, 0, none⟩) 3 3) [{ data := List.toArray [] }, { data := List.toArray [(32 : UInt8), (60 : UInt8), (32 : UInt8)] }, { data := List.toArray [(32 : UInt8), (61 : UInt8), (32 : UInt8)] }] [(x15, Obj.cells { toList := Value.string { data := #[] } :: Value.string { data := #[(32 : UInt8), (60 : UInt8), (32 : UInt8)] } :: Value.string { data := #[(32 : UInt8), (61 : UInt8), (32 : UInt8)] } :: [].append (zeros (nat_lit 0) [Value.string ByteArray.empty]) } (9 : TypeId))] := Ow.lit (f := flStr) (T := (9 : TypeId)) (b := x15) (xs := [{ data := List.toArray [] }, { data := List.toArray [(32 : UInt8), (60 : UInt8), (32 : UInt8)] }, { data := List.toArray [(32 : UInt8), (61 : UInt8), (32 : UInt8)] }]) (fun x hx => of_decide_eq_true (p := x.size ≤ 9223372036854775807) (List.all_eq_true.1 (show ([{ data := List.toArray [] }, { data := List.toArray [(32 : UInt8), (60 : UInt8), (32 : UInt8)] }, { data := List.toArray [(32 : UInt8), (61 : UInt8), (32 : UInt8)] }] : List ByteArray).all (fun s => decide (s.size ≤ 9223372036854775807)) = true by decide) x hx)) (by simp)
    apply loop_mod (α := (Nat) × (List ByteArray) × (Hp) × (Option Addr) × (Nat)) G_ok [56, 57, 58, 59, 60, 63, 64, 65, 66, 67, 9, 68, 69, 10, 70, 71, 72, 73, 74, 75, 76, 77, 78, 79, 80, 81, 82, 83, 84, 85, 86, 87, 5, 61, 62, 8] (fun z => [(8, .v (.int .i64 z.1)), (5, .v (.slice z.2.2.2.1 z.2.1.length z.2.2.2.2))]) (fun z => [{ id := x0, cs := [Value.bool x.each, Value.slice b1p x.out.length c1p, Value.slice b2p x.atoms.length c2p, Value.slice b3p x.filters.length c3p], ty := (37 : Nat) }]) (fun z => [z.2.2.1, [(x15, Obj.cells { toList := Value.string { data := #[] } :: Value.string { data := #[(32 : UInt8), (60 : UInt8), (32 : UInt8)] } :: Value.string { data := #[(32 : UInt8), (61 : UInt8), (32 : UInt8)] } :: [].append (zeros (nat_lit 0) [Value.string ByteArray.empty]) } (9 : TypeId))], H]) (fun z => x.filters.length - z.1) (fun z => z.1 ≤ x.filters.length ∧ z.2.1 = x.atoms.map atomS ++ (x.filters.take z.1).map filtS ∧ (gSl 9 gS).ow [.slice z.2.2.2.1 z.2.1.length z.2.2.2.2] z.2.1 z.2.2.1) ((0, o, A, lb, lc))
    ·exact frI
    ·exact ⟨rfl, trivial⟩
    ·try dsimp only
     exact ⟨Nat.zero_le _, by rw [ho]; simp, oA⟩
    ·exact rlA
    rintro ⟨j, o2, A2, lb2, lc2⟩ hI
    try dsimp only at hI
    obtain ⟨hj, ho2, oA2⟩ := hI
    try dsimp only
    refine ⟨fun q16 => ?_, fun q16 => ?_⟩
    ·simp at q16
     have hfz := at_all hqs2.2.2.2 (k := j) (by omega)
     have hdz := dc_szq hfz
     have hsz9 := sign_sz hfz.2.2.1
     have hol2 : o2.length ≤ 7 := (by rw [ho2, List.length_append, List.length_map, List.length_map, List.length_take]; omega)
     refine idx_rd h3p ?_ ?_ fun b17 o17 hb17 => ?_
     ·omega
     ·omega
     refine load_allN default (j) rfl h3p ?_ ?_ hb17 rfl (mem_at 2 rfl) fun l18 hl18 => ?_
     ·omega
     ·omega
     obtain ⟨rfl, w0x18, w1x18, w2x18, w3x18⟩ := gFilter_rd.1 hl18
     refine ⟨fun x19 => ?_⟩
     refine ⟨fun q20 => ?_, fun q20 => ?_⟩
     ·simp at q20
      refine call_val (specDecimal_ct _ ?_) trivial ?_
      ·omega
      rintro _ rfl
      refine draw G_ok mixed (some 12) (.q 0 (.q 1 (.q 2 (.q 3 (.q 4 (.q 5 (.q 6 (.q 7 (.q 8 (.q 9 (.q 10 (.f 11 (.tl 12 (.f 13 (.nil))))))))))))))) (by decide +kernel) ?_
      refine idx_rd (Ow.rd ol15) ?_ ?_ fun b22 o22 hb22 => ?_
      ·omega
      ·simp; omega
      refine load_all ByteArray.empty (Ow.rd ol15) ?_ ?_ hb22 rfl (mem_at 1 rfl) fun l23 hl23 => ?_
      ·omega
      ·simp; omega
      dsimp only at hl23
      obtain ⟨rfl, hw23⟩ := hl23; simp only [flStr, flInt, okI] at hw23
      refine VC.intro ?_ ?_
      ·grind
      refine VC.intro ?_ ?_
      ·grind
      refine ⟨fun x24 => ?_⟩
      refine VC.intro ?_ ?_
      ·exact keep_new
      refine gappend1 (g := gS) (T := (9 : TypeId)) G_ok A2 [] [[(x15, Obj.cells { toList := Value.string { data := #[] } :: Value.string { data := #[(32 : UInt8), (60 : UInt8), (32 : UInt8)] } :: Value.string { data := #[(32 : UInt8), (61 : UInt8), (32 : UInt8)] } :: [].append (zeros (0 : Nat) [Value.string ByteArray.empty]) } (9 : TypeId))], H] ?_ oA2 (gS_ow ?_) (List.mem_of_getElem? (i := 0) rfl) rfl rfl rfl rfl rfl rfl rfl rfl ?_ fun b25 c25 A25 o25 => ?_
      ·exact .tl
      ·grind
      ·omega
      apply loop_stepA (j + 1, _, _, _, _)
      ·exact .refl _
      ·exact frI
      ·exact ⟨rfl, trivial⟩
      ·try dsimp only
       exact ⟨by omega, by have e9 := filt_5 (f := x.filters[j]?.getD default) hfz.2.2.1 (by assumption); unfold signL at e9; rw [e9, ho2, map_step filtS (by omega), List.append_assoc], ‹_›⟩
      try dsimp only
      omega
     ·simp at q20
      refine draw G_ok mixed (some 12) (.q 0 (.q 1 (.q 2 (.q 3 (.q 4 (.q 5 (.q 6 (.q 7 (.q 8 (.q 9 (.q 10 (.f 11 (.tl 12 (.f 13 (.nil))))))))))))))) (by decide +kernel) ?_
      refine idx_rd (Ow.rd ol15) ?_ ?_ fun b26 o26 hb26 => ?_
      ·omega
      ·simp; omega
      refine load_all ByteArray.empty (Ow.rd ol15) ?_ ?_ hb26 rfl (mem_at 1 rfl) fun l27 hl27 => ?_
      ·omega
      ·simp; omega
      dsimp only at hl27
      obtain ⟨rfl, hw27⟩ := hl27; simp only [flStr, flInt, okI] at hw27
      refine VC.intro ?_ ?_
      ·grind
      refine VC.intro ?_ ?_
      ·grind
      refine ⟨fun x28 => ?_⟩
      refine VC.intro ?_ ?_
      ·exact keep_new
      refine gappend1 (g := gS) (T := (9 : TypeId)) G_ok A2 [] [[(x15, Obj.cells { toList := Value.string { data := #[] } :: Value.string { data := #[(32 : UInt8), (60 : UInt8), (32 : UInt8)] } :: Value.string { data := #[(32 : UInt8), (61 : UInt8), (32 : UInt8)] } :: [].append (zeros (0 : Nat) [Value.string ByteArray.empty]) } (9 : TypeId))], H] ?_ oA2 (gS_ow ?_) (List.mem_of_getElem? (i := 0) rfl) rfl rfl rfl rfl rfl rfl rfl rfl ?_ fun b29 c29 A29 o29 => ?_
      ·exact .tl
      ·grind
      ·omega
      apply loop_stepA (j + 1, _, _, _, _)
      ·exact .refl _
      ·exact frI
      ·exact ⟨rfl, trivial⟩
      ·try dsimp only
       exact ⟨by omega, by have e9 := filt_6 (f := x.filters[j]?.getD default) hfz.2.2.1 (by assumption); unfold signL at e9; rw [e9, ho2, map_step filtS (by omega), List.append_assoc], ‹_›⟩
      try dsimp only
      omega
    ·simp at q16
     obtain rfl : j = x.filters.length := by omega
     rw [List.take_length] at ho2
     obtain ⟨hc1, hc2, hc3⟩ := conds_end (by assumption) ho2
     have hse := show_each (by assumption) ho2
     have hze := congrArg ByteArray.size hse
     simp only [ByteArray.size_append] at hze
     refine call_val (l08Join_ct _ _ _ (o2) ?_ ?_) (Rp.mono _ (mem_at 0 rfl) (Gt.owrd _ oA2)) ?_
     ·trivial
     ·trivial
     rintro _ rfl
     refine VC.intro ?_ ?_
     ·simp; omega
     refine ⟨fun q31 => ?_, fun q31 => ?_⟩
     ·simp at q31
      (have hno : ¬ (showQ x).size ≤ 200 := (by omega); exact ⟨[], ⟨by rw [showV_no (showOk_no2 hno), showOk_no2 hno]; rfl, rfl⟩, .mem (by simp)⟩)
     ·simp at q31
      (have hys : (showQ x).size ≤ 200 := (by omega); exact ⟨[], ⟨by rw [hse, showV_yes (showOk_yes (by assumption) hys), showOk_yes (by assumption) hys], rfl⟩, .mem (by simp)⟩)
  ·refine ⟨fun x32 => ?_⟩
   apply loop_mod (α := (Nat) × (List ByteArray) × (Hp) × (Option Addr) × (Nat)) G_ok [23, 24, 25, 26, 27, 30, 31, 32, 33, 34, 35, 36, 37, 38, 39, 40, 41, 42, 43, 44, 45, 46, 47, 48, 49, 50, 51, 52, 53, 54, 5, 28, 29, 6] (fun z => [(6, .v (.int .i64 z.1)), (5, .v (.slice z.2.2.2.1 z.2.1.length z.2.2.2.2))]) (fun z => [{ id := x0, cs := [Value.bool x.each, Value.slice b1p x.out.length c1p, Value.slice b2p x.atoms.length c2p, Value.slice b3p x.filters.length c3p], ty := (37 : Nat) }]) (fun z => [z.2.2.1, H]) (fun z => x.atoms.length - z.1) (fun z => z.1 ≤ x.atoms.length ∧ z.2.1 = (x.atoms.take z.1).map atomS ∧ (gSl 9 gS).ow [.slice z.2.2.2.1 z.2.1.length z.2.2.2.2] z.2.1 z.2.2.1) ((0, [], [], _, 0))
   ·exact frI
   ·exact ⟨rfl, trivial⟩
   ·try dsimp only
    exact ⟨Nat.zero_le _, rfl, sl_nil _ _ _⟩
   ·exact .tl
   rintro ⟨k, o, A, lb, lc⟩ hI
   try dsimp only at hI
   obtain ⟨hk, ho, oA⟩ := hI
   try dsimp only
   refine ⟨fun q33 => ?_, fun q33 => ?_⟩
   ·simp at q33
    have haz := at_all hqs2.2.2.1 (k := k) (by omega)
    have hol : o.length ≤ 4 := (by rw [ho, List.length_map, List.length_take]; omega)
    refine draw G_ok mixed (some 24) (.q 0 (.q 1 (.q 2 (.q 3 (.q 4 (.q 5 (.q 6 (.q 7 (.q 8 (.q 9 (.q 10 (.q 11 (.q 12 (.q 13 (.q 14 (.q 15 (.q 16 (.q 17 (.q 18 (.q 19 (.q 20 (.q 21 (.q 22 (.f 23 (.tl 24 (.f 25 (.nil))))))))))))))))))))))))))) (by decide +kernel) ?_
    refine idx_rd h2p ?_ ?_ fun b34 o34 hb34 => ?_
    ·omega
    ·omega
    refine load_partN default (k) 0 rfl h2p ?_ ?_ hb34 rfl (by decide) (mem_at 1 rfl) fun l35 hl35 => ?_
    ·omega
    ·omega
    obtain ⟨rfl, w0x35, w1x35, w2x35⟩ := gAtom_rd.1 hl35
    refine VC.intro ?_ ?_
    ·omega
    refine idx_rd h2p ?_ ?_ fun b36 o36 hb36 => ?_
    ·omega
    ·omega
    refine load_partN default (k) 1 rfl h2p ?_ ?_ hb36 rfl (by decide) (mem_at 1 rfl) fun l37 hl37 => ?_
    ·omega
    ·omega
    obtain ⟨rfl, w0x37, w1x37, w2x37⟩ := gAtom_rd.1 hl37
    refine VC.intro ?_ ?_
    ·simp; omega
    refine VC.intro ?_ ?_
    ·simp; omega
    refine idx_rd h2p ?_ ?_ fun b38 o38 hb38 => ?_
    ·omega
    ·omega
    refine load_partN default (k) 2 rfl h2p ?_ ?_ hb38 rfl (by decide) (mem_at 1 rfl) fun l39 hl39 => ?_
    ·omega
    ·omega
    obtain ⟨rfl, w0x39, w1x39, w2x39⟩ := gAtom_rd.1 hl39
    refine VC.intro ?_ ?_
    ·simp; omega
    refine ⟨fun x40 => ?_⟩
    refine VC.intro ?_ ?_
    ·exact keep_new
    refine gappend1 (g := gS) (T := (9 : TypeId)) G_ok A [] [H] ?_ oA (gS_ow ?_) (List.mem_of_getElem? (i := 0) rfl) rfl rfl rfl rfl rfl rfl rfl rfl ?_ fun b41 c41 A41 o41 => ?_
    ·exact .tl
    ·simp; omega
    ·omega
    apply loop_stepA (k + 1, _, _, _, _)
    ·exact .refl _
    ·exact frI
    ·exact ⟨rfl, trivial⟩
    ·try dsimp only
     exact ⟨by omega, by rw [ho, map_step atomS (by omega)]; rfl, ‹_›⟩
    try dsimp only
    omega
   ·simp at q33
    obtain rfl : k = x.atoms.length := by omega
    rw [List.take_length] at ho
    refine ⟨fun x42 => ?_⟩
    have ol42 : Ow flStr (9 : TypeId) (.slice (some ⟨x42, 0, none⟩) 3 3) [{ data := List.toArray [] }, { data := List.toArray [(32 : UInt8), (60 : UInt8), (32 : UInt8)] }, { data := List.toArray [(32 : UInt8), (61 : UInt8), (32 : UInt8)] }] [(x42, Obj.cells { toList := Value.string { data := #[] } :: Value.string { data := #[(32 : UInt8), (60 : UInt8), (32 : UInt8)] } :: Value.string { data := #[(32 : UInt8), (61 : UInt8), (32 : UInt8)] } :: [].append (zeros (nat_lit 0) [Value.string ByteArray.empty]) } (9 : TypeId))] := Ow.lit (f := flStr) (T := (9 : TypeId)) (b := x42) (xs := [{ data := List.toArray [] }, { data := List.toArray [(32 : UInt8), (60 : UInt8), (32 : UInt8)] }, { data := List.toArray [(32 : UInt8), (61 : UInt8), (32 : UInt8)] }]) (fun x hx => of_decide_eq_true (p := x.size ≤ 9223372036854775807) (List.all_eq_true.1 (show ([{ data := List.toArray [] }, { data := List.toArray [(32 : UInt8), (60 : UInt8), (32 : UInt8)] }, { data := List.toArray [(32 : UInt8), (61 : UInt8), (32 : UInt8)] }] : List ByteArray).all (fun s => decide (s.size ≤ 9223372036854775807)) = true by decide) x hx)) (by simp)
    apply loop_mod (α := (Nat) × (List ByteArray) × (Hp) × (Option Addr) × (Nat)) G_ok [56, 57, 58, 59, 60, 63, 64, 65, 66, 67, 9, 68, 69, 10, 70, 71, 72, 73, 74, 75, 76, 77, 78, 79, 80, 81, 82, 83, 84, 85, 86, 87, 5, 61, 62, 8] (fun z => [(8, .v (.int .i64 z.1)), (5, .v (.slice z.2.2.2.1 z.2.1.length z.2.2.2.2))]) (fun z => [{ id := x0, cs := [Value.bool x.each, Value.slice b1p x.out.length c1p, Value.slice b2p x.atoms.length c2p, Value.slice b3p x.filters.length c3p], ty := (37 : Nat) }]) (fun z => [z.2.2.1, [(x42, Obj.cells { toList := Value.string { data := #[] } :: Value.string { data := #[(32 : UInt8), (60 : UInt8), (32 : UInt8)] } :: Value.string { data := #[(32 : UInt8), (61 : UInt8), (32 : UInt8)] } :: [].append (zeros (nat_lit 0) [Value.string ByteArray.empty]) } (9 : TypeId))], H]) (fun z => x.filters.length - z.1) (fun z => z.1 ≤ x.filters.length ∧ z.2.1 = x.atoms.map atomS ++ (x.filters.take z.1).map filtS ∧ (gSl 9 gS).ow [.slice z.2.2.2.1 z.2.1.length z.2.2.2.2] z.2.1 z.2.2.1) ((0, o, A, lb, lc))
    ·exact frI
    ·exact ⟨rfl, trivial⟩
    ·try dsimp only
     exact ⟨Nat.zero_le _, by rw [ho]; simp, oA⟩
    ·exact rlA
    rintro ⟨j, o2, A2, lb2, lc2⟩ hI
    try dsimp only at hI
    obtain ⟨hj, ho2, oA2⟩ := hI
    try dsimp only
    refine ⟨fun q43 => ?_, fun q43 => ?_⟩
    ·simp at q43
     have hfz := at_all hqs2.2.2.2 (k := j) (by omega)
     have hdz := dc_szq hfz
     have hsz9 := sign_sz hfz.2.2.1
     have hol2 : o2.length ≤ 7 := (by rw [ho2, List.length_append, List.length_map, List.length_map, List.length_take]; omega)
     refine idx_rd h3p ?_ ?_ fun b44 o44 hb44 => ?_
     ·omega
     ·omega
     refine load_allN default (j) rfl h3p ?_ ?_ hb44 rfl (mem_at 2 rfl) fun l45 hl45 => ?_
     ·omega
     ·omega
     obtain ⟨rfl, w0x45, w1x45, w2x45, w3x45⟩ := gFilter_rd.1 hl45
     refine ⟨fun x46 => ?_⟩
     refine ⟨fun q47 => ?_, fun q47 => ?_⟩
     ·simp at q47
      refine call_val (specDecimal_ct _ ?_) trivial ?_
      ·omega
      rintro _ rfl
      refine draw G_ok mixed (some 12) (.q 0 (.q 1 (.q 2 (.q 3 (.q 4 (.q 5 (.q 6 (.q 7 (.q 8 (.q 9 (.q 10 (.f 11 (.tl 12 (.f 13 (.nil))))))))))))))) (by decide +kernel) ?_
      refine idx_rd (Ow.rd ol42) ?_ ?_ fun b49 o49 hb49 => ?_
      ·omega
      ·simp; omega
      refine load_all ByteArray.empty (Ow.rd ol42) ?_ ?_ hb49 rfl (mem_at 1 rfl) fun l50 hl50 => ?_
      ·omega
      ·simp; omega
      dsimp only at hl50
      obtain ⟨rfl, hw50⟩ := hl50; simp only [flStr, flInt, okI] at hw50
      refine VC.intro ?_ ?_
      ·grind
      refine VC.intro ?_ ?_
      ·grind
      refine ⟨fun x51 => ?_⟩
      refine VC.intro ?_ ?_
      ·exact keep_new
      refine gappend1 (g := gS) (T := (9 : TypeId)) G_ok A2 [] [[(x42, Obj.cells { toList := Value.string { data := #[] } :: Value.string { data := #[(32 : UInt8), (60 : UInt8), (32 : UInt8)] } :: Value.string { data := #[(32 : UInt8), (61 : UInt8), (32 : UInt8)] } :: [].append (zeros (0 : Nat) [Value.string ByteArray.empty]) } (9 : TypeId))], H] ?_ oA2 (gS_ow ?_) (List.mem_of_getElem? (i := 0) rfl) rfl rfl rfl rfl rfl rfl rfl rfl ?_ fun b52 c52 A52 o52 => ?_
      ·exact .tl
      ·grind
      ·omega
      apply loop_stepA (j + 1, _, _, _, _)
      ·exact .refl _
      ·exact frI
      ·exact ⟨rfl, trivial⟩
      ·try dsimp only
       exact ⟨by omega, by have e9 := filt_5 (f := x.filters[j]?.getD default) hfz.2.2.1 (by assumption); unfold signL at e9; rw [e9, ho2, map_step filtS (by omega), List.append_assoc], ‹_›⟩
      try dsimp only
      omega
     ·simp at q47
      refine draw G_ok mixed (some 12) (.q 0 (.q 1 (.q 2 (.q 3 (.q 4 (.q 5 (.q 6 (.q 7 (.q 8 (.q 9 (.q 10 (.f 11 (.tl 12 (.f 13 (.nil))))))))))))))) (by decide +kernel) ?_
      refine idx_rd (Ow.rd ol42) ?_ ?_ fun b53 o53 hb53 => ?_
      ·omega
      ·simp; omega
      refine load_all ByteArray.empty (Ow.rd ol42) ?_ ?_ hb53 rfl (mem_at 1 rfl) fun l54 hl54 => ?_
      ·omega
      ·simp; omega
      dsimp only at hl54
      obtain ⟨rfl, hw54⟩ := hl54; simp only [flStr, flInt, okI] at hw54
      refine VC.intro ?_ ?_
      ·grind
      refine VC.intro ?_ ?_
      ·grind
      refine ⟨fun x55 => ?_⟩
      refine VC.intro ?_ ?_
      ·exact keep_new
      refine gappend1 (g := gS) (T := (9 : TypeId)) G_ok A2 [] [[(x42, Obj.cells { toList := Value.string { data := #[] } :: Value.string { data := #[(32 : UInt8), (60 : UInt8), (32 : UInt8)] } :: Value.string { data := #[(32 : UInt8), (61 : UInt8), (32 : UInt8)] } :: [].append (zeros (0 : Nat) [Value.string ByteArray.empty]) } (9 : TypeId))], H] ?_ oA2 (gS_ow ?_) (List.mem_of_getElem? (i := 0) rfl) rfl rfl rfl rfl rfl rfl rfl rfl ?_ fun b56 c56 A56 o56 => ?_
      ·exact .tl
      ·grind
      ·omega
      apply loop_stepA (j + 1, _, _, _, _)
      ·exact .refl _
      ·exact frI
      ·exact ⟨rfl, trivial⟩
      ·try dsimp only
       exact ⟨by omega, by have e9 := filt_6 (f := x.filters[j]?.getD default) hfz.2.2.1 (by assumption); unfold signL at e9; rw [e9, ho2, map_step filtS (by omega), List.append_assoc], ‹_›⟩
      try dsimp only
      omega
    ·simp at q43
     obtain rfl : j = x.filters.length := by omega
     rw [List.take_length] at ho2
     obtain ⟨hc1, hc2, hc3⟩ := conds_end (by assumption) ho2
     have hse := show_plain (by assumption) ho2
     have hze := congrArg ByteArray.size hse
     simp only [ByteArray.size_append] at hze
     refine call_val (l08Join_ct _ _ _ (o2) ?_ ?_) (Rp.mono _ (mem_at 0 rfl) (Gt.owrd _ oA2)) ?_
     ·trivial
     ·trivial
     rintro _ rfl
     refine VC.intro ?_ ?_
     ·simp; omega
     refine ⟨fun q58 => ?_, fun q58 => ?_⟩
     ·simp at q58
      (have hno : ¬ (showQ x).size ≤ 200 := (by omega); exact ⟨[], ⟨by rw [showV_no (showOk_no2 hno), showOk_no2 hno]; rfl, rfl⟩, .mem (by simp)⟩)
     ·simp at q58
      (have hys : (showQ x).size ≤ 200 := (by omega); exact ⟨[], ⟨by rw [hse, showV_yes (showOk_yes (by assumption) hys), showOk_yes (by assumption) hys], rfl⟩, .mem (by simp)⟩)
end
section
attribute [local irreducible] IntKind.wrap queryM namesM showOk showV showQ sharesM cellsM
def sharesB (s : List Int) (k : Nat) : List UInt8 := (s.take k).flatMap varT
def beginB (t : ByteArray) (s : List Int) (n : Int) (k : Nat) : List UInt8 := varT (t.size : Nat) ++ (by' t ++ (varT n ++ (varT (s.length : Nat) ++ sharesB s k)))
noncomputable def beginOk (q : Query) (s : List Int) (n : Int) : Bool := showOk q && (sharesM q s && (inR 1 8 n && decide (cellsM s ≤ n)))
noncomputable def beginV (q : Query) (s : List Int) (n : Int) : ByteArray := if beginOk q s n = true then tx (beginB (showQ q) s n s.length) else .empty
theorem begin_1 {q : Query} {s : List Int} {n : Int} (h : sharesM q s = false) : beginOk q s n = false := by unfold beginOk; rw [h]; simp
theorem begin_2 {q : Query} {s : List Int} {n : Int} (h : inR 1 8 n = false) : beginOk q s n = false := by unfold beginOk; rw [h]; simp
theorem begin_2' {q : Query} {s : List Int} {n : Int} (h : ¬ (1 ≤ n ∧ n ≤ 8)) : beginOk q s n = false := begin_2 (by cases e : inR 1 8 n with | false => rfl | true => exact absurd (inR_iff.1 e) h)
theorem begin_3 {q : Query} {s : List Int} {n : Int} (h : ¬ cellsM s ≤ n) : beginOk q s n = false := by unfold beginOk; rw [decide_eq_false h]; simp
theorem begin_4 {q : Query} {s : List Int} {n : Int} (h : showOk q = false) : beginOk q s n = false := by unfold beginOk; rw [h]; rfl
theorem begin_yes {q : Query} {s : List Int} {n : Int} (h1 : showOk q = true) (h2 : sharesM q s = true) (h3 : 1 ≤ n ∧ n ≤ 8) (h4 : cellsM s ≤ n) : beginOk q s n = true := by
 unfold beginOk
 rw [h1, h2, inR_iff.2 h3, decide_eq_true h4]; rfl
theorem beginV_no {q : Query} {s : List Int} {n : Int} (h : beginOk q s n = false) : beginV q s n = .empty := if_neg (by rw [h]; decide)
theorem beginV_yes {q : Query} {s : List Int} {n : Int} (h : beginOk q s n = true) : beginV q s n = tx (beginB (showQ q) s n s.length) := if_pos h
section
attribute [local semireducible] sharesM showOk
theorem shares_facts {q : Query} {s : List Int} (h : sharesM q s = true) : s.length ≤ 4 ∧ ∀ k, k < s.length → 1 ≤ (s[k]?.getD 0) ∧ (s[k]?.getD 0) ≤ 8 := by
 unfold sharesM at h
 simp only [Bool.and_eq_true, decide_eq_true_eq] at h
 have h1 := query_names h.1
 refine ⟨by omega, fun k hk => ?_⟩
 have h2 := shK_all h.2.1
 unfold shK at h2
 exact inR_iff.1 (allK_at h2 k hk)
theorem showOk_sz {q : Query} (h : showOk q = true) : (showQ q).size ≤ 200 := by
 unfold showOk at h
 simp only [Bool.and_eq_true, decide_eq_true_eq] at h
 exact h.2
end
theorem sharesB_step {s : List Int} {k : Nat} (h : k < s.length) : sharesB s (k + 1) = sharesB s k ++ varT (s[k]?.getD 0) := by
 unfold sharesB
 rw [← List.take_append_getElem h, List.flatMap_append, List.getElem?_eq_getElem h]; simp
theorem beginB_step {t : ByteArray} {s : List Int} {n : Int} {k : Nat} (h : k < s.length) : tx (beginB t s n k) ++ varText (s[k]?.getD 0) = tx (beginB t s n (k + 1)) := by
 unfold beginB varText
 rw [← tx_app, sharesB_step h]
 simp only [List.append_assoc]
theorem begin_0 {t : ByteArray} {s : List Int} {n : Int} : varText ((t.size : Nat) : Int) ++ t ++ (varText n ++ varText ((s.length : Nat) : Int)) = tx (beginB t s n 0) := by
 apply by_inj.1
 unfold beginB sharesB varText
 simp only [by_app, by_tx, List.take_zero, List.flatMap_nil, List.append_nil, List.append_assoc]
theorem begin_0s {t : ByteArray} {s : List Int} {n : Int} : varText ((t.size : Nat) : Int) ++ t ++ varText n ++ varText ((s.length : Nat) : Int) = tx (beginB t s n 0) := by
 rw [← begin_0, ByteArray.append_assoc]
theorem shortText_ct (t : ByteArray) (h : t.size ≤ 200) : Ct prog 107 [.string t] [] (fun _ => True) (fun v A => v = .tuple #[.string (varText ((t.size : Nat) : Int) ++ t), .bool true] ∧ A = []) := by
 refine Ct.intro0 G_ok func107 rfl rfl rfl fun E H hp => ?_
 have hz := varText_size ((t.size : Nat) : Int)
 have him : IntKind.i64.max = 9223372036854775807 := rfl
 refine ⟨fun q0 => ?_, fun q0 => ?_⟩
 ·simp at q0
  exfalso; omega
 ·simp at q0
  refine call_val (varText_ct _ ?_ ?_) trivial ?_
  ·omega
  ·omega
  rintro _ rfl
  refine VC.intro ?_ ?_
  ·omega
  exact ⟨[], ⟨rfl, rfl⟩, .mem (by simp)⟩
theorem implBeginText_ct (l : List Value) (b : Option Addr) (m c : Nat) (x : Query) (s : List Int) (n : Int) (hx : gQuery.sz x ≤ 1048576) :
  Ct prog 53 [.agg ⟨l⟩, .slice b m c, .int .i64 n] [] (fun H => gQuery.rd H l x ∧ (gSl 3 gI).rd H [.slice b m c] s ∧ TabIn H) (fun v A => v = .tuple #[.string (beginV x s n), .bool (beginOk x s n)] ∧ A = []) := by
 refine Ct.intro0 G_ok func53 rfl rfl rfl fun E H hp => ?_
 obtain ⟨hp, hq, hT⟩ := hp
 obtain ⟨b1p, c1p, b2p, c2p, b3p, c3p, rfl, h1p, h2p, h3p⟩ := gQuery_rd.1 hp
 obtain ⟨rfl, hcl, hl⟩ := sl_len hq
 have him : IntKind.i64.max = 9223372036854775807 := rfl
 have hz1 := varText_size (((showQ x).size : Nat) : Int)
 have hz2 := varText_size n
 have hz3 := varText_size ((s.length : Nat) : Int)
 refine ⟨fun x0 => ?_⟩
 refine call_val (implSharesOk_ct _ _ _ _ (x) (s) ?_) ⟨(Rp.mono _ (mem_at 0 rfl) hp), (Rp.mono _ (mem_at 0 rfl) hq)⟩ ?_
 ·trivial
 rintro _ rfl
 refine ⟨fun q2 => ?_, fun q2 => ?_⟩
 ·simp at q2
  exact ⟨[], ⟨by rw [beginV_no (begin_1 (by assumption)), begin_1 (by assumption)]; rfl, rfl⟩, .mem (by simp)⟩
 ·simp at q2
  have hsf2 := shares_facts q2
  refine ⟨fun q3 => ?_, fun q3 => ?_⟩
  ·simp at q3
   exact ⟨[], ⟨by rw [beginV_no (begin_2' (by omega)), begin_2' (by omega)]; rfl, rfl⟩, .mem (by simp)⟩
  ·simp at q3
   refine ⟨fun q4 => ?_, fun q4 => ?_⟩
   ·simp at q4
    exact ⟨[], ⟨by rw [beginV_no (begin_2' (by omega)), begin_2' (by omega)]; rfl, rfl⟩, .mem (by simp)⟩
   ·simp at q4
    refine call_val (implCellsOf_ct _ _ _ (s)) (Rp.mono _ (mem_at 0 rfl) hq) ?_
    rintro _ rfl
    refine ⟨fun q6 => ?_, fun q6 => ?_⟩
    ·simp at q6
     exact ⟨[], ⟨by rw [beginV_no (begin_3 (by omega)), begin_3 (by omega)]; rfl, rfl⟩, .mem (by simp)⟩
    ·simp at q6
     refine call_val (implShowQuery_ct _ x hx) ⟨(Rp.mono _ (mem_at 0 rfl) hp), (by (try exact TabIn.mono hT (mem_at 0 rfl)); (try exact TabIn.mono hT (mem_at 1 rfl)); (try exact TabIn.mono hT (mem_at 2 rfl)))⟩ ?_
     rintro _ rfl
     refine ⟨fun q8 => ?_, fun q8 => ?_⟩
     ·simp at q8
      exact ⟨[], ⟨by rw [beginV_no (begin_4 (by assumption)), begin_4 (by assumption)]; rfl, rfl⟩, .mem (by simp)⟩
     ·simp at q8
      (have hss8 := showOk_sz q8; have hsv8 := showV_yes q8)
      refine call_val (shortText_ct _ ?_) trivial ?_
      ·simp_all
      rintro _ rfl
      refine call_val (varText_ct _ ?_ ?_) trivial ?_
      ·omega
      ·omega
      rintro _ rfl
      refine call_val (varText_ct _ ?_ ?_) trivial ?_
      ·omega
      ·omega
      rintro _ rfl
      refine VC.intro ?_ ?_
      ·omega
      refine VC.intro ?_ ?_
      ·simp_all; omega
      apply loop_mod (α := (Nat) × (ByteArray)) G_ok [55, 56, 57, 13, 58, 59, 60, 61, 10, 62, 54] (fun z => [(54, .v (.int .i64 z.1)), (10, .v (.string z.2))]) (fun z => [{ id := x0, cs := [Value.bool x.each, Value.slice b1p x.out.length c1p, Value.slice b2p x.atoms.length c2p, Value.slice b3p x.filters.length c3p], ty := (37 : Nat) }]) (fun z => [H]) (fun z => s.length - z.1) (fun z => z.1 ≤ s.length ∧ z.2 = tx (beginB (showQ x) s n z.1) ∧ z.2.size ≤ 1000 + 20 * z.1) ((0, _))
      ·exact frI
      ·exact ⟨rfl, trivial⟩
      ·try dsimp only
       (rw [showV_yes (by assumption)]; exact ⟨Nat.zero_le _, begin_0, by simp only [ByteArray.size_append]; omega⟩)
      ·exact .refl _
      rintro ⟨k, t⟩ hI
      try dsimp only at hI
      obtain ⟨hk, ht, htl⟩ := hI
      try dsimp only
      refine ⟨fun q12 => ?_, fun q12 => ?_⟩
      ·simp at q12
       have hsk := hsf2.2 k (by omega)
       have hzk := varText_size (s[k]?.getD 0)
       refine idx_rd hq ?_ ?_ fun b13 o13 hb13 => ?_
       ·omega
       ·omega
       refine load_allN 0 (k) rfl hq ?_ ?_ hb13 rfl (mem_at 0 rfl) fun l14 hl14 => ?_
       ·omega
       ·omega
       obtain ⟨rfl, hw14⟩ := hl14; simp only [flStr, flInt, okI] at hw14
       refine call_val (varText_ct _ ?_ ?_) trivial ?_
       ·omega
       ·omega
       rintro _ rfl
       refine VC.intro ?_ ?_
       ·omega
       apply loop_stepA (k + 1, _)
       ·exact .refl _
       ·exact frI
       ·exact ⟨rfl, trivial⟩
       ·try dsimp only
        exact ⟨by omega, by rw [ht]; exact beginB_step (by omega), by rw [ByteArray.size_append]; omega⟩
       try dsimp only
       omega
      ·simp at q12
       obtain rfl : k = s.length := by omega
       have hby : beginOk x s n = true := begin_yes (by assumption) (by assumption) (by omega) (by assumption)
       exact ⟨[], ⟨by rw [ht, beginV_yes hby, hby], rfl⟩, .mem (by simp)⟩
theorem specBeginText_ct (l : List Value) (b : Option Addr) (m c : Nat) (x : Query) (s : List Int) (n : Int) (hx : gQuery.sz x ≤ 1048576) :
  Ct prog 49 [.agg ⟨l⟩, .slice b m c, .int .i64 n] [] (fun H => gQuery.rd H l x ∧ (gSl 3 gI).rd H [.slice b m c] s) (fun v A => v = .tuple #[.string (beginV x s n), .bool (beginOk x s n)] ∧ A = []) := by
 refine Ct.intro0 G_ok func49 rfl rfl rfl fun E H hp => ?_
 obtain ⟨hp, hq⟩ := hp
 obtain ⟨b1p, c1p, b2p, c2p, b3p, c3p, rfl, h1p, h2p, h3p⟩ := gQuery_rd.1 hp
 obtain ⟨rfl, hcl, hl⟩ := sl_len hq
 have him : IntKind.i64.max = 9223372036854775807 := rfl
 have hz1 := varText_size (((showQ x).size : Nat) : Int)
 have hz2 := varText_size n
 have hz3 := varText_size ((s.length : Nat) : Int)
 refine ⟨fun x0 => ?_⟩
 refine call_val (specShowQuery_ct _ (x) ?_) (Rp.mono _ (mem_at 0 rfl) hp) ?_
 ·trivial
 rintro _ rfl
 refine ⟨fun q2 => ?_, fun q2 => ?_⟩
 ·simp at q2
  exact ⟨[], ⟨by rw [beginV_no (begin_4 (by assumption)), begin_4 (by assumption)]; rfl, rfl⟩, .mem (by simp)⟩
 ·simp at q2
  (have hss2 := showOk_sz q2; have hsv2 := showV_yes q2)
  refine call_val (specSharesOk_ct _ _ _ _ (x) (s) ?_) ⟨(Rp.mono _ (mem_at 0 rfl) hp), (Rp.mono _ (mem_at 0 rfl) hq)⟩ ?_
  ·trivial
  rintro _ rfl
  refine ⟨fun q4 => ?_, fun q4 => ?_⟩
  ·simp at q4
   exact ⟨[], ⟨by rw [beginV_no (begin_1 (by assumption)), begin_1 (by assumption)]; rfl, rfl⟩, .mem (by simp)⟩
  ·simp at q4
   have hsf4 := shares_facts q4
   refine call_val (l01In_ct _ _ _) trivial ?_
   rintro _ rfl
   refine ⟨fun q6 => ?_, fun q6 => ?_⟩
   ·simp at q6
    exact ⟨[], ⟨by rw [beginV_no (begin_2 (by assumption)), begin_2 (by assumption)]; rfl, rfl⟩, .mem (by simp)⟩
   ·simp at q6
    have iq6 := inR_iff.1 q6
    refine call_val (specCellsOf_ct _ _ _ (s)) (Rp.mono _ (mem_at 0 rfl) hq) ?_
    rintro _ rfl
    refine ⟨fun q8 => ?_, fun q8 => ?_⟩
    ·simp at q8
     exact ⟨[], ⟨by rw [beginV_no (begin_3 (by omega)), begin_3 (by omega)]; rfl, rfl⟩, .mem (by simp)⟩
    ·simp at q8
     refine call_val (l01Var_ct _ ?_ ?_) trivial ?_
     ·omega
     ·simp_all; omega
     rintro _ rfl
     refine VC.intro ?_ ?_
     ·simp_all; omega
     refine call_val (l01Var_ct _ ?_ ?_) trivial ?_
     ·omega
     ·omega
     rintro _ rfl
     refine VC.intro ?_ ?_
     ·simp_all; omega
     refine call_val (l01Var_ct _ ?_ ?_) trivial ?_
     ·omega
     ·omega
     rintro _ rfl
     refine VC.intro ?_ ?_
     ·simp_all; omega
     apply loop_mod (α := (Nat) × (ByteArray)) G_ok [48, 49, 50, 51, 54, 55, 56, 57, 58, 59, 60, 10, 52, 53, 11] (fun z => [(11, .v (.int .i64 z.1)), (10, .v (.string z.2))]) (fun z => [{ id := x0, cs := [Value.bool x.each, Value.slice b1p x.out.length c1p, Value.slice b2p x.atoms.length c2p, Value.slice b3p x.filters.length c3p], ty := (37 : Nat) }]) (fun z => [H]) (fun z => s.length - z.1) (fun z => z.1 ≤ s.length ∧ z.2 = tx (beginB (showQ x) s n z.1) ∧ z.2.size ≤ 1000 + 20 * z.1) ((0, _))
     ·exact frI
     ·exact ⟨rfl, trivial⟩
     ·try dsimp only
      (rw [showV_yes (by assumption)]; exact ⟨Nat.zero_le _, begin_0s, by simp only [ByteArray.size_append]; omega⟩)
     ·exact .refl _
     rintro ⟨k, t⟩ hI
     try dsimp only at hI
     obtain ⟨hk, ht, htl⟩ := hI
     try dsimp only
     refine ⟨fun q12 => ?_, fun q12 => ?_⟩
     ·simp at q12
      have hsk := hsf4.2 k (by omega)
      have hzk := varText_size (s[k]?.getD 0)
      refine idx_rd hq ?_ ?_ fun b13 o13 hb13 => ?_
      ·omega
      ·omega
      refine load_allN 0 (k) rfl hq ?_ ?_ hb13 rfl (mem_at 0 rfl) fun l14 hl14 => ?_
      ·omega
      ·omega
      obtain ⟨rfl, hw14⟩ := hl14; simp only [flStr, flInt, okI] at hw14
      refine call_val (l01Var_ct _ ?_ ?_) trivial ?_
      ·omega
      ·omega
      rintro _ rfl
      refine VC.intro ?_ ?_
      ·omega
      apply loop_stepA (k + 1, _)
      ·exact .refl _
      ·exact frI
      ·exact ⟨rfl, trivial⟩
      ·try dsimp only
       exact ⟨by omega, by rw [ht]; exact beginB_step (by omega), by rw [ByteArray.size_append]; omega⟩
      try dsimp only
      omega
     ·simp at q12
      obtain rfl : k = s.length := by omega
      have hby : beginOk x s n = true := begin_yes (by assumption) (by assumption) (by omega) (by assumption)
      exact ⟨[], ⟨by rw [ht, beginV_yes hby, hby], rfl⟩, .mem (by simp)⟩
end
section
attribute [local irreducible] IntKind.wrap queryM namesM showOk showV showQ sharesM cellsM beginOk beginV sharesForM
def askZ : Ask := ⟨false, ⟨false, [], [], []⟩, [], 0, [], false, ⟨[]⟩⟩
noncomputable def anOk (q : Query) (n : Int) : Bool := beginOk q (sharesForM q n) n
noncomputable def anM (q : Query) (n : Int) : Ask := if anOk q n = true then ⟨true, q, sharesForM q n, n, [], false, ⟨[]⟩⟩ else askZ
section
attribute [local semireducible] sharesM
theorem an_1 {q : Query} {n : Int} (h : queryM q = false) : anOk q n = false := begin_1 (by unfold sharesM; rw [h]; rfl)
end
theorem an_2 {q : Query} {n : Int} (h : inR 1 8 n = false) : anOk q n = false := begin_2 h
theorem an_ow0 : gAsk.ow [.bool false, .bool false, .slice none 0 0, .slice none 0 0, .slice none 0 0, .slice none 0 0, .int .i64 0, .slice none 0 0, .bool false, .slice none 0 0] askZ [] :=
 gAsk_ow.2 ⟨[.bool false, .slice none 0 0, .slice none 0 0, .slice none 0 0], [], none, 0, [], none, 0, [], [.slice none 0 0], [], rfl, .refl _, gQuery_ow.2 ⟨none, 0, [], none, 0, [], none, 0, [], rfl, .refl _, sl_nil _ _ _, sl_nil _ _ _, sl_nil _ _ _⟩, sl_nil _ _ _, (show okI 0 by unfold okI; decide), sl_nil _ _ _, gBag_ow.2 ⟨none, 0, [], rfl, .refl _, sl_nil _ _ _⟩⟩
theorem an_ow {lq : List Value} {q : Query} {AQ AS : Hp} {b : Option Addr} {c : Nat} {s : List Int} {n : Int} (hq : gQuery.ow lq q AQ) (hs : (gSl 3 gI).ow [.slice b s.length c] s AS) (hn : okI n) :
  gAsk.ow (.bool true :: lq ++ [.slice b s.length c, .int .i64 n, .slice none 0 0, .bool false, .slice none 0 0]) ⟨true, q, s, n, [], false, ⟨[]⟩⟩ (AQ ++ AS) :=
 gAsk_ow.2 ⟨lq, AQ, b, c, AS, none, 0, [], [.slice none 0 0], [], rfl, by simp, hq, hs, hn, sl_nil _ _ _, gBag_ow.2 ⟨none, 0, [], rfl, .refl _, sl_nil _ _ _⟩⟩
theorem an_no {q : Query} {n : Int} (h : anOk q n = false) : ∃ l, Value.tuple ⟨[.agg ⟨[.bool false, .bool false, .slice none 0 0, .slice none 0 0, .slice none 0 0, .slice none 0 0, .int .i64 0, .slice none 0 0, .bool false, .slice none 0 0]⟩, .bool false]⟩ = .tuple #[.agg ⟨l⟩, .bool (anOk q n)] ∧ gAsk.ow l (anM q n) [] := by
 refine ⟨_, by rw [h], ?_⟩
 unfold anM
 rw [if_neg (by rw [h]; decide)]
 exact an_ow0
theorem an_yes {q : Query} {n : Int} {l : List Value} {A : Hp} (h : anOk q n = true) (o : gAsk.ow l ⟨true, q, sharesForM q n, n, [], false, ⟨[]⟩⟩ A) : ∃ l', Value.tuple ⟨[.agg ⟨l⟩, .bool true]⟩ = .tuple #[.agg ⟨l'⟩, .bool (anOk q n)] ∧ gAsk.ow l' (anM q n) A := by
 refine ⟨l, by rw [h], ?_⟩
 unfold anM
 rw [if_pos h]
 exact o
theorem implAskNew_ct (l : List Value) (x : Query) (n : Int) (hx : gQuery.sz x ≤ 1048576) (hn : okI n) :
  Ct prog 14 [.agg ⟨l⟩, .int .i64 n] [] (fun H => gQuery.rd H l x ∧ TabIn H) (fun v A => ∃ l, v = .tuple #[.agg ⟨l⟩, .bool (anOk x n)] ∧ gAsk.ow l (anM x n) A) := by
 refine Ct.intro0 G_ok func14 rfl rfl rfl fun E H hp => ?_
 obtain ⟨hp, hT⟩ := hp
 obtain ⟨b1p, c1p, b2p, c2p, b3p, c3p, rfl, h1p, h2p, h3p⟩ := gQuery_rd.1 hp
 refine ⟨fun x0 => ?_⟩
 refine ⟨fun x1 => ?_⟩
 refine call_new (implSharesFor_ct _ (x) _ ?_) (Rp.mono _ (mem_at 0 rfl) hp) ?_
 ·trivial
 rintro v2 A2 o2
 obtain ⟨bS, cS, rfl, oS⟩ := o2
 have rS := Gt.owrd _ oS
 refine call_val (implBeginText_ct _ _ _ _ x (sharesForM x n) n hx) ⟨(Rp.mono _ (mem_at 1 rfl) hp), (Rp.mono _ (mem_at 0 rfl) rS), (by (try exact TabIn.mono hT (mem_at 0 rfl)); (try exact TabIn.mono hT (mem_at 1 rfl)); (try exact TabIn.mono hT (mem_at 2 rfl)))⟩ ?_
 rintro _ rfl
 refine ⟨fun q4 => ?_, fun q4 => ?_⟩
 ·simp at q4
  exact ⟨[], an_no (by assumption), rlA⟩
 ·simp at q4
  refine call_new (copyQuery_ct _ (x) ?_) (Rp.mono _ (mem_at 1 rfl) hp) ?_
  ·trivial
  rintro v5 A5 o5
  obtain ⟨lQ, rfl, oQ⟩ := o5
  have rQ := Gt.owrd _ oQ
  obtain ⟨bQ1, cQ1, bQ2, cQ2, bQ3, cQ3, rfl, hQ1, hQ2, hQ3⟩ := gQuery_rd.1 rQ
  (have hO := an_ow (n := n) oQ oS hn; exact ⟨_, an_yes (by assumption) hO, rlA⟩)
theorem specAskNew_ct (l : List Value) (x : Query) (n : Int) (hx : gQuery.sz x ≤ 1048576) (hn : okI n) :
  Ct prog 12 [.agg ⟨l⟩, .int .i64 n] [] (fun H => gQuery.rd H l x) (fun v A => ∃ l, v = .tuple #[.agg ⟨l⟩, .bool (anOk x n)] ∧ gAsk.ow l (anM x n) A) := by
 refine Ct.intro0 G_ok func12 rfl rfl rfl fun E H hp => ?_
 obtain ⟨b1p, c1p, b2p, c2p, b3p, c3p, rfl, h1p, h2p, h3p⟩ := gQuery_rd.1 hp
 refine ⟨fun x0 => ?_⟩
 refine ⟨fun x1 => ?_⟩
 refine call_val (specQueryOk_ct _ (x) ?_) (Rp.mono _ (mem_at 0 rfl) hp) ?_
 ·trivial
 rintro _ rfl
 refine ⟨fun q3 => ?_, fun q3 => ?_⟩
 ·simp at q3
  exact ⟨[], an_no (an_1 (by assumption)), rlA⟩
 ·simp at q3
  refine call_val (l01In_ct _ _ _) trivial ?_
  rintro _ rfl
  refine ⟨fun q5 => ?_, fun q5 => ?_⟩
  ·simp at q5
   exact ⟨[], an_no (an_2 (by assumption)), rlA⟩
  ·simp at q5
   refine draw G_ok mixed (some 8) (.q 0 (.q 2 (.q 3 (.q 5 (.hd (.alt 1 (.hd (.alt 4 (.q 6 (.f 7 (.tl 8 (.nil)))) (.alt 7 (.f 4 (.q 6 (.tl 8 (.nil)))) (.nil)))) (.alt 7 (.f 1 (.f 4 (.q 6 (.tl 8 (.nil))))) (.nil)))))))) (by decide +kernel) ?_
   refine VC.intro ?_ ?_
   ·refine call_new (s_l08Copy_ct _ (x) ?_) (Rp.mono _ (mem_at 0 rfl) hp) ?_
    ·trivial
    rintro v6 A6 o6
    obtain ⟨lQ, rfl, oQ⟩ := o6
    have rQ := Gt.owrd _ oQ
    obtain ⟨bQ1, cQ1, bQ2, cQ2, bQ3, cQ3, rfl, hQ1, hQ2, hQ3⟩ := gQuery_rd.1 rQ
    refine VC.intro ?_ ?_
    ·exact keep_new
    refine VC.intro ?_ ?_
    ·refine call_new (specSharesFor_ct _ (x) _ ?_) (Rp.mono _ (mem_at 1 rfl) hp) ?_
     ·trivial
     rintro v7 A7 o7
     obtain ⟨bS, cS, rfl, oS⟩ := o7
     have rS := Gt.owrd _ oS
     refine VC.intro ?_ ?_
     ·exact keep_sub (by simp) (by simp)
     refine ⟨fun x8 => ?_⟩
     refine VC.intro ?_ ?_
     ·exact keep_sub (by simp) (by simp)
     refine call_val (specBeginText_ct _ _ _ _ (x) (sharesForM x n) _ ?_) ⟨(Rp.mono _ (mem_at 2 rfl) hp), (Rp.mono _ (mem_at 0 rfl) rS)⟩ ?_
     ·trivial
     rintro _ rfl
     refine ⟨fun q10 => ?_, fun q10 => ?_⟩
     ·simp at q10
      exact ⟨[], an_no (by assumption), rlA⟩
     ·simp at q10
      (have hO := an_ow (n := n) oQ oS hn; exact ⟨_, an_yes (by assumption) hO, rlA⟩)
    ·refine VC.intro ?_ ?_
     ·refine ⟨fun x11 => ?_⟩
      refine VC.intro ?_ ?_
      ·exact keep_sub (by simp) (by simp)
      refine call_new (specSharesFor_ct _ (x) _ ?_) (Rp.mono _ (mem_at 1 rfl) hp) ?_
      ·trivial
      rintro v12 A12 o12
      obtain ⟨bS, cS, rfl, oS⟩ := o12
      have rS := Gt.owrd _ oS
      refine VC.intro ?_ ?_
      ·exact keep_sub (by simp) (by simp)
      refine call_val (specBeginText_ct _ _ _ _ (x) (sharesForM x n) _ ?_) ⟨(Rp.mono _ (mem_at 2 rfl) hp), (Rp.mono _ (mem_at 0 rfl) rS)⟩ ?_
      ·trivial
      rintro _ rfl
      refine ⟨fun q14 => ?_, fun q14 => ?_⟩
      ·simp at q14
       exact ⟨[], an_no (by assumption), rlA⟩
      ·simp at q14
       (have hO := an_ow (n := n) oQ oS hn; exact ⟨_, an_yes (by assumption) hO, rlA⟩)
     ·exact trivial
   ·refine VC.intro ?_ ?_
    ·refine ⟨fun x15 => ?_⟩
     refine VC.intro ?_ ?_
     ·exact keep_sub (by simp) (by simp)
     refine call_new (s_l08Copy_ct _ (x) ?_) (Rp.mono _ (mem_at 0 rfl) hp) ?_
     ·trivial
     rintro v16 A16 o16
     obtain ⟨lQ, rfl, oQ⟩ := o16
     have rQ := Gt.owrd _ oQ
     obtain ⟨bQ1, cQ1, bQ2, cQ2, bQ3, cQ3, rfl, hQ1, hQ2, hQ3⟩ := gQuery_rd.1 rQ
     refine VC.intro ?_ ?_
     ·exact keep_sub (by simp) (by simp)
     refine call_new (specSharesFor_ct _ (x) _ ?_) (Rp.mono _ (mem_at 1 rfl) hp) ?_
     ·trivial
     rintro v17 A17 o17
     obtain ⟨bS, cS, rfl, oS⟩ := o17
     have rS := Gt.owrd _ oS
     refine VC.intro ?_ ?_
     ·exact keep_sub (by simp) (by simp)
     refine call_val (specBeginText_ct _ _ _ _ (x) (sharesForM x n) _ ?_) ⟨(Rp.mono _ (mem_at 2 rfl) hp), (Rp.mono _ (mem_at 0 rfl) rS)⟩ ?_
     ·trivial
     rintro _ rfl
     refine ⟨fun q19 => ?_, fun q19 => ?_⟩
     ·simp at q19
      exact ⟨[], an_no (by assumption), rlA⟩
     ·simp at q19
      (have hO := an_ow (n := n) oQ oS hn; exact ⟨_, an_yes (by assumption) hO, rlA⟩)
    ·exact trivial
end
section
theorem dgs_size : ∀ (f k : Nat) (out : ByteArray), (dgs f k out).size ≤ f + out.size
 | 0, k, out => by simp [dgs]
 | f + 1, k, out => by
  unfold dgs
  split
  ·omega
  have := dgs_size f (k / 10) (⟨#[UInt8.ofNat (48 + k % 10)]⟩ ++ out)
  rw [ByteArray.size_append] at this
  have e : (⟨#[UInt8.ofNat (48 + k % 10)]⟩ : ByteArray).size = 1 := rfl
  omega
theorem sz1 (x : UInt8) : (⟨#[x]⟩ : ByteArray).size = 1 := rfl
theorem dgs_dig (q : Nat) : ((q : Int).tmod 10) = ((q % 10 : Nat) : Int) := by rw [Int.tmod_eq_emod_of_nonneg (by omega)]; omega
theorem dgs_fr (q : Nat) (o : ByteArray) : Value.string (⟨(([IntKind.u8.wrap (IntKind.i64.wrap (48 + (q : Int).tmod 10))] : List Int).map fun v => UInt8.ofNat v.toNat).toArray⟩ ++ o) = Value.string (⟨#[UInt8.ofNat (48 + q % 10)]⟩ ++ o) := by
 rw [dgs_dig]
 have h : IntKind.u8.wrap (IntKind.i64.wrap (48 + ((q % 10 : Nat) : Int))) = ((48 + q % 10 : Nat) : Int) := by
  simp (disch := omega) only [wrap_of, u8_wrap]; omega
 rw [h]; rfl
theorem mtx_size (k : Int) : (mtx k).size ≤ 9223372036854775807 := by
 unfold mtx
 split
 ·decide
 have := dgs_size 20 k.toNat .empty
 rw [ByteArray.size_append]
 have e : (⟨#[109]⟩ : ByteArray).size = 1 := rfl
 have e2 : ByteArray.empty.size = 0 := rfl
 omega
theorem markText_ct (k : Int) (h1 : k ≤ 4611686018427387904) : Ct prog 75 [.int .i64 k] [] (fun _ => True) (fun v A => v = .string (mtx k) ∧ A = []) := by
 refine Ct.intro0 G_ok func75 rfl rfl rfl fun E H hp => ?_
 refine ⟨fun q0 => ?_, fun q0 => ?_⟩
 ·simp at q0
  exact ⟨[], ⟨by unfold mtx; rw [if_pos (by omega)], rfl⟩, .mem (by simp)⟩
 ·simp at q0
  apply loop_mod (α := (Nat) × (Nat) × (ByteArray)) G_ok [6, 7, 8, 9, 10, 11, 12, 13, 14, 15, 3, 16, 17, 0] (fun z => [(3, .v (.string z.2.2)), (0, .v (.int .i64 z.2.1))]) (fun z => []) (fun z => [H]) (fun z => z.2.1) (fun z => dgs z.1 z.2.1 z.2.2 = dgs 20 k.toNat .empty ∧ z.2.1 < 10 ^ z.1 ∧ z.2.2.size + z.1 ≤ 20 ∧ z.2.1 ≤ 4611686018427387904) ((20, k.toNat, .empty))
  ·repeat' (first | exact trivial | refine ⟨⟨_, rfl, by first | rfl | exact inc_eq _ (by omega) | (refine sl_eq ?_; simp; done) | (refine svi_eq ?_; (try dsimp only); omega) | exact dgs_fr q o | (refine svi_eq ?_; (try dsimp only); rw [Int.tdiv_eq_ediv_of_nonneg (show (0 : Int) ≤ (q : Int) by omega)]; (try simp (disch := omega) only [wrap_of]); omega), by first | exact trivial | simp [SV.ok]⟩, ?_⟩)
  ·exact trivial
  ·try dsimp only
   exact ⟨rfl, by omega, by decide, by omega⟩
  ·exact .refl _
  rintro ⟨f, q, o⟩ hI
  try dsimp only at hI
  obtain ⟨hd, hq, hs, hm⟩ := hI
  try dsimp only
  refine ⟨fun q1 => ?_, fun q1 => ?_⟩
  ·simp at q1
   obtain ⟨f, rfl⟩ : ∃ f', f = f' + 1 := by cases f with | zero => simp at hq; omega | succ f' => exact ⟨f', rfl⟩
   refine VC.intro ?_ ?_
   ·trivial
   refine ⟨fun x2 => ?_⟩
   refine conv_bs G_ok (([IntKind.u8.wrap (IntKind.i64.wrap ((48 : Int) + (↑q : Int).tmod (10 : Int)))] : List Int).map fun v => UInt8.ofNat v.toNat) rfl (lit_bs [IntKind.u8.wrap (IntKind.i64.wrap ((48 : Int) + (↑q : Int).tmod (10 : Int)))] (mem_at 0 rfl _ (List.mem_singleton.2 rfl)) rfl ?_ (by simp)) rfl rfl rfl ?_
   ·(simp only [inU8, u8_wrap, and_true]; omega)
   refine VC.intro ?_ ?_
   ·(rw [bsz]; simp only [List.length_map, List.length_cons, List.length_nil]; have : IntKind.i64.max = 9223372036854775807 := rfl; omega)
   refine VC.intro ?_ ?_
   ·trivial
   apply loop_stepA (f, q / 10, ⟨#[UInt8.ofNat (48 + q % 10)]⟩ ++ o)
   ·exact .sub (by repeat (first | exact .slnil | apply List.Sublist.cons_cons | apply List.Sublist.cons))
   ·repeat' (first | exact trivial | refine ⟨⟨_, rfl, by first | rfl | exact inc_eq _ (by omega) | (refine sl_eq ?_; simp; done) | (refine svi_eq ?_; (try dsimp only); omega) | exact dgs_fr q o | (refine svi_eq ?_; (try dsimp only); rw [Int.tdiv_eq_ediv_of_nonneg (show (0 : Int) ≤ (q : Int) by omega)]; (try simp (disch := omega) only [wrap_of]); omega), by first | exact trivial | simp [SV.ok]⟩, ?_⟩)
   ·exact trivial
   ·try dsimp only
    exact ⟨by rw [← hd]; conv => rhs; unfold dgs; rw [if_neg (by omega : ¬ q = 0)], by rw [Nat.pow_succ] at hq; omega, by rw [ByteArray.size_append, sz1]; omega, by omega⟩
   try dsimp only
   omega
  ·simp at q1
   obtain rfl : q = 0 := by omega
   have hd0 : o = dgs 20 k.toNat .empty := by rw [← hd]; cases f <;> simp [dgs]
   refine VC.intro ?_ ?_
   ·(have e1 : (⟨#[109]⟩ : ByteArray).size = 1 := rfl; have : IntKind.i64.max = 9223372036854775807 := rfl; omega)
   exact ⟨[], ⟨by unfold mtx; rw [if_neg (by omega), hd0], rfl⟩, .mem (by simp)⟩
theorem markIntS_ct (b : Option Addr) (m c : Nat) (xs : List Int) (A : Hp) (k0 : Int) (ho : (gSl 3 gI).ow [.slice b m c] xs A) (h0 : 0 ≤ k0) (h1 : k0 + cntL gI xs ≤ 4611686018427387904) :
  CtR prog 62 [.slice b m c, .int .i64 k0] A (fun _ => True) (fun v A => v = .int .i64 (k0 + cntL gI xs) ∧ (gSl 3 gI).ow [.slice b m c] (mkL gI k0 xs) A) := by
 obtain ⟨rfl, hcl, hl⟩ := sl_len (Gt.owrd _ ho)
 refine CtR.intro G_ok [A] func62 rfl rfl rfl (by simp) fun E H hp => ?_
 apply loop_mod (α := (Nat) × (Hp)) G_ok [6, 7, 8, 9, 12, 13, 14, 15, 16, 17, 1, 10, 11, 5] (fun z => [(5, .v (.int .i64 z.1)), (1, .v (.int .i64 (k0 + cntL gI (xs.take z.1))))]) (fun z => []) (fun z => [z.2, H]) (fun z => xs.length - z.1) (fun z => z.1 ≤ xs.length ∧ (gSl 3 gI).ow [.slice b xs.length c] (mkL gI k0 (xs.take z.1) ++ xs.drop z.1) z.2) ((0, A))
 ·repeat' (first | exact trivial | refine ⟨⟨_, rfl, by first | rfl | exact inc_eq _ (by omega) | (refine sl_eq ?_; simp; done) | (refine svi_eq ?_; subst_vars; (try dsimp only); (try simp (disch := omega) only [wrap_of]); omega) | (simp [cntL]), by first | exact trivial | simp [SV.ok]⟩, ?_⟩)
 ·exact trivial
 ·try dsimp only
  exact ⟨by omega, by simpa [mkL] using ho⟩
 ·exact .refl _
 rintro ⟨k, B⟩ hI
 try dsimp only at hI
 obtain ⟨hk, oB⟩ := hI
 try dsimp only
 refine ⟨fun q0 => ?_, fun q0 => ?_⟩
 ·simp at q0
  have hs : cntL gI (xs.take (k + 1)) = cntL gI (xs.take k) + 1 := (cntL_step gI xs k 0 (by omega))
  have hs2 := cntL_take_le gI xs (k + 1)
  refine idx_rd (Gt.owrd _ oB) ?_ ?_ fun b1 o1 hb1 => ?_
  ·omega
  ·(rw [mk_len _ _ _ _ (by omega)]; omega)
  refine gstoreN (Fld.id _) 0 (k) 0 rfl rfl oB ?_ ?_ hb1 rfl gI_pl _ (gI_ow ?_) fun A2 o2 => ?_
  ·omega
  ·(rw [mk_len _ _ _ _ (by omega)]; omega)
  ·unfold okI; omega
  apply loop_stepA (k + 1, _)
  ·exact .refl _
  ·repeat' (first | exact trivial | refine ⟨⟨_, rfl, by first | rfl | exact inc_eq _ (by omega) | (refine sl_eq ?_; simp; done) | (refine svi_eq ?_; subst_vars; (try dsimp only); (try simp (disch := omega) only [wrap_of]); omega) | (simp [cntL]), by first | exact trivial | simp [SV.ok]⟩, ?_⟩)
  ·exact trivial
  ·try dsimp only
   exact ⟨by omega, by rw [← mk_step gI 0 xs k0 k (by omega)] ; assumption⟩
  try dsimp only
  omega
 ·simp at q0
  obtain rfl : k = xs.length := by omega
  rw [List.take_length, List.drop_length, List.append_nil] at oB
  exact ⟨_, ⟨by rw [List.take_length], oB⟩, rlA⟩
theorem heldIntS_ct (b : Option Addr) (m c : Nat) (xs : List Int) (k0 k1 : Int) (hk1 : k0 = k1) (h0 : 0 ≤ k0) (h1 : k0 + cntL gI xs ≤ 4611686018427387904) :
  Ct prog 66 [.slice b m c, .int .i64 k0] [] (fun H => (gSl 3 gI).rd H [.slice b m c] (mkL gI k1 xs)) (fun v A => v = .int .i64 (k0 + cntL gI xs) ∧ A = []) := by
 subst hk1
 refine Ct.intro0 G_ok func66 rfl rfl rfl fun E H hp => ?_
 have hm0 := (sl_len hp).1
 rw [mkL_len] at hm0; subst hm0
 obtain ⟨-, hcl, hl⟩ := sl_len hp
 rw [mkL_len] at hcl hl
 have hln := mkL_len gI xs k0
 apply loop_mod (α := (Nat)) G_ok [6, 7, 8, 9, 12, 13, 14, 15, 16, 17, 4, 18, 19, 1, 10, 11, 5] (fun z => [(5, .v (.int .i64 z)), (1, .v (.int .i64 (k0 + cntL gI (xs.take z))))]) (fun z => []) (fun z => [H]) (fun z => xs.length - z) (fun z => z ≤ xs.length) (0)
 ·repeat' (first | exact trivial | refine ⟨⟨_, rfl, by first | rfl | exact inc_eq _ (by omega) | (refine sl_eq ?_; simp; done) | (refine svi_eq ?_; (try dsimp only); (try simp (disch := omega) only [wrap_of]); omega) | (simp [cntL]), by first | exact trivial | simp [SV.ok]⟩, ?_⟩)
 ·exact trivial
 ·omega
 ·exact .refl _
 rintro k hI
 obtain hk : k ≤ xs.length := hI
 try dsimp only
 refine ⟨fun q0 => ?_, fun q0 => ?_⟩
 ·simp at q0
  have hs : cntL gI (xs.take (k + 1)) = cntL gI (xs.take k) + 1 := (cntL_step gI xs k 0 (by omega))
  have hs2 := cntL_take_le gI xs (k + 1)
  have hm : (mkL gI k0 xs)[k]?.getD 0 = k0 + cntL gI (xs.take k) := mkL_get gI 0 xs k0 k (by omega)
  refine idx_rd hp ?_ ?_ fun b1 o1 hb1 => ?_
  ·omega
  ·omega
  refine load_allN 0 (k) rfl hp ?_ ?_ hb1 rfl (mem_at 0 rfl) fun l2 hl2 => ?_
  ·omega
  ·omega
  rw [hm] at hl2
  obtain ⟨rfl, hw2⟩ := hl2; simp only [flStr, flInt, okI] at hw2
  refine ⟨fun q3 => ?_, fun q3 => ?_⟩
  ·simp at q3
  ·simp at q3
   apply loop_stepA (k + 1)
   ·exact .refl _
   ·repeat' (first | exact trivial | refine ⟨⟨_, rfl, by first | rfl | exact inc_eq _ (by omega) | (refine sl_eq ?_; simp; done) | (refine svi_eq ?_; (try dsimp only); (try simp (disch := omega) only [wrap_of]); omega) | (simp [cntL]), by first | exact trivial | simp [SV.ok]⟩, ?_⟩)
   ·exact trivial
   ·trivial
   omega
 ·simp at q0
  obtain rfl : k = xs.length := by omega
  exact ⟨[], ⟨by rw [List.take_length], rfl⟩, .mem (by simp)⟩
theorem markStringS_ct (b : Option Addr) (m c : Nat) (xs : List ByteArray) (A : Hp) (k0 : Int) (ho : (gSl 9 gS).ow [.slice b m c] xs A) (h0 : 0 ≤ k0) (h1 : k0 + cntL gS xs ≤ 4611686018427387904) :
  CtR prog 59 [.slice b m c, .int .i64 k0] A (fun _ => True) (fun v A => v = .int .i64 (k0 + cntL gS xs) ∧ (gSl 9 gS).ow [.slice b m c] (mkL gS k0 xs) A) := by
 obtain ⟨rfl, hcl, hl⟩ := sl_len (Gt.owrd _ ho)
 refine CtR.intro G_ok [A] func59 rfl rfl rfl (by simp) fun E H hp => ?_
 apply loop_mod (α := (Nat) × (Hp)) G_ok [6, 7, 8, 9, 12, 13, 14, 15, 16, 17, 18, 1, 10, 11, 5] (fun z => [(5, .v (.int .i64 z.1)), (1, .v (.int .i64 (k0 + cntL gS (xs.take z.1))))]) (fun z => []) (fun z => [z.2, H]) (fun z => xs.length - z.1) (fun z => z.1 ≤ xs.length ∧ (gSl 9 gS).ow [.slice b xs.length c] (mkL gS k0 (xs.take z.1) ++ xs.drop z.1) z.2) ((0, A))
 ·repeat' (first | exact trivial | refine ⟨⟨_, rfl, by first | rfl | exact inc_eq _ (by omega) | (refine sl_eq ?_; simp; done) | (refine svi_eq ?_; subst_vars; (try dsimp only); (try simp (disch := omega) only [wrap_of]); omega) | (simp [cntL]), by first | exact trivial | simp [SV.ok]⟩, ?_⟩)
 ·exact trivial
 ·try dsimp only
  exact ⟨by omega, by simpa [mkL] using ho⟩
 ·exact .refl _
 rintro ⟨k, B⟩ hI
 try dsimp only at hI
 obtain ⟨hk, oB⟩ := hI
 try dsimp only
 refine ⟨fun q0 => ?_, fun q0 => ?_⟩
 ·simp at q0
  have hs : cntL gS (xs.take (k + 1)) = cntL gS (xs.take k) + 1 := (cntL_step gS xs k ByteArray.empty (by omega))
  have hs2 := cntL_take_le gS xs (k + 1)
  refine call_val (markText_ct _ ?_) trivial ?_
  ·omega
  rintro _ rfl
  refine idx_rd (Gt.owrd _ oB) ?_ ?_ fun b2 o2 hb2 => ?_
  ·omega
  ·(rw [mk_len _ _ _ _ (by omega)]; omega)
  refine gstoreN (Fld.id _) ByteArray.empty (k) 0 rfl rfl oB ?_ ?_ hb2 rfl fl_pl _ (gS_ow ?_) fun A3 o3 => ?_
  ·omega
  ·(rw [mk_len _ _ _ _ (by omega)]; omega)
  ·exact mtx_size _
  apply loop_stepA (k + 1, _)
  ·exact .refl _
  ·repeat' (first | exact trivial | refine ⟨⟨_, rfl, by first | rfl | exact inc_eq _ (by omega) | (refine sl_eq ?_; simp; done) | (refine svi_eq ?_; subst_vars; (try dsimp only); (try simp (disch := omega) only [wrap_of]); omega) | (simp [cntL]), by first | exact trivial | simp [SV.ok]⟩, ?_⟩)
  ·exact trivial
  ·try dsimp only
   exact ⟨by omega, by rw [← mk_step gS ByteArray.empty xs k0 k (by omega)] ; assumption⟩
  try dsimp only
  omega
 ·simp at q0
  obtain rfl : k = xs.length := by omega
  rw [List.take_length, List.drop_length, List.append_nil] at oB
  exact ⟨_, ⟨by rw [List.take_length], oB⟩, rlA⟩
theorem heldStringS_ct (b : Option Addr) (m c : Nat) (xs : List ByteArray) (k0 k1 : Int) (hk1 : k0 = k1) (h0 : 0 ≤ k0) (h1 : k0 + cntL gS xs ≤ 4611686018427387904) :
  Ct prog 117 [.slice b m c, .int .i64 k0] [] (fun H => (gSl 9 gS).rd H [.slice b m c] (mkL gS k1 xs)) (fun v A => v = .int .i64 (k0 + cntL gS xs) ∧ A = []) := by
 subst hk1
 refine Ct.intro0 G_ok func117 rfl rfl rfl fun E H hp => ?_
 have hm0 := (sl_len hp).1
 rw [mkL_len] at hm0; subst hm0
 obtain ⟨-, hcl, hl⟩ := sl_len hp
 rw [mkL_len] at hcl hl
 have hln := mkL_len gS xs k0
 apply loop_mod (α := (Nat)) G_ok [6, 7, 8, 9, 12, 13, 14, 15, 16, 17, 18, 4, 19, 20, 1, 10, 11, 5] (fun z => [(5, .v (.int .i64 z)), (1, .v (.int .i64 (k0 + cntL gS (xs.take z))))]) (fun z => []) (fun z => [H]) (fun z => xs.length - z) (fun z => z ≤ xs.length) (0)
 ·repeat' (first | exact trivial | refine ⟨⟨_, rfl, by first | rfl | exact inc_eq _ (by omega) | (refine sl_eq ?_; simp; done) | (refine svi_eq ?_; (try dsimp only); (try simp (disch := omega) only [wrap_of]); omega) | (simp [cntL]), by first | exact trivial | simp [SV.ok]⟩, ?_⟩)
 ·exact trivial
 ·omega
 ·exact .refl _
 rintro k hI
 obtain hk : k ≤ xs.length := hI
 try dsimp only
 refine ⟨fun q0 => ?_, fun q0 => ?_⟩
 ·simp at q0
  have hs : cntL gS (xs.take (k + 1)) = cntL gS (xs.take k) + 1 := (cntL_step gS xs k ByteArray.empty (by omega))
  have hs2 := cntL_take_le gS xs (k + 1)
  have hm : (mkL gS k0 xs)[k]?.getD ByteArray.empty = mtx (k0 + cntL gS (xs.take k)) := mkL_get gS ByteArray.empty xs k0 k (by omega)
  refine draw G_ok mixed none (.q 0 (.q 1 (.q 2 (.q 3 (.q 4 (.f 5 (.q 6 (.nil)))))))) (by decide +kernel) ?_
  refine idx_rd hp ?_ ?_ fun b1 o1 hb1 => ?_
  ·omega
  ·omega
  refine load_allN ByteArray.empty (k) rfl hp ?_ ?_ hb1 rfl (mem_at 0 rfl) fun l2 hl2 => ?_
  ·omega
  ·omega
  rw [hm] at hl2
  obtain ⟨rfl, hw2⟩ := hl2; simp only [flStr, flInt, okI] at hw2
  refine call_val (markText_ct _ ?_) trivial ?_
  ·omega
  rintro _ rfl
  refine VC.intro ?_ ?_
  ·exact fun _ h => h
  refine ⟨fun q4 => ?_, fun q4 => ?_⟩
  ·simp at q4
  ·simp at q4
   apply loop_stepA (k + 1)
   ·exact .refl _
   ·repeat' (first | exact trivial | refine ⟨⟨_, rfl, by first | rfl | exact inc_eq _ (by omega) | (refine sl_eq ?_; simp; done) | (refine svi_eq ?_; (try dsimp only); (try simp (disch := omega) only [wrap_of]); omega) | (simp [cntL]), by first | exact trivial | simp [SV.ok]⟩, ?_⟩)
   ·exact trivial
   ·trivial
   omega
 ·simp at q0
  obtain rfl : k = xs.length := by omega
  exact ⟨[], ⟨by rw [List.take_length], rfl⟩, .mem (by simp)⟩
theorem markItemS_ct (b : Option Addr) (m c : Nat) (xs : List Item) (A : Hp) (k0 : Int) (ho : (gSl 134 gItem).ow [.slice b m c] xs A) (h0 : 0 ≤ k0) (h1 : k0 + cntL gItem xs ≤ 4611686018427387904) :
  CtR prog 116 [.slice b m c, .int .i64 k0] A (fun _ => True) (fun v A => v = .int .i64 (k0 + cntL gItem xs) ∧ (gSl 134 gItem).ow [.slice b m c] (mkL gItem k0 xs) A) := by
 obtain ⟨rfl, hcl, hl⟩ := sl_len (Gt.owrd _ ho)
 refine CtR.intro G_ok [A] func116 rfl rfl rfl (by simp) fun E H hp => ?_
 apply loop_mod (α := (Nat) × (Hp)) G_ok [6, 7, 8, 9, 12, 13, 14, 15, 16, 17, 18, 1, 19, 20, 21, 22, 23, 24, 25, 10, 11, 5] (fun z => [(5, .v (.int .i64 z.1)), (1, .v (.int .i64 (k0 + cntL gItem (xs.take z.1))))]) (fun z => []) (fun z => [z.2, H]) (fun z => xs.length - z.1) (fun z => z.1 ≤ xs.length ∧ (gSl 134 gItem).ow [.slice b xs.length c] (mkL gItem k0 (xs.take z.1) ++ xs.drop z.1) z.2) ((0, A))
 ·repeat' (first | exact trivial | refine ⟨⟨_, rfl, by first | rfl | exact inc_eq _ (by omega) | (refine sl_eq ?_; simp; done) | (refine svi_eq ?_; subst_vars; (try dsimp only); (try simp (disch := omega) only [wrap_of]); omega) | (simp [cntL]), by first | exact trivial | simp [SV.ok]⟩, ?_⟩)
 ·exact trivial
 ·try dsimp only
  exact ⟨by omega, by simpa [mkL] using ho⟩
 ·exact .refl _
 rintro ⟨k, B⟩ hI
 try dsimp only at hI
 obtain ⟨hk, oB⟩ := hI
 try dsimp only
 refine ⟨fun q0 => ?_, fun q0 => ?_⟩
 ·simp at q0
  have hs := (cntL_step gItem xs k default (by omega))
  simp only [gItem_cnt] at hs
  have hs2 := cntL_take_le gItem xs (k + 1)
  obtain ⟨y, ey, oe⟩ := OwE.mk default k oB (by rw [mk_len _ _ _ _ (by omega)]; omega)
  rw [mk_get _ _ _ _ _ (by omega)] at ey
  clear oB
  refine oe_idx oe ?_ fun b1 o1 hb1 => ?_
  ·rfl
  refine oe_load gItem_row oe rfl hb1 rfl (mem_at 0 rfl) fun l2 hl2 hf2 => ?_
  obtain ⟨u2, w2, rfl, hl2⟩ := sl_rd hl2
  refine call_foc 0 rfl hf2 (fun Af3 oa3 => markIntS_ct _ _ _ _ _ _ oa3 ?_ ?_) (fun _ _ => trivial) ?_
  ·omega
  ·simp_all; omega
  rintro _ A3 rfl ⟨y3, ey3, o3⟩
  try dsimp only at ey3
  refine oe_idx o3 ?_ fun b4 o4 hb4 => ?_
  ·rfl
  refine oe_store gItem_times 0 rfl o3 rfl hb4 rfl gI_pl _ (gI_ow ?_) fun y5 A5 ey5 o5 => ?_
  ·(subst_vars; unfold okI; (try dsimp only at *); omega)
  apply loop_stepA (k + 1, _)
  ·exact .refl _
  ·repeat' (first | exact trivial | refine ⟨⟨_, rfl, by first | rfl | exact inc_eq _ (by omega) | (refine sl_eq ?_; simp; done) | (refine svi_eq ?_; subst_vars; (try dsimp only); (try simp (disch := omega) only [wrap_of]); omega) | (simp [cntL]), by first | exact trivial | simp [SV.ok]⟩, ?_⟩)
  ·exact trivial
  ·try dsimp only
   exact ⟨by omega, OwE.done (by assumption) (by rw [← mk_step gItem default xs k0 k (by omega)]; congr 1; subst_vars; (try simp only [gItem_mark, gItem_cnt]); (try simp (disch := omega) only [wrap_of]); (try rfl))⟩
  try dsimp only
  omega
 ·simp at q0
  obtain rfl : k = xs.length := by omega
  rw [List.take_length, List.drop_length, List.append_nil] at oB
  exact ⟨_, ⟨by rw [List.take_length], oB⟩, rlA⟩
theorem heldItemS_ct (b : Option Addr) (m c : Nat) (xs : List Item) (k0 k1 : Int) (hk1 : k0 = k1) (h0 : 0 ≤ k0) (h1 : k0 + cntL gItem xs ≤ 4611686018427387904) :
  Ct prog 120 [.slice b m c, .int .i64 k0] [] (fun H => (gSl 134 gItem).rd H [.slice b m c] (mkL gItem k1 xs)) (fun v A => v = .int .i64 (k0 + cntL gItem xs) ∧ A = []) := by
 subst hk1
 refine Ct.intro0 G_ok func120 rfl rfl rfl fun E H hp => ?_
 have hm0 := (sl_len hp).1
 rw [mkL_len] at hm0; subst hm0
 obtain ⟨-, hcl, hl⟩ := sl_len hp
 rw [mkL_len] at hcl hl
 have hln := mkL_len gItem xs k0
 apply loop_mod (α := (Nat)) G_ok [6, 7, 8, 9, 12, 13, 14, 15, 16, 17, 18, 1, 19, 20, 4, 21, 22, 23, 24, 25, 26, 27, 28, 29, 10, 11, 5] (fun z => [(5, .v (.int .i64 z)), (1, .v (.int .i64 (k0 + cntL gItem (xs.take z))))]) (fun z => []) (fun z => [H]) (fun z => xs.length - z) (fun z => z ≤ xs.length) (0)
 ·repeat' (first | exact trivial | refine ⟨⟨_, rfl, by first | rfl | exact inc_eq _ (by omega) | (refine sl_eq ?_; simp; done) | (refine svi_eq ?_; (try dsimp only); (try simp (disch := omega) only [wrap_of]); omega) | (simp [cntL]), by first | exact trivial | simp [SV.ok]⟩, ?_⟩)
 ·exact trivial
 ·omega
 ·exact .refl _
 rintro k hI
 obtain hk : k ≤ xs.length := hI
 try dsimp only
 refine ⟨fun q0 => ?_, fun q0 => ?_⟩
 ·simp at q0
  have hs := (cntL_step gItem xs k default (by omega))
  simp only [gItem_cnt] at hs
  have hs2 := cntL_take_le gItem xs (k + 1)
  have hm := mkL_get gItem default xs k0 k (by omega)
  simp only [gItem_mark, gItem_cnt] at hm
  refine idx_rd hp ?_ ?_ fun b1 o1 hb1 => ?_
  ·omega
  ·omega
  refine load_partN default (k) 0 rfl hp ?_ ?_ hb1 rfl (by decide) (mem_at 0 rfl) fun l2 hl2 => ?_
  ·omega
  ·omega
  rw [hm] at hl2
  obtain ⟨b0x2, c0x2, rfl, h0x2, w1x2⟩ := gItem_rd.1 hl2
  refine call_val (heldIntS_ct _ _ _ _ _ _ ?_ ?_ ?_) (Rp.mono _ (mem_at 0 rfl) h0x2) ?_
  ·rfl
  ·omega
  ·omega
  rintro _ rfl
  refine ⟨fun q4 => ?_, fun q4 => ?_⟩
  ·simp at q4
   exfalso; omega
  ·simp at q4
   refine idx_rd hp ?_ ?_ fun b5 o5 hb5 => ?_
   ·omega
   ·omega
   refine load_partN default (k) 1 rfl hp ?_ ?_ hb5 rfl (by decide) (mem_at 0 rfl) fun l6 hl6 => ?_
   ·omega
   ·omega
   rw [hm] at hl6
   obtain ⟨b0x6, c0x6, rfl, h0x6, w1x6⟩ := gItem_rd.1 hl6
   refine ⟨fun q7 => ?_, fun q7 => ?_⟩
   ·simp at q7
   ·simp at q7
    apply loop_stepA (k + 1)
    ·exact .refl _
    ·repeat' (first | exact trivial | refine ⟨⟨_, rfl, by first | rfl | exact inc_eq _ (by omega) | (refine sl_eq ?_; simp; done) | (refine svi_eq ?_; (try dsimp only); (try simp (disch := omega) only [wrap_of]); omega) | (simp [cntL]), by first | exact trivial | simp [SV.ok]⟩, ?_⟩)
    ·exact trivial
    ·trivial
    omega
 ·simp at q0
  obtain rfl : k = xs.length := by omega
  exact ⟨[], ⟨by rw [List.take_length], rfl⟩, .mem (by simp)⟩
theorem markBag_ct (l : List Value) (x : Bag) (A : Hp) (k0 : Int) (ho : gBag.ow l x A) (h0 : 0 ≤ k0) (h1 : k0 + gBag.cntV x ≤ 4611686018427387904) :
  CtR prog 64 [.agg ⟨l⟩, .int .i64 k0] A (fun _ => True) (fun v A => v = .int .i64 (k0 + gBag.cntV x) ∧ gBag.ow l (gBag.markV k0 x) A) := by
 obtain ⟨b0, c0, A0, rfl, hpm, h0⟩ := gBag_ow.1 ho
 have hz := gBag_cntV x
 refine CtR.introP G_ok [A0] func64 rfl rfl rfl (hpm.trans (by simp)) fun E H hp => ?_
 refine ⟨fun x0 => ?_⟩
 refine callR_at 0 rfl (markItemS_ct _ _ _ _ _ _ h0 ?_ ?_) trivial ?_
 ·trivial
 ·trivial
 rintro _ A1 ⟨rfl, o1⟩
 exact ⟨_, ⟨by rw [hz]; (try simp); (try omega), by rw [gBag_markV]; exact gBag_ow.2 ⟨_, _, _, by simp only [mkL_len]; rfl, .refl _, by rw [mkL_len]; assumption⟩⟩, rlA⟩
theorem heldBag_ct (l : List Value) (x : Bag) (k0 k1 : Int) (hk1 : k0 = k1) (h0 : 0 ≤ k0) (h1 : k0 + gBag.cntV x ≤ 4611686018427387904) :
  Ct prog 68 [.agg ⟨l⟩, .int .i64 k0] [] (fun H => gBag.rd H l (gBag.markV k1 x)) (fun v A => v = .int .i64 (k0 + gBag.cntV x) ∧ A = []) := by
 subst hk1
 refine Ct.intro0 G_ok func68 rfl rfl rfl fun E H hp => ?_
 rw [gBag_markV] at hp
 obtain ⟨b0, c0, rfl, h0⟩ := gBag_rd.1 hp
 have hz := gBag_cntV x
 refine ⟨fun x0 => ?_⟩
 refine call_val (heldItemS_ct _ _ _ _ _ _ ?_ ?_ ?_) (Rp.mono _ (mem_at 0 rfl) h0) ?_
 ·rfl
 ·trivial
 ·trivial
 rintro _ rfl
 refine ⟨fun q2 => ?_, fun q2 => ?_⟩
 ·simp at q2
  exfalso; omega
 ·simp at q2
  try dsimp only
  exact ⟨[], ⟨by rw [hz]; (try simp); (try omega), rfl⟩, .mem (by simp)⟩
theorem markAtomS_ct (b : Option Addr) (m c : Nat) (xs : List Atom) (A : Hp) (k0 : Int) (ho : (gSl 154 gAtom).ow [.slice b m c] xs A) (h0 : 0 ≤ k0) (h1 : k0 + cntL gAtom xs ≤ 4611686018427387904) :
  CtR prog 60 [.slice b m c, .int .i64 k0] A (fun _ => True) (fun v A => v = .int .i64 (k0 + cntL gAtom xs) ∧ (gSl 154 gAtom).ow [.slice b m c] (mkL gAtom k0 xs) A) := by
 obtain ⟨rfl, hcl, hl⟩ := sl_len (Gt.owrd _ ho)
 refine CtR.intro G_ok [A] func60 rfl rfl rfl (by simp) fun E H hp => ?_
 apply loop_mod (α := (Nat) × (Hp)) G_ok [6, 7, 8, 9, 12, 13, 14, 15, 16, 17, 18, 19, 1, 20, 21, 22, 23, 24, 25, 26, 27, 28, 29, 30, 31, 32, 33, 34, 35, 10, 11, 5] (fun z => [(5, .v (.int .i64 z.1)), (1, .v (.int .i64 (k0 + cntL gAtom (xs.take z.1))))]) (fun z => []) (fun z => [z.2, H]) (fun z => xs.length - z.1) (fun z => z.1 ≤ xs.length ∧ (gSl 154 gAtom).ow [.slice b xs.length c] (mkL gAtom k0 (xs.take z.1) ++ xs.drop z.1) z.2) ((0, A))
 ·repeat' (first | exact trivial | refine ⟨⟨_, rfl, by first | rfl | exact inc_eq _ (by omega) | (refine sl_eq ?_; simp; done) | (refine svi_eq ?_; subst_vars; (try dsimp only); (try simp (disch := omega) only [wrap_of]); omega) | (simp [cntL]), by first | exact trivial | simp [SV.ok]⟩, ?_⟩)
 ·exact trivial
 ·try dsimp only
  exact ⟨by omega, by simpa [mkL] using ho⟩
 ·exact .refl _
 rintro ⟨k, B⟩ hI
 try dsimp only at hI
 obtain ⟨hk, oB⟩ := hI
 try dsimp only
 refine ⟨fun q0 => ?_, fun q0 => ?_⟩
 ·simp at q0
  have hs := (cntL_step gAtom xs k default (by omega))
  simp only [gAtom_cnt] at hs
  have hs2 := cntL_take_le gAtom xs (k + 1)
  obtain ⟨y, ey, oe⟩ := OwE.mk default k oB (by rw [mk_len _ _ _ _ (by omega)]; omega)
  rw [mk_get _ _ _ _ _ (by omega)] at ey
  clear oB
  refine call_val (markText_ct _ ?_) trivial ?_
  ·omega
  rintro _ rfl
  refine oe_idx oe ?_ fun b2 o2 hb2 => ?_
  ·rfl
  refine oe_store gAtom_from 0 rfl oe rfl hb2 rfl fl_pl _ (gS_ow ?_) fun y3 A3 ey3 o3 => ?_
  ·exact mtx_size _
  refine call_val (markText_ct _ ?_) trivial ?_
  ·(simp (disch := omega) only [wrap_of]; omega)
  rintro _ rfl
  refine oe_idx o3 ?_ fun b5 o5 hb5 => ?_
  ·rfl
  refine oe_store gAtom_path 0 rfl o3 rfl hb5 rfl fl_pl _ (gS_ow ?_) fun y6 A6 ey6 o6 => ?_
  ·exact mtx_size _
  refine call_val (markText_ct _ ?_) trivial ?_
  ·(simp (disch := omega) only [wrap_of]; omega)
  rintro _ rfl
  refine oe_idx o6 ?_ fun b8 o8 hb8 => ?_
  ·rfl
  refine oe_store gAtom_to 0 rfl o6 rfl hb8 rfl fl_pl _ (gS_ow ?_) fun y9 A9 ey9 o9 => ?_
  ·exact mtx_size _
  apply loop_stepA (k + 1, _)
  ·exact .refl _
  ·repeat' (first | exact trivial | refine ⟨⟨_, rfl, by first | rfl | exact inc_eq _ (by omega) | (refine sl_eq ?_; simp; done) | (refine svi_eq ?_; subst_vars; (try dsimp only); (try simp (disch := omega) only [wrap_of]); omega) | (simp [cntL]), by first | exact trivial | simp [SV.ok]⟩, ?_⟩)
  ·exact trivial
  ·try dsimp only
   exact ⟨by omega, OwE.done (by assumption) (by rw [← mk_step gAtom default xs k0 k (by omega)]; congr 1; subst_vars; (try simp only [gAtom_mark, gAtom_cnt]); (try simp (disch := omega) only [wrap_of]); (try rfl))⟩
  try dsimp only
  omega
 ·simp at q0
  obtain rfl : k = xs.length := by omega
  rw [List.take_length, List.drop_length, List.append_nil] at oB
  exact ⟨_, ⟨by rw [List.take_length], oB⟩, rlA⟩
theorem heldAtomS_ct (b : Option Addr) (m c : Nat) (xs : List Atom) (k0 k1 : Int) (hk1 : k0 = k1) (h0 : 0 ≤ k0) (h1 : k0 + cntL gAtom xs ≤ 4611686018427387904) :
  Ct prog 118 [.slice b m c, .int .i64 k0] [] (fun H => (gSl 154 gAtom).rd H [.slice b m c] (mkL gAtom k1 xs)) (fun v A => v = .int .i64 (k0 + cntL gAtom xs) ∧ A = []) := by
 subst hk1
 refine Ct.intro0 G_ok func118 rfl rfl rfl fun E H hp => ?_
 have hm0 := (sl_len hp).1
 rw [mkL_len] at hm0; subst hm0
 obtain ⟨-, hcl, hl⟩ := sl_len hp
 rw [mkL_len] at hcl hl
 have hln := mkL_len gAtom xs k0
 apply loop_mod (α := (Nat)) G_ok [6, 7, 8, 9, 12, 13, 14, 15, 16, 17, 18, 19, 4, 20, 21, 1, 22, 23, 24, 25, 26, 27, 28, 29, 30, 31, 32, 33, 34, 35, 36, 37, 38, 39, 40, 41, 10, 11, 5] (fun z => [(5, .v (.int .i64 z)), (1, .v (.int .i64 (k0 + cntL gAtom (xs.take z))))]) (fun z => []) (fun z => [H]) (fun z => xs.length - z) (fun z => z ≤ xs.length) (0)
 ·repeat' (first | exact trivial | refine ⟨⟨_, rfl, by first | rfl | exact inc_eq _ (by omega) | (refine sl_eq ?_; simp; done) | (refine svi_eq ?_; (try dsimp only); (try simp (disch := omega) only [wrap_of]); omega) | (simp [cntL]), by first | exact trivial | simp [SV.ok]⟩, ?_⟩)
 ·exact trivial
 ·omega
 ·exact .refl _
 rintro k hI
 obtain hk : k ≤ xs.length := hI
 try dsimp only
 refine ⟨fun q0 => ?_, fun q0 => ?_⟩
 ·simp at q0
  have hs := (cntL_step gAtom xs k default (by omega))
  simp only [gAtom_cnt] at hs
  have hs2 := cntL_take_le gAtom xs (k + 1)
  have hm := mkL_get gAtom default xs k0 k (by omega)
  simp only [gAtom_mark, gAtom_cnt] at hm
  refine draw G_ok mixed none (.q 0 (.q 1 (.q 2 (.q 3 (.q 4 (.q 5 (.f 6 (.q 7 (.nil))))))))) (by decide +kernel) ?_
  refine idx_rd hp ?_ ?_ fun b1 o1 hb1 => ?_
  ·omega
  ·omega
  refine load_partN default (k) 0 rfl hp ?_ ?_ hb1 rfl (by decide) (mem_at 0 rfl) fun l2 hl2 => ?_
  ·omega
  ·omega
  rw [hm] at hl2
  obtain ⟨rfl, w0x2, w1x2, w2x2⟩ := gAtom_rd.1 hl2
  refine call_val (markText_ct _ ?_) trivial ?_
  ·omega
  rintro _ rfl
  refine VC.intro ?_ ?_
  ·exact fun _ h => h
  refine ⟨fun q4 => ?_, fun q4 => ?_⟩
  ·simp at q4
  ·simp at q4
   refine draw G_ok mixed none (.q 0 (.q 1 (.q 2 (.q 3 (.q 4 (.q 5 (.f 6 (.q 7 (.nil))))))))) (by decide +kernel) ?_
   refine idx_rd hp ?_ ?_ fun b5 o5 hb5 => ?_
   ·omega
   ·omega
   refine load_partN default (k) 1 rfl hp ?_ ?_ hb5 rfl (by decide) (mem_at 0 rfl) fun l6 hl6 => ?_
   ·omega
   ·omega
   rw [hm] at hl6
   obtain ⟨rfl, w0x6, w1x6, w2x6⟩ := gAtom_rd.1 hl6
   refine call_val (markText_ct _ ?_) trivial ?_
   ·(simp (disch := omega) only [wrap_of]; omega)
   rintro _ rfl
   refine VC.intro ?_ ?_
   ·exact fun _ h => h
   refine ⟨fun q8 => ?_, fun q8 => ?_⟩
   ·simp at q8
    simp only [str_inj, u8_inj, u8_wrap] at q8
    simp (disch := omega) only [wrap_of] at q8
    exact absurd trivial q8
   ·simp at q8
    simp only [str_inj, u8_inj, u8_wrap] at q8
    simp (disch := omega) only [wrap_of] at q8
    refine draw G_ok mixed none (.q 0 (.q 1 (.q 2 (.q 3 (.q 4 (.q 5 (.f 6 (.q 7 (.nil))))))))) (by decide +kernel) ?_
    refine idx_rd hp ?_ ?_ fun b9 o9 hb9 => ?_
    ·omega
    ·omega
    refine load_partN default (k) 2 rfl hp ?_ ?_ hb9 rfl (by decide) (mem_at 0 rfl) fun l10 hl10 => ?_
    ·omega
    ·omega
    rw [hm] at hl10
    obtain ⟨rfl, w0x10, w1x10, w2x10⟩ := gAtom_rd.1 hl10
    refine call_val (markText_ct _ ?_) trivial ?_
    ·(simp (disch := omega) only [wrap_of]; omega)
    rintro _ rfl
    refine VC.intro ?_ ?_
    ·exact fun _ h => h
    refine ⟨fun q12 => ?_, fun q12 => ?_⟩
    ·simp at q12
     simp only [str_inj, u8_inj, u8_wrap] at q12
     simp (disch := omega) only [wrap_of] at q12
     exact absurd trivial q12
    ·simp at q12
     simp only [str_inj, u8_inj, u8_wrap] at q12
     simp (disch := omega) only [wrap_of] at q12
     apply loop_stepA (k + 1)
     ·exact .refl _
     ·repeat' (first | exact trivial | refine ⟨⟨_, rfl, by first | rfl | exact inc_eq _ (by omega) | (refine sl_eq ?_; simp; done) | (refine svi_eq ?_; (try dsimp only); (try simp (disch := omega) only [wrap_of]); omega) | (simp [cntL]), by first | exact trivial | simp [SV.ok]⟩, ?_⟩)
     ·exact trivial
     ·trivial
     omega
 ·simp at q0
  obtain rfl : k = xs.length := by omega
  exact ⟨[], ⟨by rw [List.take_length], rfl⟩, .mem (by simp)⟩
theorem markFilterS_ct (b : Option Addr) (m c : Nat) (xs : List Filter) (A : Hp) (k0 : Int) (ho : (gSl 157 gFilter).ow [.slice b m c] xs A) (h0 : 0 ≤ k0) (h1 : k0 + cntL gFilter xs ≤ 4611686018427387904) :
  CtR prog 61 [.slice b m c, .int .i64 k0] A (fun _ => True) (fun v A => v = .int .i64 (k0 + cntL gFilter xs) ∧ (gSl 157 gFilter).ow [.slice b m c] (mkL gFilter k0 xs) A) := by
 obtain ⟨rfl, hcl, hl⟩ := sl_len (Gt.owrd _ ho)
 refine CtR.intro G_ok [A] func61 rfl rfl rfl (by simp) fun E H hp => ?_
 apply loop_mod (α := (Nat) × (Hp)) G_ok [6, 7, 8, 9, 12, 13, 14, 15, 16, 17, 18, 19, 1, 20, 21, 22, 23, 24, 25, 26, 27, 28, 29, 30, 31, 32, 33, 34, 35, 36, 37, 38, 39, 40, 41, 10, 11, 5] (fun z => [(5, .v (.int .i64 z.1)), (1, .v (.int .i64 (k0 + cntL gFilter (xs.take z.1))))]) (fun z => []) (fun z => [z.2, H]) (fun z => xs.length - z.1) (fun z => z.1 ≤ xs.length ∧ (gSl 157 gFilter).ow [.slice b xs.length c] (mkL gFilter k0 (xs.take z.1) ++ xs.drop z.1) z.2) ((0, A))
 ·repeat' (first | exact trivial | refine ⟨⟨_, rfl, by first | rfl | exact inc_eq _ (by omega) | (refine sl_eq ?_; simp; done) | (refine svi_eq ?_; subst_vars; (try dsimp only); (try simp (disch := omega) only [wrap_of]); omega) | (simp [cntL]), by first | exact trivial | simp [SV.ok]⟩, ?_⟩)
 ·exact trivial
 ·try dsimp only
  exact ⟨by omega, by simpa [mkL] using ho⟩
 ·exact .refl _
 rintro ⟨k, B⟩ hI
 try dsimp only at hI
 obtain ⟨hk, oB⟩ := hI
 try dsimp only
 refine ⟨fun q0 => ?_, fun q0 => ?_⟩
 ·simp at q0
  have hs := (cntL_step gFilter xs k default (by omega))
  simp only [gFilter_cnt] at hs
  have hs2 := cntL_take_le gFilter xs (k + 1)
  obtain ⟨y, ey, oe⟩ := OwE.mk default k oB (by rw [mk_len _ _ _ _ (by omega)]; omega)
  rw [mk_get _ _ _ _ _ (by omega)] at ey
  clear oB
  refine call_val (markText_ct _ ?_) trivial ?_
  ·omega
  rintro _ rfl
  refine oe_idx oe ?_ fun b2 o2 hb2 => ?_
  ·rfl
  refine oe_store gFilter_left 0 rfl oe rfl hb2 rfl fl_pl _ (gS_ow ?_) fun y3 A3 ey3 o3 => ?_
  ·exact mtx_size _
  refine oe_idx o3 ?_ fun b4 o4 hb4 => ?_
  ·rfl
  refine oe_store gFilter_op 0 rfl o3 rfl hb4 rfl gI_pl _ (gI_ow ?_) fun y5 A5 ey5 o5 => ?_
  ·exact okI_wrap _
  refine call_val (markText_ct _ ?_) trivial ?_
  ·(simp (disch := omega) only [wrap_of]; omega)
  rintro _ rfl
  refine oe_idx o5 ?_ fun b7 o7 hb7 => ?_
  ·rfl
  refine oe_store gFilter_right 0 rfl o5 rfl hb7 rfl fl_pl _ (gS_ow ?_) fun y8 A8 ey8 o8 => ?_
  ·exact mtx_size _
  refine oe_idx o8 ?_ fun b9 o9 hb9 => ?_
  ·rfl
  refine oe_store gFilter_num 0 rfl o8 rfl hb9 rfl gI_pl _ (gI_ow ?_) fun y10 A10 ey10 o10 => ?_
  ·exact okI_wrap _
  apply loop_stepA (k + 1, _)
  ·exact .refl _
  ·repeat' (first | exact trivial | refine ⟨⟨_, rfl, by first | rfl | exact inc_eq _ (by omega) | (refine sl_eq ?_; simp; done) | (refine svi_eq ?_; subst_vars; (try dsimp only); (try simp (disch := omega) only [wrap_of]); omega) | (simp [cntL]), by first | exact trivial | simp [SV.ok]⟩, ?_⟩)
  ·exact trivial
  ·try dsimp only
   exact ⟨by omega, OwE.done (by assumption) (by rw [← mk_step gFilter default xs k0 k (by omega)]; congr 1; subst_vars; (try simp only [gFilter_mark, gFilter_cnt]); (try simp (disch := omega) only [wrap_of]); (try rfl))⟩
  try dsimp only
  omega
 ·simp at q0
  obtain rfl : k = xs.length := by omega
  rw [List.take_length, List.drop_length, List.append_nil] at oB
  exact ⟨_, ⟨by rw [List.take_length], oB⟩, rlA⟩
theorem heldFilterS_ct (b : Option Addr) (m c : Nat) (xs : List Filter) (k0 k1 : Int) (hk1 : k0 = k1) (h0 : 0 ≤ k0) (h1 : k0 + cntL gFilter xs ≤ 4611686018427387904) :
  Ct prog 119 [.slice b m c, .int .i64 k0] [] (fun H => (gSl 157 gFilter).rd H [.slice b m c] (mkL gFilter k1 xs)) (fun v A => v = .int .i64 (k0 + cntL gFilter xs) ∧ A = []) := by
 subst hk1
 refine Ct.intro0 G_ok func119 rfl rfl rfl fun E H hp => ?_
 have hm0 := (sl_len hp).1
 rw [mkL_len] at hm0; subst hm0
 obtain ⟨-, hcl, hl⟩ := sl_len hp
 rw [mkL_len] at hcl hl
 have hln := mkL_len gFilter xs k0
 apply loop_mod (α := (Nat)) G_ok [6, 7, 8, 9, 12, 13, 14, 15, 16, 17, 18, 19, 4, 20, 21, 1, 22, 23, 24, 25, 26, 27, 28, 29, 30, 31, 32, 33, 34, 35, 36, 37, 38, 39, 40, 41, 42, 43, 44, 45, 46, 47, 48, 49, 10, 11, 5] (fun z => [(5, .v (.int .i64 z)), (1, .v (.int .i64 (k0 + cntL gFilter (xs.take z))))]) (fun z => []) (fun z => [H]) (fun z => xs.length - z) (fun z => z ≤ xs.length) (0)
 ·repeat' (first | exact trivial | refine ⟨⟨_, rfl, by first | rfl | exact inc_eq _ (by omega) | (refine sl_eq ?_; simp; done) | (refine svi_eq ?_; (try dsimp only); (try simp (disch := omega) only [wrap_of]); omega) | (simp [cntL]), by first | exact trivial | simp [SV.ok]⟩, ?_⟩)
 ·exact trivial
 ·omega
 ·exact .refl _
 rintro k hI
 obtain hk : k ≤ xs.length := hI
 try dsimp only
 refine ⟨fun q0 => ?_, fun q0 => ?_⟩
 ·simp at q0
  have hs := (cntL_step gFilter xs k default (by omega))
  simp only [gFilter_cnt] at hs
  have hs2 := cntL_take_le gFilter xs (k + 1)
  have hm := mkL_get gFilter default xs k0 k (by omega)
  simp only [gFilter_mark, gFilter_cnt] at hm
  refine draw G_ok mixed none (.q 0 (.q 1 (.q 2 (.q 3 (.q 4 (.q 5 (.f 6 (.q 7 (.nil))))))))) (by decide +kernel) ?_
  refine idx_rd hp ?_ ?_ fun b1 o1 hb1 => ?_
  ·omega
  ·omega
  refine load_partN default (k) 0 rfl hp ?_ ?_ hb1 rfl (by decide) (mem_at 0 rfl) fun l2 hl2 => ?_
  ·omega
  ·omega
  rw [hm] at hl2
  obtain ⟨rfl, w0x2, w1x2, w2x2, w3x2⟩ := gFilter_rd.1 hl2
  refine call_val (markText_ct _ ?_) trivial ?_
  ·omega
  rintro _ rfl
  refine VC.intro ?_ ?_
  ·exact fun _ h => h
  refine ⟨fun q4 => ?_, fun q4 => ?_⟩
  ·simp at q4
  ·simp at q4
   refine idx_rd hp ?_ ?_ fun b5 o5 hb5 => ?_
   ·omega
   ·omega
   refine load_partN default (k) 1 rfl hp ?_ ?_ hb5 rfl (by decide) (mem_at 0 rfl) fun l6 hl6 => ?_
   ·omega
   ·omega
   rw [hm] at hl6
   obtain ⟨rfl, w0x6, w1x6, w2x6, w3x6⟩ := gFilter_rd.1 hl6
   refine ⟨fun q7 => ?_, fun q7 => ?_⟩
   ·simp at q7
    simp (disch := omega) only [wrap_of] at q7
    exact absurd trivial q7
   ·simp at q7
    simp (disch := omega) only [wrap_of] at q7
    refine draw G_ok mixed none (.q 0 (.q 1 (.q 2 (.q 3 (.q 4 (.q 5 (.f 6 (.q 7 (.nil))))))))) (by decide +kernel) ?_
    refine idx_rd hp ?_ ?_ fun b8 o8 hb8 => ?_
    ·omega
    ·omega
    refine load_partN default (k) 2 rfl hp ?_ ?_ hb8 rfl (by decide) (mem_at 0 rfl) fun l9 hl9 => ?_
    ·omega
    ·omega
    rw [hm] at hl9
    obtain ⟨rfl, w0x9, w1x9, w2x9, w3x9⟩ := gFilter_rd.1 hl9
    refine call_val (markText_ct _ ?_) trivial ?_
    ·(simp (disch := omega) only [wrap_of]; omega)
    rintro _ rfl
    refine VC.intro ?_ ?_
    ·exact fun _ h => h
    refine ⟨fun q11 => ?_, fun q11 => ?_⟩
    ·simp at q11
     simp only [str_inj, u8_inj, u8_wrap] at q11
     simp (disch := omega) only [wrap_of] at q11
     exact absurd trivial q11
    ·simp at q11
     simp only [str_inj, u8_inj, u8_wrap] at q11
     simp (disch := omega) only [wrap_of] at q11
     refine idx_rd hp ?_ ?_ fun b12 o12 hb12 => ?_
     ·omega
     ·omega
     refine load_partN default (k) 3 rfl hp ?_ ?_ hb12 rfl (by decide) (mem_at 0 rfl) fun l13 hl13 => ?_
     ·omega
     ·omega
     rw [hm] at hl13
     obtain ⟨rfl, w0x13, w1x13, w2x13, w3x13⟩ := gFilter_rd.1 hl13
     refine ⟨fun q14 => ?_, fun q14 => ?_⟩
     ·simp at q14
      simp (disch := omega) only [wrap_of] at q14
      exact absurd trivial q14
     ·simp at q14
      simp (disch := omega) only [wrap_of] at q14
      apply loop_stepA (k + 1)
      ·exact .refl _
      ·repeat' (first | exact trivial | refine ⟨⟨_, rfl, by first | rfl | exact inc_eq _ (by omega) | (refine sl_eq ?_; simp; done) | (refine svi_eq ?_; (try dsimp only); (try simp (disch := omega) only [wrap_of]); omega) | (simp [cntL]), by first | exact trivial | simp [SV.ok]⟩, ?_⟩)
      ·exact trivial
      ·trivial
      omega
 ·simp at q0
  obtain rfl : k = xs.length := by omega
  exact ⟨[], ⟨by rw [List.take_length], rfl⟩, .mem (by simp)⟩
theorem markQuery_ct (l : List Value) (x : Query) (A : Hp) (k0 : Int) (ho : gQuery.ow l x A) (h0 : 0 ≤ k0) (h1 : k0 + gQuery.cntV x ≤ 4611686018427387904) :
  CtR prog 17 [.agg ⟨l⟩, .int .i64 k0] A (fun _ => True) (fun v A => v = .int .i64 (k0 + gQuery.cntV x) ∧ gQuery.ow l (gQuery.markV k0 x) A) := by
 obtain ⟨b1, c1, A1, b2, c2, A2, b3, c3, A3, rfl, hpm, h1, h2, h3⟩ := gQuery_ow.1 ho
 have hz := gQuery_cntV x
 refine CtR.introP G_ok [A1, A2, A3] func17 rfl rfl rfl (hpm.trans (by simp)) fun E H hp => ?_
 refine ⟨fun x0 => ?_⟩
 refine callR_at 0 rfl (markStringS_ct _ _ _ _ _ _ h1 ?_ ?_) trivial ?_
 ·trivial
 ·omega
 rintro _ A1 ⟨rfl, o1⟩
 refine callR_at 1 rfl (markAtomS_ct _ _ _ _ _ _ h2 ?_ ?_) trivial ?_
 ·omega
 ·omega
 rintro _ A2 ⟨rfl, o2⟩
 refine callR_at 2 rfl (markFilterS_ct _ _ _ _ _ _ h3 ?_ ?_) trivial ?_
 ·omega
 ·omega
 rintro _ A3 ⟨rfl, o3⟩
 exact ⟨_, ⟨by rw [hz]; (try simp); (try omega), by rw [gQuery_markV]; exact gQuery_ow.2 ⟨_, _, _, _, _, _, _, _, _, by simp only [mkL_len]; rfl, .refl _, by rw [mkL_len]; assumption, by rw [mkL_len]; assumption, by rw [mkL_len]; assumption⟩⟩, rlA⟩
theorem heldQuery_ct (l : List Value) (x : Query) (k0 k1 : Int) (hk1 : k0 = k1) (h0 : 0 ≤ k0) (h1 : k0 + gQuery.cntV x ≤ 4611686018427387904) :
  Ct prog 65 [.agg ⟨l⟩, .int .i64 k0] [] (fun H => gQuery.rd H l (gQuery.markV k1 x)) (fun v A => v = .int .i64 (k0 + gQuery.cntV x) ∧ A = []) := by
 subst hk1
 refine Ct.intro0 G_ok func65 rfl rfl rfl fun E H hp => ?_
 rw [gQuery_markV] at hp
 obtain ⟨b1, c1, b2, c2, b3, c3, rfl, h1, h2, h3⟩ := gQuery_rd.1 hp
 have hz := gQuery_cntV x
 refine ⟨fun x0 => ?_⟩
 refine call_val (heldStringS_ct _ _ _ _ _ _ ?_ ?_ ?_) (Rp.mono _ (mem_at 0 rfl) h1) ?_
 ·rfl
 ·trivial
 ·omega
 rintro _ rfl
 refine ⟨fun q2 => ?_, fun q2 => ?_⟩
 ·simp at q2
  exfalso; omega
 ·simp at q2
  refine call_val (heldAtomS_ct _ _ _ _ _ _ ?_ ?_ ?_) (Rp.mono _ (mem_at 0 rfl) h2) ?_
  ·rfl
  ·trivial
  ·omega
  rintro _ rfl
  refine ⟨fun q4 => ?_, fun q4 => ?_⟩
  ·simp at q4
   exfalso; omega
  ·simp at q4
   refine call_val (heldFilterS_ct _ _ _ _ _ _ ?_ ?_ ?_) (Rp.mono _ (mem_at 0 rfl) h3) ?_
   ·rfl
   ·trivial
   ·omega
   rintro _ rfl
   refine ⟨fun q6 => ?_, fun q6 => ?_⟩
   ·simp at q6
    exfalso; omega
   ·simp at q6
    try dsimp only
    exact ⟨[], ⟨by rw [hz]; (try simp); (try omega), rfl⟩, .mem (by simp)⟩
theorem markGotS_ct (b : Option Addr) (m c : Nat) (xs : List Got) (A : Hp) (k0 : Int) (ho : (gSl 171 gGot).ow [.slice b m c] xs A) (h0 : 0 ≤ k0) (h1 : k0 + cntL gGot xs ≤ 4611686018427387904) :
  CtR prog 63 [.slice b m c, .int .i64 k0] A (fun _ => True) (fun v A => v = .int .i64 (k0 + cntL gGot xs) ∧ (gSl 171 gGot).ow [.slice b m c] (mkL gGot k0 xs) A) := by
 obtain ⟨rfl, hcl, hl⟩ := sl_len (Gt.owrd _ ho)
 refine CtR.intro G_ok [A] func63 rfl rfl rfl (by simp) fun E H hp => ?_
 apply loop_mod (α := (Nat) × (Hp)) G_ok [6, 7, 8, 9, 12, 13, 14, 15, 16, 17, 18, 1, 19, 20, 21, 22, 23, 24, 25, 26, 27, 28, 29, 30, 31, 32, 33, 10, 11, 5] (fun z => [(5, .v (.int .i64 z.1)), (1, .v (.int .i64 (k0 + cntL gGot (xs.take z.1))))]) (fun z => []) (fun z => [z.2, H]) (fun z => xs.length - z.1) (fun z => z.1 ≤ xs.length ∧ (gSl 171 gGot).ow [.slice b xs.length c] (mkL gGot k0 (xs.take z.1) ++ xs.drop z.1) z.2) ((0, A))
 ·repeat' (first | exact trivial | refine ⟨⟨_, rfl, by first | rfl | exact inc_eq _ (by omega) | (refine sl_eq ?_; simp; done) | (refine svi_eq ?_; subst_vars; (try dsimp only); (try simp (disch := omega) only [wrap_of]); omega) | (simp [cntL]), by first | exact trivial | simp [SV.ok]⟩, ?_⟩)
 ·exact trivial
 ·try dsimp only
  exact ⟨by omega, by simpa [mkL] using ho⟩
 ·exact .refl _
 rintro ⟨k, B⟩ hI
 try dsimp only at hI
 obtain ⟨hk, oB⟩ := hI
 try dsimp only
 refine ⟨fun q0 => ?_, fun q0 => ?_⟩
 ·simp at q0
  have hs := (cntL_step gGot xs k default (by omega))
  simp only [gBag_cnt, gGot_cnt] at hs
  have hs2 := cntL_take_le gGot xs (k + 1)
  obtain ⟨y, ey, oe⟩ := OwE.mk default k oB (by rw [mk_len _ _ _ _ (by omega)]; omega)
  rw [mk_get _ _ _ _ _ (by omega)] at ey
  clear oB
  refine oe_idx oe ?_ fun b1 o1 hb1 => ?_
  ·rfl
  refine oe_store gGot_from 0 rfl oe rfl hb1 rfl gI_pl _ (gI_ow ?_) fun y2 A2 ey2 o2 => ?_
  ·unfold okI; omega
  refine oe_idx o2 ?_ fun b3 o3 hb3 => ?_
  ·rfl
  refine oe_store gGot_atom 0 rfl o2 rfl hb3 rfl gI_pl _ (gI_ow ?_) fun y4 A4 ey4 o4 => ?_
  ·exact okI_wrap _
  refine oe_idx o4 ?_ fun b5 o5 hb5 => ?_
  ·rfl
  refine oe_load gGot_bag o4 rfl hb5 rfl (mem_at 0 rfl) fun l6 hl6 hf6 => ?_
  obtain ⟨b0x6, c0x6, rfl, h0x6⟩ := gBag_rd.1 hl6
  refine call_foc 0 rfl hf6 (fun Af7 oa7 => markItemS_ct _ _ _ _ _ _ oa7 ?_ ?_) (fun _ _ => trivial) ?_
  ·(simp (disch := omega) only [wrap_of]; omega)
  ·(subst_vars; (try dsimp only at *); (try simp (disch := omega) only [wrap_of] at *); omega)
  rintro _ A7 rfl ⟨y7, ey7, o7⟩
  try dsimp only at ey7
  apply loop_stepA (k + 1, _)
  ·exact .refl _
  ·repeat' (first | exact trivial | refine ⟨⟨_, rfl, by first | rfl | exact inc_eq _ (by omega) | (refine sl_eq ?_; simp; done) | (refine svi_eq ?_; subst_vars; (try dsimp only); (try simp (disch := omega) only [wrap_of]); omega) | (simp [cntL]), by first | exact trivial | simp [SV.ok]⟩, ?_⟩)
  ·exact trivial
  ·try dsimp only
   exact ⟨by omega, OwE.done (by assumption) (by rw [← mk_step gGot default xs k0 k (by omega)]; congr 1; subst_vars; (try simp only [gBag_mark, gBag_cnt, gGot_mark, gGot_cnt]); (try simp (disch := omega) only [wrap_of]); (try rfl))⟩
  try dsimp only
  omega
 ·simp at q0
  obtain rfl : k = xs.length := by omega
  rw [List.take_length, List.drop_length, List.append_nil] at oB
  exact ⟨_, ⟨by rw [List.take_length], oB⟩, rlA⟩
theorem heldGotS_ct (b : Option Addr) (m c : Nat) (xs : List Got) (k0 k1 : Int) (hk1 : k0 = k1) (h0 : 0 ≤ k0) (h1 : k0 + cntL gGot xs ≤ 4611686018427387904) :
  Ct prog 67 [.slice b m c, .int .i64 k0] [] (fun H => (gSl 171 gGot).rd H [.slice b m c] (mkL gGot k1 xs)) (fun v A => v = .int .i64 (k0 + cntL gGot xs) ∧ A = []) := by
 subst hk1
 refine Ct.intro0 G_ok func67 rfl rfl rfl fun E H hp => ?_
 have hm0 := (sl_len hp).1
 rw [mkL_len] at hm0; subst hm0
 obtain ⟨-, hcl, hl⟩ := sl_len hp
 rw [mkL_len] at hcl hl
 have hln := mkL_len gGot xs k0
 apply loop_mod (α := (Nat)) G_ok [6, 7, 8, 9, 12, 13, 14, 15, 16, 17, 18, 4, 19, 20, 1, 21, 22, 23, 24, 25, 26, 27, 28, 29, 30, 31, 32, 33, 34, 35, 36, 37, 38, 39, 10, 11, 5] (fun z => [(5, .v (.int .i64 z)), (1, .v (.int .i64 (k0 + cntL gGot (xs.take z))))]) (fun z => []) (fun z => [H]) (fun z => xs.length - z) (fun z => z ≤ xs.length) (0)
 ·repeat' (first | exact trivial | refine ⟨⟨_, rfl, by first | rfl | exact inc_eq _ (by omega) | (refine sl_eq ?_; simp; done) | (refine svi_eq ?_; (try dsimp only); (try simp (disch := omega) only [wrap_of]); omega) | (simp [cntL]), by first | exact trivial | simp [SV.ok]⟩, ?_⟩)
 ·exact trivial
 ·omega
 ·exact .refl _
 rintro k hI
 obtain hk : k ≤ xs.length := hI
 try dsimp only
 refine ⟨fun q0 => ?_, fun q0 => ?_⟩
 ·simp at q0
  have hs := (cntL_step gGot xs k default (by omega))
  simp only [gBag_cnt, gGot_cnt] at hs
  have hs2 := cntL_take_le gGot xs (k + 1)
  have hm := mkL_get gGot default xs k0 k (by omega)
  simp only [gBag_mark, gBag_cnt, gGot_mark, gGot_cnt] at hm
  refine idx_rd hp ?_ ?_ fun b1 o1 hb1 => ?_
  ·omega
  ·omega
  refine load_partN default (k) 0 rfl hp ?_ ?_ hb1 rfl (by decide) (mem_at 0 rfl) fun l2 hl2 => ?_
  ·omega
  ·omega
  rw [hm] at hl2
  obtain ⟨l2x2, rfl, w0x2, w1x2, h2x2⟩ := gGot_rd.1 hl2 ; obtain ⟨b0_2x2, c0_2x2, rfl, h0_2x2⟩ := gBag_rd.1 h2x2
  refine ⟨fun q3 => ?_, fun q3 => ?_⟩
  ·simp at q3
  ·simp at q3
   refine idx_rd hp ?_ ?_ fun b4 o4 hb4 => ?_
   ·omega
   ·omega
   refine load_partN default (k) 1 rfl hp ?_ ?_ hb4 rfl (by decide) (mem_at 0 rfl) fun l5 hl5 => ?_
   ·omega
   ·omega
   rw [hm] at hl5
   obtain ⟨l2x5, rfl, w0x5, w1x5, h2x5⟩ := gGot_rd.1 hl5 ; obtain ⟨b0_2x5, c0_2x5, rfl, h0_2x5⟩ := gBag_rd.1 h2x5
   refine ⟨fun q6 => ?_, fun q6 => ?_⟩
   ·simp at q6
    simp (disch := omega) only [wrap_of] at q6
    exact absurd trivial q6
   ·simp at q6
    simp (disch := omega) only [wrap_of] at q6
    refine idx_rd hp ?_ ?_ fun b7 o7 hb7 => ?_
    ·omega
    ·omega
    refine load_partN default (k) 2 rfl hp ?_ ?_ hb7 rfl (by decide) (mem_at 0 rfl) fun l8 hl8 => ?_
    ·omega
    ·omega
    rw [hm] at hl8
    obtain ⟨l2x8, rfl, w0x8, w1x8, h2x8⟩ := gGot_rd.1 hl8 ; obtain ⟨b0_2x8, c0_2x8, rfl, h0_2x8⟩ := gBag_rd.1 h2x8
    refine call_val (heldItemS_ct _ _ _ _ _ _ ?_ ?_ ?_) (Rp.mono _ (mem_at 0 rfl) h0_2x8) ?_
    ·(simp (disch := omega) only [wrap_of])
    ·(simp (disch := omega) only [wrap_of]; omega)
    ·(simp (disch := omega) only [wrap_of]; omega)
    rintro _ rfl
    refine ⟨fun q10 => ?_, fun q10 => ?_⟩
    ·simp at q10
     simp (disch := omega) only [wrap_of] at q10
     exfalso; omega
    ·simp at q10
     simp (disch := omega) only [wrap_of] at q10
     apply loop_stepA (k + 1)
     ·exact .refl _
     ·repeat' (first | exact trivial | refine ⟨⟨_, rfl, by first | rfl | exact inc_eq _ (by omega) | (refine sl_eq ?_; simp; done) | (refine svi_eq ?_; (try dsimp only); (try simp (disch := omega) only [wrap_of]); omega) | (simp [cntL]), by first | exact trivial | simp [SV.ok]⟩, ?_⟩)
     ·exact trivial
     ·trivial
     omega
 ·simp at q0
  obtain rfl : k = xs.length := by omega
  exact ⟨[], ⟨by rw [List.take_length], rfl⟩, .mem (by simp)⟩
theorem markAsk_ct (l : List Value) (x : Ask) (A : Hp) (k0 : Int) (ho : gAsk.ow l x A) (h0 : 0 ≤ k0) (h1 : k0 + gAsk.cntV x ≤ 4611686018427387904) :
  CtR prog 18 [.agg ⟨l⟩, .int .i64 k0] A (fun _ => True) (fun v A => v = .int .i64 (k0 + gAsk.cntV x) ∧ gAsk.ow l (gAsk.markV k0 x) A) := by
 obtain ⟨l1, A1, b2, c2, A2, b4, c4, A4, l6, A6, rfl, hpm, h1, h2, w3, h4, h6⟩ := gAsk_ow.1 ho
 have r1 := Gt.owrd _ h1
 obtain ⟨b1_1, c1_1, b2_1, c2_1, b3_1, c3_1, rfl, h1_1, h2_1, h3_1⟩ := gQuery_rd.1 r1
 have r6 := Gt.owrd _ h6
 obtain ⟨b0_6, c0_6, rfl, h0_6⟩ := gBag_rd.1 r6
 have hz := gAsk_cntV x
 refine CtR.introP G_ok [A1, A2, A4, A6] func18 rfl rfl rfl (hpm.trans (by simp)) fun E H hp => ?_
 refine ⟨fun x0 => ?_⟩
 refine callR_at 0 rfl (markQuery_ct _ _ _ _ h1 ?_ ?_) trivial ?_
 ·trivial
 ·omega
 rintro _ A1 ⟨rfl, o1⟩
 refine callR_at 1 rfl (markIntS_ct _ _ _ _ _ _ h2 ?_ ?_) trivial ?_
 ·omega
 ·omega
 rintro _ A2 ⟨rfl, o2⟩
 refine callR_at 2 rfl (markGotS_ct _ _ _ _ _ _ h4 ?_ ?_) trivial ?_
 ·omega
 ·omega
 rintro _ A3 ⟨rfl, o3⟩
 refine callR_at 3 rfl (markBag_ct _ _ _ _ h6 ?_ ?_) trivial ?_
 ·omega
 ·omega
 rintro _ A4 ⟨rfl, o4⟩
 exact ⟨_, ⟨by rw [hz]; (try simp); (try omega), by rw [gAsk_markV]; exact gAsk_ow.2 ⟨_, _, _, _, _, _, _, _, _, _, by simp only [mkL_len]; rfl, .refl _, by assumption, by rw [mkL_len]; assumption, by assumption, by rw [mkL_len]; assumption, by assumption⟩⟩, rlA⟩
theorem heldAsk_ct (l : List Value) (x : Ask) (k0 k1 : Int) (hk1 : k0 = k1) (h0 : 0 ≤ k0) (h1 : k0 + gAsk.cntV x ≤ 4611686018427387904) :
  Ct prog 19 [.agg ⟨l⟩, .int .i64 k0] [] (fun H => gAsk.rd H l (gAsk.markV k1 x)) (fun v A => v = .int .i64 (k0 + gAsk.cntV x) ∧ A = []) := by
 subst hk1
 refine Ct.intro0 G_ok func19 rfl rfl rfl fun E H hp => ?_
 rw [gAsk_markV] at hp
 obtain ⟨l1, b2, c2, b4, c4, l6, rfl, h1, h2, w3, h4, h6⟩ := gAsk_rd.1 hp
 obtain ⟨b1_1, c1_1, b2_1, c2_1, b3_1, c3_1, rfl, h1_1, h2_1, h3_1⟩ := gQuery_rd.1 h1
 obtain ⟨b0_6, c0_6, rfl, h0_6⟩ := gBag_rd.1 h6
 have hz := gAsk_cntV x
 refine ⟨fun x0 => ?_⟩
 refine call_val (heldQuery_ct _ _ _ _ ?_ ?_ ?_) (Rp.mono _ (mem_at 0 rfl) h1) ?_
 ·rfl
 ·trivial
 ·omega
 rintro _ rfl
 refine ⟨fun q2 => ?_, fun q2 => ?_⟩
 ·simp at q2
  exfalso; omega
 ·simp at q2
  refine call_val (heldIntS_ct _ _ _ _ _ _ ?_ ?_ ?_) (Rp.mono _ (mem_at 0 rfl) h2) ?_
  ·rfl
  ·trivial
  ·omega
  rintro _ rfl
  refine ⟨fun q4 => ?_, fun q4 => ?_⟩
  ·simp at q4
   exfalso; omega
  ·simp at q4
   refine call_val (heldGotS_ct _ _ _ _ _ _ ?_ ?_ ?_) (Rp.mono _ (mem_at 0 rfl) h4) ?_
   ·rfl
   ·trivial
   ·omega
   rintro _ rfl
   refine ⟨fun q6 => ?_, fun q6 => ?_⟩
   ·simp at q6
    exfalso; omega
   ·simp at q6
    refine call_val (heldBag_ct _ _ _ _ ?_ ?_ ?_) (Rp.mono _ (mem_at 0 rfl) h6) ?_
    ·rfl
    ·trivial
    ·omega
    rintro _ rfl
    refine ⟨fun q8 => ?_, fun q8 => ?_⟩
    ·simp at q8
     exfalso; omega
    ·simp at q8
     try dsimp only
     exact ⟨[], ⟨by rw [hz]; (try simp); (try omega), rfl⟩, .mem (by simp)⟩
end
section
attribute [local irreducible] anM anOk sharesForM
theorem sf_len4 (q : Query) (n : Int) : (sharesForM q n).length ≤ 4 := by
 by_cases h : queryM q = true ∧ 1 ≤ n ∧ n ≤ 8
 ·rw [sf_yes h, best_len]; exact (query_names h.1).2
 rw [sf_no h]; exact Nat.zero_le _
section
attribute [local semireducible] anM
theorem anM_sz (q : Query) (n : Int) (h : gQuery.sz q ≤ 1048576) : gAsk.sz (anM q n) ≤ 1048580 := by
 rw [gAsk_sz]
 unfold anM
 split
 ·have h1 := sf_len4 q n
  show 0 + (gQuery.sz q + (szL gI (sharesForM q n) + (0 + (0 + (0 + 0))))) ≤ _
  rw [szIq]; omega
 decide
end
theorem anM_cnt (q : Query) (n : Int) (h : gQuery.sz q ≤ 1048576) : (gAsk.cntV (anM q n) : Int) ≤ 110000000000 := by
 have h1 := gAsk.cntV_le (anM q n)
 have h2 : gAsk.w ≤ 100000 := by decide
 have h3 := Nat.mul_le_mul h2 (show 1 + gAsk.sz (anM q n) ≤ 1048581 by have := anM_sz q n h; omega)
 omega
theorem qry_cnt (q : Query) (h : gQuery.sz q ≤ 1048576) : (gQuery.cntV q : Int) ≤ 110000000000 := by
 have h1 := gQuery.cntV_le q
 have h2 : gQuery.w ≤ 100000 := by decide
 have h3 := Nat.mul_le_mul h2 (show 1 + gQuery.sz q ≤ 1048577 by omega)
 omega
theorem fnExactAskNew_ct (v0 v1 : Value) :
  Ct prog 4 [v0, v1] [] (fun H => ((∃ x, rdV true gQuery.toRp H v0 x) ∧ (∃ x, rdV false gI.toRp H v1 x)) ∧ TabIn H) (fun v A => v = .bool true ∧ A = []) := by
 refine Ct.intro0 G_ok func4 rfl rfl rfl fun E H hp => ?_
 obtain ⟨⟨⟨xa0, hp0⟩, ⟨xa1, hp1⟩⟩, hT⟩ := hp
 obtain ⟨la0, rfl, hp0⟩ := hp0
 obtain ⟨b1a0, c1a0, b2a0, c2a0, b3a0, c3a0, rfl, h1a0, h2a0, h3a0⟩ := gQuery_rd.1 hp0
 obtain ⟨ea1, wa1⟩ := hp1; cases ea1
 refine ⟨fun x0 => ?_⟩
 refine call_q (szQuery_ct _ (xa0) _ ?_ ?_) (Rp.mono _ (mem_at 0 rfl) hp0) ?_
 ·trivial
 ·trivial
 rintro _ ⟨r1, rfl, hr1⟩
 refine ⟨fun q2 => ?_, fun q2 => ?_⟩
 ·simp at q2
  exact ⟨[], ⟨rfl, rfl⟩, .mem (by simp [setR])⟩
 ·simp at q2
  refine call_new (toQuery_ct _ (xa0) ?_) (Rp.mono _ (mem_at 0 rfl) hp0) ?_
  ·omega
  rintro v3 A3 o3
  obtain ⟨l3, rfl, o3⟩ := o3
  have r3 := Gt.owrd _ o3
  obtain ⟨b1x3, c1x3, b2x3, c2x3, b3x3, c3x3, rfl, h1x3, h2x3, h3x3⟩ := gQuery_rd.1 r3
  refine call_new (specAskNew_ct _ (xa0) _ ?_ ?_) (Rp.mono _ (mem_at 0 rfl) r3) ?_
  ·omega
  ·trivial
  rintro v4 A4 o4
  obtain ⟨l4, rfl, o4⟩ := o4
  have r4 := Gt.owrd _ o4
  obtain ⟨l1x4, b2x4, c2x4, b4x4, c4x4, l6x4, rfl, h1x4, h2x4, w3x4, h4x4, h6x4⟩ := gAsk_rd.1 r4
  obtain ⟨b1_1x4, c1_1x4, b2_1x4, c2_1x4, b3_1x4, c3_1x4, rfl, h1_1x4, h2_1x4, h3_1x4⟩ := gQuery_rd.1 h1x4
  obtain ⟨b0_6x4, c0_6x4, rfl, h0_6x4⟩ := gBag_rd.1 h6x4
  refine ⟨fun x5 => ?_⟩
  refine call_new (toQuery_ct _ (xa0) ?_) (Rp.mono _ (mem_at 2 rfl) hp0) ?_
  ·omega
  rintro v6 A6 o6
  obtain ⟨l6, rfl, o6⟩ := o6
  have r6 := Gt.owrd _ o6
  obtain ⟨b1x6, c1x6, b2x6, c2x6, b3x6, c3x6, rfl, h1x6, h2x6, h3x6⟩ := gQuery_rd.1 r6
  refine ⟨fun x7 => ?_⟩
  refine call_new (implAskNew_ct _ (xa0) _ ?_ ?_) ⟨(Rp.mono _ (mem_at 0 rfl) r6), (by (try exact TabIn.mono hT (mem_at 0 rfl)); (try exact TabIn.mono hT (mem_at 1 rfl)); (try exact TabIn.mono hT (mem_at 2 rfl)); (try exact TabIn.mono hT (mem_at 3 rfl)); (try exact TabIn.mono hT (mem_at 4 rfl)); (try exact TabIn.mono hT (mem_at 5 rfl)); (try exact TabIn.mono hT (mem_at 6 rfl)))⟩ ?_
  ·omega
  ·trivial
  rintro v8 A8 o8
  obtain ⟨l8, rfl, o8⟩ := o8
  have r8 := Gt.owrd _ o8
  obtain ⟨l1x8, b2x8, c2x8, b4x8, c4x8, l6x8, rfl, h1x8, h2x8, w3x8, h4x8, h6x8⟩ := gAsk_rd.1 r8
  obtain ⟨b1_1x8, c1_1x8, b2_1x8, c2_1x8, b3_1x8, c3_1x8, rfl, h1_1x8, h2_1x8, h3_1x8⟩ := gQuery_rd.1 h1x8
  obtain ⟨b0_6x8, c0_6x8, rfl, h0_6x8⟩ := gBag_rd.1 h6x8
  refine ⟨fun x9 => ?_⟩
  refine call_val (eqAsk_ct _ _ (anM xa0 xa1) (anM xa0 xa1)) ⟨(Rp.mono _ (mem_at 0 rfl) r8), (Rp.mono _ (mem_at 2 rfl) r4)⟩ ?_
  rintro _ rfl
  refine ⟨fun q11 => ?_, fun q11 => ?_⟩
  ·simp at q11
  ·simp at q11
   refine ⟨fun q12 => ?_, fun q12 => ?_⟩
   ·simp at q12
   ·simp at q12
    refine draw G_ok mixed none (.q 0 (.q 1 (.f 2 (.f 3 (.q 4 (.nil)))))) (by decide +kernel) ?_
    refine call_new (toQuery_ct _ (xa0) ?_) (Rp.mono _ (mem_at 4 rfl) hp0) ?_
    ·omega
    rintro v13 A13 o13
    obtain ⟨l13, rfl, o13⟩ := o13
    have r13 := Gt.owrd _ o13
    obtain ⟨b1x13, c1x13, b2x13, c2x13, b3x13, c3x13, rfl, h1x13, h2x13, h3x13⟩ := gQuery_rd.1 r13
    refine VC.intro ?_ ?_
    ·exact keep_new
    refine call_val (eqQuery_ct _ _ (xa0) (xa0)) ⟨(Rp.mono _ (mem_at 2 rfl) r6), (Rp.mono _ (mem_at 0 rfl) r13)⟩ ?_
    rintro _ rfl
    refine VC.intro ?_ ?_
    ·exact keep_new
    refine ⟨fun q15 => ?_, fun q15 => ?_⟩
    ·simp at q15
    ·simp at q15
     refine callR_at 2 rfl (markQuery_ct _ _ _ _ o6 ?_ ?_) trivial ?_
     ·trivial
     ·(have hc := qry_cnt xa0 (by omega); omega)
     rintro _ A16 ⟨rfl, o16⟩
     refine ⟨fun q17 => ?_, fun q17 => ?_⟩
     ·simp at q17
      exfalso; omega
     ·simp at q17
      refine call_val (eqAsk_ct _ _ (anM xa0 xa1) (anM xa0 xa1)) ⟨(Rp.mono _ (mem_at 1 rfl) r8), (Rp.mono _ (mem_at 3 rfl) r4)⟩ ?_
      rintro _ rfl
      refine ⟨fun q19 => ?_, fun q19 => ?_⟩
      ·simp at q19
      ·simp at q19
       refine ⟨fun q20 => ?_, fun q20 => ?_⟩
       ·simp at q20
       ·simp at q20
        refine callR_at 1 rfl (markAsk_ct _ _ _ _ o8 ?_ ?_) trivial ?_
        ·trivial
        ·(have hc := anM_cnt xa0 xa1 (by omega); omega)
        rintro _ A21 ⟨rfl, o21⟩
        refine call_val (heldAsk_ct _ _ _ _ ?_ ?_ ?_) (Rp.mono _ (mem_at 1 rfl) (Gt.owrd _ o21)) ?_
        ·rfl
        ·trivial
        ·(have hc := anM_cnt xa0 xa1 (by omega); omega)
        rintro _ rfl
        refine ⟨fun q23 => ?_, fun q23 => ?_⟩
        ·simp at q23
         exfalso; omega
        ·simp at q23
         refine ⟨fun q24 => ?_, fun q24 => ?_⟩
         ·simp at q24
         ·simp at q24
          refine call_new (toQuery_ct _ (xa0) ?_) (Rp.mono _ (mem_at 5 rfl) hp0) ?_
          ·omega
          rintro v25 A25 o25
          obtain ⟨l25, rfl, o25⟩ := o25
          have r25 := Gt.owrd _ o25
          obtain ⟨b1x25, c1x25, b2x25, c2x25, b3x25, c3x25, rfl, h1x25, h2x25, h3x25⟩ := gQuery_rd.1 r25
          refine call_new (implAskNew_ct _ (xa0) _ ?_ ?_) ⟨(Rp.mono _ (mem_at 0 rfl) r25), (by (try exact TabIn.mono hT (mem_at 0 rfl)); (try exact TabIn.mono hT (mem_at 1 rfl)); (try exact TabIn.mono hT (mem_at 2 rfl)); (try exact TabIn.mono hT (mem_at 3 rfl)); (try exact TabIn.mono hT (mem_at 4 rfl)); (try exact TabIn.mono hT (mem_at 5 rfl)); (try exact TabIn.mono hT (mem_at 6 rfl)))⟩ ?_
          ·omega
          ·trivial
          rintro v26 A26 o26
          obtain ⟨l26, rfl, o26⟩ := o26
          have r26 := Gt.owrd _ o26
          obtain ⟨l1x26, b2x26, c2x26, b4x26, c4x26, l6x26, rfl, h1x26, h2x26, w3x26, h4x26, h6x26⟩ := gAsk_rd.1 r26
          obtain ⟨b1_1x26, c1_1x26, b2_1x26, c2_1x26, b3_1x26, c3_1x26, rfl, h1_1x26, h2_1x26, h3_1x26⟩ := gQuery_rd.1 h1x26
          obtain ⟨b0_6x26, c0_6x26, rfl, h0_6x26⟩ := gBag_rd.1 h6x26
          refine ⟨fun x27 => ?_⟩
          refine call_val (eqAsk_ct _ _ (anM xa0 xa1) (anM xa0 xa1)) ⟨(Rp.mono _ (mem_at 0 rfl) r26), (Rp.mono _ (mem_at 5 rfl) r4)⟩ ?_
          rintro _ rfl
          refine ⟨fun q29 => ?_, fun q29 => ?_⟩
          ·simp at q29
          ·simp at q29
           refine ⟨fun q30 => ?_, fun q30 => ?_⟩
           ·simp at q30
           ·simp at q30
            refine call_val (heldAsk_ct _ _ _ _ ?_ ?_ ?_) (Rp.mono _ (mem_at 3 rfl) (Gt.owrd _ o21)) ?_
            ·rfl
            ·trivial
            ·(have hc := anM_cnt xa0 xa1 (by omega); omega)
            rintro _ rfl
            refine ⟨fun q32 => ?_, fun q32 => ?_⟩
            ·simp at q32
             exfalso; omega
            ·simp at q32
             refine ⟨fun q33 => ?_, fun q33 => ?_⟩
             ·simp at q33
             ·simp at q33
              exact ⟨[], ⟨rfl, rfl⟩, .mem (by simp [setR])⟩
end
end Go.Proofs.YtcnclhjhnjpeiaaGreatDoor
