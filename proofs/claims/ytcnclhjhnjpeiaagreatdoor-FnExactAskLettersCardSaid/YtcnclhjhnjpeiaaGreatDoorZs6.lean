/-
  Questions shown: both sides. Shares, on both sides. Cells made, on both sides. Beginnings told, and sent to all workers: both sides. Letters of a question: both sides. The laws' helpers over their types: marks, and what is held (printed by gent.py). Letters of a question: the law walked. Conditions: none.
-/
import Derived.Test.YtcnclhjhnjpeiaaGreatDoorZs5

namespace Go.Proofs.YtcnclhjhnjpeiaaGreatDoor
open Go.SX Go.Proofs
set_option linter.unusedSimpArgs false
set_option linter.unusedVariables false
set_option maxHeartbeats 4000000
attribute [local irreducible] IntKind.wrap atomM namesM queryM
theorem allK_ex {p : Nat → Bool} : ∀ {n : Nat}, allK p n = false → ∃ i, i < n ∧ p i = false
  | 0, h => by cases h
  | n + 1, h => by
    unfold allK at h
    cases h1 : allK p n with
    | false => obtain ⟨i, hi, h2⟩ := allK_ex h1; exact ⟨i, by omega, h2⟩
    | true => rw [h1] at h; exact ⟨n, by omega, by simpa using h⟩
theorem hasS_mem {l : List ByteArray} {s : ByteArray} (h : hasS l s = true) : s ∈ l := by
  unfold hasS at h
  obtain ⟨i, hi, h2⟩ := allK_ex (by simpa using h)
  have h3 : (l[i]?.getD ByteArray.empty).toList = s.toList := by simpa using h2
  rw [str_inj] at h3
  rw [← h3, List.getElem?_eq_getElem hi]
  exact List.getElem_mem hi
theorem addN_memq {l : List ByteArray} {s t : ByteArray} (h : t ∈ addN l s) : t ∈ l ∨ t = s := by
  unfold addN at h
  split at h
  · exact .inl h
  simpa using h
section
attribute [local semireducible] namesM
theorem fold_names (P : ByteArray → Prop) : ∀ (ats : List Atom) (l : List ByteArray), (∀ s ∈ l, P s) → (∀ a ∈ ats, P a.from' ∧ P a.to) → ∀ s ∈ ats.foldl (fun l a => addN (addN l a.from') a.to) l, P s
  | [], l, h, _, s, hs => h s hs
  | a :: r, l, h, h2, s, hs => by
    refine fold_names P r (addN (addN l a.from') a.to) (fun t ht => ?_) (fun b hb => h2 b (List.mem_cons_of_mem _ hb)) s hs
    rcases addN_memq ht with ht | rfl
    · rcases addN_memq ht with ht | rfl
      · exact h t ht
      exact (h2 a List.mem_cons_self).1
    exact (h2 a List.mem_cons_self).2
theorem names_all {P : ByteArray → Prop} {ats : List Atom} (h : ∀ a ∈ ats, P a.from' ∧ P a.to) : ∀ s ∈ namesM ats, P s := by
  unfold namesM
  exact fold_names P ats [] (fun s hs => by cases hs) h
end
section
attribute [local semireducible] atomM
theorem nameOk_4 {s : ByteArray} (h : nameOk s = true) : s.size ≤ 4 := by
  unfold nameOk at h
  simp only [Bool.and_eq_true] at h
  have := inR_iff.1 h.2.1
  omega
theorem atomM_sz {a : Atom} (h : atomM a = true) : a.from'.size ≤ 4 ∧ a.to.size ≤ 4 ∧ a.path.size ≤ 20 := by
  unfold atomM at h
  simp only [Bool.and_eq_true] at h
  refine ⟨nameOk_4 h.1, nameOk_4 h.2.1, ?_⟩
  by_cases h1 : a.path.size ≤ 20
  · exact h1
  have h2 := rpt_long h1
  have h3 : (readPath a.path).isSome = false := by rw [h2]; rfl
  rw [tnR_no h3] at h
  cases h.2.2
end
section
attribute [local semireducible] queryM
theorem query_sizes {x : Query} (h : queryM x = true) : (x.atoms.length ≤ 4 ∧ x.filters.length ≤ 3 ∧ x.out.length ≤ 4) ∧ (∀ s ∈ x.out, s.size ≤ 4) ∧ (∀ a ∈ x.atoms, a.from'.size ≤ 4 ∧ a.to.size ≤ 4 ∧ a.path.size ≤ 20) ∧
    ∀ f ∈ x.filters, f.left.size ≤ 4 ∧ f.right.size ≤ 4 ∧ (1 ≤ f.op ∧ f.op ≤ 2) ∧ 0 ≤ f.num ∧ f.num ≤ 99 := by
  have hP : queryP x := by
    apply Classical.byContradiction
    intro e
    rw [q_no e] at h; cases h
  obtain ⟨h1, h2, _, h4, h5⟩ := hP
  have ha : ∀ a ∈ x.atoms, a.from'.size ≤ 4 ∧ a.to.size ≤ 4 ∧ a.path.size ≤ 20 := fun a hm => by
    obtain ⟨k, hk, rfl⟩ := List.getElem_of_mem hm
    have := h2 k hk
    rw [List.getElem?_eq_getElem hk] at this
    exact atomM_sz this
  have hn : ∀ s ∈ namesM x.atoms, s.size ≤ 4 := names_all fun a hm => ⟨(ha a hm).1, (ha a hm).2.1⟩
  refine ⟨by omega, fun s hm => ?_, ha, fun f hm => ?_⟩
  · obtain ⟨k, hk, rfl⟩ := List.getElem_of_mem hm
    unfold inAll at h4
    have := allK_at h4 k hk
    rw [List.getElem?_eq_getElem hk] at this
    exact hn _ (hasS_mem this)
  obtain ⟨k, hk, rfl⟩ := List.getElem_of_mem hm
  have := h5 k hk
  rw [List.getElem?_eq_getElem hk] at this
  have h6 : filterM (namesM x.atoms) x.filters[k] = true := this
  unfold filterM at h6
  simp only [Bool.and_eq_true] at h6
  have h7 := inR_iff.1 h6.2.1
  have h8 := h6.2.2
  refine ⟨hn _ (hasS_mem h6.1), ?_⟩
  split at h8
  · have := inR_iff.1 h8
    exact ⟨by omega, h7, by omega⟩
  simp only [Bool.and_eq_true, decide_eq_true_eq] at h8
  exact ⟨hn _ (hasS_mem h8.2), h7, by omega⟩
end
/-! the text -/
def atomS (a : Atom) : ByteArray := a.from' ++ ⟨#[32, 91]⟩ ++ a.path ++ ⟨#[93, 32]⟩ ++ a.to
def filtS (f : Filter) : ByteArray := f.left ++ (if f.op = 2 then ⟨#[32, 61, 32]⟩ else ⟨#[32, 60, 32]⟩) ++ (if f.right.size = 0 then tx (dcT f.num) else f.right)
def condsT (q : Query) : List ByteArray := q.atoms.map atomS ++ q.filters.map filtS
def headQ (q : Query) : ByteArray := (if q.each = true then ⟨#[101, 97, 99, 104, 32]⟩ else .empty) ++ (tx (joinQ q.out) ++ ⟨#[32, 58, 32]⟩)
def showQ (q : Query) : ByteArray := headQ q ++ tx (joinQ (condsT q))
noncomputable def showOk (q : Query) : Bool := queryM q && decide ((showQ q).size ≤ 200)
noncomputable def showV (q : Query) : ByteArray := if showOk q = true then showQ q else .empty
theorem showV_no {q : Query} (h : showOk q = false) : showV q = .empty := if_neg (by rw [h]; decide)
theorem showV_yes {q : Query} (h : showOk q = true) : showV q = showQ q := if_pos h
theorem showOk_no1 {q : Query} (h : queryM q = false) : showOk q = false := by unfold showOk; rw [h]; rfl
theorem showOk_no2 {q : Query} (h : ¬ (showQ q).size ≤ 200) : showOk q = false := by unfold showOk; rw [decide_eq_false h]; simp
theorem showOk_yes {q : Query} (h : queryM q = true) (h2 : (showQ q).size ≤ 200) : showOk q = true := by unfold showOk; rw [h, decide_eq_true h2]; rfl
theorem joinQ_len : ∀ {xs : List ByteArray} {n : Nat}, (∀ s ∈ xs, s.size ≤ n) → (joinQ xs).length ≤ (n + 2) * xs.length
  | [], n, _ => Nat.le_refl _
  | x :: r, n, h => by
    have h1 : ∀ l : List ByteArray, (∀ s ∈ l, s.size ≤ n) → (l.flatMap fun s => [44, 32] ++ by' s).length ≤ (n + 2) * l.length := by
      intro l
      induction l with
      | nil => intro _; exact Nat.le_refl _
      | cons y t ih =>
        intro hl
        have h2 := ih fun s hs => hl s (List.mem_cons_of_mem _ hs)
        have h3 := hl y List.mem_cons_self
        rw [List.flatMap_cons, List.length_append, List.length_append, by_size, show (y :: t).length = t.length + 1 from rfl, Nat.mul_succ, show ([44, 32] : List UInt8).length = 2 from rfl]; omega
    have h2 := h1 r fun s hs => h s (List.mem_cons_of_mem _ hs)
    have h3 := h x List.mem_cons_self
    show (by' x ++ _).length ≤ _
    rw [List.length_append, by_size, List.length_cons, Nat.mul_succ]; omega
theorem atomS_sz {a : Atom} (h : a.from'.size ≤ 4 ∧ a.to.size ≤ 4 ∧ a.path.size ≤ 20) : (atomS a).size ≤ 32 := by
  unfold atomS
  simp only [ByteArray.size_append, bsz, List.length_cons, List.length_nil]
  omega
theorem filtS_sz {f : Filter} (h : f.left.size ≤ 4 ∧ f.right.size ≤ 4 ∧ (1 ≤ f.op ∧ f.op ≤ 2) ∧ 0 ≤ f.num ∧ f.num ≤ 99) : (filtS f).size ≤ 12 := by
  have h1 : (dcT f.num).length ≤ 2 := dec_len 1 f.num.toNat (by omega)
  have h2 : (if f.op = 2 then (⟨#[32, 61, 32]⟩ : ByteArray) else ⟨#[32, 60, 32]⟩).size = 3 := by split <;> rfl
  have h3 : (if f.right.size = 0 then tx (dcT f.num) else f.right).size ≤ 4 := by
    split
    · rw [← by_size, by_tx]; omega
    omega
  unfold filtS
  rw [ByteArray.size_append, ByteArray.size_append, h2]; omega
theorem conds_sz {q : Query} (h : queryM q = true) : (∀ s ∈ condsT q, s.size ≤ 32) ∧ (condsT q).length ≤ 7 := by
  obtain ⟨h1, h2, h3, h4⟩ := query_sizes h
  refine ⟨fun s hs => ?_, by unfold condsT; rw [List.length_append, List.length_map, List.length_map]; omega⟩
  unfold condsT at hs
  rcases List.mem_append.1 hs with hs | hs
  · obtain ⟨a, ha, rfl⟩ := List.mem_map.1 hs; exact atomS_sz (h3 a ha)
  obtain ⟨f, hf, rfl⟩ := List.mem_map.1 hs; have := filtS_sz (h4 f hf); omega
theorem out_sz {x : Query} (h : queryM x = true) : (tx (joinQ x.out)).size ≤ 24 := by
  obtain ⟨h1, h2, _, _⟩ := query_sizes h
  have h3 := joinQ_len h2
  have h4 := Nat.mul_le_mul_left (4 + 2) h1.2.2
  rw [← by_size, by_tx]; omega
theorem map_step {α : Type} [Inhabited α] (f : α → ByteArray) {xs : List α} {k : Nat} (hk : k < xs.length) : (xs.take (k + 1)).map f = (xs.take k).map f ++ [f (xs[k]?.getD default)] := by
  rw [← List.take_append_getElem hk, List.map_append, List.getElem?_eq_getElem hk]; rfl
theorem at_all {α : Type} [Inhabited α] {P : α → Prop} {xs : List α} (h : ∀ x ∈ xs, P x) {k : Nat} (hk : k < xs.length) : P (xs[k]?.getD default) := by
  rw [List.getElem?_eq_getElem hk]; exact h _ (List.getElem_mem hk)
theorem toL_nilq {s : ByteArray} : s.toList = [] ↔ s.size = 0 := by
  have e : (ByteArray.empty).toList = [] := by simp
  constructor
  · intro h
    rw [← e, str_inj] at h
    rw [h]; rfl
  intro h
  have h2 : s = ByteArray.empty := by apply by_inj.1; rw [List.length_eq_zero_iff.1 (show (by' s).length = 0 by rw [by_size]; exact h)]; rfl
  rw [h2, e]
theorem filt_1 {f : Filter} (h : f.op = 2) (h2 : f.right.toList = []) : f.left ++ (⟨#[32, 61, 32]⟩ : ByteArray) ++ tx (dcT f.num) = filtS f := by unfold filtS; rw [if_pos h, if_pos (toL_nilq.1 h2)]
theorem filt_2 {f : Filter} (h : f.op = 2) (h2 : ¬ f.right.toList = []) : f.left ++ (⟨#[32, 61, 32]⟩ : ByteArray) ++ f.right = filtS f := by unfold filtS; rw [if_pos h, if_neg (fun e => h2 (toL_nilq.2 e))]
theorem filt_3 {f : Filter} (h : ¬ f.op = 2) (h2 : f.right.toList = []) : f.left ++ (⟨#[32, 60, 32]⟩ : ByteArray) ++ tx (dcT f.num) = filtS f := by unfold filtS; rw [if_neg h, if_pos (toL_nilq.1 h2)]
theorem filt_4 {f : Filter} (h : ¬ f.op = 2) (h2 : ¬ f.right.toList = []) : f.left ++ (⟨#[32, 60, 32]⟩ : ByteArray) ++ f.right = filtS f := by unfold filtS; rw [if_neg h, if_neg (fun e => h2 (toL_nilq.2 e))]
def signL : List ByteArray := [⟨#[]⟩, ⟨#[32, 60, 32]⟩, ⟨#[32, 61, 32]⟩]
theorem sign_val {n : Int} (h : 1 ≤ n ∧ n ≤ 2) : (signL[n.toNat]?.getD ByteArray.empty) = if n = 2 then (⟨#[32, 61, 32]⟩ : ByteArray) else ⟨#[32, 60, 32]⟩ := by
  have h1 : n = 1 ∨ n = 2 := by omega
  rcases h1 with rfl | rfl <;> rfl
theorem sign_sz {n : Int} (h : 1 ≤ n ∧ n ≤ 2) : (signL[n.toNat]?.getD ByteArray.empty).size = 3 := by
  rw [sign_val h]; split <;> rfl
theorem filt_5 {f : Filter} (h : 1 ≤ f.op ∧ f.op ≤ 2) (h2 : f.right.toList = []) : f.left ++ (signL[f.op.toNat]?.getD ByteArray.empty) ++ tx (dcT f.num) = filtS f := by rw [sign_val h]; unfold filtS; rw [if_pos (toL_nilq.1 h2)]
theorem filt_6 {f : Filter} (h : 1 ≤ f.op ∧ f.op ≤ 2) (h2 : ¬ f.right.toList = []) : f.left ++ (signL[f.op.toNat]?.getD ByteArray.empty) ++ f.right = filtS f := by rw [sign_val h]; unfold filtS; rw [if_neg (fun e => h2 (toL_nilq.2 e))]
theorem dc_szq {f : Filter} (h : f.left.size ≤ 4 ∧ f.right.size ≤ 4 ∧ (1 ≤ f.op ∧ f.op ≤ 2) ∧ 0 ≤ f.num ∧ f.num ≤ 99) : (tx (dcT f.num)).size ≤ 2 := by
  rw [← by_size, by_tx]; exact dec_len 1 f.num.toNat (by omega)
theorem conds_end {x : Query} {o : List ByteArray} (h : queryM x = true) (ho : o = x.atoms.map atomS ++ x.filters.map filtS) : (∀ s ∈ o, s.size ≤ 1000) ∧ o.length ≤ 1000 ∧ (tx (joinQ o)).size ≤ 238 := by
  have hc := conds_sz h
  have e : o = condsT x := ho
  rw [e]
  have h3 := joinQ_len hc.1
  have h4 := Nat.mul_le_mul_left (32 + 2) hc.2
  refine ⟨fun s hs => Nat.le_trans (hc.1 s hs) (by decide), by omega, ?_⟩
  rw [← by_size, by_tx]; omega
theorem show_each {x : Query} {o : List ByteArray} (h : x.each = true) (ho : o = x.atoms.map atomS ++ x.filters.map filtS) : (⟨#[101, 97, 99, 104, 32]⟩ : ByteArray) ++ (tx (joinQ x.out) ++ ⟨#[32, 58, 32]⟩) ++ tx (joinQ o) = showQ x := by
  rw [ho]; unfold showQ headQ condsT; rw [if_pos h]
theorem show_plain {x : Query} {o : List ByteArray} (h : x.each = false) (ho : o = x.atoms.map atomS ++ x.filters.map filtS) : tx (joinQ x.out) ++ (⟨#[32, 58, 32]⟩ : ByteArray) ++ tx (joinQ o) = showQ x := by
  rw [ho]; unfold showQ headQ condsT; rw [if_neg (by rw [h]; decide), ByteArray.empty_append]
--@ct impl.ShowQuery val implShowQuery_ct _ $1 ?_ | ⟨%1, (TabIn.mono ‹TabIn _› (mem_at 0 rfl))⟩
theorem implShowQuery_ct (l : List Value) (x : Query) (hx : gQuery.sz x ≤ 1048576) : Ct Tryz.prog 106 [.agg ⟨l⟩] [] (fun H => gQuery.rd H l x ∧ TabIn H) (fun v A => v = .tuple #[.string (showV x), .bool (showOk x)] ∧ A = []) := by
  refine Ct.intro0 G_ok Tryz.func106 rfl rfl rfl fun E H hp => ?_
  obtain ⟨hp, hT⟩ := hp
  obtain ⟨b1p, c1p, b2p, c2p, b3p, c3p, rfl, h1p, h2p, h3p⟩ := gQuery_rd.1 hp
  have him : IntKind.i64.max = 9223372036854775807 := rfl
  have hl1 : (⟨#[32, 58, 32]⟩ : ByteArray).size = 3 := rfl
  have hl2 : (⟨#[101, 97, 99, 104, 32]⟩ : ByteArray).size = 5 := rfl
  have hl3 : (⟨#[32, 91]⟩ : ByteArray).size = 2 := rfl
  have hl4 : (⟨#[93, 32]⟩ : ByteArray).size = 2 := rfl
  have hl5 : (⟨#[32, 60, 32]⟩ : ByteArray).size = 3 := rfl
  have hl6 : (⟨#[32, 61, 32]⟩ : ByteArray).size = 3 := rfl
  refine VCnew.intro fun x0 => ?_
  refine call_val (implQueryOk_ct _ (x) ?_) (Rp.mono _ (mem_at 0 rfl) hp) ?_
  · trivial
  rintro _ rfl
  refine VCsplit.intro (fun q2 => ?_) (fun q2 => ?_)
  ·
    simp at q2
    exact ⟨[], ⟨by rw [showV_no (showOk_no1 (by assumption)), showOk_no1 (by assumption)]; rfl, rfl⟩, (.le fun a => by (try simp only [setR, List.cons_append, List.nil_append]); simp [List.count_cons, Blk.ent, idOf]; try omega)⟩
  ·
    simp at q2
    (have hqs2 := query_sizes q2; have hos2 := out_sz q2)
    refine call_val (join_ct _ _ _ (x.out) ?_ ?_) (Rp.mono _ (mem_at 0 rfl) h1p) ?_
    · omega
    · grind
    rintro _ rfl
    refine VC.intro ?_ ?_
    · omega
    refine VCsplit.intro (fun q4 => ?_) (fun q4 => ?_)
    ·
      refine VC.intro ?_ ?_
      · simp; omega
      apply loop_mod (α := (Nat) × (List ByteArray) × (Hp) × (Option Addr) × (Nat)) G_ok [27, 28, 29, 7, 30, 31, 32, 33, 34, 35, 36, 37, 38, 39, 40, 41, 42, 5, 43, 26] (fun z => [(26, .v (.int .i64 z.1)), (5, .v (.slice z.2.2.2.1 z.2.1.length z.2.2.2.2))]) (fun z => [{ id := x0, cs := [Value.bool x.each, Value.slice b1p x.out.length c1p, Value.slice b2p x.atoms.length c2p, Value.slice b3p x.filters.length c3p], ty := (37 : Nat) }]) (fun z => [z.2.2.1, H]) (fun z => x.atoms.length - z.1) (fun z => z.1 ≤ x.atoms.length ∧ z.2.1 = (x.atoms.take z.1).map atomS ∧ (gSl 9 gS).ow [.slice z.2.2.2.1 z.2.1.length z.2.2.2.2] z.2.1 z.2.2.1) ((0, [], [], _, 0))
      · repeat' (first | exact trivial | refine ⟨⟨_, rfl, by first | rfl | exact inc_eq _ (by omega) | (refine sl_eq ?_; simp; done), by first | exact trivial | simp [SV.ok]⟩, ?_⟩)
      · exact ⟨rfl, trivial⟩
      · try dsimp only
        exact ⟨Nat.zero_le _, rfl, sl_nil _ _ _⟩
      · exact .refl _
      rintro ⟨k, o, A, lb, lc⟩ hI
      obtain ⟨hk, ho, oA⟩ : k ≤ x.atoms.length ∧ o = (x.atoms.take k).map atomS ∧ (gSl 9 gS).ow [.slice lb o.length lc] o A := hI
      try dsimp only
      refine VCsplit.intro (fun q5 => ?_) (fun q5 => ?_)
      ·
        simp at q5
        have haz := at_all hqs2.2.2.1 (k := k) (by omega)
        have hol : o.length ≤ 4 := (by rw [ho, List.length_map, List.length_take]; omega)
        refine idx_rd h2p ?_ ?_ fun b6 o6 hb6 => ?_
        · omega
        · omega
        refine load_allN default (k) rfl h2p ?_ ?_ hb6 rfl (mem_at 1 rfl) fun l7 hl7 => ?_
        · omega
        · omega
        obtain ⟨rfl, w0x7, w1x7, w2x7⟩ := gAtom_rd.1 hl7
        refine VCnew.intro fun x8 => ?_
        refine VC.intro ?_ ?_
        · omega
        refine VC.intro ?_ ?_
        · simp; omega
        refine VC.intro ?_ ?_
        · simp; omega
        refine VC.intro ?_ ?_
        · simp; omega
        refine VCnew.intro fun x9 => ?_
        refine gappend1 (g := gS) (T := (9 : TypeId)) G_ok A [] [H] ?_ oA (gS_ow ?_) (List.mem_of_getElem? (i := 0) rfl) rfl rfl rfl rfl rfl rfl rfl rfl ?_ fun b10 c10 A10 o10 => ?_
        · exact .tl
        · simp; omega
        · omega
        apply loop_stepA (k + 1, _, _, _, _)
        · exact .refl _
        · repeat' (first | exact trivial | refine ⟨⟨_, rfl, by first | rfl | exact inc_eq _ (by omega) | (refine sl_eq ?_; simp; done), by first | exact trivial | simp [SV.ok]⟩, ?_⟩)
        · exact ⟨rfl, trivial⟩
        · try dsimp only
          exact ⟨by omega, by rw [ho, map_step atomS (by omega)]; rfl, ‹_›⟩
        try dsimp only
        omega
      ·
        simp at q5
        obtain rfl : k = x.atoms.length := by omega
        rw [List.take_length] at ho
        apply loop_mod (α := (Nat) × (List ByteArray) × (Hp) × (Option Addr) × (Nat)) G_ok [48, 49, 50, 9, 51, 52, 10, 11, 53, 54, 55, 56, 57, 58, 59, 60, 61, 62, 63, 64, 65, 66, 67, 68, 69, 5, 70, 47] (fun z => [(47, .v (.int .i64 z.1)), (5, .v (.slice z.2.2.2.1 z.2.1.length z.2.2.2.2))]) (fun z => [{ id := x0, cs := [Value.bool x.each, Value.slice b1p x.out.length c1p, Value.slice b2p x.atoms.length c2p, Value.slice b3p x.filters.length c3p], ty := (37 : Nat) }]) (fun z => [z.2.2.1, H]) (fun z => x.filters.length - z.1) (fun z => z.1 ≤ x.filters.length ∧ z.2.1 = x.atoms.map atomS ++ (x.filters.take z.1).map filtS ∧ (gSl 9 gS).ow [.slice z.2.2.2.1 z.2.1.length z.2.2.2.2] z.2.1 z.2.2.1) ((0, o, A, lb, lc))
        · repeat' (first | exact trivial | refine ⟨⟨_, rfl, by first | rfl | exact inc_eq _ (by omega) | (refine sl_eq ?_; simp; done), by first | exact trivial | simp [SV.ok]⟩, ?_⟩)
        · exact ⟨rfl, trivial⟩
        · try dsimp only
          exact ⟨Nat.zero_le _, by rw [ho]; simp, oA⟩
        · exact .refl _
        rintro ⟨j, o2, A2, lb2, lc2⟩ hI
        obtain ⟨hj, ho2, oA2⟩ : j ≤ x.filters.length ∧ o2 = x.atoms.map atomS ++ (x.filters.take j).map filtS ∧ (gSl 9 gS).ow [.slice lb2 o2.length lc2] o2 A2 := hI
        try dsimp only
        refine VCsplit.intro (fun q11 => ?_) (fun q11 => ?_)
        ·
          simp at q11
          have hfz := at_all hqs2.2.2.2 (k := j) (by omega)
          have hdz := dc_szq hfz
          have hol2 : o2.length ≤ 7 := (by rw [ho2, List.length_append, List.length_map, List.length_map, List.length_take]; omega)
          refine idx_rd h3p ?_ ?_ fun b12 o12 hb12 => ?_
          · omega
          · omega
          refine load_allN default (j) rfl h3p ?_ ?_ hb12 rfl (mem_at 1 rfl) fun l13 hl13 => ?_
          · omega
          · omega
          obtain ⟨rfl, w0x13, w1x13, w2x13, w3x13⟩ := gFilter_rd.1 hl13
          refine VCnew.intro fun x14 => ?_
          refine draw G_ok mixed none (.q 0 (.q 1 (.q 2 (.q 3 (.nil))))) (by decide +kernel) ?_
          refine VCsplit.intro (fun q15 => ?_) (fun q15 => ?_)
          ·
            simp at q15
            refine VCsplit.intro (fun q16 => ?_) (fun q16 => ?_)
            ·
              simp at q16
              refine call_val (decimalAll_ct _ ?_) (by (try exact TabIn.mono hT (mem_at 0 rfl)); (try exact TabIn.mono hT (mem_at 1 rfl)); (try exact TabIn.mono hT (mem_at 2 rfl))) ?_
              · omega
              rintro _ rfl
              refine VC.intro ?_ ?_
              · omega
              refine VC.intro ?_ ?_
              · simp; omega
              refine VCnew.intro fun x18 => ?_
              refine gappend1 (g := gS) (T := (9 : TypeId)) G_ok A2 [] [H] ?_ oA2 (gS_ow ?_) (List.mem_of_getElem? (i := 0) rfl) rfl rfl rfl rfl rfl rfl rfl rfl ?_ fun b19 c19 A19 o19 => ?_
              · exact .tl
              · simp; omega
              · omega
              apply loop_stepA (j + 1, _, _, _, _)
              · exact .refl _
              · repeat' (first | exact trivial | refine ⟨⟨_, rfl, by first | rfl | exact inc_eq _ (by omega) | (refine sl_eq ?_; simp; done), by first | exact trivial | simp [SV.ok]⟩, ?_⟩)
              · exact ⟨rfl, trivial⟩
              · try dsimp only
                exact ⟨by omega, by rw [filt_1 (by assumption) (by assumption), ho2, map_step filtS (by omega), List.append_assoc], ‹_›⟩
              try dsimp only
              omega
            ·
              simp at q16
              refine VC.intro ?_ ?_
              · omega
              refine VC.intro ?_ ?_
              · simp; omega
              refine VCnew.intro fun x20 => ?_
              refine gappend1 (g := gS) (T := (9 : TypeId)) G_ok A2 [] [H] ?_ oA2 (gS_ow ?_) (List.mem_of_getElem? (i := 0) rfl) rfl rfl rfl rfl rfl rfl rfl rfl ?_ fun b21 c21 A21 o21 => ?_
              · exact .tl
              · simp; omega
              · omega
              apply loop_stepA (j + 1, _, _, _, _)
              · exact .refl _
              · repeat' (first | exact trivial | refine ⟨⟨_, rfl, by first | rfl | exact inc_eq _ (by omega) | (refine sl_eq ?_; simp; done), by first | exact trivial | simp [SV.ok]⟩, ?_⟩)
              · exact ⟨rfl, trivial⟩
              · try dsimp only
                exact ⟨by omega, by rw [filt_2 (by assumption) (by assumption), ho2, map_step filtS (by omega), List.append_assoc], ‹_›⟩
              try dsimp only
              omega
          ·
            simp at q15
            refine VCsplit.intro (fun q22 => ?_) (fun q22 => ?_)
            ·
              simp at q22
              refine call_val (decimalAll_ct _ ?_) (by (try exact TabIn.mono hT (mem_at 0 rfl)); (try exact TabIn.mono hT (mem_at 1 rfl)); (try exact TabIn.mono hT (mem_at 2 rfl))) ?_
              · omega
              rintro _ rfl
              refine VC.intro ?_ ?_
              · omega
              refine VC.intro ?_ ?_
              · simp; omega
              refine VCnew.intro fun x24 => ?_
              refine gappend1 (g := gS) (T := (9 : TypeId)) G_ok A2 [] [H] ?_ oA2 (gS_ow ?_) (List.mem_of_getElem? (i := 0) rfl) rfl rfl rfl rfl rfl rfl rfl rfl ?_ fun b25 c25 A25 o25 => ?_
              · exact .tl
              · simp; omega
              · omega
              apply loop_stepA (j + 1, _, _, _, _)
              · exact .refl _
              · repeat' (first | exact trivial | refine ⟨⟨_, rfl, by first | rfl | exact inc_eq _ (by omega) | (refine sl_eq ?_; simp; done), by first | exact trivial | simp [SV.ok]⟩, ?_⟩)
              · exact ⟨rfl, trivial⟩
              · try dsimp only
                exact ⟨by omega, by rw [filt_3 (by assumption) (by assumption), ho2, map_step filtS (by omega), List.append_assoc], ‹_›⟩
              try dsimp only
              omega
            ·
              simp at q22
              refine VC.intro ?_ ?_
              · omega
              refine VC.intro ?_ ?_
              · simp; omega
              refine VCnew.intro fun x26 => ?_
              refine gappend1 (g := gS) (T := (9 : TypeId)) G_ok A2 [] [H] ?_ oA2 (gS_ow ?_) (List.mem_of_getElem? (i := 0) rfl) rfl rfl rfl rfl rfl rfl rfl rfl ?_ fun b27 c27 A27 o27 => ?_
              · exact .tl
              · simp; omega
              · omega
              apply loop_stepA (j + 1, _, _, _, _)
              · exact .refl _
              · repeat' (first | exact trivial | refine ⟨⟨_, rfl, by first | rfl | exact inc_eq _ (by omega) | (refine sl_eq ?_; simp; done), by first | exact trivial | simp [SV.ok]⟩, ?_⟩)
              · exact ⟨rfl, trivial⟩
              · try dsimp only
                exact ⟨by omega, by rw [filt_4 (by assumption) (by assumption), ho2, map_step filtS (by omega), List.append_assoc], ‹_›⟩
              try dsimp only
              omega
        ·
          simp at q11
          obtain rfl : j = x.filters.length := by omega
          rw [List.take_length] at ho2
          obtain ⟨hc1, hc2, hc3⟩ := conds_end (by assumption) ho2
          have hse := show_each (by assumption) ho2
          have hze := congrArg ByteArray.size hse
          simp only [ByteArray.size_append] at hze
          refine call_val (join_ct _ _ _ (o2) ?_ ?_) (Rp.mono _ (mem_at 0 rfl) (Gt.owrd _ oA2)) ?_
          · trivial
          · trivial
          rintro _ rfl
          refine VC.intro ?_ ?_
          · simp; omega
          refine VCsplit.intro (fun q29 => ?_) (fun q29 => ?_)
          ·
            simp at q29
            (have hno : ¬ (showQ x).size ≤ 200 := (by omega); exact ⟨[], ⟨by rw [showV_no (showOk_no2 hno), showOk_no2 hno]; rfl, rfl⟩, (.le fun a => by (try simp only [setR, List.cons_append, List.nil_append]); simp only [List.flatten_append, List.flatten_cons, List.flatten_nil, List.count_append, List.count_nil, List.append_nil, List.nil_append]; omega)⟩)
          ·
            simp at q29
            (have hys : (showQ x).size ≤ 200 := (by omega); exact ⟨[], ⟨by rw [hse, showV_yes (showOk_yes (by assumption) hys), showOk_yes (by assumption) hys], rfl⟩, (.le fun a => by (try simp only [setR, List.cons_append, List.nil_append]); simp only [List.flatten_append, List.flatten_cons, List.flatten_nil, List.count_append, List.count_nil, List.append_nil, List.nil_append]; omega)⟩)
    ·
      apply loop_mod (α := (Nat) × (List ByteArray) × (Hp) × (Option Addr) × (Nat)) G_ok [27, 28, 29, 7, 30, 31, 32, 33, 34, 35, 36, 37, 38, 39, 40, 41, 42, 5, 43, 26] (fun z => [(26, .v (.int .i64 z.1)), (5, .v (.slice z.2.2.2.1 z.2.1.length z.2.2.2.2))]) (fun z => [{ id := x0, cs := [Value.bool x.each, Value.slice b1p x.out.length c1p, Value.slice b2p x.atoms.length c2p, Value.slice b3p x.filters.length c3p], ty := (37 : Nat) }]) (fun z => [z.2.2.1, H]) (fun z => x.atoms.length - z.1) (fun z => z.1 ≤ x.atoms.length ∧ z.2.1 = (x.atoms.take z.1).map atomS ∧ (gSl 9 gS).ow [.slice z.2.2.2.1 z.2.1.length z.2.2.2.2] z.2.1 z.2.2.1) ((0, [], [], _, 0))
      · repeat' (first | exact trivial | refine ⟨⟨_, rfl, by first | rfl | exact inc_eq _ (by omega) | (refine sl_eq ?_; simp; done), by first | exact trivial | simp [SV.ok]⟩, ?_⟩)
      · exact ⟨rfl, trivial⟩
      · try dsimp only
        exact ⟨Nat.zero_le _, rfl, sl_nil _ _ _⟩
      · exact .refl _
      rintro ⟨k, o, A, lb, lc⟩ hI
      obtain ⟨hk, ho, oA⟩ : k ≤ x.atoms.length ∧ o = (x.atoms.take k).map atomS ∧ (gSl 9 gS).ow [.slice lb o.length lc] o A := hI
      try dsimp only
      refine VCsplit.intro (fun q30 => ?_) (fun q30 => ?_)
      ·
        simp at q30
        have haz := at_all hqs2.2.2.1 (k := k) (by omega)
        have hol : o.length ≤ 4 := (by rw [ho, List.length_map, List.length_take]; omega)
        refine idx_rd h2p ?_ ?_ fun b31 o31 hb31 => ?_
        · omega
        · omega
        refine load_allN default (k) rfl h2p ?_ ?_ hb31 rfl (mem_at 1 rfl) fun l32 hl32 => ?_
        · omega
        · omega
        obtain ⟨rfl, w0x32, w1x32, w2x32⟩ := gAtom_rd.1 hl32
        refine VCnew.intro fun x33 => ?_
        refine VC.intro ?_ ?_
        · omega
        refine VC.intro ?_ ?_
        · simp; omega
        refine VC.intro ?_ ?_
        · simp; omega
        refine VC.intro ?_ ?_
        · simp; omega
        refine VCnew.intro fun x34 => ?_
        refine gappend1 (g := gS) (T := (9 : TypeId)) G_ok A [] [H] ?_ oA (gS_ow ?_) (List.mem_of_getElem? (i := 0) rfl) rfl rfl rfl rfl rfl rfl rfl rfl ?_ fun b35 c35 A35 o35 => ?_
        · exact .tl
        · simp; omega
        · omega
        apply loop_stepA (k + 1, _, _, _, _)
        · exact .refl _
        · repeat' (first | exact trivial | refine ⟨⟨_, rfl, by first | rfl | exact inc_eq _ (by omega) | (refine sl_eq ?_; simp; done), by first | exact trivial | simp [SV.ok]⟩, ?_⟩)
        · exact ⟨rfl, trivial⟩
        · try dsimp only
          exact ⟨by omega, by rw [ho, map_step atomS (by omega)]; rfl, ‹_›⟩
        try dsimp only
        omega
      ·
        simp at q30
        obtain rfl : k = x.atoms.length := by omega
        rw [List.take_length] at ho
        apply loop_mod (α := (Nat) × (List ByteArray) × (Hp) × (Option Addr) × (Nat)) G_ok [48, 49, 50, 9, 51, 52, 10, 11, 53, 54, 55, 56, 57, 58, 59, 60, 61, 62, 63, 64, 65, 66, 67, 68, 69, 5, 70, 47] (fun z => [(47, .v (.int .i64 z.1)), (5, .v (.slice z.2.2.2.1 z.2.1.length z.2.2.2.2))]) (fun z => [{ id := x0, cs := [Value.bool x.each, Value.slice b1p x.out.length c1p, Value.slice b2p x.atoms.length c2p, Value.slice b3p x.filters.length c3p], ty := (37 : Nat) }]) (fun z => [z.2.2.1, H]) (fun z => x.filters.length - z.1) (fun z => z.1 ≤ x.filters.length ∧ z.2.1 = x.atoms.map atomS ++ (x.filters.take z.1).map filtS ∧ (gSl 9 gS).ow [.slice z.2.2.2.1 z.2.1.length z.2.2.2.2] z.2.1 z.2.2.1) ((0, o, A, lb, lc))
        · repeat' (first | exact trivial | refine ⟨⟨_, rfl, by first | rfl | exact inc_eq _ (by omega) | (refine sl_eq ?_; simp; done), by first | exact trivial | simp [SV.ok]⟩, ?_⟩)
        · exact ⟨rfl, trivial⟩
        · try dsimp only
          exact ⟨Nat.zero_le _, by rw [ho]; simp, oA⟩
        · exact .refl _
        rintro ⟨j, o2, A2, lb2, lc2⟩ hI
        obtain ⟨hj, ho2, oA2⟩ : j ≤ x.filters.length ∧ o2 = x.atoms.map atomS ++ (x.filters.take j).map filtS ∧ (gSl 9 gS).ow [.slice lb2 o2.length lc2] o2 A2 := hI
        try dsimp only
        refine VCsplit.intro (fun q36 => ?_) (fun q36 => ?_)
        ·
          simp at q36
          have hfz := at_all hqs2.2.2.2 (k := j) (by omega)
          have hdz := dc_szq hfz
          have hol2 : o2.length ≤ 7 := (by rw [ho2, List.length_append, List.length_map, List.length_map, List.length_take]; omega)
          refine idx_rd h3p ?_ ?_ fun b37 o37 hb37 => ?_
          · omega
          · omega
          refine load_allN default (j) rfl h3p ?_ ?_ hb37 rfl (mem_at 1 rfl) fun l38 hl38 => ?_
          · omega
          · omega
          obtain ⟨rfl, w0x38, w1x38, w2x38, w3x38⟩ := gFilter_rd.1 hl38
          refine VCnew.intro fun x39 => ?_
          refine draw G_ok mixed none (.q 0 (.q 1 (.q 2 (.q 3 (.nil))))) (by decide +kernel) ?_
          refine VCsplit.intro (fun q40 => ?_) (fun q40 => ?_)
          ·
            simp at q40
            refine VCsplit.intro (fun q41 => ?_) (fun q41 => ?_)
            ·
              simp at q41
              refine call_val (decimalAll_ct _ ?_) (by (try exact TabIn.mono hT (mem_at 0 rfl)); (try exact TabIn.mono hT (mem_at 1 rfl)); (try exact TabIn.mono hT (mem_at 2 rfl))) ?_
              · omega
              rintro _ rfl
              refine VC.intro ?_ ?_
              · omega
              refine VC.intro ?_ ?_
              · simp; omega
              refine VCnew.intro fun x43 => ?_
              refine gappend1 (g := gS) (T := (9 : TypeId)) G_ok A2 [] [H] ?_ oA2 (gS_ow ?_) (List.mem_of_getElem? (i := 0) rfl) rfl rfl rfl rfl rfl rfl rfl rfl ?_ fun b44 c44 A44 o44 => ?_
              · exact .tl
              · simp; omega
              · omega
              apply loop_stepA (j + 1, _, _, _, _)
              · exact .refl _
              · repeat' (first | exact trivial | refine ⟨⟨_, rfl, by first | rfl | exact inc_eq _ (by omega) | (refine sl_eq ?_; simp; done), by first | exact trivial | simp [SV.ok]⟩, ?_⟩)
              · exact ⟨rfl, trivial⟩
              · try dsimp only
                exact ⟨by omega, by rw [filt_1 (by assumption) (by assumption), ho2, map_step filtS (by omega), List.append_assoc], ‹_›⟩
              try dsimp only
              omega
            ·
              simp at q41
              refine VC.intro ?_ ?_
              · omega
              refine VC.intro ?_ ?_
              · simp; omega
              refine VCnew.intro fun x45 => ?_
              refine gappend1 (g := gS) (T := (9 : TypeId)) G_ok A2 [] [H] ?_ oA2 (gS_ow ?_) (List.mem_of_getElem? (i := 0) rfl) rfl rfl rfl rfl rfl rfl rfl rfl ?_ fun b46 c46 A46 o46 => ?_
              · exact .tl
              · simp; omega
              · omega
              apply loop_stepA (j + 1, _, _, _, _)
              · exact .refl _
              · repeat' (first | exact trivial | refine ⟨⟨_, rfl, by first | rfl | exact inc_eq _ (by omega) | (refine sl_eq ?_; simp; done), by first | exact trivial | simp [SV.ok]⟩, ?_⟩)
              · exact ⟨rfl, trivial⟩
              · try dsimp only
                exact ⟨by omega, by rw [filt_2 (by assumption) (by assumption), ho2, map_step filtS (by omega), List.append_assoc], ‹_›⟩
              try dsimp only
              omega
          ·
            simp at q40
            refine VCsplit.intro (fun q47 => ?_) (fun q47 => ?_)
            ·
              simp at q47
              refine call_val (decimalAll_ct _ ?_) (by (try exact TabIn.mono hT (mem_at 0 rfl)); (try exact TabIn.mono hT (mem_at 1 rfl)); (try exact TabIn.mono hT (mem_at 2 rfl))) ?_
              · omega
              rintro _ rfl
              refine VC.intro ?_ ?_
              · omega
              refine VC.intro ?_ ?_
              · simp; omega
              refine VCnew.intro fun x49 => ?_
              refine gappend1 (g := gS) (T := (9 : TypeId)) G_ok A2 [] [H] ?_ oA2 (gS_ow ?_) (List.mem_of_getElem? (i := 0) rfl) rfl rfl rfl rfl rfl rfl rfl rfl ?_ fun b50 c50 A50 o50 => ?_
              · exact .tl
              · simp; omega
              · omega
              apply loop_stepA (j + 1, _, _, _, _)
              · exact .refl _
              · repeat' (first | exact trivial | refine ⟨⟨_, rfl, by first | rfl | exact inc_eq _ (by omega) | (refine sl_eq ?_; simp; done), by first | exact trivial | simp [SV.ok]⟩, ?_⟩)
              · exact ⟨rfl, trivial⟩
              · try dsimp only
                exact ⟨by omega, by rw [filt_3 (by assumption) (by assumption), ho2, map_step filtS (by omega), List.append_assoc], ‹_›⟩
              try dsimp only
              omega
            ·
              simp at q47
              refine VC.intro ?_ ?_
              · omega
              refine VC.intro ?_ ?_
              · simp; omega
              refine VCnew.intro fun x51 => ?_
              refine gappend1 (g := gS) (T := (9 : TypeId)) G_ok A2 [] [H] ?_ oA2 (gS_ow ?_) (List.mem_of_getElem? (i := 0) rfl) rfl rfl rfl rfl rfl rfl rfl rfl ?_ fun b52 c52 A52 o52 => ?_
              · exact .tl
              · simp; omega
              · omega
              apply loop_stepA (j + 1, _, _, _, _)
              · exact .refl _
              · repeat' (first | exact trivial | refine ⟨⟨_, rfl, by first | rfl | exact inc_eq _ (by omega) | (refine sl_eq ?_; simp; done), by first | exact trivial | simp [SV.ok]⟩, ?_⟩)
              · exact ⟨rfl, trivial⟩
              · try dsimp only
                exact ⟨by omega, by rw [filt_4 (by assumption) (by assumption), ho2, map_step filtS (by omega), List.append_assoc], ‹_›⟩
              try dsimp only
              omega
        ·
          simp at q36
          obtain rfl : j = x.filters.length := by omega
          rw [List.take_length] at ho2
          obtain ⟨hc1, hc2, hc3⟩ := conds_end (by assumption) ho2
          have hse := show_plain (by assumption) ho2
          have hze := congrArg ByteArray.size hse
          simp only [ByteArray.size_append] at hze
          refine call_val (join_ct _ _ _ (o2) ?_ ?_) (Rp.mono _ (mem_at 0 rfl) (Gt.owrd _ oA2)) ?_
          · trivial
          · trivial
          rintro _ rfl
          refine VC.intro ?_ ?_
          · simp; omega
          refine VCsplit.intro (fun q54 => ?_) (fun q54 => ?_)
          ·
            simp at q54
            (have hno : ¬ (showQ x).size ≤ 200 := (by omega); exact ⟨[], ⟨by rw [showV_no (showOk_no2 hno), showOk_no2 hno]; rfl, rfl⟩, (.le fun a => by (try simp only [setR, List.cons_append, List.nil_append]); simp only [List.flatten_append, List.flatten_cons, List.flatten_nil, List.count_append, List.count_nil, List.append_nil, List.nil_append]; omega)⟩)
          ·
            simp at q54
            (have hys : (showQ x).size ≤ 200 := (by omega); exact ⟨[], ⟨by rw [hse, showV_yes (showOk_yes (by assumption) hys), showOk_yes (by assumption) hys], rfl⟩, (.le fun a => by (try simp only [setR, List.cons_append, List.nil_append]); simp only [List.flatten_append, List.flatten_cons, List.flatten_nil, List.count_append, List.count_nil, List.append_nil, List.nil_append]; omega)⟩)
--@ct spec.ShowQuery val specShowQuery_ct _ $1 ?_ | %1
theorem specShowQuery_ct (l : List Value) (x : Query) (hx : gQuery.sz x ≤ 1048576) : Ct Tryz.prog 94 [.agg ⟨l⟩] [] (fun H => gQuery.rd H l x) (fun v A => v = .tuple #[.string (showV x), .bool (showOk x)] ∧ A = []) := by
  refine Ct.intro0 G_ok Tryz.func94 rfl rfl rfl fun E H hp => ?_
  obtain ⟨b1p, c1p, b2p, c2p, b3p, c3p, rfl, h1p, h2p, h3p⟩ := gQuery_rd.1 hp
  have him : IntKind.i64.max = 9223372036854775807 := rfl
  have hl1 : (⟨#[32, 58, 32]⟩ : ByteArray).size = 3 := rfl
  have hl2 : (⟨#[101, 97, 99, 104, 32]⟩ : ByteArray).size = 5 := rfl
  have hl3 : (⟨#[32, 91]⟩ : ByteArray).size = 2 := rfl
  have hl4 : (⟨#[93, 32]⟩ : ByteArray).size = 2 := rfl
  have hl5 : (⟨#[32, 60, 32]⟩ : ByteArray).size = 3 := rfl
  have hl6 : (⟨#[32, 61, 32]⟩ : ByteArray).size = 3 := rfl
  refine VCnew.intro fun x0 => ?_
  refine call_val (specQueryOk_ct _ (x) ?_) (Rp.mono _ (mem_at 0 rfl) hp) ?_
  · trivial
  rintro _ rfl
  refine VCsplit.intro (fun q2 => ?_) (fun q2 => ?_)
  ·
    simp at q2
    exact ⟨[], ⟨by rw [showV_no (showOk_no1 (by assumption)), showOk_no1 (by assumption)]; rfl, rfl⟩, (.le fun a => by (try simp only [setR, List.cons_append, List.nil_append]); simp [List.count_cons, Blk.ent, idOf]; try omega)⟩
  ·
    simp at q2
    (have hqs2 := query_sizes q2; have hos2 := out_sz q2)
    refine call_val (l08Join_ct _ _ _ (x.out) ?_ ?_) (Rp.mono _ (mem_at 0 rfl) h1p) ?_
    · omega
    · grind
    rintro _ rfl
    refine VC.intro ?_ ?_
    · omega
    refine VCsplit.intro (fun q4 => ?_) (fun q4 => ?_)
    ·
      refine VC.intro ?_ ?_
      · simp; omega
      refine VCnew.intro fun x5 => ?_
      apply loop_mod (α := (Nat) × (List ByteArray) × (Hp) × (Option Addr) × (Nat)) G_ok [23, 24, 25, 26, 27, 30, 31, 32, 33, 34, 35, 36, 37, 38, 39, 40, 41, 42, 43, 44, 45, 46, 47, 48, 49, 50, 51, 52, 53, 54, 5, 28, 29, 6] (fun z => [(6, .v (.int .i64 z.1)), (5, .v (.slice z.2.2.2.1 z.2.1.length z.2.2.2.2))]) (fun z => [{ id := x0, cs := [Value.bool x.each, Value.slice b1p x.out.length c1p, Value.slice b2p x.atoms.length c2p, Value.slice b3p x.filters.length c3p], ty := (37 : Nat) }]) (fun z => [z.2.2.1, H]) (fun z => x.atoms.length - z.1) (fun z => z.1 ≤ x.atoms.length ∧ z.2.1 = (x.atoms.take z.1).map atomS ∧ (gSl 9 gS).ow [.slice z.2.2.2.1 z.2.1.length z.2.2.2.2] z.2.1 z.2.2.1) ((0, [], [], _, 0))
      · repeat' (first | exact trivial | refine ⟨⟨_, rfl, by first | rfl | exact inc_eq _ (by omega) | (refine sl_eq ?_; simp; done), by first | exact trivial | simp [SV.ok]⟩, ?_⟩)
      · exact ⟨rfl, trivial⟩
      · try dsimp only
        exact ⟨Nat.zero_le _, rfl, sl_nil _ _ _⟩
      · exact .tl
      rintro ⟨k, o, A, lb, lc⟩ hI
      obtain ⟨hk, ho, oA⟩ : k ≤ x.atoms.length ∧ o = (x.atoms.take k).map atomS ∧ (gSl 9 gS).ow [.slice lb o.length lc] o A := hI
      try dsimp only
      refine VCsplit.intro (fun q6 => ?_) (fun q6 => ?_)
      ·
        simp at q6
        have haz := at_all hqs2.2.2.1 (k := k) (by omega)
        have hol : o.length ≤ 4 := (by rw [ho, List.length_map, List.length_take]; omega)
        refine draw G_ok mixed (some 24) (.q 0 (.q 1 (.q 2 (.q 3 (.q 4 (.q 5 (.q 6 (.q 7 (.q 8 (.q 9 (.q 10 (.q 11 (.q 12 (.q 13 (.q 14 (.q 15 (.q 16 (.q 17 (.q 18 (.q 19 (.q 20 (.q 21 (.q 22 (.f 23 (.tl 24 (.f 25 (.nil))))))))))))))))))))))))))) (by decide +kernel) ?_
        refine idx_rd h2p ?_ ?_ fun b7 o7 hb7 => ?_
        · omega
        · omega
        refine load_partN default (k) 0 rfl h2p ?_ ?_ hb7 rfl (by decide) (mem_at 1 rfl) fun l8 hl8 => ?_
        · omega
        · omega
        obtain ⟨rfl, w0x8, w1x8, w2x8⟩ := gAtom_rd.1 hl8
        refine VC.intro ?_ ?_
        · omega
        refine idx_rd h2p ?_ ?_ fun b9 o9 hb9 => ?_
        · omega
        · omega
        refine load_partN default (k) 1 rfl h2p ?_ ?_ hb9 rfl (by decide) (mem_at 1 rfl) fun l10 hl10 => ?_
        · omega
        · omega
        obtain ⟨rfl, w0x10, w1x10, w2x10⟩ := gAtom_rd.1 hl10
        refine VC.intro ?_ ?_
        · simp; omega
        refine VC.intro ?_ ?_
        · simp; omega
        refine idx_rd h2p ?_ ?_ fun b11 o11 hb11 => ?_
        · omega
        · omega
        refine load_partN default (k) 2 rfl h2p ?_ ?_ hb11 rfl (by decide) (mem_at 1 rfl) fun l12 hl12 => ?_
        · omega
        · omega
        obtain ⟨rfl, w0x12, w1x12, w2x12⟩ := gAtom_rd.1 hl12
        refine VC.intro ?_ ?_
        · simp; omega
        refine VCnew.intro fun x13 => ?_
        refine VC.intro ?_ ?_
        · exact keep_new
        refine gappend1 (g := gS) (T := (9 : TypeId)) G_ok A [] [H] ?_ oA (gS_ow ?_) (List.mem_of_getElem? (i := 0) rfl) rfl rfl rfl rfl rfl rfl rfl rfl ?_ fun b14 c14 A14 o14 => ?_
        · exact .tl
        · simp; omega
        · omega
        apply loop_stepA (k + 1, _, _, _, _)
        · exact .refl _
        · repeat' (first | exact trivial | refine ⟨⟨_, rfl, by first | rfl | exact inc_eq _ (by omega) | (refine sl_eq ?_; simp; done), by first | exact trivial | simp [SV.ok]⟩, ?_⟩)
        · exact ⟨rfl, trivial⟩
        · try dsimp only
          exact ⟨by omega, by rw [ho, map_step atomS (by omega)]; rfl, ‹_›⟩
        try dsimp only
        omega
      ·
        simp at q6
        obtain rfl : k = x.atoms.length := by omega
        rw [List.take_length] at ho
        refine VCnew.intro fun x15 => ?_
        have ol15 : Ow flStr (9 : TypeId) (.slice (some ⟨x15, 0, none⟩) 3 3) [{ data := List.toArray [] }, { data := List.toArray [(32 : UInt8), (60 : UInt8), (32 : UInt8)] }, { data := List.toArray [(32 : UInt8), (61 : UInt8), (32 : UInt8)] }] [(x15, Obj.cells { toList := Value.string { data := #[] } :: Value.string { data := #[(32 : UInt8), (60 : UInt8), (32 : UInt8)] } :: Value.string { data := #[(32 : UInt8), (61 : UInt8), (32 : UInt8)] } :: [].append (zeros (nat_lit 0) [Value.string ByteArray.empty]) } (9 : TypeId))] := Ow.lit (f := flStr) (T := (9 : TypeId)) (b := x15) (xs := [{ data := List.toArray [] }, { data := List.toArray [(32 : UInt8), (60 : UInt8), (32 : UInt8)] }, { data := List.toArray [(32 : UInt8), (61 : UInt8), (32 : UInt8)] }]) (fun x hx => of_decide_eq_true (p := x.size ≤ 9223372036854775807) (List.all_eq_true.1 (show ([{ data := List.toArray [] }, { data := List.toArray [(32 : UInt8), (60 : UInt8), (32 : UInt8)] }, { data := List.toArray [(32 : UInt8), (61 : UInt8), (32 : UInt8)] }] : List ByteArray).all (fun s => decide (s.size ≤ 9223372036854775807)) = true by decide) x hx)) (by simp)
        apply loop_mod (α := (Nat) × (List ByteArray) × (Hp) × (Option Addr) × (Nat)) G_ok [56, 57, 58, 59, 60, 63, 64, 65, 66, 67, 9, 68, 69, 10, 70, 71, 72, 73, 74, 75, 76, 77, 78, 79, 80, 81, 82, 83, 84, 85, 86, 87, 5, 61, 62, 8] (fun z => [(8, .v (.int .i64 z.1)), (5, .v (.slice z.2.2.2.1 z.2.1.length z.2.2.2.2))]) (fun z => [{ id := x0, cs := [Value.bool x.each, Value.slice b1p x.out.length c1p, Value.slice b2p x.atoms.length c2p, Value.slice b3p x.filters.length c3p], ty := (37 : Nat) }]) (fun z => [z.2.2.1, [(x15, Obj.cells { toList := Value.string { data := #[] } :: Value.string { data := #[(32 : UInt8), (60 : UInt8), (32 : UInt8)] } :: Value.string { data := #[(32 : UInt8), (61 : UInt8), (32 : UInt8)] } :: [].append (zeros (nat_lit 0) [Value.string ByteArray.empty]) } (9 : TypeId))], H]) (fun z => x.filters.length - z.1) (fun z => z.1 ≤ x.filters.length ∧ z.2.1 = x.atoms.map atomS ++ (x.filters.take z.1).map filtS ∧ (gSl 9 gS).ow [.slice z.2.2.2.1 z.2.1.length z.2.2.2.2] z.2.1 z.2.2.1) ((0, o, A, lb, lc))
        · repeat' (first | exact trivial | refine ⟨⟨_, rfl, by first | rfl | exact inc_eq _ (by omega) | (refine sl_eq ?_; simp; done), by first | exact trivial | simp [SV.ok]⟩, ?_⟩)
        · exact ⟨rfl, trivial⟩
        · try dsimp only
          exact ⟨Nat.zero_le _, by rw [ho]; simp, oA⟩
        · exact .le fun a => by (try simp only [setR, List.cons_append, List.nil_append]); simp only [List.flatten_append, List.flatten_cons, List.flatten_nil, List.count_append, List.count_nil, List.append_nil, List.nil_append]; omega
        rintro ⟨j, o2, A2, lb2, lc2⟩ hI
        obtain ⟨hj, ho2, oA2⟩ : j ≤ x.filters.length ∧ o2 = x.atoms.map atomS ++ (x.filters.take j).map filtS ∧ (gSl 9 gS).ow [.slice lb2 o2.length lc2] o2 A2 := hI
        try dsimp only
        refine VCsplit.intro (fun q16 => ?_) (fun q16 => ?_)
        ·
          simp at q16
          have hfz := at_all hqs2.2.2.2 (k := j) (by omega)
          have hdz := dc_szq hfz
          have hsz9 := sign_sz hfz.2.2.1
          have hol2 : o2.length ≤ 7 := (by rw [ho2, List.length_append, List.length_map, List.length_map, List.length_take]; omega)
          refine idx_rd h3p ?_ ?_ fun b17 o17 hb17 => ?_
          · omega
          · omega
          refine load_allN default (j) rfl h3p ?_ ?_ hb17 rfl (mem_at 2 rfl) fun l18 hl18 => ?_
          · omega
          · omega
          obtain ⟨rfl, w0x18, w1x18, w2x18, w3x18⟩ := gFilter_rd.1 hl18
          refine VCnew.intro fun x19 => ?_
          refine VCsplit.intro (fun q20 => ?_) (fun q20 => ?_)
          ·
            simp at q20
            refine call_val (specDecimal_ct _ ?_) trivial ?_
            · omega
            rintro _ rfl
            refine draw G_ok mixed (some 12) (.q 0 (.q 1 (.q 2 (.q 3 (.q 4 (.q 5 (.q 6 (.q 7 (.q 8 (.q 9 (.q 10 (.f 11 (.tl 12 (.f 13 (.nil))))))))))))))) (by decide +kernel) ?_
            refine idx_rd (Ow.rd ol15) ?_ ?_ fun b22 o22 hb22 => ?_
            · omega
            · simp; omega
            refine load_all ByteArray.empty (Ow.rd ol15) ?_ ?_ hb22 rfl (mem_at 1 rfl) fun l23 hl23 => ?_
            · omega
            · simp; omega
            dsimp only at hl23
            obtain ⟨rfl, hw23⟩ := hl23; simp only [flStr, flInt, okI] at hw23
            refine VC.intro ?_ ?_
            · grind
            refine VC.intro ?_ ?_
            · grind
            refine VCnew.intro fun x24 => ?_
            refine VC.intro ?_ ?_
            · exact keep_new
            refine gappend1 (g := gS) (T := (9 : TypeId)) G_ok A2 [] [[(x15, Obj.cells { toList := Value.string { data := #[] } :: Value.string { data := #[(32 : UInt8), (60 : UInt8), (32 : UInt8)] } :: Value.string { data := #[(32 : UInt8), (61 : UInt8), (32 : UInt8)] } :: [].append (zeros (0 : Nat) [Value.string ByteArray.empty]) } (9 : TypeId))], H] ?_ oA2 (gS_ow ?_) (List.mem_of_getElem? (i := 0) rfl) rfl rfl rfl rfl rfl rfl rfl rfl ?_ fun b25 c25 A25 o25 => ?_
            · exact .tl
            · grind
            · omega
            apply loop_stepA (j + 1, _, _, _, _)
            · exact .refl _
            · repeat' (first | exact trivial | refine ⟨⟨_, rfl, by first | rfl | exact inc_eq _ (by omega) | (refine sl_eq ?_; simp; done), by first | exact trivial | simp [SV.ok]⟩, ?_⟩)
            · exact ⟨rfl, trivial⟩
            · try dsimp only
              exact ⟨by omega, by have e9 := filt_5 (f := x.filters[j]?.getD default) hfz.2.2.1 (by assumption); unfold signL at e9; rw [e9, ho2, map_step filtS (by omega), List.append_assoc], ‹_›⟩
            try dsimp only
            omega
          ·
            simp at q20
            refine draw G_ok mixed (some 12) (.q 0 (.q 1 (.q 2 (.q 3 (.q 4 (.q 5 (.q 6 (.q 7 (.q 8 (.q 9 (.q 10 (.f 11 (.tl 12 (.f 13 (.nil))))))))))))))) (by decide +kernel) ?_
            refine idx_rd (Ow.rd ol15) ?_ ?_ fun b26 o26 hb26 => ?_
            · omega
            · simp; omega
            refine load_all ByteArray.empty (Ow.rd ol15) ?_ ?_ hb26 rfl (mem_at 1 rfl) fun l27 hl27 => ?_
            · omega
            · simp; omega
            dsimp only at hl27
            obtain ⟨rfl, hw27⟩ := hl27; simp only [flStr, flInt, okI] at hw27
            refine VC.intro ?_ ?_
            · grind
            refine VC.intro ?_ ?_
            · grind
            refine VCnew.intro fun x28 => ?_
            refine VC.intro ?_ ?_
            · exact keep_new
            refine gappend1 (g := gS) (T := (9 : TypeId)) G_ok A2 [] [[(x15, Obj.cells { toList := Value.string { data := #[] } :: Value.string { data := #[(32 : UInt8), (60 : UInt8), (32 : UInt8)] } :: Value.string { data := #[(32 : UInt8), (61 : UInt8), (32 : UInt8)] } :: [].append (zeros (0 : Nat) [Value.string ByteArray.empty]) } (9 : TypeId))], H] ?_ oA2 (gS_ow ?_) (List.mem_of_getElem? (i := 0) rfl) rfl rfl rfl rfl rfl rfl rfl rfl ?_ fun b29 c29 A29 o29 => ?_
            · exact .tl
            · grind
            · omega
            apply loop_stepA (j + 1, _, _, _, _)
            · exact .refl _
            · repeat' (first | exact trivial | refine ⟨⟨_, rfl, by first | rfl | exact inc_eq _ (by omega) | (refine sl_eq ?_; simp; done), by first | exact trivial | simp [SV.ok]⟩, ?_⟩)
            · exact ⟨rfl, trivial⟩
            · try dsimp only
              exact ⟨by omega, by have e9 := filt_6 (f := x.filters[j]?.getD default) hfz.2.2.1 (by assumption); unfold signL at e9; rw [e9, ho2, map_step filtS (by omega), List.append_assoc], ‹_›⟩
            try dsimp only
            omega
        ·
          simp at q16
          obtain rfl : j = x.filters.length := by omega
          rw [List.take_length] at ho2
          obtain ⟨hc1, hc2, hc3⟩ := conds_end (by assumption) ho2
          have hse := show_each (by assumption) ho2
          have hze := congrArg ByteArray.size hse
          simp only [ByteArray.size_append] at hze
          refine call_val (l08Join_ct _ _ _ (o2) ?_ ?_) (Rp.mono _ (mem_at 0 rfl) (Gt.owrd _ oA2)) ?_
          · trivial
          · trivial
          rintro _ rfl
          refine VC.intro ?_ ?_
          · simp; omega
          refine VCsplit.intro (fun q31 => ?_) (fun q31 => ?_)
          ·
            simp at q31
            (have hno : ¬ (showQ x).size ≤ 200 := (by omega); exact ⟨[], ⟨by rw [showV_no (showOk_no2 hno), showOk_no2 hno]; rfl, rfl⟩, (.le fun a => by (try simp only [setR, List.cons_append, List.nil_append]); simp only [List.flatten_append, List.flatten_cons, List.flatten_nil, List.count_append, List.count_nil, List.append_nil, List.nil_append]; omega)⟩)
          ·
            simp at q31
            (have hys : (showQ x).size ≤ 200 := (by omega); exact ⟨[], ⟨by rw [hse, showV_yes (showOk_yes (by assumption) hys), showOk_yes (by assumption) hys], rfl⟩, (.le fun a => by (try simp only [setR, List.cons_append, List.nil_append]); simp only [List.flatten_append, List.flatten_cons, List.flatten_nil, List.count_append, List.count_nil, List.append_nil, List.nil_append]; omega)⟩)
    ·
      refine VCnew.intro fun x32 => ?_
      apply loop_mod (α := (Nat) × (List ByteArray) × (Hp) × (Option Addr) × (Nat)) G_ok [23, 24, 25, 26, 27, 30, 31, 32, 33, 34, 35, 36, 37, 38, 39, 40, 41, 42, 43, 44, 45, 46, 47, 48, 49, 50, 51, 52, 53, 54, 5, 28, 29, 6] (fun z => [(6, .v (.int .i64 z.1)), (5, .v (.slice z.2.2.2.1 z.2.1.length z.2.2.2.2))]) (fun z => [{ id := x0, cs := [Value.bool x.each, Value.slice b1p x.out.length c1p, Value.slice b2p x.atoms.length c2p, Value.slice b3p x.filters.length c3p], ty := (37 : Nat) }]) (fun z => [z.2.2.1, H]) (fun z => x.atoms.length - z.1) (fun z => z.1 ≤ x.atoms.length ∧ z.2.1 = (x.atoms.take z.1).map atomS ∧ (gSl 9 gS).ow [.slice z.2.2.2.1 z.2.1.length z.2.2.2.2] z.2.1 z.2.2.1) ((0, [], [], _, 0))
      · repeat' (first | exact trivial | refine ⟨⟨_, rfl, by first | rfl | exact inc_eq _ (by omega) | (refine sl_eq ?_; simp; done), by first | exact trivial | simp [SV.ok]⟩, ?_⟩)
      · exact ⟨rfl, trivial⟩
      · try dsimp only
        exact ⟨Nat.zero_le _, rfl, sl_nil _ _ _⟩
      · exact .tl
      rintro ⟨k, o, A, lb, lc⟩ hI
      obtain ⟨hk, ho, oA⟩ : k ≤ x.atoms.length ∧ o = (x.atoms.take k).map atomS ∧ (gSl 9 gS).ow [.slice lb o.length lc] o A := hI
      try dsimp only
      refine VCsplit.intro (fun q33 => ?_) (fun q33 => ?_)
      ·
        simp at q33
        have haz := at_all hqs2.2.2.1 (k := k) (by omega)
        have hol : o.length ≤ 4 := (by rw [ho, List.length_map, List.length_take]; omega)
        refine draw G_ok mixed (some 24) (.q 0 (.q 1 (.q 2 (.q 3 (.q 4 (.q 5 (.q 6 (.q 7 (.q 8 (.q 9 (.q 10 (.q 11 (.q 12 (.q 13 (.q 14 (.q 15 (.q 16 (.q 17 (.q 18 (.q 19 (.q 20 (.q 21 (.q 22 (.f 23 (.tl 24 (.f 25 (.nil))))))))))))))))))))))))))) (by decide +kernel) ?_
        refine idx_rd h2p ?_ ?_ fun b34 o34 hb34 => ?_
        · omega
        · omega
        refine load_partN default (k) 0 rfl h2p ?_ ?_ hb34 rfl (by decide) (mem_at 1 rfl) fun l35 hl35 => ?_
        · omega
        · omega
        obtain ⟨rfl, w0x35, w1x35, w2x35⟩ := gAtom_rd.1 hl35
        refine VC.intro ?_ ?_
        · omega
        refine idx_rd h2p ?_ ?_ fun b36 o36 hb36 => ?_
        · omega
        · omega
        refine load_partN default (k) 1 rfl h2p ?_ ?_ hb36 rfl (by decide) (mem_at 1 rfl) fun l37 hl37 => ?_
        · omega
        · omega
        obtain ⟨rfl, w0x37, w1x37, w2x37⟩ := gAtom_rd.1 hl37
        refine VC.intro ?_ ?_
        · simp; omega
        refine VC.intro ?_ ?_
        · simp; omega
        refine idx_rd h2p ?_ ?_ fun b38 o38 hb38 => ?_
        · omega
        · omega
        refine load_partN default (k) 2 rfl h2p ?_ ?_ hb38 rfl (by decide) (mem_at 1 rfl) fun l39 hl39 => ?_
        · omega
        · omega
        obtain ⟨rfl, w0x39, w1x39, w2x39⟩ := gAtom_rd.1 hl39
        refine VC.intro ?_ ?_
        · simp; omega
        refine VCnew.intro fun x40 => ?_
        refine VC.intro ?_ ?_
        · exact keep_new
        refine gappend1 (g := gS) (T := (9 : TypeId)) G_ok A [] [H] ?_ oA (gS_ow ?_) (List.mem_of_getElem? (i := 0) rfl) rfl rfl rfl rfl rfl rfl rfl rfl ?_ fun b41 c41 A41 o41 => ?_
        · exact .tl
        · simp; omega
        · omega
        apply loop_stepA (k + 1, _, _, _, _)
        · exact .refl _
        · repeat' (first | exact trivial | refine ⟨⟨_, rfl, by first | rfl | exact inc_eq _ (by omega) | (refine sl_eq ?_; simp; done), by first | exact trivial | simp [SV.ok]⟩, ?_⟩)
        · exact ⟨rfl, trivial⟩
        · try dsimp only
          exact ⟨by omega, by rw [ho, map_step atomS (by omega)]; rfl, ‹_›⟩
        try dsimp only
        omega
      ·
        simp at q33
        obtain rfl : k = x.atoms.length := by omega
        rw [List.take_length] at ho
        refine VCnew.intro fun x42 => ?_
        have ol42 : Ow flStr (9 : TypeId) (.slice (some ⟨x42, 0, none⟩) 3 3) [{ data := List.toArray [] }, { data := List.toArray [(32 : UInt8), (60 : UInt8), (32 : UInt8)] }, { data := List.toArray [(32 : UInt8), (61 : UInt8), (32 : UInt8)] }] [(x42, Obj.cells { toList := Value.string { data := #[] } :: Value.string { data := #[(32 : UInt8), (60 : UInt8), (32 : UInt8)] } :: Value.string { data := #[(32 : UInt8), (61 : UInt8), (32 : UInt8)] } :: [].append (zeros (nat_lit 0) [Value.string ByteArray.empty]) } (9 : TypeId))] := Ow.lit (f := flStr) (T := (9 : TypeId)) (b := x42) (xs := [{ data := List.toArray [] }, { data := List.toArray [(32 : UInt8), (60 : UInt8), (32 : UInt8)] }, { data := List.toArray [(32 : UInt8), (61 : UInt8), (32 : UInt8)] }]) (fun x hx => of_decide_eq_true (p := x.size ≤ 9223372036854775807) (List.all_eq_true.1 (show ([{ data := List.toArray [] }, { data := List.toArray [(32 : UInt8), (60 : UInt8), (32 : UInt8)] }, { data := List.toArray [(32 : UInt8), (61 : UInt8), (32 : UInt8)] }] : List ByteArray).all (fun s => decide (s.size ≤ 9223372036854775807)) = true by decide) x hx)) (by simp)
        apply loop_mod (α := (Nat) × (List ByteArray) × (Hp) × (Option Addr) × (Nat)) G_ok [56, 57, 58, 59, 60, 63, 64, 65, 66, 67, 9, 68, 69, 10, 70, 71, 72, 73, 74, 75, 76, 77, 78, 79, 80, 81, 82, 83, 84, 85, 86, 87, 5, 61, 62, 8] (fun z => [(8, .v (.int .i64 z.1)), (5, .v (.slice z.2.2.2.1 z.2.1.length z.2.2.2.2))]) (fun z => [{ id := x0, cs := [Value.bool x.each, Value.slice b1p x.out.length c1p, Value.slice b2p x.atoms.length c2p, Value.slice b3p x.filters.length c3p], ty := (37 : Nat) }]) (fun z => [z.2.2.1, [(x42, Obj.cells { toList := Value.string { data := #[] } :: Value.string { data := #[(32 : UInt8), (60 : UInt8), (32 : UInt8)] } :: Value.string { data := #[(32 : UInt8), (61 : UInt8), (32 : UInt8)] } :: [].append (zeros (nat_lit 0) [Value.string ByteArray.empty]) } (9 : TypeId))], H]) (fun z => x.filters.length - z.1) (fun z => z.1 ≤ x.filters.length ∧ z.2.1 = x.atoms.map atomS ++ (x.filters.take z.1).map filtS ∧ (gSl 9 gS).ow [.slice z.2.2.2.1 z.2.1.length z.2.2.2.2] z.2.1 z.2.2.1) ((0, o, A, lb, lc))
        · repeat' (first | exact trivial | refine ⟨⟨_, rfl, by first | rfl | exact inc_eq _ (by omega) | (refine sl_eq ?_; simp; done), by first | exact trivial | simp [SV.ok]⟩, ?_⟩)
        · exact ⟨rfl, trivial⟩
        · try dsimp only
          exact ⟨Nat.zero_le _, by rw [ho]; simp, oA⟩
        · exact .le fun a => by (try simp only [setR, List.cons_append, List.nil_append]); simp only [List.flatten_append, List.flatten_cons, List.flatten_nil, List.count_append, List.count_nil, List.append_nil, List.nil_append]; omega
        rintro ⟨j, o2, A2, lb2, lc2⟩ hI
        obtain ⟨hj, ho2, oA2⟩ : j ≤ x.filters.length ∧ o2 = x.atoms.map atomS ++ (x.filters.take j).map filtS ∧ (gSl 9 gS).ow [.slice lb2 o2.length lc2] o2 A2 := hI
        try dsimp only
        refine VCsplit.intro (fun q43 => ?_) (fun q43 => ?_)
        ·
          simp at q43
          have hfz := at_all hqs2.2.2.2 (k := j) (by omega)
          have hdz := dc_szq hfz
          have hsz9 := sign_sz hfz.2.2.1
          have hol2 : o2.length ≤ 7 := (by rw [ho2, List.length_append, List.length_map, List.length_map, List.length_take]; omega)
          refine idx_rd h3p ?_ ?_ fun b44 o44 hb44 => ?_
          · omega
          · omega
          refine load_allN default (j) rfl h3p ?_ ?_ hb44 rfl (mem_at 2 rfl) fun l45 hl45 => ?_
          · omega
          · omega
          obtain ⟨rfl, w0x45, w1x45, w2x45, w3x45⟩ := gFilter_rd.1 hl45
          refine VCnew.intro fun x46 => ?_
          refine VCsplit.intro (fun q47 => ?_) (fun q47 => ?_)
          ·
            simp at q47
            refine call_val (specDecimal_ct _ ?_) trivial ?_
            · omega
            rintro _ rfl
            refine draw G_ok mixed (some 12) (.q 0 (.q 1 (.q 2 (.q 3 (.q 4 (.q 5 (.q 6 (.q 7 (.q 8 (.q 9 (.q 10 (.f 11 (.tl 12 (.f 13 (.nil))))))))))))))) (by decide +kernel) ?_
            refine idx_rd (Ow.rd ol42) ?_ ?_ fun b49 o49 hb49 => ?_
            · omega
            · simp; omega
            refine load_all ByteArray.empty (Ow.rd ol42) ?_ ?_ hb49 rfl (mem_at 1 rfl) fun l50 hl50 => ?_
            · omega
            · simp; omega
            dsimp only at hl50
            obtain ⟨rfl, hw50⟩ := hl50; simp only [flStr, flInt, okI] at hw50
            refine VC.intro ?_ ?_
            · grind
            refine VC.intro ?_ ?_
            · grind
            refine VCnew.intro fun x51 => ?_
            refine VC.intro ?_ ?_
            · exact keep_new
            refine gappend1 (g := gS) (T := (9 : TypeId)) G_ok A2 [] [[(x42, Obj.cells { toList := Value.string { data := #[] } :: Value.string { data := #[(32 : UInt8), (60 : UInt8), (32 : UInt8)] } :: Value.string { data := #[(32 : UInt8), (61 : UInt8), (32 : UInt8)] } :: [].append (zeros (0 : Nat) [Value.string ByteArray.empty]) } (9 : TypeId))], H] ?_ oA2 (gS_ow ?_) (List.mem_of_getElem? (i := 0) rfl) rfl rfl rfl rfl rfl rfl rfl rfl ?_ fun b52 c52 A52 o52 => ?_
            · exact .tl
            · grind
            · omega
            apply loop_stepA (j + 1, _, _, _, _)
            · exact .refl _
            · repeat' (first | exact trivial | refine ⟨⟨_, rfl, by first | rfl | exact inc_eq _ (by omega) | (refine sl_eq ?_; simp; done), by first | exact trivial | simp [SV.ok]⟩, ?_⟩)
            · exact ⟨rfl, trivial⟩
            · try dsimp only
              exact ⟨by omega, by have e9 := filt_5 (f := x.filters[j]?.getD default) hfz.2.2.1 (by assumption); unfold signL at e9; rw [e9, ho2, map_step filtS (by omega), List.append_assoc], ‹_›⟩
            try dsimp only
            omega
          ·
            simp at q47
            refine draw G_ok mixed (some 12) (.q 0 (.q 1 (.q 2 (.q 3 (.q 4 (.q 5 (.q 6 (.q 7 (.q 8 (.q 9 (.q 10 (.f 11 (.tl 12 (.f 13 (.nil))))))))))))))) (by decide +kernel) ?_
            refine idx_rd (Ow.rd ol42) ?_ ?_ fun b53 o53 hb53 => ?_
            · omega
            · simp; omega
            refine load_all ByteArray.empty (Ow.rd ol42) ?_ ?_ hb53 rfl (mem_at 1 rfl) fun l54 hl54 => ?_
            · omega
            · simp; omega
            dsimp only at hl54
            obtain ⟨rfl, hw54⟩ := hl54; simp only [flStr, flInt, okI] at hw54
            refine VC.intro ?_ ?_
            · grind
            refine VC.intro ?_ ?_
            · grind
            refine VCnew.intro fun x55 => ?_
            refine VC.intro ?_ ?_
            · exact keep_new
            refine gappend1 (g := gS) (T := (9 : TypeId)) G_ok A2 [] [[(x42, Obj.cells { toList := Value.string { data := #[] } :: Value.string { data := #[(32 : UInt8), (60 : UInt8), (32 : UInt8)] } :: Value.string { data := #[(32 : UInt8), (61 : UInt8), (32 : UInt8)] } :: [].append (zeros (0 : Nat) [Value.string ByteArray.empty]) } (9 : TypeId))], H] ?_ oA2 (gS_ow ?_) (List.mem_of_getElem? (i := 0) rfl) rfl rfl rfl rfl rfl rfl rfl rfl ?_ fun b56 c56 A56 o56 => ?_
            · exact .tl
            · grind
            · omega
            apply loop_stepA (j + 1, _, _, _, _)
            · exact .refl _
            · repeat' (first | exact trivial | refine ⟨⟨_, rfl, by first | rfl | exact inc_eq _ (by omega) | (refine sl_eq ?_; simp; done), by first | exact trivial | simp [SV.ok]⟩, ?_⟩)
            · exact ⟨rfl, trivial⟩
            · try dsimp only
              exact ⟨by omega, by have e9 := filt_6 (f := x.filters[j]?.getD default) hfz.2.2.1 (by assumption); unfold signL at e9; rw [e9, ho2, map_step filtS (by omega), List.append_assoc], ‹_›⟩
            try dsimp only
            omega
        ·
          simp at q43
          obtain rfl : j = x.filters.length := by omega
          rw [List.take_length] at ho2
          obtain ⟨hc1, hc2, hc3⟩ := conds_end (by assumption) ho2
          have hse := show_plain (by assumption) ho2
          have hze := congrArg ByteArray.size hse
          simp only [ByteArray.size_append] at hze
          refine call_val (l08Join_ct _ _ _ (o2) ?_ ?_) (Rp.mono _ (mem_at 0 rfl) (Gt.owrd _ oA2)) ?_
          · trivial
          · trivial
          rintro _ rfl
          refine VC.intro ?_ ?_
          · simp; omega
          refine VCsplit.intro (fun q58 => ?_) (fun q58 => ?_)
          ·
            simp at q58
            (have hno : ¬ (showQ x).size ≤ 200 := (by omega); exact ⟨[], ⟨by rw [showV_no (showOk_no2 hno), showOk_no2 hno]; rfl, rfl⟩, (.le fun a => by (try simp only [setR, List.cons_append, List.nil_append]); simp only [List.flatten_append, List.flatten_cons, List.flatten_nil, List.count_append, List.count_nil, List.append_nil, List.nil_append]; omega)⟩)
          ·
            simp at q58
            (have hys : (showQ x).size ≤ 200 := (by omega); exact ⟨[], ⟨by rw [hse, showV_yes (showOk_yes (by assumption) hys), showOk_yes (by assumption) hys], rfl⟩, (.le fun a => by (try simp only [setR, List.cons_append, List.nil_append]); simp only [List.flatten_append, List.flatten_cons, List.flatten_nil, List.count_append, List.count_nil, List.append_nil, List.nil_append]; omega)⟩)
end Go.Proofs.YtcnclhjhnjpeiaaGreatDoor

namespace Go.Proofs.YtcnclhjhnjpeiaaGreatDoor
open Go.SX Go.Proofs
set_option linter.unusedSimpArgs false
set_option linter.unusedVariables false
set_option maxHeartbeats 4000000
attribute [local irreducible] IntKind.wrap namesM queryM
def shK (s : List Int) (k : Nat) : Bool := allK (fun i => inR 1 8 (s[i]?.getD 0)) k
def prodK (s : List Int) : Nat → Int
  | 0 => 1
  | k + 1 => prodK s k * (s[k]?.getD 0)
theorem prod_rng {s : List Int} : ∀ {k : Nat}, shK s k = true → 1 ≤ prodK s k ∧ prodK s k ≤ 8 ^ k
  | 0, _ => by show (1 : Int) ≤ 1 ∧ (1 : Int) ≤ 8 ^ 0; decide
  | k + 1, h => by
    have h1 : shK s k = true := by
      unfold shK at h ⊢; unfold allK at h; rw [Bool.and_eq_true] at h; exact h.1
    have h2 := inR_iff.1 (allK_at h k (by omega))
    have ih := prod_rng h1
    show 1 ≤ prodK s k * (s[k]?.getD 0) ∧ prodK s k * (s[k]?.getD 0) ≤ 8 ^ (k + 1)
    rw [Int.pow_succ]
    exact ⟨Int.le_trans (by decide : (1 : Int) ≤ 1 * 1) (Int.mul_le_mul ih.1 h2.1 (by decide) (by omega)), Int.mul_le_mul ih.2 h2.2 (by omega) (Int.le_trans (by decide) (Int.le_trans ih.1 ih.2))⟩
theorem prod_4 {s : List Int} {k : Nat} (h : shK s k = true) (hk : k ≤ 4) : 1 ≤ prodK s k ∧ prodK s k ≤ 4096 := by
  have h1 := prod_rng h
  rcases (by omega : k = 0 ∨ k = 1 ∨ k = 2 ∨ k = 3 ∨ k = 4) with rfl | rfl | rfl | rfl | rfl <;> (refine ⟨h1.1, Int.le_trans h1.2 (by decide)⟩)
theorem prod_mono {s : List Int} {j : Nat} : ∀ {k : Nat}, shK s k = true → j ≤ k → prodK s j ≤ prodK s k
  | 0, _, hj => by rw [show j = 0 by omega]; exact Int.le_refl _
  | k + 1, h, hj => by
    have h1 : shK s k = true := by
      unfold shK at h ⊢; unfold allK at h; rw [Bool.and_eq_true] at h; exact h.1
    have h2 := inR_iff.1 (allK_at h k (by omega))
    have ih := prod_rng h1
    have h3 : prodK s k ≤ prodK s (k + 1) := by
      show prodK s k ≤ prodK s k * (s[k]?.getD 0)
      have := Int.mul_le_mul_of_nonneg_left h2.1 (by omega : (0 : Int) ≤ prodK s k)
      rw [Int.mul_one] at this; exact this
    rcases (by omega : j ≤ k ∨ j = k + 1) with h4 | rfl
    · exact Int.le_trans (prod_mono h1 h4) h3
    exact Int.le_refl _
theorem prod_step {p v : Int} (h1 : 1 ≤ p ∧ p ≤ 8 ^ 8) (h2 : 1 ≤ v ∧ v ≤ 8) : 1 ≤ p * v ∧ p * v ≤ 8 ^ 9 :=
  ⟨Int.le_trans (by decide : (1 : Int) ≤ 1 * 1) (Int.mul_le_mul h1.1 h2.1 (by decide) (by omega)), Int.le_trans (Int.mul_le_mul h1.2 h2.2 (by omega) (by decide)) (by decide)⟩
/-- the numbers are right -/
def shOk (s : List Int) : Bool := shK s s.length && decide (prodK s s.length ≤ 8)
theorem shOk_no1 {s : List Int} {k : Nat} (hk : k < s.length) (h : ¬ (1 ≤ (s[k]?.getD 0) ∧ (s[k]?.getD 0) ≤ 8)) : shOk s = false := by
  unfold shOk shK
  rw [allK_no (p := fun i => inR 1 8 (s[i]?.getD 0)) (k := k) (by rw [Bool.eq_false_iff, Ne, inR_iff]; exact h) _ hk]; rfl
theorem shOk_no2 {s : List Int} {k : Nat} (hk : k ≤ s.length) (h : ¬ prodK s k ≤ 8) : shOk s = false := by
  cases e : shOk s with
  | false => rfl
  | true =>
    unfold shOk at e
    rw [Bool.and_eq_true, decide_eq_true_iff] at e
    exact absurd (Int.le_trans (prod_mono e.1 hk) e.2) h
theorem shOk_yes {s : List Int} (h : shK s s.length = true) (h1 : prodK s s.length ≤ 8) : shOk s = true := by unfold shOk; rw [h, decide_eq_true h1]; rfl
theorem shK_step {s : List Int} {k : Nat} (h : shK s k = true) (h1 : 1 ≤ (s[k]?.getD 0) ∧ (s[k]?.getD 0) ≤ 8) : shK s (k + 1) = true := allK_step h (inR_iff.2 h1)
theorem shK_all {s : List Int} (h : shOk s = true) : shK s s.length = true := by unfold shOk at h; rw [Bool.and_eq_true] at h; exact h.1
theorem shK_le {s : List Int} {n k : Nat} (h : shK s n = true) (hk : k ≤ n) : shK s k = true := by
  induction n with
  | zero => rw [show k = 0 by omega]; rfl
  | succ n ih =>
    rcases (by omega : k ≤ n ∨ k = n + 1) with h1 | rfl
    · exact ih (by unfold shK at h ⊢; unfold allK at h; rw [Bool.and_eq_true] at h; exact h.1) h1
    exact h
def cellsM (s : List Int) : Int := if 1 ≤ s.length ∧ s.length ≤ 4 ∧ shOk s = true then prodK s s.length else 0
theorem cells_no1 {s : List Int} (h : ¬ (1 ≤ s.length ∧ s.length ≤ 4)) : cellsM s = 0 := if_neg fun e => h ⟨e.1, e.2.1⟩
theorem cells_no2 {s : List Int} (h : shOk s = false) : cellsM s = 0 := if_neg fun e => by rw [h] at e; cases e.2.2
theorem cells_yes {s : List Int} (h1 : 1 ≤ s.length ∧ s.length ≤ 4) (h : shOk s = true) : cellsM s = prodK s s.length := if_pos ⟨h1.1, h1.2, h⟩
--@ct impl.CellsOf val implCellsOf_ct _ _ _ $1 | %1
theorem implCellsOf_ct (b : Option Addr) (m c : Nat) (xs : List Int) : Ct Tryz.prog 103 [.slice b m c] [] (fun H => (gSl 3 gI).rd H [.slice b m c] xs) (fun v A => v = .int .i64 (cellsM xs) ∧ A = []) := by
  refine Ct.intro0 G_ok Tryz.func103 rfl rfl rfl fun E H hp => ?_
  obtain ⟨rfl, hcl, hl⟩ := sl_len hp
  refine VCsplit.intro (fun q0 => ?_) (fun q0 => ?_)
  ·
    simp at q0
    exact ⟨[], ⟨by rw [cells_no1 (by omega)], rfl⟩, (.le fun a => by (try simp only [setR, List.cons_append, List.nil_append]); simp [List.count_cons, Blk.ent, idOf]; try omega)⟩
  ·
    simp at q0
    refine VCsplit.intro (fun q1 => ?_) (fun q1 => ?_)
    ·
      simp at q1
      exact ⟨[], ⟨by rw [cells_no1 (by omega)], rfl⟩, (.le fun a => by (try simp only [setR, List.cons_append, List.nil_append]); simp [List.count_cons, Blk.ent, idOf]; try omega)⟩
    ·
      simp at q1
      apply loop_mod (α := (Nat) × (Int)) G_ok [17, 18, 19, 5, 20, 21, 22, 23, 24, 25, 2, 26, 27, 28, 3, 29, 16] (fun z => [(16, .v (.int .i64 z.1)), (3, .v (.int .i64 z.2))]) (fun z => []) (fun z => [H]) (fun z => xs.length - z.1) (fun z => z.1 ≤ xs.length ∧ shK xs z.1 = true ∧ z.2 = prodK xs z.1) ((0, 1))
      · repeat' (first | exact trivial | refine ⟨⟨_, rfl, by first | rfl | exact inc_eq _ (by omega) | (refine sl_eq ?_; simp; done) | rw [wrap_of (x := p * (xs[k]?.getD 0)) (by omega) (by omega)], by first | exact trivial | simp [SV.ok]⟩, ?_⟩)
      · exact trivial
      · try dsimp only
        exact ⟨Nat.zero_le _, rfl, rfl⟩
      · exact .refl _
      rintro ⟨k, p⟩ hI
      obtain ⟨hk, ha, hpp⟩ : k ≤ xs.length ∧ shK xs k = true ∧ p = prodK xs k := hI
      try dsimp only
      refine VCsplit.intro (fun q2 => ?_) (fun q2 => ?_)
      ·
        simp at q2
        have hpr := prod_4 ha (by omega)
        rw [← hpp] at hpr
        refine idx_rd hp ?_ ?_ fun b3 o3 hb3 => ?_
        · omega
        · omega
        refine load_allN 0 (k) rfl hp ?_ ?_ hb3 rfl (mem_at 0 rfl) fun l4 hl4 => ?_
        · omega
        · omega
        obtain ⟨rfl, hw4⟩ := hl4; simp only [flStr, flInt, okI] at hw4
        refine VCsplit.intro (fun q5 => ?_) (fun q5 => ?_)
        ·
          simp at q5
          exact ⟨[], ⟨by rw [cells_no2 (shOk_no1 (k := k) (by omega) (by omega))], rfl⟩, (.le fun a => by (try simp only [setR, List.cons_append, List.nil_append]); simp [List.count_cons, Blk.ent, idOf]; try omega)⟩
        ·
          simp at q5
          refine VCsplit.intro (fun q6 => ?_) (fun q6 => ?_)
          ·
            simp at q6
            exact ⟨[], ⟨by rw [cells_no2 (shOk_no1 (k := k) (by omega) (by omega))], rfl⟩, (.le fun a => by (try simp only [setR, List.cons_append, List.nil_append]); simp [List.count_cons, Blk.ent, idOf]; try omega)⟩
          ·
            simp at q6
            have hps := prod_step (p := p) (v := xs[k]?.getD 0) ⟨hpr.1, by omega⟩ (by omega)
            apply loop_stepA (k + 1, p * (xs[k]?.getD 0))
            · exact .refl _
            · repeat' (first | exact trivial | refine ⟨⟨_, rfl, by first | rfl | exact inc_eq _ (by omega) | (refine sl_eq ?_; simp; done) | rw [wrap_of (x := p * (xs[k]?.getD 0)) (by omega) (by omega)], by first | exact trivial | simp [SV.ok]⟩, ?_⟩)
            · exact trivial
            · try dsimp only
              exact ⟨by omega, shK_step ha (by omega), by rw [hpp]; rfl⟩
            try dsimp only
            omega
      ·
        simp at q2
        have hpr := prod_4 ha (by omega)
        rw [← hpp] at hpr
        refine VCsplit.intro (fun q7 => ?_) (fun q7 => ?_)
        ·
          simp at q7
          exact ⟨[], ⟨by rw [cells_no2 (shOk_no2 (k := k) (by omega) (by rw [← hpp]; omega))], rfl⟩, (.le fun a => by (try simp only [setR, List.cons_append, List.nil_append]); simp [List.count_cons, Blk.ent, idOf]; try omega)⟩
        ·
          simp at q7
          (have hke : k = xs.length := (by omega); subst hke; exact ⟨[], ⟨by rw [cells_yes (by omega) (shOk_yes ha (by rw [← hpp]; omega)), ← hpp], rfl⟩, (.le fun a => by (try simp only [setR, List.cons_append, List.nil_append]); simp [List.count_cons, Blk.ent, idOf]; try omega)⟩)
theorem beq_dec {a b : Int} : (a == b) = decide (a = b) := by rw [Bool.eq_iff_iff, beq_iff_eq, decide_eq_true_iff]
--@ct spec.l13Number val l13Number_ct _ _ _ $1 _ | %1
theorem l13Number_ct (b : Option Addr) (m c : Nat) (xs : List Int) (n : Int) : Ct Tryz.prog 143 [.slice b m c, .int .i64 n] [] (fun H => (gSl 3 gI).rd H [.slice b m c] xs) (fun v A => v = .bool (shOk xs && decide ((xs.length : Int) = n)) ∧ A = []) := by
  refine Ct.intro0 G_ok Tryz.func143 rfl rfl rfl fun E H hp => ?_
  obtain ⟨rfl, hcl, hl⟩ := sl_len hp
  apply loop_mod (α := (Nat) × (Int)) G_ok [7, 8, 9, 10, 13, 14, 15, 16, 17, 18, 4, 19, 20, 21, 22, 23, 24, 5, 25, 26, 11, 12, 6] (fun z => [(6, .v (.int .i64 z.1)), (5, .v (.int .i64 z.2))]) (fun z => []) (fun z => [H]) (fun z => xs.length - z.1) (fun z => z.1 ≤ xs.length ∧ shK xs z.1 = true ∧ z.2 = prodK xs z.1 ∧ 1 ≤ z.2 ∧ z.2 ≤ 8) ((0, 1))
  · repeat' (first | exact trivial | refine ⟨⟨_, rfl, by first | rfl | exact inc_eq _ (by omega) | (refine sl_eq ?_; simp; done) | rw [wrap_of (x := p * (xs[k]?.getD 0)) (by omega) (by omega)], by first | exact trivial | simp [SV.ok]⟩, ?_⟩)
  · exact trivial
  · try dsimp only
    exact ⟨Nat.zero_le _, rfl, rfl, by decide, by decide⟩
  · exact .refl _
  rintro ⟨k, p⟩ hI
  obtain ⟨hk, ha, hpp, hp1, hp8⟩ : k ≤ xs.length ∧ shK xs k = true ∧ p = prodK xs k ∧ 1 ≤ p ∧ p ≤ 8 := hI
  try dsimp only
  refine VCsplit.intro (fun q0 => ?_) (fun q0 => ?_)
  ·
    simp at q0
    refine idx_rd hp ?_ ?_ fun b1 o1 hb1 => ?_
    · omega
    · omega
    refine load_allN 0 (k) rfl hp ?_ ?_ hb1 rfl (mem_at 0 rfl) fun l2 hl2 => ?_
    · omega
    · omega
    obtain ⟨rfl, hw2⟩ := hl2; simp only [flStr, flInt, okI] at hw2
    refine call_val (l01In_ct _ _ _) trivial ?_
    rintro _ rfl
    refine VCsplit.intro (fun q4 => ?_) (fun q4 => ?_)
    ·
      simp at q4
      have iq4 := mt inR_iff.2 (Bool.eq_false_iff.1 q4)
      exact ⟨[], ⟨by rw [shOk_no1 (k := k) (by omega) (by omega)]; rfl, rfl⟩, (.le fun a => by (try simp only [setR, List.cons_append, List.nil_append]); simp [List.count_cons, Blk.ent, idOf]; try omega)⟩
    ·
      simp at q4
      have iq4 := inR_iff.1 q4
      have hps := prod_step (p := p) (v := xs[k]?.getD 0) ⟨hp1, by omega⟩ (by omega)
      refine idx_rd hp ?_ ?_ fun b5 o5 hb5 => ?_
      · omega
      · omega
      refine load_allN 0 (k) rfl hp ?_ ?_ hb5 rfl (mem_at 0 rfl) fun l6 hl6 => ?_
      · omega
      · omega
      obtain ⟨rfl, hw6⟩ := hl6; simp only [flStr, flInt, okI] at hw6
      refine VCsplit.intro (fun q7 => ?_) (fun q7 => ?_)
      ·
        simp at q7
        simp (disch := omega) only [wrap_of] at q7
        exact ⟨[], ⟨by rw [shOk_no2 (s := xs) (k := k + 1) (by omega) (by show ¬ prodK xs k * (xs[k]?.getD 0) ≤ 8; rw [← hpp]; omega)]; rfl, rfl⟩, (.le fun a => by (try simp only [setR, List.cons_append, List.nil_append]); simp [List.count_cons, Blk.ent, idOf]; try omega)⟩
      ·
        simp at q7
        simp (disch := omega) only [wrap_of] at q7
        apply loop_stepA (k + 1, p * (xs[k]?.getD 0))
        · exact .refl _
        · repeat' (first | exact trivial | refine ⟨⟨_, rfl, by first | rfl | exact inc_eq _ (by omega) | (refine sl_eq ?_; simp; done) | rw [wrap_of (x := p * (xs[k]?.getD 0)) (by omega) (by omega)], by first | exact trivial | simp [SV.ok]⟩, ?_⟩)
        · exact trivial
        · try dsimp only
          exact ⟨by omega, shK_step ha (by omega), by rw [hpp]; rfl, by omega, by omega⟩
        try dsimp only
        omega
  ·
    simp at q0
    (have hke : k = xs.length := (by omega); subst hke; exact ⟨[], ⟨by rw [shOk_yes ha (by rw [← hpp]; omega), Bool.true_and]; first | rfl | (rw [beq_dec]), rfl⟩, (.le fun a => by (try simp only [setR, List.cons_append, List.nil_append]); simp [List.count_cons, Blk.ent, idOf]; try omega)⟩)
end Go.Proofs.YtcnclhjhnjpeiaaGreatDoor

namespace Go.Proofs.YtcnclhjhnjpeiaaGreatDoor
open Go.SX Go.Proofs
set_option linter.unusedSimpArgs false
set_option linter.unusedVariables false
set_option maxHeartbeats 4000000
attribute [local irreducible] IntKind.wrap queryM
--@ct spec.CellsOf val specCellsOf_ct _ _ _ $1 | %1
theorem specCellsOf_ct (b : Option Addr) (m c : Nat) (xs : List Int) : Ct Tryz.prog 91 [.slice b m c] [] (fun H => (gSl 3 gI).rd H [.slice b m c] xs) (fun v A => v = .int .i64 (cellsM xs) ∧ A = []) := by
  refine Ct.intro0 G_ok Tryz.func91 rfl rfl rfl fun E H hp => ?_
  obtain ⟨rfl, hcl, hl⟩ := sl_len hp
  refine call_val (l01In_ct _ _ _) trivial ?_
  rintro _ rfl
  refine VCsplit.intro (fun q1 => ?_) (fun q1 => ?_)
  ·
    simp at q1
    have iq1 := mt inR_iff.2 (Bool.eq_false_iff.1 q1)
    exact ⟨[], ⟨by rw [cells_no1 (by omega)], rfl⟩, (.le fun a => by (try simp only [setR, List.cons_append, List.nil_append]); simp [List.count_cons, Blk.ent, idOf]; try omega)⟩
  ·
    simp at q1
    have iq1 := inR_iff.1 q1
    refine call_val (l13Number_ct _ _ _ (xs) _) (Rp.mono _ (mem_at 0 rfl) hp) ?_
    rintro _ rfl
    refine VCsplit.intro (fun q3 => ?_) (fun q3 => ?_)
    ·
      simp at q3
      exact ⟨[], ⟨by rw [cells_no2 (by assumption)], rfl⟩, (.le fun a => by (try simp only [setR, List.cons_append, List.nil_append]); simp [List.count_cons, Blk.ent, idOf]; try omega)⟩
    ·
      simp at q3
      apply loop_mod (α := (Nat) × (Int)) G_ok [16, 17, 18, 19, 22, 23, 24, 25, 26, 27, 3, 20, 21, 4] (fun z => [(4, .v (.int .i64 z.1)), (3, .v (.int .i64 z.2))]) (fun z => []) (fun z => [H]) (fun z => xs.length - z.1) (fun z => z.1 ≤ xs.length ∧ z.2 = prodK xs z.1) ((0, 1))
      · repeat' (first | exact trivial | refine ⟨⟨_, rfl, by first | rfl | exact inc_eq _ (by omega) | (refine sl_eq ?_; simp; done) | rw [wrap_of (x := p * (xs[k]?.getD 0)) (by omega) (by omega)], by first | exact trivial | simp [SV.ok]⟩, ?_⟩)
      · exact trivial
      · try dsimp only
        exact ⟨Nat.zero_le _, rfl⟩
      · exact .refl _
      rintro ⟨k, p⟩ hI
      obtain ⟨hk, hpp⟩ : k ≤ xs.length ∧ p = prodK xs k := hI
      try dsimp only
      refine VCsplit.intro (fun q4 => ?_) (fun q4 => ?_)
      ·
        simp at q4
        have hyes : shOk xs = true := (by assumption)
        have hsk := shK_all hyes
        have hpr := prod_4 (k := k) (shK_le hsk (by omega)) (by omega)
        rw [← hpp] at hpr
        have hvk := inR_iff.1 (allK_at hsk k (by omega))
        have hps := prod_step (p := p) (v := xs[k]?.getD 0) ⟨hpr.1, by omega⟩ (by omega)
        refine idx_rd hp ?_ ?_ fun b5 o5 hb5 => ?_
        · omega
        · omega
        refine load_allN 0 (k) rfl hp ?_ ?_ hb5 rfl (mem_at 0 rfl) fun l6 hl6 => ?_
        · omega
        · omega
        obtain ⟨rfl, hw6⟩ := hl6; simp only [flStr, flInt, okI] at hw6
        apply loop_stepA (k + 1, p * (xs[k]?.getD 0))
        · exact .refl _
        · repeat' (first | exact trivial | refine ⟨⟨_, rfl, by first | rfl | exact inc_eq _ (by omega) | (refine sl_eq ?_; simp; done) | rw [wrap_of (x := p * (xs[k]?.getD 0)) (by omega) (by omega)], by first | exact trivial | simp [SV.ok]⟩, ?_⟩)
        · exact trivial
        · try dsimp only
          exact ⟨by omega, by rw [hpp]; rfl⟩
        try dsimp only
        omega
      ·
        simp at q4
        (have hke : k = xs.length := (by omega); subst hke; exact ⟨[], ⟨by rw [cells_yes (by omega) (by assumption), ← hpp], rfl⟩, (.le fun a => by (try simp only [setR, List.cons_append, List.nil_append]); simp [List.count_cons, Blk.ent, idOf]; try omega)⟩)
theorem addN_pos (l : List ByteArray) (s : ByteArray) : 1 ≤ (addN l s).length := by
  unfold addN
  split
  · rename_i h
    cases l with
    | nil => exact absurd h (by show ¬ (false = true); decide)
    | cons a r => simp
  simp
theorem names_pos {ats : List Atom} (h : 1 ≤ ats.length) : 1 ≤ (namesM ats).length := by
  have e := namesM_step (ats := ats) (k := ats.length - 1) (by omega)
  rw [show ats.length - 1 + 1 = ats.length by omega, List.take_length] at e
  rw [e]; exact addN_pos _ _
theorem query_names {x : Query} (h : queryM x = true) : 1 ≤ (namesM x.atoms).length ∧ (namesM x.atoms).length ≤ 4 := by
  have h1 : queryP x := by
    apply Classical.byContradiction
    intro e
    rw [q_no e] at h; cases h
  exact ⟨names_pos h1.1.1, h1.1.2.2.2.2.2⟩
attribute [local irreducible] namesM
noncomputable def sharesM (x : Query) (s : List Int) : Bool := queryM x && (shOk s && decide (s.length = (namesM x.atoms).length))
theorem shares_no1 {x : Query} {s : List Int} (h : queryM x = false) : sharesM x s = false := by unfold sharesM; rw [h]; rfl
theorem shares_no2 {x : Query} {s : List Int} (h : ¬ s.length = (namesM x.atoms).length) : sharesM x s = false := by unfold sharesM; rw [decide_eq_false h]; simp
theorem shares_val {x : Query} {s : List Int} (h : queryM x = true) (h1 : s.length = (namesM x.atoms).length) : sharesM x s = decide (0 < cellsM s) := by
  have hn := query_names h
  unfold sharesM
  rw [h, decide_eq_true h1, Bool.true_and, Bool.and_true]
  cases e : shOk s with
  | false => rw [cells_no2 e]; rfl
  | true =>
    rw [cells_yes (by omega) e]
    have := prod_rng (shK_all e)
    rw [decide_eq_true (by omega)]
theorem atoms_len {x : Query} (h : gQuery.sz x ≤ 1048576) : x.atoms.length ≤ 1048576 := by
  have h1 := gQuery_sz x
  have h2 := len_szL gAtom x.atoms
  omega
--@ct impl.SharesOk val implSharesOk_ct _ _ _ _ $1 $2 ?_ | ⟨%1, %2⟩
theorem implSharesOk_ct (l : List Value) (b : Option Addr) (m c : Nat) (x : Query) (s : List Int) (hx : gQuery.sz x ≤ 1048576) : Ct Tryz.prog 105 [.agg ⟨l⟩, .slice b m c] [] (fun H => gQuery.rd H l x ∧ (gSl 3 gI).rd H [.slice b m c] s) (fun v A => v = .bool (sharesM x s) ∧ A = []) := by
  refine Ct.intro0 G_ok Tryz.func105 rfl rfl rfl fun E H hp => ?_
  obtain ⟨hp, hq⟩ := hp
  obtain ⟨rfl, hcl, hl⟩ := sl_len hq
  obtain ⟨b1p, c1p, b2p, c2p, b3p, c3p, rfl, h1p, h2p, h3p⟩ := gQuery_rd.1 hp
  have hal := atoms_len hx
  refine VCnew.intro fun x0 => ?_
  refine call_val (implQueryOk_ct _ (x) ?_) (Rp.mono _ (mem_at 0 rfl) hp) ?_
  · trivial
  rintro _ rfl
  refine VCsplit.intro (fun q2 => ?_) (fun q2 => ?_)
  ·
    refine call_new (implNamesOf_ct _ (x) ?_) (Rp.mono _ (mem_at 0 rfl) hp) ?_
    · trivial
    rintro v3 A3 o3
    obtain ⟨b3, c3, rfl, o3⟩ := o3
    refine VCsplit.intro (fun q4 => ?_) (fun q4 => ?_)
    ·
      simp at q4
      refine call_val (implCellsOf_ct _ _ _ (s)) (Rp.mono _ (mem_at 1 rfl) hq) ?_
      rintro _ rfl
      exact ⟨[], ⟨congrArg Value.bool (shares_val (by assumption) (by omega)).symm, rfl⟩, (.le fun a => by (try simp only [setR, List.cons_append, List.nil_append]); simp [List.count_cons, Blk.ent, idOf]; try omega)⟩
    ·
      simp at q4
      exact ⟨[], ⟨by rw [shares_no2 (by omega)], rfl⟩, (.le fun a => by (try simp only [setR, List.cons_append, List.nil_append]); simp [List.count_cons, Blk.ent, idOf]; try omega)⟩
  ·
    exact ⟨[], ⟨by rw [shares_no1 (by assumption)], rfl⟩, (.le fun a => by (try simp only [setR, List.cons_append, List.nil_append]); simp [List.count_cons, Blk.ent, idOf]; try omega)⟩
--@ct spec.SharesOk val specSharesOk_ct _ _ _ _ $1 $2 ?_ | ⟨%1, %2⟩
theorem specSharesOk_ct (l : List Value) (b : Option Addr) (m c : Nat) (x : Query) (s : List Int) (hx : gQuery.sz x ≤ 1048576) : Ct Tryz.prog 95 [.agg ⟨l⟩, .slice b m c] [] (fun H => gQuery.rd H l x ∧ (gSl 3 gI).rd H [.slice b m c] s) (fun v A => v = .bool (sharesM x s) ∧ A = []) := by
  refine Ct.intro0 G_ok Tryz.func95 rfl rfl rfl fun E H hp => ?_
  obtain ⟨hp, hq⟩ := hp
  obtain ⟨rfl, hcl, hl⟩ := sl_len hq
  obtain ⟨b1p, c1p, b2p, c2p, b3p, c3p, rfl, h1p, h2p, h3p⟩ := gQuery_rd.1 hp
  have hal := atoms_len hx
  refine VCnew.intro fun x0 => ?_
  refine call_val (specQueryOk_ct _ (x) ?_) (Rp.mono _ (mem_at 0 rfl) hp) ?_
  · trivial
  rintro _ rfl
  refine VCsplit.intro (fun q2 => ?_) (fun q2 => ?_)
  ·
    refine call_new (specNamesOf_ct _ (x) ?_) (Rp.mono _ (mem_at 0 rfl) hp) ?_
    · trivial
    rintro v3 A3 o3
    obtain ⟨b3, c3, rfl, o3⟩ := o3
    refine call_val (l13Number_ct _ _ _ (s) _) (Rp.mono _ (mem_at 1 rfl) hq) ?_
    rintro _ rfl
    exact ⟨[], ⟨congrArg Value.bool (by unfold sharesM; rw [‹queryM x = true›, Bool.true_and]; congr 1; rw [decide_eq_decide]; omega), rfl⟩, (.le fun a => by (try simp only [setR, List.cons_append, List.nil_append]); simp [List.count_cons, Blk.ent, idOf]; try omega)⟩
  ·
    exact ⟨[], ⟨by rw [shares_no1 (by assumption)], rfl⟩, (.le fun a => by (try simp only [setR, List.cons_append, List.nil_append]); simp [List.count_cons, Blk.ent, idOf]; try omega)⟩
end Go.Proofs.YtcnclhjhnjpeiaaGreatDoor

namespace Go.Proofs.YtcnclhjhnjpeiaaGreatDoor
open Go.SX Go.Proofs
set_option linter.unusedSimpArgs false
set_option linter.unusedVariables false
set_option maxHeartbeats 4000000
attribute [local irreducible] IntKind.wrap queryM namesM showOk showV showQ sharesM cellsM
def sharesB (s : List Int) (k : Nat) : List UInt8 := (s.take k).flatMap varT
def beginB (t : ByteArray) (s : List Int) (n : Int) (k : Nat) : List UInt8 := varT (t.size : Nat) ++ (by' t ++ (varT n ++ (varT (s.length : Nat) ++ sharesB s k)))
noncomputable def beginOk (q : Query) (s : List Int) (n : Int) : Bool := showOk q && (sharesM q s && (inR 1 8 n && decide (cellsM s ≤ n)))
noncomputable def beginV (q : Query) (s : List Int) (n : Int) : ByteArray := if beginOk q s n = true then tx (beginB (showQ q) s n s.length) else .empty
theorem begin_1 {q : Query} {s : List Int} {n : Int} (h : sharesM q s = false) : beginOk q s n = false := by unfold beginOk; rw [h]; simp
theorem begin_2 {q : Query} {s : List Int} {n : Int} (h : inR 1 8 n = false) : beginOk q s n = false := by unfold beginOk; rw [h]; simp
theorem begin_2' {q : Query} {s : List Int} {n : Int} (h : ¬ (1 ≤ n ∧ n ≤ 8)) : beginOk q s n = false := begin_2 (by cases e : inR 1 8 n with | false => rfl | true => exact absurd (inR_iff.1 e) h)
theorem begin_3 {q : Query} {s : List Int} {n : Int} (h : ¬ cellsM s ≤ n) : beginOk q s n = false := by unfold beginOk; rw [decide_eq_false h]; simp
theorem begin_4 {q : Query} {s : List Int} {n : Int} (h : showOk q = false) : beginOk q s n = false := by unfold beginOk; rw [h]; rfl
theorem begin_yes {q : Query} {s : List Int} {n : Int} (h1 : showOk q = true) (h2 : sharesM q s = true) (h3 : 1 ≤ n ∧ n ≤ 8) (h4 : cellsM s ≤ n) : beginOk q s n = true := by
  unfold beginOk
  rw [h1, h2, inR_iff.2 h3, decide_eq_true h4]; rfl
theorem beginV_no {q : Query} {s : List Int} {n : Int} (h : beginOk q s n = false) : beginV q s n = .empty := if_neg (by rw [h]; decide)
theorem beginV_yes {q : Query} {s : List Int} {n : Int} (h : beginOk q s n = true) : beginV q s n = tx (beginB (showQ q) s n s.length) := if_pos h
section
attribute [local semireducible] sharesM showOk
theorem shares_facts {q : Query} {s : List Int} (h : sharesM q s = true) : s.length ≤ 4 ∧ ∀ k, k < s.length → 1 ≤ (s[k]?.getD 0) ∧ (s[k]?.getD 0) ≤ 8 := by
  unfold sharesM at h
  simp only [Bool.and_eq_true, decide_eq_true_eq] at h
  have h1 := query_names h.1
  refine ⟨by omega, fun k hk => ?_⟩
  have h2 := shK_all h.2.1
  unfold shK at h2
  exact inR_iff.1 (allK_at h2 k hk)
theorem showOk_sz {q : Query} (h : showOk q = true) : (showQ q).size ≤ 200 := by
  unfold showOk at h
  simp only [Bool.and_eq_true, decide_eq_true_eq] at h
  exact h.2
end
theorem sharesB_step {s : List Int} {k : Nat} (h : k < s.length) : sharesB s (k + 1) = sharesB s k ++ varT (s[k]?.getD 0) := by
  unfold sharesB
  rw [← List.take_append_getElem h, List.flatMap_append, List.getElem?_eq_getElem h]; simp
theorem beginB_step {t : ByteArray} {s : List Int} {n : Int} {k : Nat} (h : k < s.length) : tx (beginB t s n k) ++ varText (s[k]?.getD 0) = tx (beginB t s n (k + 1)) := by
  unfold beginB varText
  rw [← tx_app, sharesB_step h]
  simp only [List.append_assoc]
theorem begin_0 {t : ByteArray} {s : List Int} {n : Int} : varText ((t.size : Nat) : Int) ++ t ++ (varText n ++ varText ((s.length : Nat) : Int)) = tx (beginB t s n 0) := by
  apply by_inj.1
  unfold beginB sharesB varText
  simp only [by_app, by_tx, List.take_zero, List.flatMap_nil, List.append_nil, List.append_assoc]
theorem begin_0s {t : ByteArray} {s : List Int} {n : Int} : varText ((t.size : Nat) : Int) ++ t ++ varText n ++ varText ((s.length : Nat) : Int) = tx (beginB t s n 0) := by
  rw [← begin_0, ByteArray.append_assoc]
--@ct impl.ShortText val shortText_ct _ ?_ | trivial
theorem shortText_ct (t : ByteArray) (h : t.size ≤ 200) : Ct Tryz.prog 107 [.string t] [] (fun _ => True) (fun v A => v = .tuple #[.string (varText ((t.size : Nat) : Int) ++ t), .bool true] ∧ A = []) := by
  refine Ct.intro0 G_ok Tryz.func107 rfl rfl rfl fun E H hp => ?_
  have hz := varText_size ((t.size : Nat) : Int)
  have him : IntKind.i64.max = 9223372036854775807 := rfl
  refine VCsplit.intro (fun q0 => ?_) (fun q0 => ?_)
  ·
    simp at q0
    exfalso; omega
  ·
    simp at q0
    refine call_val (varText_ct _ ?_ ?_) trivial ?_
    · omega
    · omega
    rintro _ rfl
    refine VC.intro ?_ ?_
    · omega
    exact ⟨[], ⟨rfl, rfl⟩, (.le fun a => by (try simp only [setR, List.cons_append, List.nil_append]); simp only [List.flatten_append, List.flatten_cons, List.flatten_nil, List.count_append, List.count_nil, List.append_nil, List.nil_append]; omega)⟩
--@ct impl.BeginText val implBeginText_ct _ _ _ _ $1 $2 _ ?_ | ⟨%1, %2, (by (try exact TabIn.mono ‹TabIn _› (mem_at 0 rfl)); (try exact TabIn.mono ‹TabIn _› (mem_at 1 rfl)); (try exact TabIn.mono ‹TabIn _› (mem_at 2 rfl)))⟩
theorem implBeginText_ct (l : List Value) (b : Option Addr) (m c : Nat) (x : Query) (s : List Int) (n : Int) (hx : gQuery.sz x ≤ 1048576) :
    Ct Tryz.prog 53 [.agg ⟨l⟩, .slice b m c, .int .i64 n] [] (fun H => gQuery.rd H l x ∧ (gSl 3 gI).rd H [.slice b m c] s ∧ TabIn H) (fun v A => v = .tuple #[.string (beginV x s n), .bool (beginOk x s n)] ∧ A = []) := by
  refine Ct.intro0 G_ok Tryz.func53 rfl rfl rfl fun E H hp => ?_
  obtain ⟨hp, hq, hT⟩ := hp
  obtain ⟨b1p, c1p, b2p, c2p, b3p, c3p, rfl, h1p, h2p, h3p⟩ := gQuery_rd.1 hp
  obtain ⟨rfl, hcl, hl⟩ := sl_len hq
  have him : IntKind.i64.max = 9223372036854775807 := rfl
  have hz1 := varText_size (((showQ x).size : Nat) : Int)
  have hz2 := varText_size n
  have hz3 := varText_size ((s.length : Nat) : Int)
  refine VCnew.intro fun x0 => ?_
  refine call_val (implSharesOk_ct _ _ _ _ (x) (s) ?_) ⟨(Rp.mono _ (mem_at 0 rfl) hp), (Rp.mono _ (mem_at 0 rfl) hq)⟩ ?_
  · trivial
  rintro _ rfl
  refine VCsplit.intro (fun q2 => ?_) (fun q2 => ?_)
  ·
    simp at q2
    exact ⟨[], ⟨by rw [beginV_no (begin_1 (by assumption)), begin_1 (by assumption)]; rfl, rfl⟩, (.le fun a => by (try simp only [setR, List.cons_append, List.nil_append]); simp [List.count_cons, Blk.ent, idOf]; try omega)⟩
  ·
    simp at q2
    have hsf2 := shares_facts q2
    refine VCsplit.intro (fun q3 => ?_) (fun q3 => ?_)
    ·
      simp at q3
      exact ⟨[], ⟨by rw [beginV_no (begin_2' (by omega)), begin_2' (by omega)]; rfl, rfl⟩, (.le fun a => by (try simp only [setR, List.cons_append, List.nil_append]); simp [List.count_cons, Blk.ent, idOf]; try omega)⟩
    ·
      simp at q3
      refine VCsplit.intro (fun q4 => ?_) (fun q4 => ?_)
      ·
        simp at q4
        exact ⟨[], ⟨by rw [beginV_no (begin_2' (by omega)), begin_2' (by omega)]; rfl, rfl⟩, (.le fun a => by (try simp only [setR, List.cons_append, List.nil_append]); simp [List.count_cons, Blk.ent, idOf]; try omega)⟩
      ·
        simp at q4
        refine call_val (implCellsOf_ct _ _ _ (s)) (Rp.mono _ (mem_at 0 rfl) hq) ?_
        rintro _ rfl
        refine VCsplit.intro (fun q6 => ?_) (fun q6 => ?_)
        ·
          simp at q6
          exact ⟨[], ⟨by rw [beginV_no (begin_3 (by omega)), begin_3 (by omega)]; rfl, rfl⟩, (.le fun a => by (try simp only [setR, List.cons_append, List.nil_append]); simp [List.count_cons, Blk.ent, idOf]; try omega)⟩
        ·
          simp at q6
          refine call_val (implShowQuery_ct _ x hx) ⟨(Rp.mono _ (mem_at 0 rfl) hp), (by (try exact TabIn.mono hT (mem_at 0 rfl)); (try exact TabIn.mono hT (mem_at 1 rfl)); (try exact TabIn.mono hT (mem_at 2 rfl)))⟩ ?_
          rintro _ rfl
          refine VCsplit.intro (fun q8 => ?_) (fun q8 => ?_)
          ·
            simp at q8
            exact ⟨[], ⟨by rw [beginV_no (begin_4 (by assumption)), begin_4 (by assumption)]; rfl, rfl⟩, (.le fun a => by (try simp only [setR, List.cons_append, List.nil_append]); simp [List.count_cons, Blk.ent, idOf]; try omega)⟩
          ·
            simp at q8
            (have hss8 := showOk_sz q8; have hsv8 := showV_yes q8)
            refine call_val (shortText_ct _ ?_) trivial ?_
            · simp_all
            rintro _ rfl
            refine call_val (varText_ct _ ?_ ?_) trivial ?_
            · omega
            · omega
            rintro _ rfl
            refine call_val (varText_ct _ ?_ ?_) trivial ?_
            · omega
            · omega
            rintro _ rfl
            refine VC.intro ?_ ?_
            · omega
            refine VC.intro ?_ ?_
            · simp_all; omega
            apply loop_mod (α := (Nat) × (ByteArray)) G_ok [55, 56, 57, 13, 58, 59, 60, 61, 10, 62, 54] (fun z => [(54, .v (.int .i64 z.1)), (10, .v (.string z.2))]) (fun z => [{ id := x0, cs := [Value.bool x.each, Value.slice b1p x.out.length c1p, Value.slice b2p x.atoms.length c2p, Value.slice b3p x.filters.length c3p], ty := (37 : Nat) }]) (fun z => [H]) (fun z => s.length - z.1) (fun z => z.1 ≤ s.length ∧ z.2 = tx (beginB (showQ x) s n z.1) ∧ z.2.size ≤ 1000 + 20 * z.1) ((0, _))
            · repeat' (first | exact trivial | refine ⟨⟨_, rfl, by first | rfl | exact inc_eq _ (by omega) | (refine sl_eq ?_; simp; done), by first | exact trivial | simp [SV.ok]⟩, ?_⟩)
            · exact ⟨rfl, trivial⟩
            · try dsimp only
              (rw [showV_yes (by assumption)]; exact ⟨Nat.zero_le _, begin_0, by simp only [ByteArray.size_append]; omega⟩)
            · exact .refl _
            rintro ⟨k, t⟩ hI
            obtain ⟨hk, ht, htl⟩ : k ≤ s.length ∧ t = tx (beginB (showQ x) s n k) ∧ t.size ≤ 1000 + 20 * k := hI
            try dsimp only
            refine VCsplit.intro (fun q12 => ?_) (fun q12 => ?_)
            ·
              simp at q12
              have hsk := hsf2.2 k (by omega)
              have hzk := varText_size (s[k]?.getD 0)
              refine idx_rd hq ?_ ?_ fun b13 o13 hb13 => ?_
              · omega
              · omega
              refine load_allN 0 (k) rfl hq ?_ ?_ hb13 rfl (mem_at 0 rfl) fun l14 hl14 => ?_
              · omega
              · omega
              obtain ⟨rfl, hw14⟩ := hl14; simp only [flStr, flInt, okI] at hw14
              refine call_val (varText_ct _ ?_ ?_) trivial ?_
              · omega
              · omega
              rintro _ rfl
              refine VC.intro ?_ ?_
              · omega
              apply loop_stepA (k + 1, _)
              · exact .refl _
              · repeat' (first | exact trivial | refine ⟨⟨_, rfl, by first | rfl | exact inc_eq _ (by omega) | (refine sl_eq ?_; simp; done), by first | exact trivial | simp [SV.ok]⟩, ?_⟩)
              · exact ⟨rfl, trivial⟩
              · try dsimp only
                exact ⟨by omega, by rw [ht]; exact beginB_step (by omega), by rw [ByteArray.size_append]; omega⟩
              try dsimp only
              omega
            ·
              simp at q12
              obtain rfl : k = s.length := by omega
              have hby : beginOk x s n = true := begin_yes (by assumption) (by assumption) (by omega) (by assumption)
              exact ⟨[], ⟨by rw [ht, beginV_yes hby, hby], rfl⟩, (.le fun a => by (try simp only [setR, List.cons_append, List.nil_append]); simp only [List.flatten_append, List.flatten_cons, List.flatten_nil, List.count_append, List.count_nil, List.append_nil, List.nil_append]; omega)⟩
--@ct spec.BeginText val specBeginText_ct _ _ _ _ $1 $2 _ ?_ | ⟨%1, %2⟩
theorem specBeginText_ct (l : List Value) (b : Option Addr) (m c : Nat) (x : Query) (s : List Int) (n : Int) (hx : gQuery.sz x ≤ 1048576) :
    Ct Tryz.prog 49 [.agg ⟨l⟩, .slice b m c, .int .i64 n] [] (fun H => gQuery.rd H l x ∧ (gSl 3 gI).rd H [.slice b m c] s) (fun v A => v = .tuple #[.string (beginV x s n), .bool (beginOk x s n)] ∧ A = []) := by
  refine Ct.intro0 G_ok Tryz.func49 rfl rfl rfl fun E H hp => ?_
  obtain ⟨hp, hq⟩ := hp
  obtain ⟨b1p, c1p, b2p, c2p, b3p, c3p, rfl, h1p, h2p, h3p⟩ := gQuery_rd.1 hp
  obtain ⟨rfl, hcl, hl⟩ := sl_len hq
  have him : IntKind.i64.max = 9223372036854775807 := rfl
  have hz1 := varText_size (((showQ x).size : Nat) : Int)
  have hz2 := varText_size n
  have hz3 := varText_size ((s.length : Nat) : Int)
  refine VCnew.intro fun x0 => ?_
  refine call_val (specShowQuery_ct _ (x) ?_) (Rp.mono _ (mem_at 0 rfl) hp) ?_
  · trivial
  rintro _ rfl
  refine VCsplit.intro (fun q2 => ?_) (fun q2 => ?_)
  ·
    simp at q2
    exact ⟨[], ⟨by rw [beginV_no (begin_4 (by assumption)), begin_4 (by assumption)]; rfl, rfl⟩, (.le fun a => by (try simp only [setR, List.cons_append, List.nil_append]); simp [List.count_cons, Blk.ent, idOf]; try omega)⟩
  ·
    simp at q2
    (have hss2 := showOk_sz q2; have hsv2 := showV_yes q2)
    refine call_val (specSharesOk_ct _ _ _ _ (x) (s) ?_) ⟨(Rp.mono _ (mem_at 0 rfl) hp), (Rp.mono _ (mem_at 0 rfl) hq)⟩ ?_
    · trivial
    rintro _ rfl
    refine VCsplit.intro (fun q4 => ?_) (fun q4 => ?_)
    ·
      simp at q4
      exact ⟨[], ⟨by rw [beginV_no (begin_1 (by assumption)), begin_1 (by assumption)]; rfl, rfl⟩, (.le fun a => by (try simp only [setR, List.cons_append, List.nil_append]); simp [List.count_cons, Blk.ent, idOf]; try omega)⟩
    ·
      simp at q4
      have hsf4 := shares_facts q4
      refine call_val (l01In_ct _ _ _) trivial ?_
      rintro _ rfl
      refine VCsplit.intro (fun q6 => ?_) (fun q6 => ?_)
      ·
        simp at q6
        exact ⟨[], ⟨by rw [beginV_no (begin_2 (by assumption)), begin_2 (by assumption)]; rfl, rfl⟩, (.le fun a => by (try simp only [setR, List.cons_append, List.nil_append]); simp [List.count_cons, Blk.ent, idOf]; try omega)⟩
      ·
        simp at q6
        have iq6 := inR_iff.1 q6
        refine call_val (specCellsOf_ct _ _ _ (s)) (Rp.mono _ (mem_at 0 rfl) hq) ?_
        rintro _ rfl
        refine VCsplit.intro (fun q8 => ?_) (fun q8 => ?_)
        ·
          simp at q8
          exact ⟨[], ⟨by rw [beginV_no (begin_3 (by omega)), begin_3 (by omega)]; rfl, rfl⟩, (.le fun a => by (try simp only [setR, List.cons_append, List.nil_append]); simp [List.count_cons, Blk.ent, idOf]; try omega)⟩
        ·
          simp at q8
          refine call_val (l01Var_ct _ ?_ ?_) trivial ?_
          · omega
          · simp_all; omega
          rintro _ rfl
          refine VC.intro ?_ ?_
          · simp_all; omega
          refine call_val (l01Var_ct _ ?_ ?_) trivial ?_
          · omega
          · omega
          rintro _ rfl
          refine VC.intro ?_ ?_
          · simp_all; omega
          refine call_val (l01Var_ct _ ?_ ?_) trivial ?_
          · omega
          · omega
          rintro _ rfl
          refine VC.intro ?_ ?_
          · simp_all; omega
          apply loop_mod (α := (Nat) × (ByteArray)) G_ok [48, 49, 50, 51, 54, 55, 56, 57, 58, 59, 60, 10, 52, 53, 11] (fun z => [(11, .v (.int .i64 z.1)), (10, .v (.string z.2))]) (fun z => [{ id := x0, cs := [Value.bool x.each, Value.slice b1p x.out.length c1p, Value.slice b2p x.atoms.length c2p, Value.slice b3p x.filters.length c3p], ty := (37 : Nat) }]) (fun z => [H]) (fun z => s.length - z.1) (fun z => z.1 ≤ s.length ∧ z.2 = tx (beginB (showQ x) s n z.1) ∧ z.2.size ≤ 1000 + 20 * z.1) ((0, _))
          · repeat' (first | exact trivial | refine ⟨⟨_, rfl, by first | rfl | exact inc_eq _ (by omega) | (refine sl_eq ?_; simp; done), by first | exact trivial | simp [SV.ok]⟩, ?_⟩)
          · exact ⟨rfl, trivial⟩
          · try dsimp only
            (rw [showV_yes (by assumption)]; exact ⟨Nat.zero_le _, begin_0s, by simp only [ByteArray.size_append]; omega⟩)
          · exact .refl _
          rintro ⟨k, t⟩ hI
          obtain ⟨hk, ht, htl⟩ : k ≤ s.length ∧ t = tx (beginB (showQ x) s n k) ∧ t.size ≤ 1000 + 20 * k := hI
          try dsimp only
          refine VCsplit.intro (fun q12 => ?_) (fun q12 => ?_)
          ·
            simp at q12
            have hsk := hsf4.2 k (by omega)
            have hzk := varText_size (s[k]?.getD 0)
            refine idx_rd hq ?_ ?_ fun b13 o13 hb13 => ?_
            · omega
            · omega
            refine load_allN 0 (k) rfl hq ?_ ?_ hb13 rfl (mem_at 0 rfl) fun l14 hl14 => ?_
            · omega
            · omega
            obtain ⟨rfl, hw14⟩ := hl14; simp only [flStr, flInt, okI] at hw14
            refine call_val (l01Var_ct _ ?_ ?_) trivial ?_
            · omega
            · omega
            rintro _ rfl
            refine VC.intro ?_ ?_
            · omega
            apply loop_stepA (k + 1, _)
            · exact .refl _
            · repeat' (first | exact trivial | refine ⟨⟨_, rfl, by first | rfl | exact inc_eq _ (by omega) | (refine sl_eq ?_; simp; done), by first | exact trivial | simp [SV.ok]⟩, ?_⟩)
            · exact ⟨rfl, trivial⟩
            · try dsimp only
              exact ⟨by omega, by rw [ht]; exact beginB_step (by omega), by rw [ByteArray.size_append]; omega⟩
            try dsimp only
            omega
          ·
            simp at q12
            obtain rfl : k = s.length := by omega
            have hby : beginOk x s n = true := begin_yes (by assumption) (by assumption) (by omega) (by assumption)
            exact ⟨[], ⟨by rw [ht, beginV_yes hby, hby], rfl⟩, (.le fun a => by (try simp only [setR, List.cons_append, List.nil_append]); simp only [List.flatten_append, List.flatten_cons, List.flatten_nil, List.count_append, List.count_nil, List.append_nil, List.nil_append]; omega)⟩
end Go.Proofs.YtcnclhjhnjpeiaaGreatDoor

namespace Go.Proofs.YtcnclhjhnjpeiaaGreatDoor
open Go.SX Go.Proofs
set_option linter.unusedSimpArgs false
set_option linter.unusedVariables false
set_option maxHeartbeats 4000000
attribute [local irreducible] IntKind.wrap queryM namesM showOk showV showQ sharesM cellsM beginOk beginV
section
attribute [local semireducible] beginOk
theorem begin_facts {q : Query} {s : List Int} {n : Int} (h : beginOk q s n = true) : showOk q = true ∧ sharesM q s = true ∧ (1 ≤ n ∧ n ≤ 8) ∧ cellsM s ≤ n := by
  unfold beginOk at h
  simp only [Bool.and_eq_true, decide_eq_true_eq] at h
  exact ⟨h.1, h.2.1, inR_iff.1 h.2.2.1, h.2.2.2⟩
end
theorem varT_len10 (n : Int) : (varT n).length ≤ 10 := by
  have h := varText_size n
  unfold varText at h
  rwa [← by_size, by_tx] at h
theorem beginV_sz (q : Query) (s : List Int) (n : Int) : (beginV q s n).size ≤ 300 := by
  cases h : beginOk q s n with
  | false => rw [beginV_no h]; exact Nat.zero_le _
  | true =>
    obtain ⟨h1, h2, _, _⟩ := begin_facts h
    have h3 := showOk_sz h1
    have h4 := (shares_facts h2).1
    have h5 : ∀ l : List Int, (l.flatMap varT).length ≤ 10 * l.length := by
      intro l
      induction l with
      | nil => exact Nat.le_refl _
      | cons x r ih => rw [List.flatMap_cons, List.length_append, List.length_cons]; have := varT_len10 x; omega
    have h6 := h5 (s.take s.length)
    rw [List.take_length] at h6
    have h7 := varT_len10 ((showQ q).size : Nat)
    have h8 := varT_len10 n
    have h9 := varT_len10 (s.length : Nat)
    rw [beginV_yes h, ← by_size, by_tx]
    unfold beginB sharesB
    rw [List.length_append, List.length_append, List.length_append, List.length_append, by_size, List.take_length]; omega
def mailK (t : ByteArray) (i : Nat) : Mail := ⟨((i + 1 : Nat) : Int), ⟨1, 0, 0, false, [], t⟩⟩
def mailsK (t : ByteArray) (k : Nat) : List Mail := (List.range k).map (mailK t)
theorem mailsK_len (t : ByteArray) (k : Nat) : (mailsK t k).length = k := by unfold mailsK; rw [List.length_map, List.length_range]
theorem mailsK_step (t : ByteArray) {k : Nat} (h : 1 ≤ k) : mailsK t (k + 1 - 1) = mailsK t (k - 1) ++ [⟨(k : Int), ⟨1, 0, 0, false, [], t⟩⟩] := by
  obtain ⟨j, rfl⟩ : ∃ j, k = j + 1 := ⟨k - 1, by omega⟩
  unfold mailsK
  rw [show j + 1 + 1 - 1 = j + 1 by omega, List.range_succ, List.map_append]; rfl
noncomputable def askM (a : Ask) : List Mail := if a.on = true ∧ beginOk a.query a.shares a.count = true then mailsK (beginV a.query a.shares a.count) a.count.toNat else []
theorem askM_no1 {a : Ask} (h : a.on = false) : askM a = [] := if_neg fun e => by rw [h] at e; cases e.1
theorem askM_no2 {a : Ask} (h : beginOk a.query a.shares a.count = false) : askM a = [] := if_neg fun e => by rw [h] at e; cases e.2
theorem askM_yes {a : Ask} (h : a.on = true) (h2 : beginOk a.query a.shares a.count = true) {k : Nat} (h1 : 1 ≤ k) (hk : a.count < k) (hk2 : (k : Int) ≤ a.count + 1) : askM a = mailsK (beginV a.query a.shares a.count) (k - 1) := by
  unfold askM
  rw [if_pos ⟨h, h2⟩, show a.count.toNat = k - 1 by omega]
theorem mail_ow {k : Int} {t : ByteArray} (hk : okI k) (ht : t.size ≤ 9223372036854775807) : gMail.ow [.int .i64 k, .int .i64 1, .int .i64 0, .int .i64 0, .bool false, .slice none 0 0, .string t] ⟨k, ⟨1, 0, 0, false, [], t⟩⟩ [] :=
  gMail_ow.2 ⟨_, [], rfl, .refl _, hk, gLetter_ow.2 ⟨none, 0, [], rfl, .refl _, (show okI 1 by unfold okI; decide), (show okI 0 by unfold okI; decide), (show okI 0 by unfold okI; decide), sl_nil _ _ _, ht⟩⟩
theorem ask_leaf {b : Option Addr} {c : Nat} {A : Hp} {m o : List Mail} (h : m = o) (ow : (gSl 112 gMail).ow [.slice b o.length c] o A) : ∃ b' c', Value.slice b o.length c = .slice b' m.length c' ∧ (gSl 112 gMail).ow [.slice b' m.length c'] m A := by
  subst h; exact ⟨b, c, rfl, ow⟩
--@ct impl.AskLetters new implAskLetters_ct _ $1 ?_ | ⟨%1, (by (try exact TabIn.mono ‹TabIn _› (mem_at 0 rfl)); (try exact TabIn.mono ‹TabIn _› (mem_at 1 rfl)); (try exact TabIn.mono ‹TabIn _› (mem_at 2 rfl)))⟩ | obtain ⟨b#, c#, rfl, o#⟩ := o# ;; have r# := Gt.owrd _ o#
theorem implAskLetters_ct (l : List Value) (x : Ask) (hx : gAsk.sz x ≤ 1048576) :
    Ct Tryz.prog 23 [.agg ⟨l⟩] [] (fun H => gAsk.rd H l x ∧ TabIn H) (fun v A => ∃ b c, v = .slice b (askM x).length c ∧ (gSl 112 gMail).ow [.slice b (askM x).length c] (askM x) A) := by
  refine Ct.intro0 G_ok Tryz.func23 rfl rfl rfl fun E H hp => ?_
  obtain ⟨hp, hT⟩ := hp
  obtain ⟨l1p, b2p, c2p, b4p, c4p, l6p, rfl, h1p, h2p, w3p, h4p, h6p⟩ := gAsk_rd.1 hp
  obtain ⟨b1_1p, c1_1p, b2_1p, c2_1p, b3_1p, c3_1p, rfl, h1_1p, h2_1p, h3_1p⟩ := gQuery_rd.1 h1p
  obtain ⟨b0_6p, c0_6p, rfl, h0_6p⟩ := gBag_rd.1 h6p
  have haz := gAsk_sz x
  have hbz := beginV_sz x.query x.shares x.count
  refine VCnew.intro fun x0 => ?_
  refine call_val (implBeginText_ct _ _ _ _ x.query x.shares _ ?_) ⟨(Rp.mono _ (mem_at 0 rfl) h1p), (Rp.mono _ (mem_at 0 rfl) h2p), (by (try exact TabIn.mono hT (mem_at 0 rfl)); (try exact TabIn.mono hT (mem_at 1 rfl)); (try exact TabIn.mono hT (mem_at 2 rfl)))⟩ ?_
  · omega
  rintro _ rfl
  refine VCsplit.intro (fun q2 => ?_) (fun q2 => ?_)
  ·
    simp at q2
    exact ⟨[], ask_leaf (o := []) (askM_no1 (by assumption)) (sl_nil _ _ _), (.le fun a => by (try simp only [setR, List.cons_append, List.nil_append]); simp only [List.flatten_append, List.flatten_cons, List.flatten_nil, List.count_append, List.count_nil, List.append_nil, List.nil_append]; omega)⟩
  ·
    simp at q2
    refine VCsplit.intro (fun q3 => ?_) (fun q3 => ?_)
    ·
      simp at q3
      exact ⟨[], ask_leaf (o := []) (askM_no2 (by assumption)) (sl_nil _ _ _), (.le fun a => by (try simp only [setR, List.cons_append, List.nil_append]); simp only [List.flatten_append, List.flatten_cons, List.flatten_nil, List.count_append, List.count_nil, List.append_nil, List.nil_append]; omega)⟩
    ·
      simp at q3
      have hbf3 := begin_facts q3
      apply loop_mod (α := (Nat) × (List Mail) × (Hp) × (Option Addr) × (Nat)) G_ok [24, 25, 26, 27, 30, 31, 32, 33, 34, 35, 36, 5, 28, 29, 6] (fun z => [(6, .v (.int .i64 z.1)), (5, .v (.slice z.2.2.2.1 z.2.1.length z.2.2.2.2))]) (fun z => [{ id := x0, cs := [Value.bool x.on, Value.bool x.query.each, Value.slice b1_1p x.query.out.length c1_1p, Value.slice b2_1p x.query.atoms.length c2_1p, Value.slice b3_1p x.query.filters.length c3_1p] ++ ([Value.slice b2p x.shares.length c2p, Value.int IntKind.i64 x.count, Value.slice b4p x.results.length c4p, Value.bool x.over, Value.slice b0_6p x.answer.items.length c0_6p] ++ []), ty := (51 : Nat) }]) (fun z => [z.2.2.1, H]) (fun z => 9 - z.1) (fun z => (1 ≤ z.1 ∧ (z.1 : Int) ≤ x.count + 1) ∧ z.2.1 = mailsK (beginV x.query x.shares x.count) (z.1 - 1) ∧ (gSl 112 gMail).ow [.slice z.2.2.2.1 z.2.1.length z.2.2.2.2] z.2.1 z.2.2.1) ((1, [], [], _, 0))
      · repeat' (first | exact trivial | refine ⟨⟨_, rfl, by first | rfl | exact inc_eq _ (by omega) | (refine sl_eq ?_; simp; done), by first | exact trivial | simp [SV.ok]⟩, ?_⟩)
      · exact ⟨rfl, trivial⟩
      · try dsimp only
        exact ⟨⟨Nat.le_refl _, by omega⟩, rfl, sl_nil _ _ _⟩
      · exact .refl _
      rintro ⟨k, o, A, lb, lc⟩ hI
      obtain ⟨⟨hk1, hk2⟩, ho, oA⟩ : (1 ≤ k ∧ (k : Int) ≤ x.count + 1) ∧ o = mailsK (beginV x.query x.shares x.count) (k - 1) ∧ (gSl 112 gMail).ow [.slice lb o.length lc] o A := hI
      try dsimp only
      refine VCsplit.intro (fun q4 => ?_) (fun q4 => ?_)
      ·
        simp at q4
        refine VCnew.intro fun x5 => ?_
        refine gappend1 (g := gMail) (T := (112 : TypeId)) G_ok A _ [H] ?_ oA (mail_ow (by unfold okI; omega) (by omega)) (List.mem_of_getElem? (i := 0) rfl) rfl rfl rfl rfl rfl rfl rfl rfl ?_ fun b6 c6 A6 o6 => ?_
        · exact .tl
        · (rw [ho, mailsK_len]; omega)
        apply loop_stepA (k + 1, _, _, _, _)
        · exact .refl _
        · repeat' (first | exact trivial | refine ⟨⟨_, rfl, by first | rfl | exact inc_eq _ (by omega) | (refine sl_eq ?_; simp; done), by first | exact trivial | simp [SV.ok]⟩, ?_⟩)
        · exact ⟨rfl, trivial⟩
        · try dsimp only
          exact ⟨⟨by omega, by omega⟩, by rw [ho, mailsK_step _ hk1], ‹_›⟩
        try dsimp only
        omega
      ·
        simp at q4
        exact ⟨_, ask_leaf ((askM_yes (by assumption) (by assumption) hk1 (by omega) hk2).trans ho.symm) oA, (.le fun a => by (try simp only [setR, List.cons_append, List.nil_append]); simp only [List.flatten_append, List.flatten_cons, List.flatten_nil, List.count_append, List.count_nil, List.append_nil, List.nil_append]; omega)⟩
--@ct spec.AskLetters new specAskLetters_ct _ $1 ?_ | %1 | obtain ⟨b#, c#, rfl, o#⟩ := o# ;; have r# := Gt.owrd _ o#
theorem specAskLetters_ct (l : List Value) (x : Ask) (hx : gAsk.sz x ≤ 1048576) :
    Ct Tryz.prog 21 [.agg ⟨l⟩] [] (fun H => gAsk.rd H l x) (fun v A => ∃ b c, v = .slice b (askM x).length c ∧ (gSl 112 gMail).ow [.slice b (askM x).length c] (askM x) A) := by
  refine Ct.intro0 G_ok Tryz.func21 rfl rfl rfl fun E H hp => ?_
  obtain ⟨l1p, b2p, c2p, b4p, c4p, l6p, rfl, h1p, h2p, w3p, h4p, h6p⟩ := gAsk_rd.1 hp
  obtain ⟨b1_1p, c1_1p, b2_1p, c2_1p, b3_1p, c3_1p, rfl, h1_1p, h2_1p, h3_1p⟩ := gQuery_rd.1 h1p
  obtain ⟨b0_6p, c0_6p, rfl, h0_6p⟩ := gBag_rd.1 h6p
  have haz := gAsk_sz x
  have hbz := beginV_sz x.query x.shares x.count
  refine VCnew.intro fun x0 => ?_
  refine VCnew.intro fun x1 => ?_
  refine call_val (specBeginText_ct _ _ _ _ (x.query) (x.shares) _ ?_) ⟨(Rp.mono _ (mem_at 1 rfl) h1p), (Rp.mono _ (mem_at 1 rfl) h2p)⟩ ?_
  · omega
  rintro _ rfl
  refine VCsplit.intro (fun q3 => ?_) (fun q3 => ?_)
  ·
    simp at q3
    exact ⟨[], ask_leaf (o := []) (askM_no1 (by assumption)) (sl_nil _ _ _), (.le fun a => by (try simp only [setR, List.cons_append, List.nil_append]); simp only [List.flatten_append, List.flatten_cons, List.flatten_nil, List.count_append, List.count_nil, List.append_nil, List.nil_append]; omega)⟩
  ·
    simp at q3
    refine VCsplit.intro (fun q4 => ?_) (fun q4 => ?_)
    ·
      simp at q4
      exact ⟨[], ask_leaf (o := []) (askM_no2 (by assumption)) (sl_nil _ _ _), (.le fun a => by (try simp only [setR, List.cons_append, List.nil_append]); simp only [List.flatten_append, List.flatten_cons, List.flatten_nil, List.count_append, List.count_nil, List.append_nil, List.nil_append]; omega)⟩
    ·
      simp at q4
      have hbf4 := begin_facts q4
      apply loop_mod (α := (Nat) × (List Mail) × (Hp) × (Option Addr) × (Nat)) G_ok [26, 27, 28, 29, 32, 33, 34, 35, 36, 37, 38, 3, 30, 31, 6] (fun z => [(6, .v (.int .i64 z.1)), (3, .v (.slice z.2.2.2.1 z.2.1.length z.2.2.2.2))]) (fun z => [{ id := x0, cs := [Value.bool x.on, Value.bool x.query.each, Value.slice b1_1p x.query.out.length c1_1p, Value.slice b2_1p x.query.atoms.length c2_1p, Value.slice b3_1p x.query.filters.length c3_1p] ++ ([Value.slice b2p x.shares.length c2p, Value.int IntKind.i64 x.count, Value.slice b4p x.results.length c4p, Value.bool x.over, Value.slice b0_6p x.answer.items.length c0_6p] ++ []), ty := (51 : Nat) }]) (fun z => [z.2.2.1, H]) (fun z => 9 - z.1) (fun z => (1 ≤ z.1 ∧ (z.1 : Int) ≤ x.count + 1) ∧ z.2.1 = mailsK (beginV x.query x.shares x.count) (z.1 - 1) ∧ (gSl 112 gMail).ow [.slice z.2.2.2.1 z.2.1.length z.2.2.2.2] z.2.1 z.2.2.1) ((1, [], [], _, 0))
      · repeat' (first | exact trivial | refine ⟨⟨_, rfl, by first | rfl | exact inc_eq _ (by omega) | (refine sl_eq ?_; simp; done), by first | exact trivial | simp [SV.ok]⟩, ?_⟩)
      · exact ⟨rfl, trivial⟩
      · try dsimp only
        exact ⟨⟨Nat.le_refl _, by omega⟩, rfl, sl_nil _ _ _⟩
      · exact .tl
      rintro ⟨k, o, A, lb, lc⟩ hI
      obtain ⟨⟨hk1, hk2⟩, ho, oA⟩ : (1 ≤ k ∧ (k : Int) ≤ x.count + 1) ∧ o = mailsK (beginV x.query x.shares x.count) (k - 1) ∧ (gSl 112 gMail).ow [.slice lb o.length lc] o A := hI
      try dsimp only
      refine VCsplit.intro (fun q5 => ?_) (fun q5 => ?_)
      ·
        simp at q5
        refine VCnew.intro fun x6 => ?_
        refine gappend1 (g := gMail) (T := (112 : TypeId)) G_ok A _ [H] ?_ oA (mail_ow (by unfold okI; omega) (by omega)) (List.mem_of_getElem? (i := 0) rfl) rfl rfl rfl rfl rfl rfl rfl rfl ?_ fun b7 c7 A7 o7 => ?_
        · exact .tl
        · (rw [ho, mailsK_len]; omega)
        apply loop_stepA (k + 1, _, _, _, _)
        · exact .refl _
        · repeat' (first | exact trivial | refine ⟨⟨_, rfl, by first | rfl | exact inc_eq _ (by omega) | (refine sl_eq ?_; simp; done), by first | exact trivial | simp [SV.ok]⟩, ?_⟩)
        · exact ⟨rfl, trivial⟩
        · try dsimp only
          exact ⟨⟨by omega, by omega⟩, by rw [ho, mailsK_step _ hk1], ‹_›⟩
        try dsimp only
        omega
      ·
        simp at q5
        exact ⟨_, ask_leaf ((askM_yes (by assumption) (by assumption) hk1 (by omega) hk2).trans ho.symm) oA, (.le fun a => by (try simp only [setR, List.cons_append, List.nil_append]); simp only [List.flatten_append, List.flatten_cons, List.flatten_nil, List.count_append, List.count_nil, List.append_nil, List.nil_append]; omega)⟩
end Go.Proofs.YtcnclhjhnjpeiaaGreatDoor

namespace Go.Proofs.YtcnclhjhnjpeiaaGreatDoor
open Go.SX Go.Proofs
set_option maxHeartbeats 4000000
set_option linter.unusedSimpArgs false
set_option linter.unusedVariables false
theorem dgs_size : ∀ (f k : Nat) (out : ByteArray), (dgs f k out).size ≤ f + out.size
  | 0, k, out => by simp [dgs]
  | f + 1, k, out => by
    unfold dgs
    split
    · omega
    have := dgs_size f (k / 10) (⟨#[UInt8.ofNat (48 + k % 10)]⟩ ++ out)
    rw [ByteArray.size_append] at this
    have e : (⟨#[UInt8.ofNat (48 + k % 10)]⟩ : ByteArray).size = 1 := rfl
    omega
theorem sz1 (x : UInt8) : (⟨#[x]⟩ : ByteArray).size = 1 := rfl
theorem dgs_dig (q : Nat) : ((q : Int).tmod 10) = ((q % 10 : Nat) : Int) := by rw [Int.tmod_eq_emod_of_nonneg (by omega)]; omega
theorem dgs_fr (q : Nat) (o : ByteArray) : Value.string (⟨(([IntKind.u8.wrap (IntKind.i64.wrap (48 + (q : Int).tmod 10))] : List Int).map fun v => UInt8.ofNat v.toNat).toArray⟩ ++ o) = Value.string (⟨#[UInt8.ofNat (48 + q % 10)]⟩ ++ o) := by
  rw [dgs_dig]
  have h : IntKind.u8.wrap (IntKind.i64.wrap (48 + ((q % 10 : Nat) : Int))) = ((48 + q % 10 : Nat) : Int) := by
    simp (disch := omega) only [wrap_of, u8_wrap]; omega
  rw [h]; rfl
theorem mtx_size (k : Int) : (mtx k).size ≤ 9223372036854775807 := by
  unfold mtx
  split
  · decide
  have := dgs_size 20 k.toNat .empty
  rw [ByteArray.size_append]
  have e : (⟨#[109]⟩ : ByteArray).size = 1 := rfl
  have e2 : ByteArray.empty.size = 0 := rfl
  omega
--@ct laws.markText val markText_ct _ ?_
theorem markText_ct (k : Int) (h1 : k ≤ 4611686018427387904) : Ct Tryz.prog 75 [.int .i64 k] [] (fun _ => True) (fun v A => v = .string (mtx k) ∧ A = []) := by
  refine Ct.intro0 G_ok Tryz.func75 rfl rfl rfl fun E H hp => ?_
  refine VCsplit.intro (fun q0 => ?_) (fun q0 => ?_)
  ·
    simp at q0
    exact ⟨[], ⟨by unfold mtx; rw [if_pos (by omega)], rfl⟩, (.le fun a => by (try simp only [setR, List.cons_append, List.nil_append]); simp only [List.flatten_append, List.flatten_cons, List.flatten_nil, List.count_append, List.count_nil, List.append_nil, List.nil_append]; omega)⟩
  ·
    simp at q0
    apply loop_mod (α := (Nat) × (Nat) × (ByteArray)) G_ok [6, 7, 8, 9, 10, 11, 12, 13, 14, 15, 3, 16, 17, 0] (fun z => [(3, .v (.string z.2.2)), (0, .v (.int .i64 z.2.1))]) (fun z => []) (fun z => [H]) (fun z => z.2.1) (fun z => dgs z.1 z.2.1 z.2.2 = dgs 20 k.toNat .empty ∧ z.2.1 < 10 ^ z.1 ∧ z.2.2.size + z.1 ≤ 20 ∧ z.2.1 ≤ 4611686018427387904) ((20, k.toNat, .empty))
    · repeat' (first | exact trivial | refine ⟨⟨_, rfl, by first | rfl | exact inc_eq _ (by omega) | (refine sl_eq ?_; simp; done) | (refine svi_eq ?_; (try dsimp only); omega) | exact dgs_fr q o | (refine svi_eq ?_; (try dsimp only); rw [Int.tdiv_eq_ediv_of_nonneg (show (0 : Int) ≤ (q : Int) by omega)]; (try simp (disch := omega) only [wrap_of]); omega), by first | exact trivial | simp [SV.ok]⟩, ?_⟩)
    · exact trivial
    · try dsimp only
      exact ⟨rfl, by omega, by decide, by omega⟩
    · exact .refl _
    rintro ⟨f, q, o⟩ hI
    obtain ⟨hd, hq, hs, hm⟩ : dgs f q o = dgs 20 k.toNat .empty ∧ q < 10 ^ f ∧ o.size + f ≤ 20 ∧ q ≤ 4611686018427387904 := hI
    try dsimp only
    refine VCsplit.intro (fun q1 => ?_) (fun q1 => ?_)
    ·
      simp at q1
      obtain ⟨f, rfl⟩ : ∃ f', f = f' + 1 := by cases f with | zero => simp at hq; omega | succ f' => exact ⟨f', rfl⟩
      refine VC.intro ?_ ?_
      · trivial
      refine VCnew.intro fun x2 => ?_
      refine conv_bs G_ok (([IntKind.u8.wrap (IntKind.i64.wrap ((48 : Int) + (↑q : Int).tmod (10 : Int)))] : List Int).map fun v => UInt8.ofNat v.toNat) rfl (lit_bs [IntKind.u8.wrap (IntKind.i64.wrap ((48 : Int) + (↑q : Int).tmod (10 : Int)))] (mem_at 0 rfl _ (List.mem_singleton.2 rfl)) rfl ?_ (by simp)) rfl rfl rfl ?_
      · (simp only [inU8, u8_wrap, and_true]; omega)
      refine VC.intro ?_ ?_
      · (rw [bsz]; simp only [List.length_map, List.length_cons, List.length_nil]; have : IntKind.i64.max = 9223372036854775807 := rfl; omega)
      refine VC.intro ?_ ?_
      · trivial
      apply loop_stepA (f, q / 10, ⟨#[UInt8.ofNat (48 + q % 10)]⟩ ++ o)
      · exact .sub (by repeat (first | exact .slnil | apply List.Sublist.cons_cons | apply List.Sublist.cons))
      · repeat' (first | exact trivial | refine ⟨⟨_, rfl, by first | rfl | exact inc_eq _ (by omega) | (refine sl_eq ?_; simp; done) | (refine svi_eq ?_; (try dsimp only); omega) | exact dgs_fr q o | (refine svi_eq ?_; (try dsimp only); rw [Int.tdiv_eq_ediv_of_nonneg (show (0 : Int) ≤ (q : Int) by omega)]; (try simp (disch := omega) only [wrap_of]); omega), by first | exact trivial | simp [SV.ok]⟩, ?_⟩)
      · exact trivial
      · try dsimp only
        exact ⟨by rw [← hd]; conv => rhs; unfold dgs; rw [if_neg (by omega : ¬ q = 0)], by rw [Nat.pow_succ] at hq; omega, by rw [ByteArray.size_append, sz1]; omega, by omega⟩
      try dsimp only
      omega
    ·
      simp at q1
      obtain rfl : q = 0 := by omega
      have hd0 : o = dgs 20 k.toNat .empty := by rw [← hd]; cases f <;> simp [dgs]
      refine VC.intro ?_ ?_
      · (have e1 : (⟨#[109]⟩ : ByteArray).size = 1 := rfl; have : IntKind.i64.max = 9223372036854775807 := rfl; omega)
      exact ⟨[], ⟨by unfold mtx; rw [if_neg (by omega), hd0], rfl⟩, (.le fun a => by (try simp only [setR, List.cons_append, List.nil_append]); simp only [List.flatten_append, List.flatten_cons, List.flatten_nil, List.count_append, List.count_nil, List.append_nil, List.nil_append]; omega)⟩
--@ct laws.markIntS mark1 markIntS_ct _ _ _ _ _ _ ~ ?_ ?_
theorem markIntS_ct (b : Option Addr) (m c : Nat) (xs : List Int) (A : Hp) (k0 : Int) (ho : (gSl 3 gI).ow [.slice b m c] xs A) (h0 : 0 ≤ k0) (h1 : k0 + cntL gI xs ≤ 4611686018427387904) :
    CtR Tryz.prog 62 [.slice b m c, .int .i64 k0] A (fun _ => True) (fun v A => v = .int .i64 (k0 + cntL gI xs) ∧ (gSl 3 gI).ow [.slice b m c] (mkL gI k0 xs) A) := by
  obtain ⟨rfl, hcl, hl⟩ := sl_len (Gt.owrd _ ho)
  refine CtR.intro G_ok [A] Tryz.func62 rfl rfl rfl (by simp) fun E H hp => ?_
  apply loop_mod (α := (Nat) × (Hp)) G_ok [6, 7, 8, 9, 12, 13, 14, 15, 16, 17, 1, 10, 11, 5] (fun z => [(5, .v (.int .i64 z.1)), (1, .v (.int .i64 (k0 + cntL gI (xs.take z.1))))]) (fun z => []) (fun z => [z.2, H]) (fun z => xs.length - z.1) (fun z => z.1 ≤ xs.length ∧ (gSl 3 gI).ow [.slice b xs.length c] (mkL gI k0 (xs.take z.1) ++ xs.drop z.1) z.2) ((0, A))
  · repeat' (first | exact trivial | refine ⟨⟨_, rfl, by first | rfl | exact inc_eq _ (by omega) | (refine sl_eq ?_; simp; done) | (refine svi_eq ?_; subst_vars; (try dsimp only); (try simp (disch := omega) only [wrap_of]); omega) | (simp [cntL]), by first | exact trivial | simp [SV.ok]⟩, ?_⟩)
  · exact trivial
  · try dsimp only
    exact ⟨by omega, by simpa [mkL] using ho⟩
  · exact .refl _
  rintro ⟨k, B⟩ hI
  obtain ⟨hk, oB⟩ : k ≤ xs.length ∧ (gSl 3 gI).ow [.slice b xs.length c] (mkL gI k0 (xs.take k) ++ xs.drop k) B := hI
  try dsimp only
  refine VCsplit.intro (fun q0 => ?_) (fun q0 => ?_)
  ·
    simp at q0
    have hs : cntL gI (xs.take (k + 1)) = cntL gI (xs.take k) + 1 := (cntL_step gI xs k 0 (by omega))
    have hs2 := cntL_take_le gI xs (k + 1)
    refine idx_rd (Gt.owrd _ oB) ?_ ?_ fun b1 o1 hb1 => ?_
    · omega
    · (rw [mk_len _ _ _ _ (by omega)]; omega)
    refine gstoreN (Fld.id _) 0 (k) 0 rfl rfl oB ?_ ?_ hb1 rfl gI_pl _ (gI_ow ?_) fun A2 o2 => ?_
    · omega
    · (rw [mk_len _ _ _ _ (by omega)]; omega)
    · unfold okI; omega
    apply loop_stepA (k + 1, _)
    · exact .refl _
    · repeat' (first | exact trivial | refine ⟨⟨_, rfl, by first | rfl | exact inc_eq _ (by omega) | (refine sl_eq ?_; simp; done) | (refine svi_eq ?_; subst_vars; (try dsimp only); (try simp (disch := omega) only [wrap_of]); omega) | (simp [cntL]), by first | exact trivial | simp [SV.ok]⟩, ?_⟩)
    · exact trivial
    · try dsimp only
      exact ⟨by omega, by rw [← mk_step gI 0 xs k0 k (by omega)] ; assumption⟩
    try dsimp only
    omega
  ·
    simp at q0
    obtain rfl : k = xs.length := by omega
    rw [List.take_length, List.drop_length, List.append_nil] at oB
    exact ⟨_, ⟨by rw [List.take_length], oB⟩, (.le fun a => by (try simp only [setR, List.cons_append, List.nil_append]); simp only [List.flatten_append, List.flatten_cons, List.flatten_nil, List.count_append, List.count_nil, List.append_nil, List.nil_append]; omega)⟩
--@ct laws.heldIntS val heldIntS_ct _ _ _ _ _ _ ?_ ?_ ?_ | %1
--@ct laws.markStringS mark1 markStringS_ct _ _ _ _ _ _ ~ ?_ ?_
theorem markStringS_ct (b : Option Addr) (m c : Nat) (xs : List ByteArray) (A : Hp) (k0 : Int) (ho : (gSl 9 gS).ow [.slice b m c] xs A) (h0 : 0 ≤ k0) (h1 : k0 + cntL gS xs ≤ 4611686018427387904) :
    CtR Tryz.prog 59 [.slice b m c, .int .i64 k0] A (fun _ => True) (fun v A => v = .int .i64 (k0 + cntL gS xs) ∧ (gSl 9 gS).ow [.slice b m c] (mkL gS k0 xs) A) := by
  obtain ⟨rfl, hcl, hl⟩ := sl_len (Gt.owrd _ ho)
  refine CtR.intro G_ok [A] Tryz.func59 rfl rfl rfl (by simp) fun E H hp => ?_
  apply loop_mod (α := (Nat) × (Hp)) G_ok [6, 7, 8, 9, 12, 13, 14, 15, 16, 17, 18, 1, 10, 11, 5] (fun z => [(5, .v (.int .i64 z.1)), (1, .v (.int .i64 (k0 + cntL gS (xs.take z.1))))]) (fun z => []) (fun z => [z.2, H]) (fun z => xs.length - z.1) (fun z => z.1 ≤ xs.length ∧ (gSl 9 gS).ow [.slice b xs.length c] (mkL gS k0 (xs.take z.1) ++ xs.drop z.1) z.2) ((0, A))
  · repeat' (first | exact trivial | refine ⟨⟨_, rfl, by first | rfl | exact inc_eq _ (by omega) | (refine sl_eq ?_; simp; done) | (refine svi_eq ?_; subst_vars; (try dsimp only); (try simp (disch := omega) only [wrap_of]); omega) | (simp [cntL]), by first | exact trivial | simp [SV.ok]⟩, ?_⟩)
  · exact trivial
  · try dsimp only
    exact ⟨by omega, by simpa [mkL] using ho⟩
  · exact .refl _
  rintro ⟨k, B⟩ hI
  obtain ⟨hk, oB⟩ : k ≤ xs.length ∧ (gSl 9 gS).ow [.slice b xs.length c] (mkL gS k0 (xs.take k) ++ xs.drop k) B := hI
  try dsimp only
  refine VCsplit.intro (fun q0 => ?_) (fun q0 => ?_)
  ·
    simp at q0
    have hs : cntL gS (xs.take (k + 1)) = cntL gS (xs.take k) + 1 := (cntL_step gS xs k ByteArray.empty (by omega))
    have hs2 := cntL_take_le gS xs (k + 1)
    refine call_val (markText_ct _ ?_) trivial ?_
    · omega
    rintro _ rfl
    refine idx_rd (Gt.owrd _ oB) ?_ ?_ fun b2 o2 hb2 => ?_
    · omega
    · (rw [mk_len _ _ _ _ (by omega)]; omega)
    refine gstoreN (Fld.id _) ByteArray.empty (k) 0 rfl rfl oB ?_ ?_ hb2 rfl fl_pl _ (gS_ow ?_) fun A3 o3 => ?_
    · omega
    · (rw [mk_len _ _ _ _ (by omega)]; omega)
    · exact mtx_size _
    apply loop_stepA (k + 1, _)
    · exact .refl _
    · repeat' (first | exact trivial | refine ⟨⟨_, rfl, by first | rfl | exact inc_eq _ (by omega) | (refine sl_eq ?_; simp; done) | (refine svi_eq ?_; subst_vars; (try dsimp only); (try simp (disch := omega) only [wrap_of]); omega) | (simp [cntL]), by first | exact trivial | simp [SV.ok]⟩, ?_⟩)
    · exact trivial
    · try dsimp only
      exact ⟨by omega, by rw [← mk_step gS ByteArray.empty xs k0 k (by omega)] ; assumption⟩
    try dsimp only
    omega
  ·
    simp at q0
    obtain rfl : k = xs.length := by omega
    rw [List.take_length, List.drop_length, List.append_nil] at oB
    exact ⟨_, ⟨by rw [List.take_length], oB⟩, (.le fun a => by (try simp only [setR, List.cons_append, List.nil_append]); simp only [List.flatten_append, List.flatten_cons, List.flatten_nil, List.count_append, List.count_nil, List.append_nil, List.nil_append]; omega)⟩
--@ct laws.heldStringS val heldStringS_ct _ _ _ _ _ _ ?_ ?_ ?_ | %1
--@ct laws.markItemS mark1 markItemS_ct _ _ _ _ _ _ ~ ?_ ?_
theorem markItemS_ct (b : Option Addr) (m c : Nat) (xs : List Item) (A : Hp) (k0 : Int) (ho : (gSl 134 gItem).ow [.slice b m c] xs A) (h0 : 0 ≤ k0) (h1 : k0 + cntL gItem xs ≤ 4611686018427387904) :
    CtR Tryz.prog 116 [.slice b m c, .int .i64 k0] A (fun _ => True) (fun v A => v = .int .i64 (k0 + cntL gItem xs) ∧ (gSl 134 gItem).ow [.slice b m c] (mkL gItem k0 xs) A) := by
  obtain ⟨rfl, hcl, hl⟩ := sl_len (Gt.owrd _ ho)
  refine CtR.intro G_ok [A] Tryz.func116 rfl rfl rfl (by simp) fun E H hp => ?_
  apply loop_mod (α := (Nat) × (Hp)) G_ok [6, 7, 8, 9, 12, 13, 14, 15, 16, 17, 18, 1, 19, 20, 21, 22, 23, 24, 25, 10, 11, 5] (fun z => [(5, .v (.int .i64 z.1)), (1, .v (.int .i64 (k0 + cntL gItem (xs.take z.1))))]) (fun z => []) (fun z => [z.2, H]) (fun z => xs.length - z.1) (fun z => z.1 ≤ xs.length ∧ (gSl 134 gItem).ow [.slice b xs.length c] (mkL gItem k0 (xs.take z.1) ++ xs.drop z.1) z.2) ((0, A))
  · repeat' (first | exact trivial | refine ⟨⟨_, rfl, by first | rfl | exact inc_eq _ (by omega) | (refine sl_eq ?_; simp; done) | (refine svi_eq ?_; subst_vars; (try dsimp only); (try simp (disch := omega) only [wrap_of]); omega) | (simp [cntL]), by first | exact trivial | simp [SV.ok]⟩, ?_⟩)
  · exact trivial
  · try dsimp only
    exact ⟨by omega, by simpa [mkL] using ho⟩
  · exact .refl _
  rintro ⟨k, B⟩ hI
  obtain ⟨hk, oB⟩ : k ≤ xs.length ∧ (gSl 134 gItem).ow [.slice b xs.length c] (mkL gItem k0 (xs.take k) ++ xs.drop k) B := hI
  try dsimp only
  refine VCsplit.intro (fun q0 => ?_) (fun q0 => ?_)
  ·
    simp at q0
    have hs := (cntL_step gItem xs k default (by omega))
    simp only [gItem_cnt] at hs
    have hs2 := cntL_take_le gItem xs (k + 1)
    obtain ⟨y, ey, oe⟩ := OwE.mk default k oB (by rw [mk_len _ _ _ _ (by omega)]; omega)
    rw [mk_get _ _ _ _ _ (by omega)] at ey
    clear oB
    refine oe_idx oe ?_ fun b1 o1 hb1 => ?_
    · rfl
    refine oe_load gItem_row oe rfl hb1 rfl (mem_at 0 rfl) fun l2 hl2 hf2 => ?_
    obtain ⟨u2, w2, rfl, hl2⟩ := sl_rd hl2
    refine call_foc 0 rfl hf2 (fun Af3 oa3 => markIntS_ct _ _ _ _ _ _ oa3 ?_ ?_) (fun _ _ => trivial) ?_
    · omega
    · simp_all; omega
    rintro _ A3 rfl ⟨y3, ey3, o3⟩
    try dsimp only at ey3
    refine oe_idx o3 ?_ fun b4 o4 hb4 => ?_
    · rfl
    refine oe_store gItem_times 0 rfl o3 rfl hb4 rfl gI_pl _ (gI_ow ?_) fun y5 A5 ey5 o5 => ?_
    · (subst_vars; unfold okI; (try dsimp only at *); omega)
    apply loop_stepA (k + 1, _)
    · exact .refl _
    · repeat' (first | exact trivial | refine ⟨⟨_, rfl, by first | rfl | exact inc_eq _ (by omega) | (refine sl_eq ?_; simp; done) | (refine svi_eq ?_; subst_vars; (try dsimp only); (try simp (disch := omega) only [wrap_of]); omega) | (simp [cntL]), by first | exact trivial | simp [SV.ok]⟩, ?_⟩)
    · exact trivial
    · try dsimp only
      exact ⟨by omega, OwE.done (by assumption) (by rw [← mk_step gItem default xs k0 k (by omega)]; congr 1; subst_vars; (try simp only [gItem_mark, gItem_cnt]); (try simp (disch := omega) only [wrap_of]); (try rfl))⟩
    try dsimp only
    omega
  ·
    simp at q0
    obtain rfl : k = xs.length := by omega
    rw [List.take_length, List.drop_length, List.append_nil] at oB
    exact ⟨_, ⟨by rw [List.take_length], oB⟩, (.le fun a => by (try simp only [setR, List.cons_append, List.nil_append]); simp only [List.flatten_append, List.flatten_cons, List.flatten_nil, List.count_append, List.count_nil, List.append_nil, List.nil_append]; omega)⟩
--@ct laws.heldItemS val heldItemS_ct _ _ _ _ _ _ ?_ ?_ ?_ | %1
--@ct laws.markBag mark1 markBag_ct _ _ _ _ ~ ?_ ?_
theorem markBag_ct (l : List Value) (x : Bag) (A : Hp) (k0 : Int) (ho : gBag.ow l x A) (h0 : 0 ≤ k0) (h1 : k0 + gBag.cntV x ≤ 4611686018427387904) :
    CtR Tryz.prog 64 [.agg ⟨l⟩, .int .i64 k0] A (fun _ => True) (fun v A => v = .int .i64 (k0 + gBag.cntV x) ∧ gBag.ow l (gBag.markV k0 x) A) := by
  obtain ⟨b0, c0, A0, rfl, hpm, h0⟩ := gBag_ow.1 ho
  have hz := gBag_cntV x
  refine CtR.introP G_ok [A0] Tryz.func64 rfl rfl rfl (hpm.trans (by simp)) fun E H hp => ?_
  refine VCnew.intro fun x0 => ?_
  refine callR_at 0 rfl (markItemS_ct _ _ _ _ _ _ h0 ?_ ?_) trivial ?_
  · trivial
  · trivial
  rintro _ A1 ⟨rfl, o1⟩
  exact ⟨_, ⟨by rw [hz]; (try simp); (try omega), by rw [gBag_markV]; exact gBag_ow.2 ⟨_, _, _, by simp only [mkL_len]; rfl, .refl _, by rw [mkL_len]; assumption⟩⟩, (.le fun a => by (try simp only [setR, List.cons_append, List.nil_append]); simp only [List.flatten_append, List.flatten_cons, List.flatten_nil, List.count_append, List.count_nil, List.append_nil, List.nil_append]; omega)⟩
--@ct laws.heldBag val heldBag_ct _ _ _ _ ?_ ?_ ?_ | %1
--@ct laws.markAtomS mark1 markAtomS_ct _ _ _ _ _ _ ~ ?_ ?_
theorem markAtomS_ct (b : Option Addr) (m c : Nat) (xs : List Atom) (A : Hp) (k0 : Int) (ho : (gSl 154 gAtom).ow [.slice b m c] xs A) (h0 : 0 ≤ k0) (h1 : k0 + cntL gAtom xs ≤ 4611686018427387904) :
    CtR Tryz.prog 60 [.slice b m c, .int .i64 k0] A (fun _ => True) (fun v A => v = .int .i64 (k0 + cntL gAtom xs) ∧ (gSl 154 gAtom).ow [.slice b m c] (mkL gAtom k0 xs) A) := by
  obtain ⟨rfl, hcl, hl⟩ := sl_len (Gt.owrd _ ho)
  refine CtR.intro G_ok [A] Tryz.func60 rfl rfl rfl (by simp) fun E H hp => ?_
  apply loop_mod (α := (Nat) × (Hp)) G_ok [6, 7, 8, 9, 12, 13, 14, 15, 16, 17, 18, 19, 1, 20, 21, 22, 23, 24, 25, 26, 27, 28, 29, 30, 31, 32, 33, 34, 35, 10, 11, 5] (fun z => [(5, .v (.int .i64 z.1)), (1, .v (.int .i64 (k0 + cntL gAtom (xs.take z.1))))]) (fun z => []) (fun z => [z.2, H]) (fun z => xs.length - z.1) (fun z => z.1 ≤ xs.length ∧ (gSl 154 gAtom).ow [.slice b xs.length c] (mkL gAtom k0 (xs.take z.1) ++ xs.drop z.1) z.2) ((0, A))
  · repeat' (first | exact trivial | refine ⟨⟨_, rfl, by first | rfl | exact inc_eq _ (by omega) | (refine sl_eq ?_; simp; done) | (refine svi_eq ?_; subst_vars; (try dsimp only); (try simp (disch := omega) only [wrap_of]); omega) | (simp [cntL]), by first | exact trivial | simp [SV.ok]⟩, ?_⟩)
  · exact trivial
  · try dsimp only
    exact ⟨by omega, by simpa [mkL] using ho⟩
  · exact .refl _
  rintro ⟨k, B⟩ hI
  obtain ⟨hk, oB⟩ : k ≤ xs.length ∧ (gSl 154 gAtom).ow [.slice b xs.length c] (mkL gAtom k0 (xs.take k) ++ xs.drop k) B := hI
  try dsimp only
  refine VCsplit.intro (fun q0 => ?_) (fun q0 => ?_)
  ·
    simp at q0
    have hs := (cntL_step gAtom xs k default (by omega))
    simp only [gAtom_cnt] at hs
    have hs2 := cntL_take_le gAtom xs (k + 1)
    obtain ⟨y, ey, oe⟩ := OwE.mk default k oB (by rw [mk_len _ _ _ _ (by omega)]; omega)
    rw [mk_get _ _ _ _ _ (by omega)] at ey
    clear oB
    refine call_val (markText_ct _ ?_) trivial ?_
    · omega
    rintro _ rfl
    refine oe_idx oe ?_ fun b2 o2 hb2 => ?_
    · rfl
    refine oe_store gAtom_from 0 rfl oe rfl hb2 rfl fl_pl _ (gS_ow ?_) fun y3 A3 ey3 o3 => ?_
    · exact mtx_size _
    refine call_val (markText_ct _ ?_) trivial ?_
    · (simp (disch := omega) only [wrap_of]; omega)
    rintro _ rfl
    refine oe_idx o3 ?_ fun b5 o5 hb5 => ?_
    · rfl
    refine oe_store gAtom_path 0 rfl o3 rfl hb5 rfl fl_pl _ (gS_ow ?_) fun y6 A6 ey6 o6 => ?_
    · exact mtx_size _
    refine call_val (markText_ct _ ?_) trivial ?_
    · (simp (disch := omega) only [wrap_of]; omega)
    rintro _ rfl
    refine oe_idx o6 ?_ fun b8 o8 hb8 => ?_
    · rfl
    refine oe_store gAtom_to 0 rfl o6 rfl hb8 rfl fl_pl _ (gS_ow ?_) fun y9 A9 ey9 o9 => ?_
    · exact mtx_size _
    apply loop_stepA (k + 1, _)
    · exact .refl _
    · repeat' (first | exact trivial | refine ⟨⟨_, rfl, by first | rfl | exact inc_eq _ (by omega) | (refine sl_eq ?_; simp; done) | (refine svi_eq ?_; subst_vars; (try dsimp only); (try simp (disch := omega) only [wrap_of]); omega) | (simp [cntL]), by first | exact trivial | simp [SV.ok]⟩, ?_⟩)
    · exact trivial
    · try dsimp only
      exact ⟨by omega, OwE.done (by assumption) (by rw [← mk_step gAtom default xs k0 k (by omega)]; congr 1; subst_vars; (try simp only [gAtom_mark, gAtom_cnt]); (try simp (disch := omega) only [wrap_of]); (try rfl))⟩
    try dsimp only
    omega
  ·
    simp at q0
    obtain rfl : k = xs.length := by omega
    rw [List.take_length, List.drop_length, List.append_nil] at oB
    exact ⟨_, ⟨by rw [List.take_length], oB⟩, (.le fun a => by (try simp only [setR, List.cons_append, List.nil_append]); simp only [List.flatten_append, List.flatten_cons, List.flatten_nil, List.count_append, List.count_nil, List.append_nil, List.nil_append]; omega)⟩
--@ct laws.heldAtomS val heldAtomS_ct _ _ _ _ _ _ ?_ ?_ ?_ | %1
--@ct laws.markFilterS mark1 markFilterS_ct _ _ _ _ _ _ ~ ?_ ?_
theorem markFilterS_ct (b : Option Addr) (m c : Nat) (xs : List Filter) (A : Hp) (k0 : Int) (ho : (gSl 157 gFilter).ow [.slice b m c] xs A) (h0 : 0 ≤ k0) (h1 : k0 + cntL gFilter xs ≤ 4611686018427387904) :
    CtR Tryz.prog 61 [.slice b m c, .int .i64 k0] A (fun _ => True) (fun v A => v = .int .i64 (k0 + cntL gFilter xs) ∧ (gSl 157 gFilter).ow [.slice b m c] (mkL gFilter k0 xs) A) := by
  obtain ⟨rfl, hcl, hl⟩ := sl_len (Gt.owrd _ ho)
  refine CtR.intro G_ok [A] Tryz.func61 rfl rfl rfl (by simp) fun E H hp => ?_
  apply loop_mod (α := (Nat) × (Hp)) G_ok [6, 7, 8, 9, 12, 13, 14, 15, 16, 17, 18, 19, 1, 20, 21, 22, 23, 24, 25, 26, 27, 28, 29, 30, 31, 32, 33, 34, 35, 36, 37, 38, 39, 40, 41, 10, 11, 5] (fun z => [(5, .v (.int .i64 z.1)), (1, .v (.int .i64 (k0 + cntL gFilter (xs.take z.1))))]) (fun z => []) (fun z => [z.2, H]) (fun z => xs.length - z.1) (fun z => z.1 ≤ xs.length ∧ (gSl 157 gFilter).ow [.slice b xs.length c] (mkL gFilter k0 (xs.take z.1) ++ xs.drop z.1) z.2) ((0, A))
  · repeat' (first | exact trivial | refine ⟨⟨_, rfl, by first | rfl | exact inc_eq _ (by omega) | (refine sl_eq ?_; simp; done) | (refine svi_eq ?_; subst_vars; (try dsimp only); (try simp (disch := omega) only [wrap_of]); omega) | (simp [cntL]), by first | exact trivial | simp [SV.ok]⟩, ?_⟩)
  · exact trivial
  · try dsimp only
    exact ⟨by omega, by simpa [mkL] using ho⟩
  · exact .refl _
  rintro ⟨k, B⟩ hI
  obtain ⟨hk, oB⟩ : k ≤ xs.length ∧ (gSl 157 gFilter).ow [.slice b xs.length c] (mkL gFilter k0 (xs.take k) ++ xs.drop k) B := hI
  try dsimp only
  refine VCsplit.intro (fun q0 => ?_) (fun q0 => ?_)
  ·
    simp at q0
    have hs := (cntL_step gFilter xs k default (by omega))
    simp only [gFilter_cnt] at hs
    have hs2 := cntL_take_le gFilter xs (k + 1)
    obtain ⟨y, ey, oe⟩ := OwE.mk default k oB (by rw [mk_len _ _ _ _ (by omega)]; omega)
    rw [mk_get _ _ _ _ _ (by omega)] at ey
    clear oB
    refine call_val (markText_ct _ ?_) trivial ?_
    · omega
    rintro _ rfl
    refine oe_idx oe ?_ fun b2 o2 hb2 => ?_
    · rfl
    refine oe_store gFilter_left 0 rfl oe rfl hb2 rfl fl_pl _ (gS_ow ?_) fun y3 A3 ey3 o3 => ?_
    · exact mtx_size _
    refine oe_idx o3 ?_ fun b4 o4 hb4 => ?_
    · rfl
    refine oe_store gFilter_op 0 rfl o3 rfl hb4 rfl gI_pl _ (gI_ow ?_) fun y5 A5 ey5 o5 => ?_
    · exact okI_wrap _
    refine call_val (markText_ct _ ?_) trivial ?_
    · (simp (disch := omega) only [wrap_of]; omega)
    rintro _ rfl
    refine oe_idx o5 ?_ fun b7 o7 hb7 => ?_
    · rfl
    refine oe_store gFilter_right 0 rfl o5 rfl hb7 rfl fl_pl _ (gS_ow ?_) fun y8 A8 ey8 o8 => ?_
    · exact mtx_size _
    refine oe_idx o8 ?_ fun b9 o9 hb9 => ?_
    · rfl
    refine oe_store gFilter_num 0 rfl o8 rfl hb9 rfl gI_pl _ (gI_ow ?_) fun y10 A10 ey10 o10 => ?_
    · exact okI_wrap _
    apply loop_stepA (k + 1, _)
    · exact .refl _
    · repeat' (first | exact trivial | refine ⟨⟨_, rfl, by first | rfl | exact inc_eq _ (by omega) | (refine sl_eq ?_; simp; done) | (refine svi_eq ?_; subst_vars; (try dsimp only); (try simp (disch := omega) only [wrap_of]); omega) | (simp [cntL]), by first | exact trivial | simp [SV.ok]⟩, ?_⟩)
    · exact trivial
    · try dsimp only
      exact ⟨by omega, OwE.done (by assumption) (by rw [← mk_step gFilter default xs k0 k (by omega)]; congr 1; subst_vars; (try simp only [gFilter_mark, gFilter_cnt]); (try simp (disch := omega) only [wrap_of]); (try rfl))⟩
    try dsimp only
    omega
  ·
    simp at q0
    obtain rfl : k = xs.length := by omega
    rw [List.take_length, List.drop_length, List.append_nil] at oB
    exact ⟨_, ⟨by rw [List.take_length], oB⟩, (.le fun a => by (try simp only [setR, List.cons_append, List.nil_append]); simp only [List.flatten_append, List.flatten_cons, List.flatten_nil, List.count_append, List.count_nil, List.append_nil, List.nil_append]; omega)⟩
--@ct laws.heldFilterS val heldFilterS_ct _ _ _ _ _ _ ?_ ?_ ?_ | %1
--@ct laws.markQuery mark1 markQuery_ct _ _ _ _ ~ ?_ ?_
theorem markQuery_ct (l : List Value) (x : Query) (A : Hp) (k0 : Int) (ho : gQuery.ow l x A) (h0 : 0 ≤ k0) (h1 : k0 + gQuery.cntV x ≤ 4611686018427387904) :
    CtR Tryz.prog 17 [.agg ⟨l⟩, .int .i64 k0] A (fun _ => True) (fun v A => v = .int .i64 (k0 + gQuery.cntV x) ∧ gQuery.ow l (gQuery.markV k0 x) A) := by
  obtain ⟨b1, c1, A1, b2, c2, A2, b3, c3, A3, rfl, hpm, h1, h2, h3⟩ := gQuery_ow.1 ho
  have hz := gQuery_cntV x
  refine CtR.introP G_ok [A1, A2, A3] Tryz.func17 rfl rfl rfl (hpm.trans (by simp)) fun E H hp => ?_
  refine VCnew.intro fun x0 => ?_
  refine callR_at 0 rfl (markStringS_ct _ _ _ _ _ _ h1 ?_ ?_) trivial ?_
  · trivial
  · omega
  rintro _ A1 ⟨rfl, o1⟩
  refine callR_at 1 rfl (markAtomS_ct _ _ _ _ _ _ h2 ?_ ?_) trivial ?_
  · omega
  · omega
  rintro _ A2 ⟨rfl, o2⟩
  refine callR_at 2 rfl (markFilterS_ct _ _ _ _ _ _ h3 ?_ ?_) trivial ?_
  · omega
  · omega
  rintro _ A3 ⟨rfl, o3⟩
  exact ⟨_, ⟨by rw [hz]; (try simp); (try omega), by rw [gQuery_markV]; exact gQuery_ow.2 ⟨_, _, _, _, _, _, _, _, _, by simp only [mkL_len]; rfl, .refl _, by rw [mkL_len]; assumption, by rw [mkL_len]; assumption, by rw [mkL_len]; assumption⟩⟩, (.le fun a => by (try simp only [setR, List.cons_append, List.nil_append]); simp only [List.flatten_append, List.flatten_cons, List.flatten_nil, List.count_append, List.count_nil, List.append_nil, List.nil_append]; omega)⟩
--@ct laws.heldQuery val heldQuery_ct _ _ _ _ ?_ ?_ ?_ | %1
--@ct laws.markWalkS mark1 markWalkS_ct _ _ _ _ _ _ ~ ?_ ?_
theorem markWalkS_ct (b : Option Addr) (m c : Nat) (xs : List Walk) (A : Hp) (k0 : Int) (ho : (gSl 184 gWalk).ow [.slice b m c] xs A) (h0 : 0 ≤ k0) (h1 : k0 + cntL gWalk xs ≤ 4611686018427387904) :
    CtR Tryz.prog 74 [.slice b m c, .int .i64 k0] A (fun _ => True) (fun v A => v = .int .i64 (k0 + cntL gWalk xs) ∧ (gSl 184 gWalk).ow [.slice b m c] (mkL gWalk k0 xs) A) := by
  obtain ⟨rfl, hcl, hl⟩ := sl_len (Gt.owrd _ ho)
  refine CtR.intro G_ok [A] Tryz.func74 rfl rfl rfl (by simp) fun E H hp => ?_
  apply loop_mod (α := (Nat) × (Hp)) G_ok [6, 7, 8, 9, 12, 13, 14, 15, 16, 17, 18, 1, 19, 20, 21, 22, 23, 24, 25, 26, 27, 28, 29, 30, 31, 32, 33, 34, 35, 36, 37, 38, 39, 10, 11, 5] (fun z => [(5, .v (.int .i64 z.1)), (1, .v (.int .i64 (k0 + cntL gWalk (xs.take z.1))))]) (fun z => []) (fun z => [z.2, H]) (fun z => xs.length - z.1) (fun z => z.1 ≤ xs.length ∧ (gSl 184 gWalk).ow [.slice b xs.length c] (mkL gWalk k0 (xs.take z.1) ++ xs.drop z.1) z.2) ((0, A))
  · repeat' (first | exact trivial | refine ⟨⟨_, rfl, by first | rfl | exact inc_eq _ (by omega) | (refine sl_eq ?_; simp; done) | (refine svi_eq ?_; subst_vars; (try dsimp only); (try simp (disch := omega) only [wrap_of]); omega) | (simp [cntL]), by first | exact trivial | simp [SV.ok]⟩, ?_⟩)
  · exact trivial
  · try dsimp only
    exact ⟨by omega, by simpa [mkL] using ho⟩
  · exact .refl _
  rintro ⟨k, B⟩ hI
  obtain ⟨hk, oB⟩ : k ≤ xs.length ∧ (gSl 184 gWalk).ow [.slice b xs.length c] (mkL gWalk k0 (xs.take k) ++ xs.drop k) B := hI
  try dsimp only
  refine VCsplit.intro (fun q0 => ?_) (fun q0 => ?_)
  ·
    simp at q0
    have hs := (cntL_step gWalk xs k default (by omega))
    simp only [gWalk_cnt] at hs
    have hs2 := cntL_take_le gWalk xs (k + 1)
    obtain ⟨y, ey, oe⟩ := OwE.mk default k oB (by rw [mk_len _ _ _ _ (by omega)]; omega)
    rw [mk_get _ _ _ _ _ (by omega)] at ey
    clear oB
    refine oe_idx oe ?_ fun b1 o1 hb1 => ?_
    · rfl
    refine oe_store gWalk_atom 0 rfl oe rfl hb1 rfl gI_pl _ (gI_ow ?_) fun y2 A2 ey2 o2 => ?_
    · unfold okI; omega
    refine oe_idx o2 ?_ fun b3 o3 hb3 => ?_
    · rfl
    refine oe_store gWalk_src 0 rfl o2 rfl hb3 rfl gI_pl _ (gI_ow ?_) fun y4 A4 ey4 o4 => ?_
    · exact okI_wrap _
    refine oe_idx o4 ?_ fun b5 o5 hb5 => ?_
    · rfl
    refine oe_store gWalk_at 0 rfl o4 rfl hb5 rfl gI_pl _ (gI_ow ?_) fun y6 A6 ey6 o6 => ?_
    · exact okI_wrap _
    refine oe_idx o6 ?_ fun b7 o7 hb7 => ?_
    · rfl
    refine oe_store gWalk_state 0 rfl o6 rfl hb7 rfl gI_pl _ (gI_ow ?_) fun y8 A8 ey8 o8 => ?_
    · exact okI_wrap _
    apply loop_stepA (k + 1, _)
    · exact .refl _
    · repeat' (first | exact trivial | refine ⟨⟨_, rfl, by first | rfl | exact inc_eq _ (by omega) | (refine sl_eq ?_; simp; done) | (refine svi_eq ?_; subst_vars; (try dsimp only); (try simp (disch := omega) only [wrap_of]); omega) | (simp [cntL]), by first | exact trivial | simp [SV.ok]⟩, ?_⟩)
    · exact trivial
    · try dsimp only
      exact ⟨by omega, OwE.done (by assumption) (by rw [← mk_step gWalk default xs k0 k (by omega)]; congr 1; subst_vars; (try simp only [gWalk_mark, gWalk_cnt]); (try simp (disch := omega) only [wrap_of]); (try rfl))⟩
    try dsimp only
    omega
  ·
    simp at q0
    obtain rfl : k = xs.length := by omega
    rw [List.take_length, List.drop_length, List.append_nil] at oB
    exact ⟨_, ⟨by rw [List.take_length], oB⟩, (.le fun a => by (try simp only [setR, List.cons_append, List.nil_append]); simp only [List.flatten_append, List.flatten_cons, List.flatten_nil, List.count_append, List.count_nil, List.append_nil, List.nil_append]; omega)⟩
--@ct laws.heldWalkS val heldWalkS_ct _ _ _ _ _ _ ?_ ?_ ?_ | %1
theorem heldWalkS_ct (b : Option Addr) (m c : Nat) (xs : List Walk) (k0 k1 : Int) (hk1 : k0 = k1) (h0 : 0 ≤ k0) (h1 : k0 + cntL gWalk xs ≤ 4611686018427387904) :
    Ct Tryz.prog 76 [.slice b m c, .int .i64 k0] [] (fun H => (gSl 184 gWalk).rd H [.slice b m c] (mkL gWalk k1 xs)) (fun v A => v = .int .i64 (k0 + cntL gWalk xs) ∧ A = []) := by
  subst hk1
  refine Ct.intro0 G_ok Tryz.func76 rfl rfl rfl fun E H hp => ?_
  have hm0 := (sl_len hp).1
  rw [mkL_len] at hm0; subst hm0
  obtain ⟨-, hcl, hl⟩ := sl_len hp
  rw [mkL_len] at hcl hl
  have hln := mkL_len gWalk xs k0
  apply loop_mod (α := (Nat)) G_ok [6, 7, 8, 9, 12, 13, 14, 15, 16, 17, 18, 4, 19, 20, 1, 21, 22, 23, 24, 25, 26, 27, 28, 29, 30, 31, 32, 33, 34, 35, 36, 37, 38, 39, 40, 41, 42, 43, 44, 45, 46, 47, 10, 11, 5] (fun z => [(5, .v (.int .i64 z)), (1, .v (.int .i64 (k0 + cntL gWalk (xs.take z))))]) (fun z => []) (fun z => [H]) (fun z => xs.length - z) (fun z => z ≤ xs.length) (0)
  · repeat' (first | exact trivial | refine ⟨⟨_, rfl, by first | rfl | exact inc_eq _ (by omega) | (refine sl_eq ?_; simp; done) | (refine svi_eq ?_; (try dsimp only); (try simp (disch := omega) only [wrap_of]); omega) | (simp [cntL]), by first | exact trivial | simp [SV.ok]⟩, ?_⟩)
  · exact trivial
  · omega
  · exact .refl _
  rintro k hI
  obtain hk : k ≤ xs.length := hI
  try dsimp only
  refine VCsplit.intro (fun q0 => ?_) (fun q0 => ?_)
  ·
    simp at q0
    have hs := (cntL_step gWalk xs k default (by omega))
    simp only [gWalk_cnt] at hs
    have hs2 := cntL_take_le gWalk xs (k + 1)
    have hm := mkL_get gWalk default xs k0 k (by omega)
    simp only [gWalk_mark, gWalk_cnt] at hm
    refine idx_rd hp ?_ ?_ fun b1 o1 hb1 => ?_
    · omega
    · omega
    refine load_partN default (k) 0 rfl hp ?_ ?_ hb1 rfl (by decide) (mem_at 0 rfl) fun l2 hl2 => ?_
    · omega
    · omega
    rw [hm] at hl2
    obtain ⟨rfl, w0x2, w1x2, w2x2, w3x2⟩ := gWalk_rd.1 hl2
    refine VCsplit.intro (fun q3 => ?_) (fun q3 => ?_)
    ·
      simp at q3
    ·
      simp at q3
      refine idx_rd hp ?_ ?_ fun b4 o4 hb4 => ?_
      · omega
      · omega
      refine load_partN default (k) 1 rfl hp ?_ ?_ hb4 rfl (by decide) (mem_at 0 rfl) fun l5 hl5 => ?_
      · omega
      · omega
      rw [hm] at hl5
      obtain ⟨rfl, w0x5, w1x5, w2x5, w3x5⟩ := gWalk_rd.1 hl5
      refine VCsplit.intro (fun q6 => ?_) (fun q6 => ?_)
      ·
        simp at q6
        simp (disch := omega) only [wrap_of] at q6
        exact absurd trivial q6
      ·
        simp at q6
        simp (disch := omega) only [wrap_of] at q6
        refine idx_rd hp ?_ ?_ fun b7 o7 hb7 => ?_
        · omega
        · omega
        refine load_partN default (k) 2 rfl hp ?_ ?_ hb7 rfl (by decide) (mem_at 0 rfl) fun l8 hl8 => ?_
        · omega
        · omega
        rw [hm] at hl8
        obtain ⟨rfl, w0x8, w1x8, w2x8, w3x8⟩ := gWalk_rd.1 hl8
        refine VCsplit.intro (fun q9 => ?_) (fun q9 => ?_)
        ·
          simp at q9
          simp (disch := omega) only [wrap_of] at q9
          exact absurd trivial q9
        ·
          simp at q9
          simp (disch := omega) only [wrap_of] at q9
          refine idx_rd hp ?_ ?_ fun b10 o10 hb10 => ?_
          · omega
          · omega
          refine load_partN default (k) 3 rfl hp ?_ ?_ hb10 rfl (by decide) (mem_at 0 rfl) fun l11 hl11 => ?_
          · omega
          · omega
          rw [hm] at hl11
          obtain ⟨rfl, w0x11, w1x11, w2x11, w3x11⟩ := gWalk_rd.1 hl11
          refine VCsplit.intro (fun q12 => ?_) (fun q12 => ?_)
          ·
            simp at q12
            simp (disch := omega) only [wrap_of] at q12
            exact absurd trivial q12
          ·
            simp at q12
            simp (disch := omega) only [wrap_of] at q12
            apply loop_stepA (k + 1)
            · exact .refl _
            · repeat' (first | exact trivial | refine ⟨⟨_, rfl, by first | rfl | exact inc_eq _ (by omega) | (refine sl_eq ?_; simp; done) | (refine svi_eq ?_; (try dsimp only); (try simp (disch := omega) only [wrap_of]); omega) | (simp [cntL]), by first | exact trivial | simp [SV.ok]⟩, ?_⟩)
            · exact trivial
            · trivial
            omega
  ·
    simp at q0
    obtain rfl : k = xs.length := by omega
    exact ⟨[], ⟨by rw [List.take_length], rfl⟩, (.le fun a => by (try simp only [setR, List.cons_append, List.nil_append]); simp only [List.flatten_append, List.flatten_cons, List.flatten_nil, List.count_append, List.count_nil, List.append_nil, List.nil_append]; omega)⟩
--@ct laws.markGotS mark1 markGotS_ct _ _ _ _ _ _ ~ ?_ ?_
theorem markGotS_ct (b : Option Addr) (m c : Nat) (xs : List Got) (A : Hp) (k0 : Int) (ho : (gSl 171 gGot).ow [.slice b m c] xs A) (h0 : 0 ≤ k0) (h1 : k0 + cntL gGot xs ≤ 4611686018427387904) :
    CtR Tryz.prog 63 [.slice b m c, .int .i64 k0] A (fun _ => True) (fun v A => v = .int .i64 (k0 + cntL gGot xs) ∧ (gSl 171 gGot).ow [.slice b m c] (mkL gGot k0 xs) A) := by
  obtain ⟨rfl, hcl, hl⟩ := sl_len (Gt.owrd _ ho)
  refine CtR.intro G_ok [A] Tryz.func63 rfl rfl rfl (by simp) fun E H hp => ?_
  apply loop_mod (α := (Nat) × (Hp)) G_ok [6, 7, 8, 9, 12, 13, 14, 15, 16, 17, 18, 1, 19, 20, 21, 22, 23, 24, 25, 26, 27, 28, 29, 30, 31, 32, 33, 10, 11, 5] (fun z => [(5, .v (.int .i64 z.1)), (1, .v (.int .i64 (k0 + cntL gGot (xs.take z.1))))]) (fun z => []) (fun z => [z.2, H]) (fun z => xs.length - z.1) (fun z => z.1 ≤ xs.length ∧ (gSl 171 gGot).ow [.slice b xs.length c] (mkL gGot k0 (xs.take z.1) ++ xs.drop z.1) z.2) ((0, A))
  · repeat' (first | exact trivial | refine ⟨⟨_, rfl, by first | rfl | exact inc_eq _ (by omega) | (refine sl_eq ?_; simp; done) | (refine svi_eq ?_; subst_vars; (try dsimp only); (try simp (disch := omega) only [wrap_of]); omega) | (simp [cntL]), by first | exact trivial | simp [SV.ok]⟩, ?_⟩)
  · exact trivial
  · try dsimp only
    exact ⟨by omega, by simpa [mkL] using ho⟩
  · exact .refl _
  rintro ⟨k, B⟩ hI
  obtain ⟨hk, oB⟩ : k ≤ xs.length ∧ (gSl 171 gGot).ow [.slice b xs.length c] (mkL gGot k0 (xs.take k) ++ xs.drop k) B := hI
  try dsimp only
  refine VCsplit.intro (fun q0 => ?_) (fun q0 => ?_)
  ·
    simp at q0
    have hs := (cntL_step gGot xs k default (by omega))
    simp only [gBag_cnt, gGot_cnt] at hs
    have hs2 := cntL_take_le gGot xs (k + 1)
    obtain ⟨y, ey, oe⟩ := OwE.mk default k oB (by rw [mk_len _ _ _ _ (by omega)]; omega)
    rw [mk_get _ _ _ _ _ (by omega)] at ey
    clear oB
    refine oe_idx oe ?_ fun b1 o1 hb1 => ?_
    · rfl
    refine oe_store gGot_from 0 rfl oe rfl hb1 rfl gI_pl _ (gI_ow ?_) fun y2 A2 ey2 o2 => ?_
    · unfold okI; omega
    refine oe_idx o2 ?_ fun b3 o3 hb3 => ?_
    · rfl
    refine oe_store gGot_atom 0 rfl o2 rfl hb3 rfl gI_pl _ (gI_ow ?_) fun y4 A4 ey4 o4 => ?_
    · exact okI_wrap _
    refine oe_idx o4 ?_ fun b5 o5 hb5 => ?_
    · rfl
    refine oe_load gGot_bag o4 rfl hb5 rfl (mem_at 0 rfl) fun l6 hl6 hf6 => ?_
    obtain ⟨b0x6, c0x6, rfl, h0x6⟩ := gBag_rd.1 hl6
    refine call_foc 0 rfl hf6 (fun Af7 oa7 => markItemS_ct _ _ _ _ _ _ oa7 ?_ ?_) (fun _ _ => trivial) ?_
    · (simp (disch := omega) only [wrap_of]; omega)
    · (subst_vars; (try dsimp only at *); (try simp (disch := omega) only [wrap_of] at *); omega)
    rintro _ A7 rfl ⟨y7, ey7, o7⟩
    try dsimp only at ey7
    apply loop_stepA (k + 1, _)
    · exact .refl _
    · repeat' (first | exact trivial | refine ⟨⟨_, rfl, by first | rfl | exact inc_eq _ (by omega) | (refine sl_eq ?_; simp; done) | (refine svi_eq ?_; subst_vars; (try dsimp only); (try simp (disch := omega) only [wrap_of]); omega) | (simp [cntL]), by first | exact trivial | simp [SV.ok]⟩, ?_⟩)
    · exact trivial
    · try dsimp only
      exact ⟨by omega, OwE.done (by assumption) (by rw [← mk_step gGot default xs k0 k (by omega)]; congr 1; subst_vars; (try simp only [gBag_mark, gBag_cnt, gGot_mark, gGot_cnt]); (try simp (disch := omega) only [wrap_of]); (try rfl))⟩
    try dsimp only
    omega
  ·
    simp at q0
    obtain rfl : k = xs.length := by omega
    rw [List.take_length, List.drop_length, List.append_nil] at oB
    exact ⟨_, ⟨by rw [List.take_length], oB⟩, (.le fun a => by (try simp only [setR, List.cons_append, List.nil_append]); simp only [List.flatten_append, List.flatten_cons, List.flatten_nil, List.count_append, List.count_nil, List.append_nil, List.nil_append]; omega)⟩
--@ct laws.heldGotS val heldGotS_ct _ _ _ _ _ _ ?_ ?_ ?_ | %1
--@ct laws.markMailS mark1 markMailS_ct _ _ _ _ _ _ ~ ?_ ?_
theorem markMailS_ct (b : Option Addr) (m c : Nat) (xs : List Mail) (A : Hp) (k0 : Int) (ho : (gSl 112 gMail).ow [.slice b m c] xs A) (h0 : 0 ≤ k0) (h1 : k0 + cntL gMail xs ≤ 4611686018427387904) :
    CtR Tryz.prog 25 [.slice b m c, .int .i64 k0] A (fun _ => True) (fun v A => v = .int .i64 (k0 + cntL gMail xs) ∧ (gSl 112 gMail).ow [.slice b m c] (mkL gMail k0 xs) A) := by
  obtain ⟨rfl, hcl, hl⟩ := sl_len (Gt.owrd _ ho)
  refine CtR.intro G_ok [A] Tryz.func25 rfl rfl rfl (by simp) fun E H hp => ?_
  apply loop_mod (α := (Nat) × (Hp)) G_ok [6, 7, 8, 9, 12, 13, 14, 15, 16, 17, 18, 1, 19, 20, 21, 22, 23, 24, 25, 26, 27, 28, 29, 30, 31, 32, 33, 34, 35, 36, 37, 38, 39, 40, 41, 42, 43, 44, 45, 46, 47, 48, 49, 50, 51, 52, 53, 54, 55, 56, 57, 58, 59, 60, 61, 62, 63, 64, 65, 66, 67, 68, 69, 10, 11, 5] (fun z => [(5, .v (.int .i64 z.1)), (1, .v (.int .i64 (k0 + cntL gMail (xs.take z.1))))]) (fun z => []) (fun z => [z.2, H]) (fun z => xs.length - z.1) (fun z => z.1 ≤ xs.length ∧ (gSl 112 gMail).ow [.slice b xs.length c] (mkL gMail k0 (xs.take z.1) ++ xs.drop z.1) z.2) ((0, A))
  · repeat' (first | exact trivial | refine ⟨⟨_, rfl, by first | rfl | exact inc_eq _ (by omega) | (refine sl_eq ?_; simp; done) | (refine svi_eq ?_; subst_vars; (try dsimp only); (try simp (disch := omega) only [wrap_of]); omega) | (simp [cntL]), by first | exact trivial | simp [SV.ok]⟩, ?_⟩)
  · exact trivial
  · try dsimp only
    exact ⟨by omega, by simpa [mkL] using ho⟩
  · exact .refl _
  rintro ⟨k, B⟩ hI
  obtain ⟨hk, oB⟩ : k ≤ xs.length ∧ (gSl 112 gMail).ow [.slice b xs.length c] (mkL gMail k0 (xs.take k) ++ xs.drop k) B := hI
  try dsimp only
  refine VCsplit.intro (fun q0 => ?_) (fun q0 => ?_)
  ·
    simp at q0
    have hs := (cntL_step gMail xs k default (by omega))
    simp only [gLetter_cnt, gMail_cnt] at hs
    have hs2 := cntL_take_le gMail xs (k + 1)
    obtain ⟨y, ey, oe⟩ := OwE.mk default k oB (by rw [mk_len _ _ _ _ (by omega)]; omega)
    rw [mk_get _ _ _ _ _ (by omega)] at ey
    clear oB
    refine oe_idx oe ?_ fun b1 o1 hb1 => ?_
    · rfl
    refine oe_store gMail_peer 0 rfl oe rfl hb1 rfl gI_pl _ (gI_ow ?_) fun y2 A2 ey2 o2 => ?_
    · unfold okI; omega
    refine oe_idx o2 ?_ fun b3 o3 hb3 => ?_
    · rfl
    refine oe_store gMail_letter_kind 0 rfl o2 rfl hb3 rfl gI_pl _ (gI_ow ?_) fun y4 A4 ey4 o4 => ?_
    · exact okI_wrap _
    dsimp only at ey4
    refine oe_idx o4 ?_ fun b5 o5 hb5 => ?_
    · rfl
    refine oe_store gMail_letter_atom 0 rfl o4 rfl hb5 rfl gI_pl _ (gI_ow ?_) fun y6 A6 ey6 o6 => ?_
    · exact okI_wrap _
    dsimp only at ey6
    refine oe_idx o6 ?_ fun b7 o7 hb7 => ?_
    · rfl
    refine oe_store gMail_letter_num 0 rfl o6 rfl hb7 rfl gI_pl _ (gI_ow ?_) fun y8 A8 ey8 o8 => ?_
    · exact okI_wrap _
    dsimp only at ey8
    refine VC.intro ?_ ?_
    · trivial
    refine oe_idx o8 ?_ fun b9 o9 hb9 => ?_
    · rfl
    refine oe_store gMail_letter_black 0 rfl o8 rfl hb9 rfl gB_pl _ (gB_ow trivial) fun y10 A10 ey10 o10 => ?_
    dsimp only at ey10
    refine oe_idx o10 ?_ fun b11 o11 hb11 => ?_
    · rfl
    refine oe_load gMail_letter_walks o10 rfl hb11 rfl (mem_at 0 rfl) fun l12 hl12 hf12 => ?_
    dsimp only at hl12 hf12
    obtain ⟨u12, w12, rfl, hl12⟩ := sl_rd hl12
    refine call_foc 0 rfl hf12 (fun Af13 oa13 => markWalkS_ct _ _ _ _ _ _ oa13 ?_ ?_) (fun _ _ => trivial) ?_
    · (simp (disch := omega) only [wrap_of]; omega)
    · (subst_vars; (try dsimp only at *); (try simp (disch := omega) only [wrap_of] at *); omega)
    rintro _ A13 rfl ⟨y13, ey13, o13⟩
    try dsimp only at ey13
    refine call_val (markText_ct _ ?_) trivial ?_
    · (subst_vars; (try dsimp only at *); (try simp (disch := omega) only [wrap_of] at *); omega)
    rintro _ rfl
    refine oe_idx o13 ?_ fun b15 o15 hb15 => ?_
    · rfl
    refine oe_store gMail_letter_text 0 rfl o13 rfl hb15 rfl fl_pl _ (gS_ow ?_) fun y16 A16 ey16 o16 => ?_
    · exact mtx_size _
    dsimp only at ey16
    apply loop_stepA (k + 1, _)
    · exact .refl _
    · repeat' (first | exact trivial | refine ⟨⟨_, rfl, by first | rfl | exact inc_eq _ (by omega) | (refine sl_eq ?_; simp; done) | (refine svi_eq ?_; subst_vars; (try dsimp only); (try simp (disch := omega) only [wrap_of]); omega) | (simp [cntL]), by first | exact trivial | simp [SV.ok]⟩, ?_⟩)
    · exact trivial
    · try dsimp only
      exact ⟨by omega, OwE.done (by assumption) (by rw [← mk_step gMail default xs k0 k (by omega)]; congr 1; subst_vars; (try simp only [gLetter_mark, gLetter_cnt, gMail_mark, gMail_cnt]); (try simp (disch := omega) only [wrap_of]); (try rfl))⟩
    try dsimp only
    omega
  ·
    simp at q0
    obtain rfl : k = xs.length := by omega
    rw [List.take_length, List.drop_length, List.append_nil] at oB
    exact ⟨_, ⟨by rw [List.take_length], oB⟩, (.le fun a => by (try simp only [setR, List.cons_append, List.nil_append]); simp only [List.flatten_append, List.flatten_cons, List.flatten_nil, List.count_append, List.count_nil, List.append_nil, List.nil_append]; omega)⟩
--@ct laws.heldMailS val heldMailS_ct _ _ _ _ _ _ ?_ ?_ ?_ | %1
theorem heldMailS_ct (b : Option Addr) (m c : Nat) (xs : List Mail) (k0 k1 : Int) (hk1 : k0 = k1) (h0 : 0 ≤ k0) (h1 : k0 + cntL gMail xs ≤ 4611686018427387904) :
    Ct Tryz.prog 26 [.slice b m c, .int .i64 k0] [] (fun H => (gSl 112 gMail).rd H [.slice b m c] (mkL gMail k1 xs)) (fun v A => v = .int .i64 (k0 + cntL gMail xs) ∧ A = []) := by
  subst hk1
  refine Ct.intro0 G_ok Tryz.func26 rfl rfl rfl fun E H hp => ?_
  have hm0 := (sl_len hp).1
  rw [mkL_len] at hm0; subst hm0
  obtain ⟨-, hcl, hl⟩ := sl_len hp
  rw [mkL_len] at hcl hl
  have hln := mkL_len gMail xs k0
  apply loop_mod (α := (Nat)) G_ok [6, 7, 8, 9, 12, 13, 14, 15, 16, 17, 18, 4, 19, 20, 1, 21, 22, 23, 24, 25, 26, 27, 28, 29, 30, 31, 32, 33, 34, 35, 36, 37, 38, 39, 40, 41, 42, 43, 44, 45, 46, 47, 48, 49, 50, 51, 52, 53, 54, 55, 56, 57, 58, 59, 60, 61, 62, 63, 64, 65, 66, 67, 68, 69, 70, 71, 72, 73, 74, 75, 76, 77, 78, 79, 80, 81, 82, 83, 10, 11, 5] (fun z => [(5, .v (.int .i64 z)), (1, .v (.int .i64 (k0 + cntL gMail (xs.take z))))]) (fun z => []) (fun z => [H]) (fun z => xs.length - z) (fun z => z ≤ xs.length) (0)
  · repeat' (first | exact trivial | refine ⟨⟨_, rfl, by first | rfl | exact inc_eq _ (by omega) | (refine sl_eq ?_; simp; done) | (refine svi_eq ?_; (try dsimp only); (try simp (disch := omega) only [wrap_of]); omega) | (simp [cntL]), by first | exact trivial | simp [SV.ok]⟩, ?_⟩)
  · exact trivial
  · omega
  · exact .refl _
  rintro k hI
  obtain hk : k ≤ xs.length := hI
  try dsimp only
  refine VCsplit.intro (fun q0 => ?_) (fun q0 => ?_)
  ·
    simp at q0
    have hs := (cntL_step gMail xs k default (by omega))
    simp only [gLetter_cnt, gMail_cnt] at hs
    have hs2 := cntL_take_le gMail xs (k + 1)
    have hm := mkL_get gMail default xs k0 k (by omega)
    simp only [gLetter_mark, gLetter_cnt, gMail_mark, gMail_cnt] at hm
    refine idx_rd hp ?_ ?_ fun b1 o1 hb1 => ?_
    · omega
    · omega
    refine load_partN default (k) 0 rfl hp ?_ ?_ hb1 rfl (by decide) (mem_at 0 rfl) fun l2 hl2 => ?_
    · omega
    · omega
    rw [hm] at hl2
    obtain ⟨l1x2, rfl, w0x2, h1x2⟩ := gMail_rd.1 hl2 ; obtain ⟨b4_1x2, c4_1x2, rfl, w0_1x2, w1_1x2, w2_1x2, h4_1x2, w5_1x2⟩ := gLetter_rd.1 h1x2
    refine VCsplit.intro (fun q3 => ?_) (fun q3 => ?_)
    ·
      simp at q3
    ·
      simp at q3
      refine idx_rd hp ?_ ?_ fun b4 o4 hb4 => ?_
      · omega
      · omega
      refine load_partN default (k) 1 rfl hp ?_ ?_ hb4 rfl (by decide) (mem_at 0 rfl) fun l5 hl5 => ?_
      · omega
      · omega
      rw [hm] at hl5
      obtain ⟨l1x5, rfl, w0x5, h1x5⟩ := gMail_rd.1 hl5 ; obtain ⟨b4_1x5, c4_1x5, rfl, w0_1x5, w1_1x5, w2_1x5, h4_1x5, w5_1x5⟩ := gLetter_rd.1 h1x5
      refine VCsplit.intro (fun q6 => ?_) (fun q6 => ?_)
      ·
        simp at q6
        simp (disch := omega) only [wrap_of] at q6
        exact absurd trivial q6
      ·
        simp at q6
        simp (disch := omega) only [wrap_of] at q6
        refine idx_rd hp ?_ ?_ fun b7 o7 hb7 => ?_
        · omega
        · omega
        refine load_partN default (k) 2 rfl hp ?_ ?_ hb7 rfl (by decide) (mem_at 0 rfl) fun l8 hl8 => ?_
        · omega
        · omega
        rw [hm] at hl8
        obtain ⟨l1x8, rfl, w0x8, h1x8⟩ := gMail_rd.1 hl8 ; obtain ⟨b4_1x8, c4_1x8, rfl, w0_1x8, w1_1x8, w2_1x8, h4_1x8, w5_1x8⟩ := gLetter_rd.1 h1x8
        refine VCsplit.intro (fun q9 => ?_) (fun q9 => ?_)
        ·
          simp at q9
          simp (disch := omega) only [wrap_of] at q9
          exact absurd trivial q9
        ·
          simp at q9
          simp (disch := omega) only [wrap_of] at q9
          refine idx_rd hp ?_ ?_ fun b10 o10 hb10 => ?_
          · omega
          · omega
          refine load_partN default (k) 3 rfl hp ?_ ?_ hb10 rfl (by decide) (mem_at 0 rfl) fun l11 hl11 => ?_
          · omega
          · omega
          rw [hm] at hl11
          obtain ⟨l1x11, rfl, w0x11, h1x11⟩ := gMail_rd.1 hl11 ; obtain ⟨b4_1x11, c4_1x11, rfl, w0_1x11, w1_1x11, w2_1x11, h4_1x11, w5_1x11⟩ := gLetter_rd.1 h1x11
          refine VCsplit.intro (fun q12 => ?_) (fun q12 => ?_)
          ·
            simp at q12
            simp (disch := omega) only [wrap_of] at q12
            exact absurd trivial q12
          ·
            simp at q12
            simp (disch := omega) only [wrap_of] at q12
            refine idx_rd hp ?_ ?_ fun b13 o13 hb13 => ?_
            · omega
            · omega
            refine load_partN default (k) 4 rfl hp ?_ ?_ hb13 rfl (by decide) (mem_at 0 rfl) fun l14 hl14 => ?_
            · omega
            · omega
            rw [hm] at hl14
            obtain ⟨l1x14, rfl, w0x14, h1x14⟩ := gMail_rd.1 hl14 ; obtain ⟨b4_1x14, c4_1x14, rfl, w0_1x14, w1_1x14, w2_1x14, h4_1x14, w5_1x14⟩ := gLetter_rd.1 h1x14
            refine VC.intro ?_ ?_
            · trivial
            refine VCsplit.intro (fun q15 => ?_) (fun q15 => ?_)
            ·
              simp at q15
              simp (disch := omega) only [wrap_of] at q15
              exact absurd trivial q15
            ·
              simp at q15
              simp (disch := omega) only [wrap_of] at q15
              refine idx_rd hp ?_ ?_ fun b16 o16 hb16 => ?_
              · omega
              · omega
              refine load_partN default (k) 5 rfl hp ?_ ?_ hb16 rfl (by decide) (mem_at 0 rfl) fun l17 hl17 => ?_
              · omega
              · omega
              rw [hm] at hl17
              obtain ⟨l1x17, rfl, w0x17, h1x17⟩ := gMail_rd.1 hl17 ; obtain ⟨b4_1x17, c4_1x17, rfl, w0_1x17, w1_1x17, w2_1x17, h4_1x17, w5_1x17⟩ := gLetter_rd.1 h1x17
              refine call_val (heldWalkS_ct _ _ _ _ _ _ ?_ ?_ ?_) (Rp.mono _ (mem_at 0 rfl) h4_1x17) ?_
              · (simp (disch := omega) only [wrap_of])
              · (simp (disch := omega) only [wrap_of]; omega)
              · (simp (disch := omega) only [wrap_of]; omega)
              rintro _ rfl
              refine VCsplit.intro (fun q19 => ?_) (fun q19 => ?_)
              ·
                simp at q19
                simp (disch := omega) only [wrap_of] at q19
                exfalso; omega
              ·
                simp at q19
                simp (disch := omega) only [wrap_of] at q19
                refine draw G_ok mixed none (.q 0 (.q 1 (.q 2 (.q 3 (.q 4 (.q 5 (.q 6 (.f 7 (.q 8 (.nil)))))))))) (by decide +kernel) ?_
                refine idx_rd hp ?_ ?_ fun b20 o20 hb20 => ?_
                · omega
                · omega
                refine load_partN default (k) 6 rfl hp ?_ ?_ hb20 rfl (by decide) (mem_at 0 rfl) fun l21 hl21 => ?_
                · omega
                · omega
                rw [hm] at hl21
                obtain ⟨l1x21, rfl, w0x21, h1x21⟩ := gMail_rd.1 hl21 ; obtain ⟨b4_1x21, c4_1x21, rfl, w0_1x21, w1_1x21, w2_1x21, h4_1x21, w5_1x21⟩ := gLetter_rd.1 h1x21
                refine call_val (markText_ct _ ?_) trivial ?_
                · (simp (disch := omega) only [wrap_of]; omega)
                rintro _ rfl
                refine VC.intro ?_ ?_
                · exact fun _ h => h
                refine VCsplit.intro (fun q23 => ?_) (fun q23 => ?_)
                ·
                  simp at q23
                  simp only [str_inj, u8_inj, u8_wrap] at q23
                  simp (disch := omega) only [wrap_of] at q23
                  exact absurd trivial q23
                ·
                  simp at q23
                  simp only [str_inj, u8_inj, u8_wrap] at q23
                  simp (disch := omega) only [wrap_of] at q23
                  apply loop_stepA (k + 1)
                  · exact .refl _
                  · repeat' (first | exact trivial | refine ⟨⟨_, rfl, by first | rfl | exact inc_eq _ (by omega) | (refine sl_eq ?_; simp; done) | (refine svi_eq ?_; (try dsimp only); (try simp (disch := omega) only [wrap_of]); omega) | (simp [cntL]), by first | exact trivial | simp [SV.ok]⟩, ?_⟩)
                  · exact trivial
                  · trivial
                  omega
  ·
    simp at q0
    obtain rfl : k = xs.length := by omega
    exact ⟨[], ⟨by rw [List.take_length], rfl⟩, (.le fun a => by (try simp only [setR, List.cons_append, List.nil_append]); simp only [List.flatten_append, List.flatten_cons, List.flatten_nil, List.count_append, List.count_nil, List.append_nil, List.nil_append]; omega)⟩
--@ct laws.markAsk mark1 markAsk_ct _ _ _ _ ~ ?_ ?_
theorem markAsk_ct (l : List Value) (x : Ask) (A : Hp) (k0 : Int) (ho : gAsk.ow l x A) (h0 : 0 ≤ k0) (h1 : k0 + gAsk.cntV x ≤ 4611686018427387904) :
    CtR Tryz.prog 18 [.agg ⟨l⟩, .int .i64 k0] A (fun _ => True) (fun v A => v = .int .i64 (k0 + gAsk.cntV x) ∧ gAsk.ow l (gAsk.markV k0 x) A) := by
  obtain ⟨l1, A1, b2, c2, A2, b4, c4, A4, l6, A6, rfl, hpm, h1, h2, w3, h4, h6⟩ := gAsk_ow.1 ho
  have r1 := Gt.owrd _ h1
  obtain ⟨b1_1, c1_1, b2_1, c2_1, b3_1, c3_1, rfl, h1_1, h2_1, h3_1⟩ := gQuery_rd.1 r1
  have r6 := Gt.owrd _ h6
  obtain ⟨b0_6, c0_6, rfl, h0_6⟩ := gBag_rd.1 r6
  have hz := gAsk_cntV x
  refine CtR.introP G_ok [A1, A2, A4, A6] Tryz.func18 rfl rfl rfl (hpm.trans (by simp)) fun E H hp => ?_
  refine VCnew.intro fun x0 => ?_
  refine callR_at 0 rfl (markQuery_ct _ _ _ _ h1 ?_ ?_) trivial ?_
  · trivial
  · omega
  rintro _ A1 ⟨rfl, o1⟩
  refine callR_at 1 rfl (markIntS_ct _ _ _ _ _ _ h2 ?_ ?_) trivial ?_
  · omega
  · omega
  rintro _ A2 ⟨rfl, o2⟩
  refine callR_at 2 rfl (markGotS_ct _ _ _ _ _ _ h4 ?_ ?_) trivial ?_
  · omega
  · omega
  rintro _ A3 ⟨rfl, o3⟩
  refine callR_at 3 rfl (markBag_ct _ _ _ _ h6 ?_ ?_) trivial ?_
  · omega
  · omega
  rintro _ A4 ⟨rfl, o4⟩
  exact ⟨_, ⟨by rw [hz]; (try simp); (try omega), by rw [gAsk_markV]; exact gAsk_ow.2 ⟨_, _, _, _, _, _, _, _, _, _, by simp only [mkL_len]; rfl, .refl _, by assumption, by rw [mkL_len]; assumption, by assumption, by rw [mkL_len]; assumption, by assumption⟩⟩, (.le fun a => by (try simp only [setR, List.cons_append, List.nil_append]); simp only [List.flatten_append, List.flatten_cons, List.flatten_nil, List.count_append, List.count_nil, List.append_nil, List.nil_append]; omega)⟩
--@ct laws.heldAsk val heldAsk_ct _ _ _ _ ?_ ?_ ?_ | %1
end Go.Proofs.YtcnclhjhnjpeiaaGreatDoor

namespace Go.Proofs.YtcnclhjhnjpeiaaGreatDoor
open Go.SX Go.Proofs
set_option linter.unusedSimpArgs false
set_option linter.unusedVariables false
set_option maxHeartbeats 8000000
attribute [local irreducible] askM
section
attribute [local semireducible] askM
theorem askM_sz (x : Ask) : szL gMail (askM x) ≤ 2408 ∧ (askM x).length ≤ 8 := by
  have h1 : ∀ (t : ByteArray) (k : Nat), szL gMail (mailsK t k) = (1 + t.size) * k := by
    intro t k
    have h2 : ∀ l : List Nat, szL gMail (l.map (mailK t)) = (1 + t.size) * l.length := by
      intro l
      induction l with
      | nil => rfl
      | cons a r ih =>
        rw [List.map_cons]
        show 1 + gMail.sz (mailK t a) + szL gMail (r.map (mailK t)) = (1 + t.size) * (r.length + 1)
        have e : gMail.sz (mailK t a) = t.size := by
          rw [gMail_sz, gLetter_sz]
          show 0 + (0 + (0 + (0 + (0 + (0 + t.size))))) = t.size
          omega
        rw [ih, e, Nat.mul_succ]; omega
    unfold mailsK
    rw [h2, List.length_range]
  unfold askM
  split
  · rename_i h
    have h3 := begin_facts h.2
    have h4 := beginV_sz x.query x.shares x.count
    have h5 := Nat.mul_le_mul (show 1 + (beginV x.query x.shares x.count).size ≤ 301 by omega) (show x.count.toNat ≤ 8 by omega)
    rw [h1, mailsK_len]; omega
  exact ⟨Nat.zero_le _, Nat.zero_le _⟩
end
theorem askM_cnt (x : Ask) : cntL gMail (askM x) ≤ 2408000 := by
  have h1 := cntL_le gMail (askM x)
  have h2 : gMail.w ≤ 1000 := by decide
  have h3 := Nat.mul_le_mul h2 (askM_sz x).1
  omega
theorem fnExactAskLetters_ct (v0 : Value) :
    Ct Tryz.prog 5 [v0] [] (fun H => (∃ x, rdV true gAsk.toRp H v0 x) ∧ TabIn H) (fun v A => v = .bool true ∧ A = []) := by
  refine Ct.intro0 G_ok Tryz.func5 rfl rfl rfl fun E H hp => ?_
  obtain ⟨⟨xa0, hp0⟩, hT⟩ := hp
  obtain ⟨la0, rfl, hp0⟩ := hp0
  obtain ⟨l1a0, b2a0, c2a0, b4a0, c4a0, l6a0, rfl, h1a0, h2a0, w3a0, h4a0, h6a0⟩ := gAsk_rd.1 hp0
  obtain ⟨b1_1a0, c1_1a0, b2_1a0, c2_1a0, b3_1a0, c3_1a0, rfl, h1_1a0, h2_1a0, h3_1a0⟩ := gQuery_rd.1 h1a0
  obtain ⟨b0_6a0, c0_6a0, rfl, h0_6a0⟩ := gBag_rd.1 h6a0
  have hmz := askM_sz xa0
  have hmc := askM_cnt xa0
  refine VCnew.intro fun x0 => ?_
  refine call_q (szAsk_ct _ (xa0) _ ?_ ?_) (Rp.mono _ (mem_at 0 rfl) hp0) ?_
  · trivial
  · trivial
  rintro _ ⟨r1, rfl, hr1⟩
  refine VCsplit.intro (fun q2 => ?_) (fun q2 => ?_)
  ·
    simp at q2
    exact ⟨[], ⟨rfl, rfl⟩, (.le fun a => by (try simp only [setR, List.cons_append, List.nil_append]); simp only [List.flatten_append, List.flatten_cons, List.flatten_nil, List.count_append, List.count_nil, List.append_nil, List.nil_append]; omega)⟩
  ·
    simp at q2
    refine call_new (toAsk_ct _ (xa0) ?_) (Rp.mono _ (mem_at 0 rfl) hp0) ?_
    · omega
    rintro v3 A3 o3
    obtain ⟨l3, rfl, o3⟩ := o3
    have r3 := Gt.owrd _ o3
    obtain ⟨l1x3, b2x3, c2x3, b4x3, c4x3, l6x3, rfl, h1x3, h2x3, w3x3, h4x3, h6x3⟩ := gAsk_rd.1 r3
    obtain ⟨b1_1x3, c1_1x3, b2_1x3, c2_1x3, b3_1x3, c3_1x3, rfl, h1_1x3, h2_1x3, h3_1x3⟩ := gQuery_rd.1 h1x3
    obtain ⟨b0_6x3, c0_6x3, rfl, h0_6x3⟩ := gBag_rd.1 h6x3
    refine call_new (specAskLetters_ct _ (xa0) ?_) (Rp.mono _ (mem_at 0 rfl) r3) ?_
    · omega
    rintro v4 A4 o4
    obtain ⟨b4, c4, rfl, o4⟩ := o4
    have r4 := Gt.owrd _ o4
    refine call_new (toAsk_ct _ (xa0) ?_) (Rp.mono _ (mem_at 2 rfl) hp0) ?_
    · omega
    rintro v5 A5 o5
    obtain ⟨l5, rfl, o5⟩ := o5
    have r5 := Gt.owrd _ o5
    obtain ⟨l1x5, b2x5, c2x5, b4x5, c4x5, l6x5, rfl, h1x5, h2x5, w3x5, h4x5, h6x5⟩ := gAsk_rd.1 r5
    obtain ⟨b1_1x5, c1_1x5, b2_1x5, c2_1x5, b3_1x5, c3_1x5, rfl, h1_1x5, h2_1x5, h3_1x5⟩ := gQuery_rd.1 h1x5
    obtain ⟨b0_6x5, c0_6x5, rfl, h0_6x5⟩ := gBag_rd.1 h6x5
    refine VCnew.intro fun x6 => ?_
    refine call_new (implAskLetters_ct _ (xa0) ?_) ⟨(Rp.mono _ (mem_at 0 rfl) r5), (by (try exact TabIn.mono hT (mem_at 0 rfl)); (try exact TabIn.mono hT (mem_at 1 rfl)); (try exact TabIn.mono hT (mem_at 2 rfl)); (try exact TabIn.mono hT (mem_at 3 rfl)); (try exact TabIn.mono hT (mem_at 4 rfl)); (try exact TabIn.mono hT (mem_at 5 rfl)); (try exact TabIn.mono hT (mem_at 6 rfl)))⟩ ?_
    · omega
    rintro v7 A7 o7
    obtain ⟨b7, c7, rfl, o7⟩ := o7
    have r7 := Gt.owrd _ o7
    refine call_val (eqMailS_ct _ _ _ _ _ _ (askM xa0) (askM xa0)) ⟨(Rp.mono _ (mem_at 0 rfl) r7), (Rp.mono _ (mem_at 2 rfl) r4)⟩ ?_
    rintro _ rfl
    refine VCsplit.intro (fun q9 => ?_) (fun q9 => ?_)
    ·
      simp at q9
    ·
      simp at q9
      refine draw G_ok mixed none (.q 0 (.q 1 (.f 2 (.f 3 (.q 4 (.nil)))))) (by decide +kernel) ?_
      refine call_new (toAsk_ct _ (xa0) ?_) (Rp.mono _ (mem_at 4 rfl) hp0) ?_
      · omega
      rintro v10 A10 o10
      obtain ⟨l10, rfl, o10⟩ := o10
      have r10 := Gt.owrd _ o10
      obtain ⟨l1x10, b2x10, c2x10, b4x10, c4x10, l6x10, rfl, h1x10, h2x10, w3x10, h4x10, h6x10⟩ := gAsk_rd.1 r10
      obtain ⟨b1_1x10, c1_1x10, b2_1x10, c2_1x10, b3_1x10, c3_1x10, rfl, h1_1x10, h2_1x10, h3_1x10⟩ := gQuery_rd.1 h1x10
      obtain ⟨b0_6x10, c0_6x10, rfl, h0_6x10⟩ := gBag_rd.1 h6x10
      refine VC.intro ?_ ?_
      · exact keep_new
      refine call_val (eqAsk_ct _ _ (xa0) (xa0)) ⟨(Rp.mono _ (mem_at 2 rfl) r5), (Rp.mono _ (mem_at 0 rfl) r10)⟩ ?_
      rintro _ rfl
      refine VC.intro ?_ ?_
      · exact keep_new
      refine VCsplit.intro (fun q12 => ?_) (fun q12 => ?_)
      ·
        simp at q12
      ·
        simp at q12
        refine callR_at 2 rfl (markAsk_ct _ _ _ _ o5 ?_ ?_) trivial ?_
        · trivial
        · (have h1 := gAsk.cntV_le xa0; have h2 : gAsk.w ≤ 100000 := (by decide); have h3 := Nat.mul_le_mul h2 (show 1 + gAsk.sz xa0 ≤ 1048577 by omega); omega)
        rintro _ A13 ⟨rfl, o13⟩
        refine VCsplit.intro (fun q14 => ?_) (fun q14 => ?_)
        ·
          simp at q14
          exfalso; omega
        ·
          simp at q14
          refine call_val (eqMailS_ct _ _ _ _ _ _ (askM xa0) (askM xa0)) ⟨(Rp.mono _ (mem_at 1 rfl) r7), (Rp.mono _ (mem_at 3 rfl) r4)⟩ ?_
          rintro _ rfl
          refine VCsplit.intro (fun q16 => ?_) (fun q16 => ?_)
          ·
            simp at q16
          ·
            simp at q16
            refine callR_at 1 rfl (markMailS_ct _ _ _ _ _ _ o7 ?_ ?_) trivial ?_
            · trivial
            · omega
            rintro _ A17 ⟨rfl, o17⟩
            refine call_val (heldMailS_ct _ _ _ _ _ _ ?_ ?_ ?_) (Rp.mono _ (mem_at 1 rfl) (Gt.owrd _ o17)) ?_
            · rfl
            · trivial
            · omega
            rintro _ rfl
            refine VCsplit.intro (fun q19 => ?_) (fun q19 => ?_)
            ·
              simp at q19
              exfalso; omega
            ·
              simp at q19
              refine VCsplit.intro (fun q20 => ?_) (fun q20 => ?_)
              ·
                simp at q20
              ·
                simp at q20
                refine call_new (toAsk_ct _ (xa0) ?_) (Rp.mono _ (mem_at 5 rfl) hp0) ?_
                · omega
                rintro v21 A21 o21
                obtain ⟨l21, rfl, o21⟩ := o21
                have r21 := Gt.owrd _ o21
                obtain ⟨l1x21, b2x21, c2x21, b4x21, c4x21, l6x21, rfl, h1x21, h2x21, w3x21, h4x21, h6x21⟩ := gAsk_rd.1 r21
                obtain ⟨b1_1x21, c1_1x21, b2_1x21, c2_1x21, b3_1x21, c3_1x21, rfl, h1_1x21, h2_1x21, h3_1x21⟩ := gQuery_rd.1 h1x21
                obtain ⟨b0_6x21, c0_6x21, rfl, h0_6x21⟩ := gBag_rd.1 h6x21
                refine call_new (implAskLetters_ct _ (xa0) ?_) ⟨(Rp.mono _ (mem_at 0 rfl) r21), (by (try exact TabIn.mono hT (mem_at 0 rfl)); (try exact TabIn.mono hT (mem_at 1 rfl)); (try exact TabIn.mono hT (mem_at 2 rfl)); (try exact TabIn.mono hT (mem_at 3 rfl)); (try exact TabIn.mono hT (mem_at 4 rfl)); (try exact TabIn.mono hT (mem_at 5 rfl)); (try exact TabIn.mono hT (mem_at 6 rfl)))⟩ ?_
                · omega
                rintro v22 A22 o22
                obtain ⟨b22, c22, rfl, o22⟩ := o22
                have r22 := Gt.owrd _ o22
                refine call_val (eqMailS_ct _ _ _ _ _ _ (askM xa0) (askM xa0)) ⟨(Rp.mono _ (mem_at 0 rfl) r22), (Rp.mono _ (mem_at 5 rfl) r4)⟩ ?_
                rintro _ rfl
                refine VCsplit.intro (fun q24 => ?_) (fun q24 => ?_)
                ·
                  simp at q24
                ·
                  simp at q24
                  refine call_val (heldMailS_ct _ _ _ _ _ _ ?_ ?_ ?_) (Rp.mono _ (mem_at 3 rfl) (Gt.owrd _ o17)) ?_
                  · rfl
                  · trivial
                  · omega
                  rintro _ rfl
                  refine VCsplit.intro (fun q26 => ?_) (fun q26 => ?_)
                  ·
                    simp at q26
                    exfalso; omega
                  ·
                    simp at q26
                    refine VCsplit.intro (fun q27 => ?_) (fun q27 => ?_)
                    ·
                      simp at q27
                    ·
                      simp at q27
                      exact ⟨[], ⟨rfl, rfl⟩, (.le fun a => by (try simp only [setR, List.cons_append, List.nil_append]); simp only [List.flatten_append, List.flatten_cons, List.flatten_nil, List.count_append, List.count_nil, List.append_nil, List.nil_append]; omega)⟩
end Go.Proofs.YtcnclhjhnjpeiaaGreatDoor
