/-
  The executor of Sx.lean is sound. Conditions: none.
-/
import Derived.Test.YtcnclhjhnjpeiaaDoorSx
import Derived.Laws.Cells
import Derived.Laws.CopyRow
import Derived.Laws.IdiomCopy
import Derived.BigCall
namespace Go.SX

theorem Sat.perm {E : World} {H H' : Hp} {w : World} (h : Sat E H w) (hp : H.Perm H') : Sat E H' w :=
  ⟨h.os, h.out, h.tape, fun b o hm => h.mem b o (hp.symm.mem_iff.1 hm), ((hp.map _).nodup_iff).1 h.nodup, h.dr⟩

theorem Sat.lt {E : World} {H : Hp} {w : World} (h : Sat E H w) {b : Nat} {o : Obj} (hm : (b, o) ∈ H) : b < w.heap.size := by
  have := h.mem b o hm
  rcases Nat.lt_or_ge b w.heap.size with h1 | h1
  · exact h1
  · rw [Array.getElem?_eq_none h1] at this; cases this

theorem Sat.drop {E : World} {A B : Hp} {w : World} (h : Sat E (A ++ B) w) : Sat E A w :=
  ⟨h.os, h.out, h.tape, fun b o hm => h.mem b o (List.mem_append_left _ hm), by
    have := h.nodup; rw [List.map_append, List.nodup_append] at this; exact this.1, h.dr⟩

theorem Sat.push {E : World} {H : Hp} {w : World} (h : Sat E H w) (o : Obj) : Sat E ((w.heap.size, o) :: H) (w.alloc o) := by
  refine ⟨h.os, h.out, h.tape, fun b o' hm => ?_, ?_, h.dr⟩
  · rcases List.mem_cons.1 hm with he | he
    · cases he; show (w.heap.push o)[w.heap.size]? = some o; simp
    · have hl := h.lt he
      have := h.mem b o' he
      show (w.heap.push o)[b]? = some o'
      rw [Array.getElem?_push_lt hl]
      rwa [Array.getElem?_eq_getElem hl] at this
  · rw [List.map_cons, List.nodup_cons]
    refine ⟨fun hm => ?_, h.nodup⟩
    obtain ⟨⟨b, o'⟩, h1, h2⟩ := List.mem_map.1 hm
    have hl := h.lt h1
    have h3 : b = w.heap.size := h2
    omega

theorem Sat.upd {E : World} {A B : Hp} {b : Nat} {o o' : Obj} {w w' : World} (h : Sat E (A ++ (b, o) :: B) w)
    (ho : w'.os = w.os) (hu : w'.output = w.output) (ht : w'.tape = w.tape) (hb : w'.heap[b]? = some o') (hn : ∀ i, i ≠ b → w'.heap[i]? = w.heap[i]?) (hd : w.drawn ≤ w'.drawn := by exact Nat.le_refl _) : Sat E (A ++ (b, o') :: B) w' := by
  have hnd := h.nodup
  rw [List.map_append, List.map_cons] at hnd
  have hp : (b :: (A.map (·.1) ++ B.map (·.1))).Nodup := ((List.perm_middle).nodup_iff).1 hnd
  have hne : ∀ i x, (i, x) ∈ A ++ B → i ≠ b := fun i x hm hib => by
    rw [List.nodup_cons] at hp
    refine hp.1 ?_
    rw [← List.map_append]
    exact List.mem_map.2 ⟨(i, x), hm, hib⟩
  refine ⟨ho.trans h.os, hu.trans h.out, ht.trans h.tape, fun i x hm => ?_, ?_, Nat.le_trans h.dr hd⟩
  · rcases List.mem_append.1 hm with hm | hm
    · rw [hn i (hne i x (List.mem_append_left _ hm))]; exact h.mem i x (List.mem_append_left _ hm)
    · rcases List.mem_cons.1 hm with he | hm
      · cases he; exact hb
      · rw [hn i (hne i x (List.mem_append_right _ hm))]; exact h.mem i x (List.mem_append_right _ (List.mem_cons_of_mem _ hm))
  · rw [List.map_append, List.map_cons]; exact hnd

theorem Sat.cell {E : World} {H : Hp} {w : World} (h : Sat E H w) {b : Nat} {cs : Array Value} {T : TypeId} {fz : Nat × Nat} (hm : (b, Obj.cells cs T fz) ∈ H) (o : Nat) :
    w.cell? ⟨b, o, none⟩ = cs[o]? := by
  simp [World.cell?, h.mem _ _ hm]

theorem addr_add (b o i : Nat) : (⟨b, o, none⟩ : Addr).add i = ⟨b, o + i, none⟩ := by
  unfold Addr.add
  split
  · rename_i h; subst h; rfl
  · rfl

theorem run_loadCells_rd {P : Program} {E : World} {H : Hp} {w : World} (h : Sat E H w) {b o n : Nat} {l : List Value} (hr : RdCells H b o n l) :
    (loadCells ⟨b, o, none⟩ n).run P w = .ok ⟨l⟩ w := by
  obtain ⟨hl, cs, T, fz, hm, hc⟩ := hr
  subst hl
  exact run_loadCells_list w ⟨b, o, none⟩ l fun j v hj => by
    rw [addr_add, h.cell hm, hc j (by rcases Nat.lt_or_ge j l.length with h1 | h1; exact h1; rw [List.getElem?_eq_none h1] at hj; cases hj)]
    exact hj

theorem undOf_ok {P : Program} {Γ : Ty} (hΓ : TyOk P Γ) {t : Nat} {d : UD} (h : undOf Γ t = some d) : d.ok P t := by
  unfold undOf at h
  split at h
  · rename_i ti ht; cases h; exact (hΓ _ _ ht).1
  · cases h

theorem ty_size {P : Program} {Γ : Ty} (hΓ : TyOk P Γ) {t : Nat} {ti : TI} (h : tyOf Γ t = some ti) (w : World) : (sizeOf t).run P w = .ok ti.size w := by
  obtain ⟨_, h2⟩ := hΓ _ _ h
  cases hi : P.info? t with
  | none => rw [hi] at h2; cases h2
  | some i =>
    rw [hi] at h2
    simp only [Option.map_some, Option.some.injEq, Prod.mk.injEq] at h2
    simp [sizeOf, typeInfo, hi, h2.1]
theorem siz_size {P : Program} {Γ : Ty} (hΓ : TyOk P Γ) {t : Nat} {k : Nat} (h : sizOf Γ t = some k) (w : World) : (sizeOf t).run P w = .ok k w := by
  unfold sizOf at h
  split at h
  · rename_i ti ht; cases h; exact ty_size hΓ ht w
  · cases h
theorem ty_zero {P : Program} {Γ : Ty} (hΓ : TyOk P Γ) {t : Nat} {ti : TI} (h : tyOf Γ t = some ti) (w : World) : (zeroValue t).run P w = .ok ti.zero w := by
  obtain ⟨_, h2⟩ := hΓ _ _ h
  cases hi : P.info? t with
  | none => rw [hi] at h2; cases h2
  | some i =>
    rw [hi] at h2
    simp only [Option.map_some, Option.some.injEq, Prod.mk.injEq] at h2
    simp [zeroValue, typeInfo, hi, h2.2.2]
theorem ty_bytes {P : Program} {Γ : Ty} (hΓ : TyOk P Γ) {t : Nat} {ti : TI} (h : tyOf Γ t = some ti) : ∃ i, P.info? t = some i ∧ i.bytes = ti.bytes ∧ i.size = ti.size ∧ i.zero = some ti.zero := by
  obtain ⟨_, h2⟩ := hΓ _ _ h
  cases hi : P.info? t with
  | none => rw [hi] at h2; cases h2
  | some i =>
    rw [hi] at h2
    simp only [Option.map_some, Option.some.injEq, Prod.mk.injEq] at h2
    exact ⟨i, rfl, h2.2.1, h2.1, h2.2.2⟩
theorem ty_agg {P : Program} {Γ : Ty} (hΓ : TyOk P Γ) {t : Nat} {ti : TI} (h : tyOf Γ t = some ti) (w : World) : (isAgg t).run P w = .ok ti.agg w := by
  obtain ⟨h1, _⟩ := hΓ _ _ h
  unfold isAgg TI.agg
  obtain ⟨u, s1, b1, z1⟩ := ti
  cases u <;> simp only [UD.ok] at h1
  case struct fl =>
    obtain ⟨fs, h1, _⟩ := h1
    simp only [Sem.run_bind, run_underlying h1, Result.andThen_ok]; rfl
  case func =>
    obtain ⟨a, b, c, h1⟩ := h1
    simp only [Sem.run_bind, run_underlying h1, Result.andThen_ok]; rfl
  all_goals (simp only [Sem.run_bind, run_underlying h1, Result.andThen_ok]; rfl)

theorem run_loadVar_rd {P : Program} {E : World} {Γ : Ty} (hΓ : TyOk P Γ) {H : Hp} {w : World} (h : Sat E H w) {b o t : Nat} {ti : TI} (ht : tyOf Γ t = some ti) :
    (∀ l, ti.agg = true → RdCells H b o ti.size l → (loadVar t ⟨b, o, none⟩).run P w = .ok (.agg ⟨l⟩) w) ∧
    (∀ c, ti.agg = false → RdCells H b o 1 [c] → (loadVar t ⟨b, o, none⟩).run P w = .ok c w) := by
  refine ⟨fun l ha hr => ?_, fun c ha hr => ?_⟩
  · unfold loadVar
    simp [ty_agg hΓ ht, ha, ty_size hΓ ht, run_loadCells_rd h hr]
  · unfold loadVar
    obtain ⟨_, cs, T, fz, hm, hc⟩ := hr
    have := hc 0 (by omega)
    simp only [Nat.add_zero, List.getElem?_cons_zero] at this
    simp [ty_agg hΓ ht, ha, h.cell hm, this]

theorem allOne_ok : ∀ l, allOne l = true → ∀ v ∈ l, v.oneCell' = true
  | [], _, v, hv => by cases hv
  | x :: r, h, v, hv => by
    have key : x.oneCell' = true ∧ allOne r = true := by
      cases x <;> simp_all [allOne, Value.oneCell']
    rcases List.mem_cons.1 hv with rfl | hv
    · exact key.1
    · exact allOne_ok r key.2 v hv

theorem setAt_eq (l : List Value) : ∀ (cs : List Value) (o : Nat), o + l.length ≤ cs.length → setAt cs o l = cs.take o ++ l ++ cs.drop (o + l.length) := by
  induction l with
  | nil => intro cs o h; simp [setAt]
  | cons x r ih =>
    intro cs o h
    simp only [List.length_cons] at h
    rw [setAt, ih (cs.set o x) (o + 1) (by simp; omega)]
    apply List.ext_getElem?
    intro i
    simp only [List.getElem?_append, List.length_append, List.length_take, List.length_set, List.length_cons, List.getElem?_take, List.getElem?_drop, List.getElem?_set]
    by_cases h1 : i < o
    · simp [h1, show i < min (o+1) cs.length + r.length by omega, show i < min (o+1) cs.length by omega, show i < min o cs.length + (r.length + 1) by omega, show i < min o cs.length by omega, show i < o + 1 by omega, show ¬ o = i by omega]
    · by_cases h2 : i = o
      · subst h2
        simp [show i < min (i+1) cs.length + r.length by omega, show i < min (i+1) cs.length by omega, show i < min i cs.length + (r.length + 1) by omega, show ¬ i < min i cs.length by omega, show i - min i cs.length = 0 by omega, show i < cs.length by omega]
      · by_cases h3 : i < o + 1 + r.length
        · simp [show i < min (o+1) cs.length + r.length by omega, show ¬ i < min (o+1) cs.length by omega, show i < min o cs.length + (r.length + 1) by omega, show ¬ i < min o cs.length by omega, show i - min o cs.length = (i - min (o+1) cs.length) + 1 by omega]
        · simp only [show ¬ i < min (o+1) cs.length + r.length by omega, show ¬ i < min o cs.length + (r.length + 1) by omega, if_false]
          rw [show o + 1 + r.length + (i - (min (o + 1) cs.length + r.length)) = o + (r.length + 1) + (i - (min o cs.length + (r.length + 1))) by omega]
          rw [if_neg (by omega)]

theorem run_storeCells_wr {P : Program} {E : World} {A B : Hp} {w : World} {b o : Nat} {cs : Array Value} {T : TypeId} {l : List Value} (h : Sat E (A ++ (b, Obj.cells cs T) :: B) w)
    (hl : o + l.length ≤ cs.size) (h1 : allOne l = true) :
    ∃ w', (storeCells ⟨b, o, none⟩ l).run P w = .ok () w' ∧ Sat E (A ++ (b, Obj.cells ⟨setAt cs.toList o l⟩ T) :: B) w' := by
  have hg := h.mem b _ (List.mem_append_right _ (List.mem_cons_self ..))
  have hs := run_storeCells_at (P := P) b o T l 0 cs w hg (by simpa using hl) (allOne_ok l h1)
  refine ⟨_, hs, ?_⟩
  refine h.upd rfl rfl rfl ?_ fun i hi => setRow_other w b i _ hi
  rw [setRow_heap w b cs _ T _ hg]
  simp only [Nat.add_zero]
  rw [setAt_eq l cs.toList o (by simpa using hl)]

theorem run_storeCell_frz {P : Program} {E : World} {A B : Hp} {w : World} {b o lo hi : Nat} {cs : Array Value} {T : TypeId} {v : Value} (h : Sat E (A ++ (b, Obj.cells cs T (lo, hi)) :: B) w)
    (hl : o < cs.size) (hf : o < lo) (h1 : allOne [v] = true) :
    ∃ w', (storeCells ⟨b, o, none⟩ [v]).run P w = .ok () w' ∧ Sat E (A ++ (b, Obj.cells ⟨cs.toList.set o v⟩ T (lo, hi)) :: B) w' := by
  have hg := h.mem b _ (List.mem_append_right _ (List.mem_cons_self ..))
  have hcell : w.cell? ⟨b, o, none⟩ = some cs[o] := by simp [World.cell?, hg, hl]
  have hfro : w.frozen? ⟨b, o, none⟩ = false := by simp [World.frozen?, hg]; omega
  have hst : (storeCells ⟨b, o, none⟩ [v]).run P w = .ok () (w.setCell ⟨b, o, none⟩ v) := by
    unfold storeCells
    rw [addr_add, Nat.add_zero]
    rw [Sem.run_bind, run_store P w _ v _ (allOne_ok [v] h1 v (by simp)), hcell]
    simp only [hfro]
    rfl
  refine ⟨_, hst, ?_⟩
  refine Sat.upd h rfl rfl rfl ?_ ?_
  · show (w.heap.modify b _)[b]? = _
    rw [Array.getElem?_modify, if_pos rfl, hg]
    simp only [Option.map_some]
    congr 2
    apply Array.ext'
    simp
  · intro i hi
    show (w.heap.modify b _)[i]? = _
    rw [Array.getElem?_modify, if_neg (Ne.symm hi)]

end Go.SX
