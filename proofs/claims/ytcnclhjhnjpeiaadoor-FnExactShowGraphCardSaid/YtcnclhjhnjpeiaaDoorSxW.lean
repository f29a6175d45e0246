/-
  The executor of Sx.lean is sound: one operation, the whole. Conditions: none.
-/
import Derived.Test.YtcnclhjhnjpeiaaDoorSxV
namespace Go.SX

section
variable {P : Program} {E : World} {Γ : Ty} {n : Nat}

theorem run_mapM_list {α β : Type} (f : α → Sem β) (g : α → β) (w : World) : ∀ (l : List α), (∀ x ∈ l, (f x).run P w = .ok (g x) w) → (l.mapM f).run P w = .ok (l.map g) w
  | [], _ => rfl
  | x :: r, h => by
    simp only [List.mapM_cons, Sem.run_bind, h x (by simp), Result.andThen_ok, run_mapM_list f g w r (fun y hy => h y (by simp [hy])), Sem.run_pure, List.map_cons]

theorem run_mapM_array {α β : Type} (f : α → Sem β) (g : α → β) (w : World) (l : Array α) (h : ∀ x ∈ l.toList, (f x).run P w = .ok (g x) w) : (l.mapM f).run P w = .ok (l.map g) w := by
  rw [Array.mapM_eq_mapM_toList, Sem.run_map, run_mapM_list f g w l.toList h, Result.andThen_ok]
  congr 1
  apply Array.ext'
  simp

theorem fldsOk_spec : ∀ {fs : List (Nat × TypeId)}, fldsOk Γ fs = true → ∀ f ∈ fs, ∃ k, sizOf Γ f.2 = some k
  | [], _, f, hf => by cases hf
  | (_, t) :: r, h, f, hf => by
    unfold fldsOk at h
    split at h
    · rename_i k hk
      rcases List.mem_cons.1 hf with rfl | hf
      · exact ⟨k, hk⟩
      · exact fldsOk_spec h f hf
    · cases h

theorem run_build (hΓ : TyOk P Γ) {t : TypeId} {fl : List (Nat × TypeId)} {sz by_ : Nat} {z : Value} (ht : tyOf Γ t = some ⟨.struct fl, sz, by_, z⟩) (hf : fldsOk Γ fl = true)
    {fr : Fr} {bl : List Blk} {R : List Hp} {parts : List (Nat × Operand)} {K : List Value → Prop}
    (h : exBuild Γ fl fr bl z.cells.toList parts K) : ∃ cs, K cs ∧ ∀ a w, Rel E n ⟨fr, bl, R⟩ a w → (Instr.build t ((⟨parts⟩ : Array (Nat × Operand)).map fun p => (p.1, a.eval p.2))).run P w = .ok (.agg ⟨cs⟩) w := by
  obtain ⟨⟨fs, hu, hfl⟩, _⟩ := hΓ _ _ ht
  obtain ⟨cs, h1, h2⟩ := exBuild_sound (E := E) (n := n) (R := R) (place := fun i => (fs.map fun f => (f.offset, (sizOf Γ f.type).getD 0))[i]?) (fun i off ft ti hfi hti => by
    rw [← hfl] at hfi
    simp only [List.getElem?_map, Option.map_eq_some_iff] at hfi
    obtain ⟨f, hf1, hf2⟩ := hfi
    cases hf2
    have : fs[i]? = some f := by simpa using hf1
    simp [this, sizOf, hti]) parts z.cells.toList K h
  refine ⟨cs, h1, fun a w hr => ?_⟩
  have hm : (fs.mapM fun f => (do pure (f.offset, ← sizeOf f.type) : Sem (Nat × Nat))).run P w = .ok (fs.map fun f => (f.offset, (sizOf Γ f.type).getD 0)) w :=
    run_mapM_array _ _ w _ fun f hfm => by
      obtain ⟨k, hk⟩ := fldsOk_spec hf (f.offset, f.type) (by rw [← hfl]; exact List.mem_map.2 ⟨f, hfm, rfl⟩)
      simp only at hk
      simp [siz_size hΓ hk, hk]
  unfold Instr.build
  simp only [Sem.run_bind, ty_zero hΓ ht, Result.andThen_ok, run_underlying hu, hm]
  have h3 : ((⟨parts⟩ : Array (Nat × Operand)).map fun p => (p.1, a.eval p.2)).toList = parts.map fun p => (p.1, a.eval p.2) := by simp
  rw [h3]
  have h4 : (⟨z.cells.toList⟩ : Array Value) = z.cells := rfl
  have h2' := h2 a w hr
  rw [h4] at h2'
  rw [h2']
  rfl

theorem fld_of {fs : Array Field} {fl : List (Nat × TypeId)} (hfl : fs.toList.map (fun f => (f.offset, f.type)) = fl) {f off ft : Nat} (hf : nthF fl f = some (off, ft)) :
    ∃ fd, fs[f]? = some fd ∧ fd.offset = off ∧ fd.type = ft := by
  rw [nthF_eq, ← hfl] at hf
  simp only [List.getElem?_map, Option.map_eq_some_iff] at hf
  obtain ⟨fd, h1, h2⟩ := hf
  cases h2
  exact ⟨fd, by simpa using h1, rfl, rfl⟩

theorem run_fieldAt (hΓ : TyOk P Γ) {t ft : TypeId} {fl : List (Nat × TypeId)} {f off k : Nat} {x : Value} {b o : Nat} {w : World}
    (hu : undOf Γ t = some (.struct fl)) (hf : nthF fl f = some (off, ft)) (hs : sizOf Γ ft = some (k + 1)) (hx : x = .pointer (some ⟨b, o, none⟩)) :
    (Instr.fieldAt t x f).run P w = .ok (.pointer (some ⟨b, o + off, none⟩)) w := by
  unfold Instr.fieldAt
  obtain ⟨fs, hu', hfl⟩ := undOf_ok hΓ hu
  obtain ⟨fd, h1, h2, h3⟩ := fld_of hfl hf
  subst h2 h3
  simp only [Sem.run_bind, run_underlying hu', Result.andThen_ok, h1]
  subst hx
  simp only [Instr.sureAddr, Sem.run_bind, Sem.run_pure, Result.andThen_ok, fieldPlace, siz_size hΓ hs]
  simp [addr_add]

theorem run_part (hΓ : TyOk P Γ) {ft : TypeId} {ti : TI} (ht : tyOf Γ ft = some ti) {cs : List Value} {off : Nat} {w : World} :
    (∀ l, ti.agg = true → takeAt cs off ti.size = some l → (part ft ⟨cs⟩ off).run P w = .ok (.agg ⟨l⟩) w) ∧
    (∀ c, ti.agg = false → takeAt cs off 1 = some [c] → (part ft ⟨cs⟩ off).run P w = .ok c w) := by
  refine ⟨fun l ha hl => ?_, fun c ha hl => ?_⟩
  · obtain ⟨h1, h2⟩ := takeAt_spec hl
    unfold part
    simp only [Sem.run_bind, ty_agg hΓ ht, Result.andThen_ok, ha, if_true, ty_size hΓ ht, Sem.run_pure]
    congr 2
    apply Array.ext'
    apply List.ext_getElem?
    intro i
    simp only [Array.toList_extract, List.extract_eq_take_drop, List.getElem?_take, List.getElem?_drop]
    by_cases hi : i < ti.size
    · rw [if_pos (by omega)]; exact h2 i hi
    · rw [if_neg (by omega), List.getElem?_eq_none (by omega)]
  · obtain ⟨h1, h2⟩ := takeAt_spec hl
    have := h2 0 (by omega)
    simp only [Nat.add_zero, List.getElem?_cons_zero] at this
    unfold part
    simp only [Sem.run_bind, ty_agg hΓ ht, Result.andThen_ok, ha, Bool.false_eq_true, if_false]
    have h3 : (⟨cs⟩ : Array Value)[off]? = some c := by simpa using this
    rw [h3]; rfl

theorem run_field (hΓ : TyOk P Γ) {t ft : TypeId} {fl : List (Nat × TypeId)} {f off : Nat} {cs : List Value} {w : World}
    (hu : undOf Γ t = some (.struct fl)) (hf : nthF fl f = some (off, ft)) :
    (Instr.field t (.agg ⟨cs⟩) f).run P w = (part ft ⟨cs⟩ off).run P w := by
  unfold Instr.field
  obtain ⟨fs, hu', hfl⟩ := undOf_ok hΓ hu
  obtain ⟨fd, h1, h2, h3⟩ := fld_of hfl hf
  subst h2 h3
  simp only [Sem.run_bind, run_underlying hu', Result.andThen_ok, h1, asAgg, Sem.run_pure]

theorem Rel.load {bl : List Blk} {fr : Fr} {R : List Hp} {a : Act} {w : World} (hr : Rel E n ⟨fr, bl, R⟩ a w) {h : Nat} {b : Blk} (hb : nthBlk bl h = some b) {off m : Nat} {l : List Value} (hl : takeAt b.cs off m = some l) :
    RdCells (St.hall ⟨fr, bl, R⟩) (idOf bl h) off m l := by
  obtain ⟨A, B, h1, h2⟩ := nthBlk_spec hb
  obtain ⟨h3, h4⟩ := takeAt_spec hl
  refine ⟨h3, ⟨b.cs⟩, b.ty, (0, 0), ?_, fun i hi => by rw [← h4 i hi]; simp⟩
  subst h1 h2
  rw [idOf_at]
  unfold St.hall
  simp [Blk.ent]

theorem Rel.store {bl : List Blk} {fr : Fr} {R : List Hp} {a : Act} {w : World} (hr : Rel E n ⟨fr, bl, R⟩ a w) {h : Nat} {b : Blk} (hb : nthBlk bl h = some b) {off : Nat} {l cs : List Value} (hl : layAt b.cs off l = some cs)
    (h1 : allOne l = true) {bl' : List Blk} (hs : setBlk bl h cs = some bl') :
    ∃ w', (storeCells ⟨idOf bl h, off, none⟩ l).run P w = .ok () w' ∧ Rel E n ⟨fr, bl', R⟩ a w' := by
  obtain ⟨A, B, e1, e2⟩ := nthBlk_spec hb
  obtain ⟨h3, h4⟩ := layAt_spec hl
  subst e1 e2
  have e3 := setBlk_spec b B cs A bl' hs
  subst e3
  have hsat := hr.sat
  simp only [St.hall, List.map_append, List.map_cons, List.append_assoc, List.cons_append, Blk.ent] at hsat
  obtain ⟨w', h5, h6⟩ := run_storeCells_wr (P := P) hsat (o := off) (l := l) (by simpa using h3) h1
  refine ⟨w', by rw [idOf_at]; exact h5, hr.ids (by simp) ?_⟩
  simp only [St.hall, List.map_append, List.map_cons, List.append_assoc, List.cons_append, Blk.ent]
  rw [h4]
  exact h6

theorem Rel.repart {bl : List Blk} {fr : Fr} {R R' : List Hp} {a : Act} {w : World} (hr : Rel E n ⟨fr, bl, R⟩ a w) (h : RLe R R') : Rel E n ⟨fr, bl, R'⟩ a w := by
  obtain ⟨L, hL⟩ := h
  refine hr.ids rfl ?_
  have h1 := hr.sat
  have h2 : (St.hall ⟨fr, bl, R⟩).Perm (St.hall ⟨fr, bl, R'⟩ ++ L) := by
    simp only [St.hall, List.append_assoc]
    exact hL.append_left _
  exact (h1.perm h2).drop

theorem Rel.storeR {bl : List Blk} {fr : Fr} {R R' : List Hp} {a : Act} {w : World} (hr : Rel E n ⟨fr, bl, R⟩ a w) {b off : Nat} {l : List Value} (hw : WrCells R b off l R') (h1 : allOne l = true) :
    ∃ w', (storeCells ⟨b, off, none⟩ l).run P w = .ok () w' ∧ Rel E n ⟨fr, bl, R'⟩ a w' := by
  obtain ⟨pre, post, A1, A2, cs, T, e1, h2, e3⟩ := hw
  subst e1 e3
  have hsat := hr.sat
  simp only [St.hall, List.flatten_append, List.flatten_cons, List.append_assoc, List.cons_append] at hsat
  rw [← List.append_assoc, ← List.append_assoc] at hsat
  obtain ⟨w', h5, h6⟩ := run_storeCells_wr (P := P) hsat (o := off) (l := l) h2 h1
  refine ⟨w', h5, hr.ids rfl ?_⟩
  simp only [St.hall, List.flatten_append, List.flatten_cons, List.append_assoc, List.cons_append]
  rw [← List.append_assoc, ← List.append_assoc]
  exact h6

theorem Rel.storeF {bl : List Blk} {fr : Fr} {R R' : List Hp} {a : Act} {w : World} (hr : Rel E n ⟨fr, bl, R⟩ a w) {b off : Nat} {l : List Value} (hw : WrCellF R b off l R') (h1 : allOne l = true) :
    ∃ w', (storeCells ⟨b, off, none⟩ l).run P w = .ok () w' ∧ Rel E n ⟨fr, bl, R'⟩ a w' := by
  obtain ⟨pre, post, A1, A2, cs, T, lo, hi, v, rfl, e1, h2, h2', e3⟩ := hw
  subst e1 e3
  have hsat := hr.sat
  simp only [St.hall, List.flatten_append, List.flatten_cons, List.append_assoc, List.cons_append] at hsat
  rw [← List.append_assoc, ← List.append_assoc] at hsat
  obtain ⟨w', h5, h6⟩ := run_storeCell_frz (P := P) hsat (o := off) (v := v) h2 h2' h1
  refine ⟨w', h5, hr.ids rfl ?_⟩
  simp only [St.hall, List.flatten_append, List.flatten_cons, List.append_assoc, List.cons_append]
  rw [← List.append_assoc, ← List.append_assoc]
  exact h6

theorem run_storeVar_of (hΓ : TyOk P Γ) {t : TypeId} {ti : TI} (ht : tyOf Γ t = some ti) {a : Addr} {v : Value} {w : World} (hl : lenIs v.cells.toList ti.size = true) :
    (storeVar t a v).run P w = (storeCells a v.cells.toList).run P w := by
  unfold storeVar
  have := lenIs_spec hl
  simp only [Sem.run_bind, ty_size hΓ ht, Result.andThen_ok]
  rw [if_neg (by simp at this; simp [this])]


theorem zeros_length (z : List Value) : ∀ n, (zeros n z).length = n * z.length
  | 0 => by simp [zeros]
  | n + 1 => by simp only [zeros, List.length_append, zeros_length z n]; rw [Nat.succ_mul]; omega

theorem zeros_get (z : List Value) : ∀ n i, i < n * z.length → (zeros n z)[i]? = z[i % z.length]?
  | 0, i, h => by simp at h
  | n + 1, i, h => by
    simp only [zeros]
    by_cases hi : i < z.length
    · rw [List.getElem?_append_left hi, Nat.mod_eq_of_lt hi]
    · rw [List.getElem?_append_right (by omega), zeros_get z n (i - z.length) (by rw [Nat.succ_mul] at h; omega)]
      rw [← Nat.mod_eq_sub_mod (by omega)]

theorem range_zeros (z : Array Value) (sz n : Nat) (hz : z.size = sz) : ((Array.range (n * sz)).map (z[· % z.size]!)) = ⟨zeros n z.toList⟩ := by
  apply Array.ext'
  apply List.ext_getElem?
  intro i
  simp only [Array.toList_map, Array.toList_range, List.getElem?_map]
  by_cases hi : i < n * sz
  · have hp : 0 < z.size := by
      rcases Nat.eq_zero_or_pos z.size with h0 | h0
      · rw [hz] at h0; rw [h0] at hi; omega
      · exact h0
    have hm : i % z.size < z.size := Nat.mod_lt _ hp
    rw [List.getElem?_range hi, zeros_get z.toList n i (by simpa [hz] using hi)]
    simp only [Option.map_some, Array.length_toList]
    rw [getElem!_pos z _ hm]
    simp [hm]
  · rw [List.getElem?_eq_none (by simp; omega), List.getElem?_eq_none (by rw [zeros_length]; simp [hz]; omega)]; rfl

theorem Rel.pushR {fr : Fr} {bl : List Blk} {R : List Hp} {a : Act} {w : World} (hr : Rel E n ⟨fr, bl, R⟩ a w) (o : Obj) : Rel E n ⟨fr, bl, [(w.heap.size, o)] :: R⟩ a (w.alloc o) := by
  refine hr.ids rfl ((hr.sat.push o).perm ?_)
  simp only [St.hall, List.flatten_cons, List.cons_append, List.nil_append]
  exact List.perm_middle.symm

theorem wrap_small {m : Int} (h0 : 0 ≤ m) (h1 : m ≤ 281474976710656) : IntKind.i64.wrap m = m := by
  simp only [IntKind.wrap, IntKind.bits, IntKind.signed]
  have e : m % (2 ^ 64 : Int) = m := by omega
  simp only [e]
  rw [if_neg (by simp; omega)]

theorem run_makeSlice (hΓ : TyOk P Γ) {t e : TypeId} {ti : TI} (hu : P.underlying t = some (.slice e)) (ht : tyOf Γ e = some ti) (hz : ti.zero.cells.toList.length = ti.size) {k k' : IntKind} {m c : Int} {w : World}
    (h0 : 0 ≤ m) (h1 : m ≤ c) (h2 : c ≤ 281474976710656) (h3 : ti.bytes * c ≤ 281474976710656) :
    (Instr.makeSlice t (.int k m) (.int k' c)).run P w = .ok (.slice (some ⟨w.heap.size, 0, none⟩) m.toNat c.toNat) (w.alloc (.cells ⟨zeros c.toNat ti.zero.cells.toList⟩ e)) := by
  obtain ⟨i, hi, hb, _, _⟩ := ty_bytes hΓ ht
  have em := wrap_small h0 (by omega : m ≤ 281474976710656)
  have ec := wrap_small (by omega : 0 ≤ c) h2
  unfold Instr.makeSlice
  simp only [Sem.run_bind, run_underlying hu, Result.andThen_ok, asInt, asIntOf, Sem.run_pure, typeInfo, run_program, hi, hb, em, ec]
  have hc : ¬ ((decide (c < 0) || decide ((ti.bytes : Int) * c > 2 ^ 48)) = true ∨ m < 0 ∨ m > c) := by
    simp only [Bool.or_eq_true, decide_eq_true_eq]
    omega
  have hc' : ((decide (c < 0) || decide ((ti.bytes : Int) * c > 2 ^ 48)) || decide (m < 0) || decide (m > c)) = false := by
    simp only [Bool.or_eq_false_iff, decide_eq_false_iff_not]
    omega
  have hz' : ti.zero.cells.size = ti.size := by simpa using hz
  have hcells : (((Array.range (c.toNat * ti.size)).map (ti.zero.cells[· % ti.zero.cells.size]!)) : Array Value) = ⟨zeros c.toNat ti.zero.cells.toList⟩ := range_zeros _ _ _ hz'
  rw [if_neg (by simpa using hc')]
  simp only [Sem.run_bind, ty_size hΓ ht, Result.andThen_ok, run_askRoom]
  by_cases hn : c.toNat * ti.size = 0
  · rw [if_pos hn]
    simp only [Sem.run_pure, Result.andThen_ok, newRow, Sem.run_bind, run_newObj]
    have e0 : (⟨zeros c.toNat ti.zero.cells.toList⟩ : Array Value) = #[] := by
      have := zeros_length ti.zero.cells.toList c.toNat
      rw [hz, hn] at this
      rw [List.length_eq_zero_iff.1 this]
    have e1 : ((Array.range 0).map ((#[] : Array Value)[· % (#[] : Array Value).size]!)) = #[] := by simp
    rw [hn, e0, e1]
    rfl
  · rw [if_neg hn]
    simp only [Sem.run_bind, ty_zero hΓ ht, Result.andThen_ok, Sem.run_pure, newRow, run_newObj, hcells]
    rfl

theorem exBuildS_sound {sz : Nat} {fr : Fr} {bl : List Blk} {R : List Hp} {a : Act} {w : World} (hr : Rel E n ⟨fr, bl, R⟩ a w) :
    ∀ (parts : List (Nat × Operand)) (cs : List Value) (K : List Value → Prop), exBuildS sz fr bl cs parts K →
      ∃ cs', K cs' ∧ Instr.fill (fun i => some (i * sz, sz)) ⟨cs⟩ (parts.map fun p => (p.1, a.eval p.2)) = some ⟨cs'⟩
  | [], cs, K, h => ⟨cs, h, rfl⟩
  | (i, x) :: r, cs, K, h => by
    unfold exBuildS at h
    obtain ⟨s, h1, _, h2⟩ := getK_sound hr h
    have h3 := cellsK_sound h2
    split at h3
    · exact h3.elim
    · rename_i hl
      split at h3
      · exact h3.elim
      · rename_i cs' hc
        obtain ⟨h4, h5⟩ := layAt_spec hc
        obtain ⟨cs2, h6, h7⟩ := exBuildS_sound hr r cs' K h3
        refine ⟨cs2, h6, ?_⟩
        rw [List.map_cons]
        simp only
        rw [fill_step (fun i => some (i * sz, sz)) ⟨cs⟩ i (a.eval x) _ (i * sz) sz rfl (by rw [h1]; exact lenIs_spec hl) (by rw [h1]; exact h4)]
        rw [h1, ← h5]
        exact h7

theorem run_buildSlice (hΓ : TyOk P Γ) {t e : TypeId} {ti : TI} (hu : P.underlying t = some (.slice e)) (ht : tyOf Γ e = some ti) (hz : ti.zero.cells.toList.length = ti.size) {len : Nat} (hl : len * ti.size ≤ 16777216)
    {parts : List (Nat × Value)} {cs : List Value} (hf : Instr.fill (fun i => some (i * ti.size, ti.size)) ⟨zeros len ti.zero.cells.toList⟩ parts = some ⟨cs⟩) {w : World} :
    (Instr.buildSlice t len ⟨parts⟩).run P w = .ok (.slice (some ⟨w.heap.size, 0, none⟩) len len) (w.alloc (.cells ⟨cs⟩ e)) := by
  unfold Instr.buildSlice
  simp only [Sem.run_bind, run_underlying hu, Result.andThen_ok, ty_size hΓ ht]
  rw [if_neg (by omega)]
  have hz' : ti.zero.cells.size = ti.size := by simpa using hz
  have hcells : (((Array.range (len * ti.size)).map (ti.zero.cells[· % ti.zero.cells.size]!)) : Array Value) = ⟨zeros len ti.zero.cells.toList⟩ := range_zeros _ _ _ hz'
  by_cases hn : len * ti.size = 0
  · rw [if_pos hn]
    simp only [Sem.run_bind, Sem.run_pure, Result.andThen_ok]
    have e0 : (⟨zeros len ti.zero.cells.toList⟩ : Array Value) = #[] := by
      have := zeros_length ti.zero.cells.toList len
      rw [hz, hn] at this
      rw [List.length_eq_zero_iff.1 this]
    rw [e0] at hf
    rw [hn]
    have e1 : ((Array.range 0).map ((#[] : Array Value)[· % (#[] : Array Value).size]!)) = #[] := by simp
    rw [e1, hf]
    simp only [newRow, Sem.run_bind, run_newObj, Result.andThen_ok, Sem.run_pure]
    rfl
  · rw [if_neg hn]
    simp only [Sem.run_bind, ty_zero hΓ ht, Result.andThen_ok, Sem.run_pure, hcells, hf, newRow, run_newObj]
    rfl

end
end Go.SX
