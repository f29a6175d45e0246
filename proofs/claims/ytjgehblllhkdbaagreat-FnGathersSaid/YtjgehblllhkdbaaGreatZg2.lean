/-
  Texts appended to bytes; builders of texts. Generic rules: copies, appends of zeros, overlaps. The types of this translation, as the executor wants them. What the texts over the laws' types share. The types of the laws: how their values lie, and the laws' helpers over them (printed by gent.py). Ranges. Checksums and numbers as bytes, on both sides. Checksums and numbers as bytes, records in frames, on both sides. The order of rows, labels. The order of edges, valid graphs, on both sides. Valid graphs: what their edges are; edges put into their place. Plain. Literals of slices whose elements own memory; empty disks. An element put into a list at its place. An element put into a slice at its place (slices.Insert), edges. Numbers of variable length read, frames written and read, on both sides. Frames read, on both sides. Texts read one thing after another, on both sides. Conditions: none.
-/
import Derived.Test.YtjgehblllhkdbaaGreatZg1

namespace Go.SX
section
variable {P : Program} {E : World} {Γ : Ty} {n : Nat}
theorem run_firstS (w : World) (str : ByteArray) : (Builtin.firstCells flByte.size str.data.toList.length (.string str)).run P w = .ok ⟨str.data.toList.flatMap flByte.enc⟩ w := by
  have e1 : str.data.toList.length = str.size := by simp
  rw [e1]
  have e2 : str.extract 0 str.size = str := by simp
  simp only [Builtin.firstCells, e2, Sem.run_pure]
  congr 1
  apply Array.ext'
  simp only [Array.toList_map]
  induction str.data.toList with
  | nil => rfl
  | cons x r ih => simp only [List.map_cons, List.flatMap_cons, ih]; rfl
/-- the run of append of a text onto an owned slice of bytes -/
theorem run_appendS (hΓ : TyOk P Γ) {sT xT e ty : TypeId} {ti : TI} (hsT : P.underlying sT = some (.slice e)) (hxT : P.underlying xT = some .string) (ht : tyOf Γ e = some ti) (hsz : ti.size = flByte.size)
    (hz : ti.zero.cells.toList.length = flByte.size)
    {A B : Hp} {w : World} {base : Option Addr} {m cap : Nat} {xs : List UInt8} {str : ByteArray} (hs : Sat E (A ++ B) w) (ho : Ow flByte e (.slice base m cap) xs A) 
    (hlen : xs.length + str.data.toList.length ≤ 9223372036854775807) (hbd : (xs.length + str.data.toList.length) * ti.bytes ≤ 140737488355328) :
    ∃ base' cap' A' w', (Builtin.append_ #[sT, xT] ty #[.slice base m cap, .string str]).run P w = .ok (.slice base' (xs.length + str.data.toList.length) cap') w' ∧ (Ow flByte e (.slice base' (xs.length + str.data.toList.length) cap') (xs ++ str.data.toList) A' ∧ (xs.length + str.data.toList.length ≤ cap → base' = base ∧ cap' = cap)) ∧ Sat E (A' ++ B) w' := by
  have hrowS := fun w => run_firstS (P := P) w str
  have hsz2 : str.size = str.data.toList.length := by simp
  have hwf0 : ∀ x, flByte.wf x := fun _ => trivial
  generalize hf : flByte = f at *
  generalize hys : str.data.toList = ys at *
  obtain ⟨hw, hl, base0, cap0, e0, h2⟩ := ho
  cases e0
  have hrow := hrowS w
  have hwf : ∀ x ∈ xs ++ ys, f.wf x := fun x _ => hwf0 x
  have hlen' : (xs ++ ys).length ≤ 9223372036854775807 := by rw [List.length_append]; exact hlen
  unfold Builtin.append_
  simp only [List.getElem?_toArray, List.getElem?_cons_zero, List.getElem?_cons_succ, Sem.run_bind, run_underlying hsT, run_underlying hxT, Result.andThen_ok, ty_size hΓ ht, hsz, Sem.run_pure, Builtin.lenOf, Bool.false_eq_true, if_false, Bool.not_false, if_true]
  rw [hsz2]
  by_cases hfit : xs.length + ys.length ≤ cap
  · rw [if_pos hfit]
    simp only [Sem.run_bind, hrow, Result.andThen_ok]
    rcases h2 with ⟨rfl, rfl, rfl⟩ | ⟨b, sp, rfl, rfl, h3, h4⟩
    · have hys : ys = [] := by cases ys with
        | nil => rfl
        | cons _ _ => simp at hfit
      subst hys
      refine ⟨base, 0, [], w, ?_, ⟨Ow.nil e base, fun _ => ⟨rfl, rfl⟩⟩, hs⟩
      cases base with
      | none => rfl
      | some a => rfl
    have hsl : ys.length * f.size ≤ sp.length := by
      exact Nat.le_trans (Nat.mul_le_mul_right _ (by omega)) h4
    have hfl := flat_length f xs
    have hfly := flat_length f ys
    obtain ⟨w', h5, h6⟩ := run_storeCells_wr (P := P) (A := []) (o := xs.length * f.size) (l := ys.flatMap f.enc) hs (by
      show xs.length * f.size + (ys.flatMap f.enc).length ≤ (xs.flatMap f.enc ++ sp).length
      rw [List.length_append]; omega) (by
        have : ∀ l : List UInt8, allOne (l.flatMap f.enc) = true := by
          intro l
          induction l with
          | nil => rfl
          | cons x r ih =>
            rw [List.flatMap_cons]
            have h1 := f.one x
            revert h1
            generalize f.enc x = c
            intro h1
            induction c with
            | nil => exact ih
            | cons v c ihc => cases v <;> simp_all [allOne]
        exact this ys)
    refine ⟨some ⟨b, 0, none⟩, cap, [(b, Obj.cells ⟨setAt (xs.flatMap f.enc ++ sp) (xs.length * f.size) (ys.flatMap f.enc)⟩ e)], w', ?_, ?_, h6⟩
    · simp only [addr_add, Nat.zero_add, h5, Sem.run_bind, Result.andThen_ok, Sem.run_pure]
    refine ⟨?_, fun _ => ⟨rfl, rfl⟩⟩
    refine ⟨hwf, hlen', some ⟨b, 0, none⟩, cap, by rw [List.length_append], .inr ⟨b, sp.drop (ys.length * f.size), rfl, ?_, by rw [List.length_append]; exact hfit, ?_⟩⟩
    · show [(b, Obj.cells ⟨setAt (xs.flatMap f.enc ++ sp) (xs.length * f.size) (ys.flatMap f.enc)⟩ e)] = _
      have key : setAt (xs.flatMap f.enc ++ sp) (xs.length * f.size) (ys.flatMap f.enc) = xs.flatMap f.enc ++ ys.flatMap f.enc ++ sp.drop (ys.length * f.size) := by
        rw [setAt_eq _ _ _ (by rw [List.length_append]; omega), ← hfl, List.take_left, hfl, hfly, List.drop_append, List.drop_eq_nil_of_le (by omega), List.nil_append, hfl]
        rw [show xs.length * f.size + ys.length * f.size - xs.length * f.size = ys.length * f.size by omega]
      rw [key, List.flatMap_append]
    rw [List.length_drop, List.length_append]
    have e9 : (cap - (xs.length + ys.length)) * f.size = (cap - xs.length) * f.size - ys.length * f.size := by rw [← Nat.sub_mul]; congr 1; omega
    omega
  rw [if_neg hfit]
  obtain ⟨i, hi, hib, _, _⟩ := ty_bytes hΓ ht
  have hcap : Builtin.nextslicecap (xs.length + ys.length) cap * ti.bytes ≤ 281474976710656 := by
    have h7 := nextcap_le (xs.length + ys.length) cap (by omega)
    have h8 := Nat.mul_le_mul_right ti.bytes h7
    rw [Nat.mul_assoc] at h8
    omega
  have hold : (Builtin.firstCells f.size xs.length (.slice base xs.length cap)).run P w = .ok ⟨xs.flatMap f.enc⟩ w := by
    have h9 : (rpSl f.rp).rd A [.slice base xs.length cap] xs := Ow.rd ⟨hw, hl, base, cap, rfl, h2⟩
    exact (rd_row (f := f) h9 (P := P) hs.drop).2
  have hdrew : ∀ {H : Hp}, Sat E H w → Sat E H { w with drawn := w.drawn + 1 } := fun h => ⟨h.os, h.out, h.tape, h.mem, h.nodup, Nat.le_trans h.dr (Nat.le_succ _)⟩
  have hold' : (Builtin.firstCells f.size xs.length (.slice base xs.length cap)).run P { w with drawn := w.drawn + 1 } = .ok ⟨xs.flatMap f.enc⟩ { w with drawn := w.drawn + 1 } := by
    have h9 : (rpSl f.rp).rd A [.slice base xs.length cap] xs := Ow.rd ⟨hw, hl, base, cap, rfl, h2⟩
    exact (rd_row (f := f) h9 (P := P) (hdrew hs).drop).2
  have hrow' := hrowS { w with drawn := w.drawn + 1 }
  have hmax : IntKind.i64.max = 9223372036854775807 := rfl
  simp only [Sem.run_bind, typeInfo, run_program, Result.andThen_ok, hi, Sem.run_pure]
  rw [if_neg (by
    rw [hmax]
    rintro ⟨h10, _⟩
    omega)]
  have hif : ¬ (Builtin.nextslicecap (xs.length + ys.length) cap * ti.bytes > 2 ^ 48) := by omega
  simp only [Sem.run_bind, run_program, Result.andThen_ok, hi, Sem.run_pure, hib]
  rw [if_neg hif]
  simp only [Sem.run_bind, run_choose, Question.forced, Bool.false_eq_true, if_false, Result.andThen_ok, run_askRoom, hold', hrow', ty_zero hΓ ht, Sem.run_pure, newRow, run_newObj, run_program, hi]
  have hq : xs.length + ys.length ≤ (Question.appendCap (xs.length + ys.length) cap e).cut (w.tape w.drawn (.appendCap (xs.length + ys.length) cap e)) := by
    simp only [Question.cut]; omega
  generalize (Question.appendCap (xs.length + ys.length) cap e).cut (w.tape w.drawn (.appendCap (xs.length + ys.length) cap e)) = c at hq
  rw [zeroCells_eq]
  refine ⟨some ⟨w.heap.size, 0, none⟩, c, [(w.heap.size, Obj.cells ⟨(xs ++ ys).flatMap f.enc ++ zeros (c - (xs.length + ys.length)) ti.zero.cells.toList⟩ e)], _, rfl, ?_, ?_⟩
  · refine ⟨?_, fun h => absurd h hfit⟩
    refine ⟨hwf, hlen', some ⟨w.heap.size, 0, none⟩, c, by rw [List.length_append], .inr ⟨w.heap.size, _, rfl, rfl, by rw [List.length_append]; exact hq, ?_⟩⟩
    rw [zeros_length, hz, List.length_append]
    exact Nat.le_refl _
  have h11 := (hdrew hs).push (Obj.cells ⟨(xs ++ ys).flatMap f.enc ++ zeros (c - (xs.length + ys.length)) ti.zero.cells.toList⟩ e)
  have h12 : Sat E ((w.heap.size, Obj.cells ⟨(xs ++ ys).flatMap f.enc ++ zeros (c - (xs.length + ys.length)) ti.zero.cells.toList⟩ e) :: B ++ A) (World.alloc { w with drawn := w.drawn + 1 } (Obj.cells ⟨(xs ++ ys).flatMap f.enc ++ zeros (c - (xs.length + ys.length)) ti.zero.cells.toList⟩ e)) := by
    refine h11.perm ?_
    simp only [List.cons_append]
    exact List.Perm.cons _ List.perm_append_comm
  have h13 := h12.drop
  have e1 : ((⟨xs.flatMap f.enc⟩ : Array Value) ++ (⟨ys.flatMap f.enc⟩ : Array Value) ++ (⟨zeros (c - (xs.length + ys.length)) ti.zero.cells.toList⟩ : Array Value)) = ⟨(xs ++ ys).flatMap f.enc ++ zeros (c - (xs.length + ys.length)) ti.zero.cells.toList⟩ := by
    apply Array.ext'
    simp
  rw [e1]
  exact h13
theorem perm0 {α : Type} {x : α} : List.Perm [x] (x :: List.flatten []) := .refl _
theorem perm1 {α : Type} {x : α} {B : List α} : List.Perm (x :: B) (x :: List.flatten [B]) := by simp
def Bz (base : Option Addr) (cap : Nat) : Prop := (base = none ∧ cap = 0) ∨ cap ≠ 0
theorem ow_room {α : Type} {f : Fl α} {T : TypeId} {base : Option Addr} {k cap : Nat} {xs : List α} {A : Hp} (h : Ow f T (.slice base k cap) xs A) (hne : 0 < xs.length) : cap ≠ 0 := by
  obtain ⟨_, _, b0, c0, e, h5⟩ := h
  simp only [Value.slice.injEq] at e
  obtain ⟨_, _, e3⟩ := e
  rcases h5 with ⟨_, h7, _⟩ | ⟨_, _, _, _, h8, _⟩
  · rw [h7] at hne; simp at hne
  omega
/-- append of a text -/
theorem append_str (hΓ : TyOk P Γ) {dst : Option Nat} {s x : Operand} {sT xT T ty : TypeId} {pos : String} {after : Array Edge} {guard : Option (Nat × Bool)} {fr : Fr} {bl : List Blk} {R : List Hp} {K : St → Prop} {ti : TI}
    (i : Nat) {A : Hp} {base : Option Addr} {m cap : Nat} {xs : List UInt8} {str : ByteArray} (hi : nthR R i = some A) (ho : (gSl T gY).ow [.slice base m cap] xs A) (hz0 : Bz base cap)
    (hs1 : getK fr s fun sv => sv = .v (.slice base m cap)) (hx1 : getK fr x fun sv => sv = .v (.string str))
    (hsT : undOf Γ sT = some (.slice T)) (hxT : undOf Γ xT = some .string) (ht : tyOf Γ T = some ti) (hsz : ti.size = flByte.size) (hz : lenIs ti.zero.cells.toList flByte.size = true)
    (hby : Nat.ble ti.bytes 65536 = true) (hlen : xs.length + str.data.toList.length ≤ 1073741824)
    (hk : ∀ base' cap' A', (gSl T gY).ow [.slice base' (xs ++ str.data.toList).length cap'] (xs ++ str.data.toList) A' → Bz base' cap' → putK n fr dst (.v (.slice base' (xs ++ str.data.toList).length cap')) fun fr => K ⟨fr, bl, setR R i A'⟩) :
    VCraw P E n ⟨dst, .call ⟨.builtin .append, #[s, x], #[sT, xT]⟩, ty, pos, after, guard⟩ ⟨fr, bl, R⟩ K := by
  have ho' := fl_ow ho
  have hm : m = xs.length := (by obtain ⟨_, _, _, _, e, _⟩ := ho'; cases e; rfl)
  subst hm
  have hbd : (xs.length + str.data.toList.length) * ti.bytes ≤ 140737488355328 := by
    have h1 := Nat.le_of_ble_eq_true hby
    have h2 := Nat.mul_le_mul hlen h1
    omega
  refine ⟨fun a w hr Q => ?_⟩
  obtain ⟨sv, g1, _, rfl⟩ := getK_sound hr hs1
  obtain ⟨xv, g2, _, rfl⟩ := getK_sound hr hx1
  obtain ⟨pre, post, e1, e2'⟩ := nthR_split hi
  have perm : ∀ C : Hp, (St.hall ⟨[], bl, pre ++ C :: post⟩).Perm (C ++ St.hall ⟨[], bl, pre ++ post⟩) := by
    intro C
    simp only [St.hall, List.flatten_append, List.flatten_cons]
    have := List.perm_append_comm (l₁ := List.map Blk.ent bl ++ pre.flatten) (l₂ := C)
    have := this.append_right post.flatten
    simpa only [List.append_assoc] using this
  subst e1
  have hsat : Sat E (A ++ St.hall ⟨[], bl, pre ++ post⟩) w := hr.sat.perm (perm A)
  obtain ⟨base', cap', A', w', h1, h2, h3⟩ := run_appendS (ty := ty) hΓ (undOf_ok hΓ hsT) (undOf_ok hΓ hxT) ht hsz (lenIs_spec hz) hsat ho' (by omega) hbd
  have hr' : Rel E n ⟨fr, bl, setR (pre ++ A :: post) i A'⟩ a w' := by
    rw [e2']
    exact hr.ids rfl (h3.perm (perm A').symm)
  have hBz : Bz base' cap' := by
    by_cases hf : xs.length + str.data.toList.length ≤ cap
    · obtain ⟨rfl, rfl⟩ := h2.2 hf; exact hz0
    exact .inr (ow_room h2.1 (by rw [List.length_append]; omega))
  have e3 : (xs ++ str.data.toList).length = xs.length + str.data.toList.length := List.length_append
  rw [e3] at hk
  refine wp_value (s := .v _) (v := .slice base' (xs.length + str.data.toList.length) cap') ?_ hr' rfl trivial (hk base' cap' A' (by have := ow_fl (mk := fun k => UInt8.ofNat (k % 256).toNat) (sz := fun _ => 0) h2.1; exact this) hBz)
  simp only [execOp, resolve, invoke, builtin, Sem.run_bind, Sem.run_pure, Result.andThen_ok]
  rw [show (#[s, x] : Array Operand).map a.eval = #[a.eval s, a.eval x] from by simp, g1, g2]
  simp only [SV.den]
  rw [h1]; rfl
/-- append of one byte; what is kept of the room -/
theorem append_byte (hΓ : TyOk P Γ) {dst : Option Nat} {s x : Operand} {sT xT e2 T ty : TypeId} {pos : String} {after : Array Edge} {guard : Option (Nat × Bool)} {fr : Fr} {bl : List Blk} {R : List Hp} {K : St → Prop} {ti : TI}
    (i : Nat) {A : Hp} {base : Option Addr} {xb m cap : Nat} {xs : List UInt8} {y : UInt8} {T' : TypeId} (hi : nthR R i = some A) (ho : (gSl T gY).ow [.slice base m cap] xs A) (hz0 : Bz base cap)
    (hlit : [(xb, Obj.cells ⟨[.int .u8 y.toNat]⟩ T')] ∈ R)
    (hs1 : getK fr s fun sv => sv = .v (.slice base m cap)) (hx1 : getK fr x fun sv => sv = .v (.slice (some ⟨xb, 0, none⟩) 1 1))
    (hsT : undOf Γ sT = some (.slice T)) (hxT : undOf Γ xT = some (.slice e2)) (ht : tyOf Γ T = some ti) (hsz : ti.size = flByte.size) (hz : lenIs ti.zero.cells.toList flByte.size = true)
    (hby : Nat.ble ti.bytes 65536 = true) (hlen : xs.length + 1 ≤ 1073741824)
    (hk : ∀ base' cap' A', (gSl T gY).ow [.slice base' (xs ++ [y]).length cap'] (xs ++ [y]) A' → Bz base' cap' → putK n fr dst (.v (.slice base' (xs ++ [y]).length cap')) fun fr => K ⟨fr, bl, setR R i A'⟩) :
    VCraw P E n ⟨dst, .call ⟨.builtin .append, #[s, x], #[sT, xT]⟩, ty, pos, after, guard⟩ ⟨fr, bl, R⟩ K := by
  have ho' := fl_ow ho
  have hm : m = xs.length := (by obtain ⟨_, _, _, _, e, _⟩ := ho'; cases e; rfl)
  subst hm
  have hmem : (xb, Obj.cells ⟨[.int .u8 y.toNat]⟩ T') ∈ St.hall ⟨[], bl, R⟩ := by
    refine List.mem_append_right _ (List.mem_flatten.2 ⟨_, hlit, List.mem_singleton.2 rfl⟩)
  refine append_ow (f := flByte) hΓ i hi ho' (lit_rd (f := flByte) (y := y) hmem rfl trivial) (fun _ _ => trivial) hs1 hx1 hsT hxT ht hsz hz hby hlen ?_
  intro base' cap' A' h1 h2
  have hBz : Bz base' cap' := by
    by_cases hf : xs.length + [y].length ≤ cap
    · obtain ⟨rfl, rfl⟩ := h2 hf; exact hz0
    exact .inr (ow_room h1 (by rw [List.length_append]; simp))
  have e3 : (xs ++ [y]).length = xs.length + [y].length := List.length_append
  rw [e3] at hk
  exact hk base' cap' A' (ow_fl h1) hBz
/-- unsafe.SliceData -/
theorem sliceData {dst : Option Nat} {x : Operand} {tys : Array TypeId} {ty : TypeId} {pos : String} {after : Array Edge} {guard : Option (Nat × Bool)} {fr : Fr} {bl : List Blk} {R : List Hp} {K : St → Prop}
    {base : Option Addr} {m cap : Nat} (hx1 : getK fr x fun sv => sv = .v (.slice base m cap)) (hz : Bz base cap)
    (hk : putK n fr dst (.v (.pointer base)) fun fr => K ⟨fr, bl, R⟩) : VCraw P E n ⟨dst, .call ⟨.builtin .unsafeSliceData, #[x], tys⟩, ty, pos, after, guard⟩ ⟨fr, bl, R⟩ K := by
  refine ⟨fun a w hr Q => ?_⟩
  obtain ⟨sv, g1, _, rfl⟩ := getK_sound hr hx1
  have key : (Builtin.unsafeSliceData_ tys ty #[.slice base m cap]).run P w = .ok (.pointer base) w := by
    cases base with
    | none => rfl
    | some ad =>
      rcases hz with ⟨h, _⟩ | h
      · cases h
      exact Lib.run_unsafeSliceData_row w tys ty ad m cap h
  refine wp_value (s := .v _) (v := .pointer base) ?_ hr rfl trivial hk
  simp only [execOp, resolve, invoke, builtin, Sem.run_bind, Sem.run_pure, Result.andThen_ok]
  rw [show (#[x] : Array Operand).map a.eval = #[a.eval x] from by simp, g1]
  simp only [SV.den]
  rw [key]; rfl
theorem Sat.dropAt {A B : Hp} {w w' : World} {g : Nat} (h : Sat E (A ++ B) w) (hg : ∀ x, (g, x) ∉ B) (ho : w'.os = w.os) (hu : w'.output = w.output) (ht : w'.tape = w.tape) (hn : ∀ i, i ≠ g → w'.heap[i]? = w.heap[i]?) (hd : w.drawn ≤ w'.drawn) : Sat E B w' := by
  refine ⟨ho.trans h.os, hu.trans h.out, ht.trans h.tape, fun b o hm => ?_, ?_, Nat.le_trans h.dr hd⟩
  · rw [hn b (fun e => hg o (e ▸ hm))]; exact h.mem b o (List.mem_append_right _ hm)
  have := h.nodup; rw [List.map_append, List.nodup_append] at this; exact this.2.1
/-- unsafe.String over what a slice of bytes owns: the bytes are given up -/
theorem unsafeStr (hΓ : TyOk P Γ) {dst : Option Nat} {x l : Operand} {pt it T ty : TypeId} {pos : String} {after : Array Edge} {guard : Option (Nat × Bool)} {fr : Fr} {bl : List Blk} {R : List Hp} {K : St → Prop}
    (i : Nat) {A : Hp} {base : Option Addr} {m cap : Nat} {xs : List UInt8} (hi : nthR R i = some A) (ho : (gSl T gY).ow [.slice base m cap] xs A)
    (hx1 : getK fr x fun sv => sv = .v (.pointer base)) (hl1 : getK fr l fun sv => sv = .v (.int .i64 m))
    (hp : undOf Γ pt = some (.pointer T)) (hc : P.cellsOf T = 1)
    (hk : putK n fr dst (.v (.string ⟨xs.toArray⟩)) fun fr => K ⟨fr, bl, setR R i []⟩) : VCraw P E n ⟨dst, .call ⟨.builtin .unsafeString, #[x, l], #[pt, it]⟩, ty, pos, after, guard⟩ ⟨fr, bl, R⟩ K := by
  have ho' := fl_ow ho
  refine ⟨fun a w hr Q => ?_⟩
  obtain ⟨sv, g1, _, rfl⟩ := getK_sound hr hx1
  obtain ⟨lv, g2, _, rfl⟩ := getK_sound hr hl1
  obtain ⟨pre, post, e1, e2'⟩ := nthR_split hi
  have perm : ∀ C : Hp, (St.hall ⟨[], bl, pre ++ C :: post⟩).Perm (C ++ St.hall ⟨[], bl, pre ++ post⟩) := by
    intro C
    simp only [St.hall, List.flatten_append, List.flatten_cons]
    have := List.perm_append_comm (l₁ := List.map Blk.ent bl ++ pre.flatten) (l₂ := C)
    have := this.append_right post.flatten
    simpa only [List.append_assoc] using this
  subst e1
  have hsat : Sat E (A ++ St.hall ⟨[], bl, pre ++ post⟩) w := hr.sat.perm (perm A)
  have key : ∃ w', (Builtin.unsafeString_ #[pt, it] ty #[.pointer base, .int .i64 m]).run P w = .ok (.string ⟨xs.toArray⟩) w' ∧ Sat E (St.hall ⟨[], bl, pre ++ post⟩) w' := by
    obtain ⟨_, hlen, base0, cap0, e0, h2⟩ := ho'
    cases e0
    cases xs with
    | nil =>
      refine ⟨w, Lib.run_unsafeString_none w pt it ty base, ?_⟩
      exact (hsat.perm List.perm_append_comm).drop
    | cons x0 r =>
      rcases h2 with ⟨_, h7, _⟩ | ⟨b, sp, rfl, rfl, h3, h4⟩
      · cases h7
      have hmem : (b, Obj.cells ⟨(x0 :: r).flatMap flByte.enc ++ sp⟩ T) ∈ ([(b, Obj.cells ⟨(x0 :: r).flatMap flByte.enc ++ sp⟩ T)] : Hp) ++ St.hall ⟨[], bl, pre ++ post⟩ := List.mem_append_left _ (List.mem_singleton.2 rfl)
      have hheap := hsat.mem _ _ hmem
      have hfl := flat_length flByte (x0 :: r)
      have e5 : flByte.size = 1 := rfl
      rw [e5, Nat.mul_one] at hfl
      refine ⟨w.freeze ⟨b, 0, none⟩ (x0 :: r).length, ?_, ?_⟩
      · refine Lib.run_unsafeString_row w pt it ty T (undOf_ok hΓ hp) hc b ((x0 :: r).flatMap flByte.enc ++ sp).length ?_ (x0 :: r) (by simp) ?_ hlen ?_
        · simp [World.shape?, hheap]
        · rw [List.length_append, hfl]; omega
        intro j x hx
        rw [addr_add, Nat.zero_add, hsat.cell hmem]
        have hj : j < (x0 :: r).length := by
          rcases Nat.lt_or_ge j (x0 :: r).length with h | h
          · exact h
          rw [List.getElem?_eq_none h] at hx; cases hx
        rw [List.getElem?_eq_getElem hj] at hx
        cases hx
        have := flat_get flByte (x0 :: r) j 0 hj (by show 0 < 1; omega)
        rw [e5, Nat.mul_one, Nat.add_zero] at this
        simp only [List.getElem?_toArray]
        rw [List.getElem?_append_left (by rw [hfl]; exact hj), this]
        rfl
      have hnd := hsat.nodup
      refine Sat.dropAt (g := b) hsat ?_ ?_ ?_ ?_ ?_ (by unfold World.freeze; split <;> exact Nat.le_refl _)
      · intro x hx
        rw [List.map_append, List.nodup_append] at hnd
        exact hnd.2.2 b (by simp) b (List.mem_map.2 ⟨_, hx, rfl⟩) rfl
      · unfold World.freeze; split <;> rfl
      · unfold World.freeze; split <;> rfl
      · unfold World.freeze; split <;> rfl
      intro i hne
      unfold World.freeze
      split
      · rfl
      simp only [Array.getElem?_modify]
      rw [if_neg (fun e => hne e.symm)]
  obtain ⟨w', h1, h2⟩ := key
  have hr' : Rel E n ⟨fr, bl, setR (pre ++ A :: post) i []⟩ a w' := by
    rw [e2']
    exact hr.ids rfl (h2.perm (perm []).symm)
  refine wp_value (s := .v _) (v := .string ⟨xs.toArray⟩) ?_ hr' rfl trivial hk
  simp only [execOp, resolve, invoke, builtin, Sem.run_bind, Sem.run_pure, Result.andThen_ok]
  rw [show (#[x, l] : Array Operand).map a.eval = #[a.eval x, a.eval l] from by simp, g1, g2]
  simp only [SV.den]
  rw [h1]; rfl
theorem chooseL {β : Type} {P : Nat → β → Prop} : ∀ (n : Nat), (∀ i, i < n → ∃ r, P i r) → ∃ rs : List β, rs.length = n ∧ ∀ i (h : i < rs.length), P i rs[i]
  | 0, _ => ⟨[], rfl, fun i h => by simp at h⟩
  | n + 1, h => by
    obtain ⟨rs, h1, h2⟩ := chooseL n (fun i hi => h i (by omega))
    obtain ⟨r, hr⟩ := h n (by omega)
    refine ⟨rs ++ [r], by simp [h1], fun i hi => ?_⟩
    by_cases hlt : i < rs.length
    · rw [List.getElem_append_left hlt]; exact h2 i hlt
    have : i = n := by simp at hi; omega
    subst this
    rw [List.getElem_append_right (by omega)]
    simp [h1, hr]
/-- elements that own nothing -/
def Plain {α : Type} (g : Gt α) : Prop := ∀ {H : Hp} {l : List Value} {x : α}, g.rd H l x → g.ow l x []
theorem fl_plain {α : Type} {f : Fl α} {mk : Int → α} {sz : α → Nat} : Plain (f.gt mk sz) := fun h => ⟨h.1, h.2, rfl⟩
theorem OwL.of {α : Type} {g : Gt α} : ∀ (ls : List (RawC g.size)) (xs : List α), ls.length = xs.length → (∀ i (h1 : i < ls.length) (h2 : i < xs.length), g.ow (ls[i]).1 xs[i] []) → OwL g ls xs (List.replicate xs.length [])
  | [], [], _, _ => .nil
  | l :: ls, x :: xs, h, hp => by
    refine .cons (hp 0 (by simp) (by simp)) (OwL.of ls xs (by simpa using h) fun i h1 h2 => ?_)
    exact hp (i + 1) (by simpa using h1) (by simpa using h2)
  | [], _ :: _, h, _ => by simp at h
  | _ :: _, [], h, _ => by simp at h
theorem rd_raws {α : Type} {g : Gt α} (hpl : Plain g) {H : Hp} {xb : Option Addr} {mx xc : Nat} {ys : List α} (hx : (rpSl g.toRp).rd H [.slice xb mx xc] ys) :
    ∃ rs : List (RawC g.size), (rpSl (flRaw g.size g.pos).rp).rd H [.slice xb mx xc] rs ∧ OwL g rs ys (List.replicate ys.length []) ∧ rs.length = ys.length := by
  obtain ⟨base, cap, e, h1, h2⟩ := hx
  cases e
  have h3 : ∀ i, i < ys.length → ∃ r : RawC g.size, (∃ b o, xb = some ⟨b, o, none⟩ ∧ RdCells H b (o + i * g.size) g.size r.1) ∧ ∃ h : i < ys.length, g.ow r.1 ys[i] [] := by
    intro i hi
    obtain ⟨b, o, l', h4, h5, h6⟩ := h2 i hi
    exact ⟨⟨l', raw_of h6⟩, ⟨b, o, h4, h5⟩, hi, hpl h6⟩
  obtain ⟨rs, h7, h8⟩ := chooseL ys.length h3
  refine ⟨rs, ⟨xb, xc, by rw [h7], ⟨by rw [h7]; exact h1.1, by rw [h7]; exact h1.2⟩, fun i hi => ?_⟩, OwL.of rs ys h7 fun i hi1 hi2 => ?_, h7⟩
  · obtain ⟨⟨b, o, h9, h10⟩, _⟩ := h8 i hi
    exact ⟨b, o, (rs[i]).1, h9, h10, rfl, trivial⟩
  obtain ⟨_, _, h11⟩ := h8 i hi1
  exact h11
/-- plain elements that lie elsewhere are appended -/
theorem append_all (hΓ : TyOk P Γ) {α : Type} {g : Gt α} (hpl : Plain g) {dst : Option Nat} {s x : Operand} {sT xT e2 T ty : TypeId} {pos : String} {after : Array Edge} {guard : Option (Nat × Bool)} {fr : Fr} {bl : List Blk} {R : List Hp} {K : St → Prop} {ti : TI}
    (A : Hp) (Rr : List Hp) {base xb : Option Addr} {m cap mx xc : Nat} {xs ys : List α} (hR : RLe R (A :: Rr)) (ho : (gSl T g).ow [.slice base m cap] xs A) (hx : (rpSl g.toRp).rd (St.hall ⟨[], bl, A :: Rr⟩) [.slice xb mx xc] ys)
    (hs1 : getK fr s fun sv => sv = .v (.slice base m cap)) (hx1 : getK fr x fun sv => sv = .v (.slice xb mx xc))
    (hsT : undOf Γ sT = some (.slice T)) (hxT : undOf Γ xT = some (.slice e2)) (ht : tyOf Γ T = some ti) (hsz : ti.size = g.size) (hz : lenIs ti.zero.cells.toList g.size = true)
    (hby : Nat.ble ti.bytes 65536 = true) (hlen : xs.length + ys.length ≤ 1073741824)
    (hk : ∀ base' cap' A', (gSl T g).ow [.slice base' (xs ++ ys).length cap'] (xs ++ ys) A' → putK n fr dst (.v (.slice base' (xs ++ ys).length cap')) fun fr => K ⟨fr, bl, A' :: Rr⟩) :
    VCraw P E n ⟨dst, .call ⟨.builtin .append, #[s, x], #[sT, xT]⟩, ty, pos, after, guard⟩ ⟨fr, bl, R⟩ K := by
  have e0 : (xs ++ ys).length = xs.length + ys.length := List.length_append
  simp only [e0] at hk
  obtain ⟨v, ls, A0, As, e, ho, hp, hl⟩ := ho
  cases e
  obtain ⟨e1, e2'⟩ := hl.len
  have hm : m = ls.length := (by obtain ⟨_, _, _, _, e, _⟩ := ho; cases e; rfl)
  subst hm
  obtain ⟨rs, hrs, hol, hrl⟩ := rd_raws hpl hx
  obtain ⟨L, hL⟩ := hR
  have hperm : R.flatten.Perm (A0 ++ (As.flatten ++ (Rr.flatten ++ L))) := by
    refine hL.trans ?_
    simp only [List.flatten_cons]
    have := hp.append_right (Rr.flatten ++ L)
    simpa only [List.append_assoc] using this
  refine VCraw.conv (R2 := [A0, As.flatten ++ (Rr.flatten ++ L)]) ⟨[], by simpa using hperm⟩ ?_
  have hsub : ∀ p ∈ St.hall ⟨[], bl, A :: Rr⟩, p ∈ St.hall ⟨[], bl, [A0, As.flatten ++ (Rr.flatten ++ L)]⟩ := by
    intro p hp'
    simp only [St.hall, List.flatten_cons, List.flatten_nil, List.append_nil] at hp' ⊢
    rcases List.mem_append.1 hp' with h | h
    · exact List.mem_append_left _ h
    refine List.mem_append_right _ ?_
    rcases List.mem_append.1 h with h | h
    · have := hp.mem_iff.1 h
      rcases List.mem_append.1 this with h2 | h2
      · exact List.mem_append_left _ h2
      exact List.mem_append_right _ (List.mem_append_left _ h2)
    exact List.mem_append_right _ (List.mem_append_right _ (List.mem_append_left _ h))
  refine append_ow (f := flRaw g.size g.pos) hΓ 0 rfl ho ((rpSl (flRaw g.size g.pos).rp).mono hsub hrs) (fun _ _ => trivial) hs1 hx1 hsT hxT ht hsz hz hby (by rw [e1, hrl]; exact hlen) ?_
  intro base' cap' A' ho' _
  have h3 : (gSl T g).ow [.slice base' (xs.length + ys.length) cap'] (xs ++ ys) (A' ++ (As ++ List.replicate ys.length []).flatten) := by
    refine ⟨_, ls ++ rs, A', As ++ List.replicate ys.length [], rfl, ?_, .refl _, hl.append hol⟩
    rw [← e1, ← hrl]; exact ho'
  have h4 := hk base' cap' _ h3
  rw [e1, hrl]
  refine putK_mono h4 fun fr' hK => ⟨_, ?_, hK⟩
  refine ⟨L, ?_⟩
  simp only [setR, List.flatten_cons, List.flatten_nil, List.append_nil, List.flatten_append]
  have : (List.replicate ys.length ([] : Hp)).flatten = [] := by simp
  rw [this]
  simp only [List.append_assoc, List.append_nil]
  exact .refl _
theorem plain_pair {α β : Type} {g : Gt α} {h : Gt β} (hg : Plain g) (hh : Plain h) : Plain (SX.gPair g h) := by
  rintro H l x ⟨l1, l2, rfl, h1, h2⟩
  exact ⟨l1, l2, [], [], rfl, .refl _, hg h1, hh h2⟩
theorem plain_iso {α β : Type} {g : Gt α} {f : β → α} {f' : α → β} (hg : Plain g) : Plain (gIso g f f') := fun h => hg h
theorem nthR_mem : ∀ {R : List Hp} {i : Nat} {A : Hp}, nthR R i = some A → ∀ p ∈ A, p ∈ R.flatten := by
  intro R i A h p hp
  obtain ⟨pre, post, rfl, -⟩ := nthR_split h
  simp only [List.flatten_append, List.flatten_cons, List.mem_append]
  exact .inr (.inl hp)
/-- the same, the elements read in heaplet i -/
theorem append_allN (hΓ : TyOk P Γ) {α : Type} {g : Gt α} (hpl : Plain g) {dst : Option Nat} {s x : Operand} {sT xT e2 T ty : TypeId} {pos : String} {after : Array Edge} {guard : Option (Nat × Bool)} {fr : Fr} {bl : List Blk} {R : List Hp} {K : St → Prop} {ti : TI}
    (A : Hp) (Rr : List Hp) (i : Nat) {H : Hp} {base xb : Option Addr} {m cap mx xc : Nat} {xs ys : List α} (hR : RLe R (A :: Rr)) (ho : (gSl T g).ow [.slice base m cap] xs A) (hi : nthR Rr i = some H) (hx : (gSl T g).rd H [.slice xb mx xc] ys)
    (hs1 : getK fr s fun sv => sv = .v (.slice base m cap)) (hx1 : getK fr x fun sv => sv = .v (.slice xb mx xc))
    (hsT : undOf Γ sT = some (.slice T)) (hxT : undOf Γ xT = some (.slice e2)) (ht : tyOf Γ T = some ti) (hsz : ti.size = g.size) (hz : lenIs ti.zero.cells.toList g.size = true)
    (hby : Nat.ble ti.bytes 65536 = true) (hlen : xs.length + ys.length ≤ 1073741824)
    (hk : ∀ base' cap' A', (gSl T g).ow [.slice base' (xs ++ ys).length cap'] (xs ++ ys) A' → putK n fr dst (.v (.slice base' (xs ++ ys).length cap')) fun fr => K ⟨fr, bl, A' :: Rr⟩) :
    VCraw P E n ⟨dst, .call ⟨.builtin .append, #[s, x], #[sT, xT]⟩, ty, pos, after, guard⟩ ⟨fr, bl, R⟩ K :=
  append_all hΓ hpl A Rr hR ho ((gSl T g).mono (fun p hp => by
    simp only [St.hall, List.flatten_cons, List.mem_append]
    have := nthR_mem hi p hp
    simp only [this, or_true]) hx) hs1 hx1 hsT hxT ht hsz hz hby hlen hk
end
end Go.SX

namespace Go.SX
section
variable {P : Program} {E : World} {Γ : Ty} {n : Nat} {α : Type} {f : Fl α}
theorem allOne_flat (f : Fl α) : ∀ l : List α, allOne (l.flatMap f.enc) = true := by
  intro l
  induction l with
  | nil => rfl
  | cons x r ih =>
    rw [List.flatMap_cons]
    exact allOne_append _ _ (f.one x) ih
theorem rd_pre {H : Hp} {b : Option Addr} {k c : Nat} {ys : List α} (h : (rpSl f.rp).rd H [.slice b k c] ys) (q : Nat) (hq : q ≤ k) : (rpSl f.rp).rd H [.slice b q c] (ys.take q) := by
  obtain ⟨b', c', e, h1, h2⟩ := h
  cases e
  refine ⟨b, c, by rw [List.length_take, Nat.min_eq_left hq], ⟨by rw [List.length_take]; omega, by rw [List.length_take]; omega⟩, fun i hi => ?_⟩
  rw [List.length_take] at hi
  obtain ⟨b', o, l', h3, h4, h5⟩ := h2 i (by omega)
  exact ⟨b', o, l', h3, h4, by rw [List.getElem_take]; exact h5⟩
theorem first_len {size q : Nat} {b : Option Addr} {k k' c c' : Nat} : Builtin.firstCells size q (.slice b k c) = Builtin.firstCells size q (.slice b k' c') := by cases b <;> rfl
/-- copy into a part of an owned slice -/
theorem copy_ow (hΓ : TyOk P Γ) {dst : Option Nat} {d s : Operand} {dT sT e ty : TypeId} {pos : String} {after : Array Edge} {guard : Option (Nat × Bool)} {fr : Fr} {bl : List Blk} {R : List Hp} {K : St → Prop} {ti : TI}
    (i : Nat) {A : Hp} {base b2 : Option Addr} {m cap l dl dc k c2 : Nat} {xs ys : List α} (hi : nthR R i = some A) (ho : Ow f e (.slice base m cap) xs A)
    (hd1 : getK fr d fun sv => sv = .v (.slice (subBase cap l base f.size) dl dc)) (hs1 : getK fr s fun sv => sv = .v (.slice b2 k c2))
    (hr2 : (rpSl f.rp).rd (St.hall ⟨[], bl, R⟩) [.slice b2 k c2] ys) (hy : ∀ y ∈ ys, f.wf y) (hl : l + dl ≤ m)
    (hsT : undOf Γ dT = some (.slice e)) (ht : tyOf Γ e = some ti) (hsz : ti.size = f.size)
    (hk : ∀ A', Ow f e (.slice base m cap) (xs.take l ++ (ys.take (min k dl) ++ xs.drop (l + min k dl))) A' → putK n fr dst (.v (.int .i64 ((min k dl : Nat) : Int))) fun fr => K ⟨fr, bl, setR R i A'⟩) :
    VCraw P E n ⟨dst, .call ⟨.builtin .copy, #[d, s], #[dT, sT]⟩, ty, pos, after, guard⟩ ⟨fr, bl, R⟩ K := by
  refine ⟨fun a w hr Q => ?_⟩
  obtain ⟨sv, g1, _, rfl⟩ := getK_sound hr hd1
  obtain ⟨sv, g2, _, rfl⟩ := getK_sound hr hs1
  obtain ⟨pre, post, e1, e2'⟩ := nthR_split hi
  have perm : ∀ C : Hp, (St.hall ⟨[], bl, pre ++ C :: post⟩).Perm (C ++ St.hall ⟨[], bl, pre ++ post⟩) := by
    intro C
    simp only [St.hall, List.flatten_append, List.flatten_cons]
    have := List.perm_append_comm (l₁ := List.map Blk.ent bl ++ pre.flatten) (l₂ := C)
    have := this.append_right post.flatten
    simpa only [List.append_assoc] using this
  have hk2 : k = ys.length := by obtain ⟨_, _, e, _⟩ := hr2; cases e; rfl
  have hpre := rd_pre hr2 (min k dl) (Nat.min_le_left _ _)
  have hrow := (rd_row (f := f) hpre (P := P) hr.sat).2
  subst e1
  have hsat : Sat E (A ++ St.hall ⟨[], bl, pre ++ post⟩) w := hr.sat.perm (perm A)
  have key : ∃ A' w', (Builtin.copy_ #[dT, sT] ty #[.slice (if cap = l then base else base.map (·.add (l * f.size))) dl dc, .slice b2 k c2]).run P w = .ok (.int .i64 ((min k dl : Nat) : Int)) w' ∧ Ow f e (.slice base m cap) (xs.take l ++ (ys.take (min k dl) ++ xs.drop (l + min k dl))) A' ∧ Sat E (A' ++ St.hall ⟨[], bl, pre ++ post⟩) w' := by
    have hu := undOf_ok hΓ hsT
    obtain ⟨hw, hlen, base0, cap0, e0, h2⟩ := ho
    cases e0
    have hwf : ∀ x ∈ xs.take l ++ (ys.take (min k dl) ++ xs.drop (l + min k dl)), f.wf x := by
      intro x hx
      rcases List.mem_append.1 hx with hx | hx
      · exact hw x (List.mem_of_mem_take hx)
      rcases List.mem_append.1 hx with hx | hx
      · exact hy x (List.mem_of_mem_take hx)
      exact hw x (List.mem_of_mem_drop hx)
    have hln : (xs.take l ++ (ys.take (min k dl) ++ xs.drop (l + min k dl))).length = xs.length := by
      simp only [List.length_append, List.length_take, List.length_drop]; omega
    unfold Builtin.copy_
    simp only [List.getElem?_toArray, List.getElem?_cons_zero, List.getElem?_cons_succ, Sem.run_bind, run_underlying hu, Result.andThen_ok, ty_size hΓ ht, hsz, Sem.run_pure, Builtin.lenOf]
    rw [show Nat.min k dl = min k dl from rfl]
    rw [first_len (k' := min k dl) (c' := c2), hrow]
    simp only [Result.andThen_ok]
    rcases h2 with ⟨rfl, rfl, rfl⟩ | ⟨b, sp, rfl, rfl, h3, h4⟩
    · have h0 : min k dl = 0 := by simp at hl; omega
      have hl0 : l = 0 := by simp at hl; omega
      refine ⟨[], w, ?_, ?_, hsat⟩
      · rw [h0, hl0]
        cases base with
        | none => rfl
        | some a => rfl
      rw [h0, hl0]
      exact ⟨fun x hx => (by simp at hx), by simp, base, 0, rfl, .inl ⟨rfl, rfl, rfl⟩⟩
    by_cases h0 : min k dl = 0
    · refine ⟨_, w, ?_, ?_, hsat⟩
      · rw [h0]
        generalize (if cap = l then some (Addr.mk b 0 none) else (some (Addr.mk b 0 none)).map (·.add (l * f.size))) = q
        cases q <;> rfl
      rw [h0]
      simp only [List.take_zero, List.nil_append, Nat.add_zero, List.take_append_drop]
      exact ⟨hw, hlen, _, _, rfl, .inr ⟨b, sp, rfl, rfl, h3, h4⟩⟩
    have hfl := flat_length f xs
    have hfy := flat_length f (ys.take (min k dl))
    rw [List.length_take, Nat.min_eq_left (show min k dl ≤ ys.length by omega)] at hfy
    have hm1 := Nat.mul_le_mul_right f.size (show l + min k dl ≤ xs.length by omega)
    have hm2 : (l + min k dl) * f.size = l * f.size + min k dl * f.size := Nat.add_mul _ _ _
    have hbound : l * f.size + ((ys.take (min k dl)).flatMap f.enc).length ≤ (xs.flatMap f.enc ++ sp).length := by
      rw [List.length_append, hfl, hfy]; omega
    obtain ⟨w', h5, h6⟩ := run_storeCells_wr (P := P) (A := []) (o := l * f.size) (l := (ys.take (min k dl)).flatMap f.enc) hsat hbound (allOne_flat f _)
    refine ⟨[(b, Obj.cells ⟨setAt (xs.flatMap f.enc ++ sp) (l * f.size) ((ys.take (min k dl)).flatMap f.enc)⟩ e)], w', ?_, ?_, h6⟩
    · rw [if_neg (by omega)]
      simp only [Option.map_some, addr_add, Nat.zero_add, Sem.run_bind, h5, Result.andThen_ok, Sem.run_pure]
      rfl
    refine ⟨hwf, by rw [hln]; exact hlen, some ⟨b, 0, none⟩, cap, by rw [hln], .inr ⟨b, sp, rfl, ?_, by rw [hln]; exact h3, by rw [hln]; exact h4⟩⟩
    have e3 : setAt (xs.flatMap f.enc ++ sp) (l * f.size) ((ys.take (min k dl)).flatMap f.enc) = (xs.take l ++ (ys.take (min k dl) ++ xs.drop (l + min k dl))).flatMap f.enc ++ sp := by
      have hx : xs = xs.take l ++ ((xs.drop l).take (min k dl) ++ xs.drop (l + min k dl)) := by
        rw [← List.drop_drop, List.take_append_drop, List.take_append_drop]
      have h7 := flat_length f (xs.take l)
      rw [List.length_take, show min l xs.length = l by omega] at h7
      have h8 := flat_length f ((xs.drop l).take (min k dl))
      rw [List.length_take, List.length_drop, show min (min k dl) (xs.length - l) = min k dl by omega] at h8
      rw [setAt_eq _ _ _ hbound, hfy]
      conv => lhs; rw [hx]
      simp only [List.flatMap_append, List.append_assoc]
      have e9 : ∀ (A B C : List Value), List.drop (A ++ B).length (A ++ (B ++ C)) = C := fun A B C => by rw [← List.append_assoc, List.drop_left]
      rw [← h7, List.take_left, ← h8, ← List.length_append, e9]
    rw [← e3]
  obtain ⟨A', w', h1, h2, h3⟩ := key
  have hr' : Rel E n ⟨fr, bl, setR (pre ++ A :: post) i A'⟩ a w' := by
    rw [e2']
    exact hr.ids rfl (h3.perm (perm A').symm)
  refine wp_value (s := .v _) (v := .int .i64 ((min k dl : Nat) : Int)) ?_ hr' rfl trivial (hk A' h2)
  simp only [execOp, resolve, invoke, builtin, Sem.run_bind, Sem.run_pure, Result.andThen_ok]
  rw [show (#[d, s] : Array Operand).map a.eval = #[a.eval d, a.eval s] from by simp, g1, g2]
  simp only [SV.den, subBase_eq]
  rw [h1]; rfl
/-- copy into the end of an owned slice, and its spare room -/
theorem copy_end (hΓ : TyOk P Γ) {dst : Option Nat} {d s : Operand} {dT sT e ty : TypeId} {pos : String} {after : Array Edge} {guard : Option (Nat × Bool)} {fr : Fr} {bl : List Blk} {R : List Hp} {K : St → Prop} {ti : TI}
    (i : Nat) {A : Hp} {base b2 : Option Addr} {m cap l dl dc k c2 q : Nat} {xs ys : List α} (hi : nthR R i = some A) (ho : Ow f e (.slice base m cap) xs A)
    (hd1 : getK fr d fun sv => sv = .v (.slice (subBase cap l base f.size) dl dc)) (hs1 : getK fr s fun sv => sv = .v (.slice b2 k c2))
    (hr2 : (rpSl f.rp).rd (St.hall ⟨[], bl, R⟩) [.slice b2 q c2] ys) (hq : q = min k dl) (hy : ∀ y ∈ ys, f.wf y) (hl : l ≤ m) (hlc : l + q ≤ cap) (hmq : m ≤ l + q) (hq0 : 0 < q) (hlen2 : l + q ≤ 9223372036854775807)
    (hsT : undOf Γ dT = some (.slice e)) (ht : tyOf Γ e = some ti) (hsz : ti.size = f.size)
    (hk : ∀ A', Ow f e (.slice base (l + q) cap) (xs.take l ++ ys) A' → putK n fr dst (.v (.int .i64 ((min k dl : Nat) : Int))) fun fr => K ⟨fr, bl, setR R i A'⟩) :
    VCraw P E n ⟨dst, .call ⟨.builtin .copy, #[d, s], #[dT, sT]⟩, ty, pos, after, guard⟩ ⟨fr, bl, R⟩ K := by
  refine ⟨fun a w hr Q => ?_⟩
  obtain ⟨sv, g1, _, rfl⟩ := getK_sound hr hd1
  obtain ⟨sv, g2, _, rfl⟩ := getK_sound hr hs1
  obtain ⟨pre, post, e1, e2'⟩ := nthR_split hi
  have perm : ∀ C : Hp, (St.hall ⟨[], bl, pre ++ C :: post⟩).Perm (C ++ St.hall ⟨[], bl, pre ++ post⟩) := by
    intro C
    simp only [St.hall, List.flatten_append, List.flatten_cons]
    have := List.perm_append_comm (l₁ := List.map Blk.ent bl ++ pre.flatten) (l₂ := C)
    have := this.append_right post.flatten
    simpa only [List.append_assoc] using this
  obtain ⟨hk2, hrow⟩ := rd_row (f := f) hr2 (P := P) hr.sat
  subst hk2
  subst e1
  have hsat : Sat E (A ++ St.hall ⟨[], bl, pre ++ post⟩) w := hr.sat.perm (perm A)
  have key : ∃ A' w', (Builtin.copy_ #[dT, sT] ty #[.slice (if cap = l then base else base.map (·.add (l * f.size))) dl dc, .slice b2 k c2]).run P w = .ok (.int .i64 ((min k dl : Nat) : Int)) w' ∧ Ow f e (.slice base (l + ys.length) cap) (xs.take l ++ ys) A' ∧ Sat E (A' ++ St.hall ⟨[], bl, pre ++ post⟩) w' := by
    have hu := undOf_ok hΓ hsT
    obtain ⟨hw, hlen, base0, cap0, e0, h2⟩ := ho
    cases e0
    have hwf : ∀ x ∈ xs.take l ++ ys, f.wf x := by
      intro x hx
      rcases List.mem_append.1 hx with hx | hx
      · exact hw x (List.mem_of_mem_take hx)
      exact hy x hx
    have hln : (xs.take l ++ ys).length = l + ys.length := by
      simp only [List.length_append, List.length_take]; omega
    unfold Builtin.copy_
    simp only [List.getElem?_toArray, List.getElem?_cons_zero, List.getElem?_cons_succ, Sem.run_bind, run_underlying hu, Result.andThen_ok, ty_size hΓ ht, hsz, Sem.run_pure, Builtin.lenOf]
    rw [show Nat.min k dl = min k dl from rfl, ← hq]
    rw [first_len (k' := ys.length) (c' := c2), hrow]
    simp only [Result.andThen_ok]
    rcases h2 with ⟨rfl, rfl, rfl⟩ | ⟨b, sp, rfl, rfl, h3, h4⟩
    · omega
    have hfl := flat_length f xs
    have hfy := flat_length f ys
    have hfx := flat_length f (xs.take l)
    rw [List.length_take, show min l xs.length = l by omega] at hfx
    have hm1 := Nat.mul_le_mul_right f.size (show l + ys.length ≤ cap by omega)
    have hm2 : (l + ys.length) * f.size = l * f.size + ys.length * f.size := Nat.add_mul _ _ _
    have hm4 : xs.length * f.size + (cap - xs.length) * f.size = cap * f.size := by rw [← Nat.add_mul]; congr 1; omega
    have hm5 := Nat.mul_le_mul_right f.size (show xs.length ≤ l + ys.length by omega)
    have hm6 := Nat.mul_le_mul_right f.size (show l ≤ xs.length by omega)
    have hbound : l * f.size + (ys.flatMap f.enc).length ≤ (xs.flatMap f.enc ++ sp).length := by
      rw [List.length_append, hfl, hfy]; omega
    obtain ⟨w', h5, h6⟩ := run_storeCells_wr (P := P) (A := []) (o := l * f.size) (l := ys.flatMap f.enc) hsat hbound (allOne_flat f _)
    refine ⟨[(b, Obj.cells ⟨setAt (xs.flatMap f.enc ++ sp) (l * f.size) (ys.flatMap f.enc)⟩ e)], w', ?_, ?_, h6⟩
    · rw [if_neg (by omega)]
      simp only [Option.map_some, addr_add, Nat.zero_add, Sem.run_bind, h5, Result.andThen_ok, Sem.run_pure]
      rfl
    refine ⟨hwf, by rw [hln]; exact hlen2, some ⟨b, 0, none⟩, cap, by rw [hln], .inr ⟨b, (xs.flatMap f.enc ++ sp).drop (l * f.size + ys.length * f.size), rfl, ?_, by rw [hln]; omega, ?_⟩⟩
    · have e3 : setAt (xs.flatMap f.enc ++ sp) (l * f.size) (ys.flatMap f.enc) = (xs.take l ++ ys).flatMap f.enc ++ (xs.flatMap f.enc ++ sp).drop (l * f.size + ys.length * f.size) := by
        rw [setAt_eq _ _ _ hbound, hfy, List.flatMap_append]
        congr 2
        have : xs.flatMap f.enc = (xs.take l).flatMap f.enc ++ (xs.drop l).flatMap f.enc := by rw [← List.flatMap_append, List.take_append_drop]
        rw [this, List.append_assoc, ← hfx, List.take_left]
      rw [← e3]
    have hm7 : (cap - (l + ys.length)) * f.size = cap * f.size - (l + ys.length) * f.size := Nat.sub_mul _ _ _
    rw [hln, List.length_drop, List.length_append, hfl]
    omega
  obtain ⟨A', w', h1, h2, h3⟩ := key
  have hr' : Rel E n ⟨fr, bl, setR (pre ++ A :: post) i A'⟩ a w' := by
    rw [e2']
    exact hr.ids rfl (h3.perm (perm A').symm)
  refine wp_value (s := .v _) (v := .int .i64 ((min k dl : Nat) : Int)) ?_ hr' rfl trivial (hk A' h2)
  simp only [execOp, resolve, invoke, builtin, Sem.run_bind, Sem.run_pure, Result.andThen_ok]
  rw [show (#[d, s] : Array Operand).map a.eval = #[a.eval d, a.eval s] from by simp, g1, g2]
  simp only [SV.den, subBase_eq]
  rw [h1]; rfl
end
end Go.SX
namespace Go.SX
section
variable {P : Program} {E : World} {Γ : Ty} {n : Nat} {α : Type} {f : Fl α}
/-- the run of append of so many zeros, where they do not fit -/
theorem run_append_zeros (hΓ : TyOk P Γ) {sT xT e ty : TypeId} {ti : TI} {kn : IntKind} (hsT : P.underlying sT = some (.slice e)) (hxT : P.underlying xT = some (.int kn)) (ht : tyOf Γ e = some ti) (hsz : ti.size = f.size)
    {z : α} (hz : ti.zero.cells.toList = f.enc z) (hzw : f.wf z)
    {H : Hp} {w : World} {base : Option Addr} {m cap k : Nat} {xs : List α} (hs : Sat E H w) (hx : (rpSl f.rp).rd H [.slice base m cap] xs) (hw : ∀ x ∈ xs, f.wf x)
    (hk : 0 < k) (hfit : cap < m + k) (hlen : m + k ≤ 1073741824) (hby : ti.bytes ≤ 65536) :
    ∃ base' cap' A' w', (Builtin.append_ #[sT, xT] ty #[.slice base m cap, .int .i64 (k : Int)]).run P w = .ok (.slice base' (xs ++ List.replicate k z).length cap') w' ∧ Ow f e (.slice base' (xs ++ List.replicate k z).length cap') (xs ++ List.replicate k z) A' ∧ Sat E (A' ++ H) w' := by
  obtain ⟨hmx, hrow⟩ := rd_row (f := f) hx (P := P) hs
  subst hmx
  obtain ⟨i, hi, hib, _, _⟩ := ty_bytes hΓ ht
  have hwr : IntKind.i64.wrap (k : Int) = (k : Int) := wrap_ok (by unfold okI; omega)
  have hkb : k * ti.bytes ≤ 1073741824 * 65536 := Nat.mul_le_mul (by omega) hby
  have hcap : Builtin.nextslicecap (xs.length + k) cap * ti.bytes ≤ 281474976710656 := by
    have h7 := nextcap_le (xs.length + k) cap (by omega)
    have h8 := Nat.mul_le_mul h7 hby
    omega
  have hdrew : ∀ {H : Hp}, Sat E H w → Sat E H { w with drawn := w.drawn + 1 } := fun h => ⟨h.os, h.out, h.tape, h.mem, h.nodup, Nat.le_trans h.dr (Nat.le_succ _)⟩
  have hrow' := (rd_row (f := f) hx (P := P) (hdrew hs)).2
  have hmax : IntKind.i64.max = 9223372036854775807 := rfl
  have hkb' : ¬ ((k : Int) * (ti.bytes : Int) > 2 ^ 48) := by
    rw [← Int.natCast_mul]; omega
  have hneg : ¬ ((k : Int) < 0) := by omega
  have hns : ¬ (k * f.size = 0) := Nat.mul_ne_zero (by omega) (by have := f.pos; omega)
  have hfit' : ¬ (xs.length + k ≤ cap) := by omega
  have hif : ¬ (Builtin.nextslicecap (xs.length + k) cap * ti.bytes > 2 ^ 48) := by omega
  unfold Builtin.append_
  simp only [List.getElem?_toArray, List.getElem?_cons_zero, List.getElem?_cons_succ, Sem.run_bind, run_underlying hsT, run_underlying hxT, Result.andThen_ok, ty_size hΓ ht, hsz, Sem.run_pure, if_true, asInt, asIntOf, hwr, hneg, if_false, typeInfo, run_program, hi, hib, hkb', Int.toNat_natCast, hfit', Bool.not_true, Bool.false_eq_true, hns]
  rw [if_neg (by rw [hmax]; rintro ⟨h10, _⟩; omega)]
  simp only [Sem.run_bind, run_program, Result.andThen_ok, hi, Sem.run_pure, hib]
  rw [if_neg hif]
  simp only [Sem.run_bind, run_program, Result.andThen_ok, hi, Sem.run_pure, run_choose, Question.forced, Bool.false_eq_true, if_false, run_askRoom, hrow', ty_zero hΓ ht, newRow, run_newObj]
  have hq : xs.length + k ≤ (Question.appendCap (xs.length + k) cap e).cut (w.tape w.drawn (.appendCap (xs.length + k) cap e)) := by
    simp only [Question.cut]; omega
  generalize (Question.appendCap (xs.length + k) cap e).cut (w.tape w.drawn (.appendCap (xs.length + k) cap e)) = c at hq
  rw [zeroCells_eq, zeroCells_eq]
  have hlenz : (xs ++ List.replicate k z).length = xs.length + k := by simp
  have hzz : ∀ j, zeros j ti.zero.cells.toList = (List.replicate j z).flatMap f.enc := by
    intro j
    induction j with
    | zero => rfl
    | succ j ih => rw [zeros, ih, List.replicate_succ, List.flatMap_cons, hz]
  refine ⟨some ⟨w.heap.size, 0, none⟩, c, [(w.heap.size, Obj.cells ⟨(xs ++ List.replicate k z).flatMap f.enc ++ zeros (c - (xs.length + k)) ti.zero.cells.toList⟩ e)], _, by rw [hlenz], ?_, ?_⟩
  · refine ⟨?_, by rw [hlenz]; omega, some ⟨w.heap.size, 0, none⟩, c, rfl, .inr ⟨w.heap.size, _, rfl, rfl, by rw [hlenz]; exact hq, ?_⟩⟩
    · intro x hx
      rcases List.mem_append.1 hx with hx | hx
      · exact hw x hx
      rw [List.eq_of_mem_replicate hx]; exact hzw
    rw [zeros_length, hz, hlenz]
    refine Nat.le_of_eq (Eq.symm ?_)
    congr 1
    have := flat_length f [z]
    simpa using this
  have h11 := (hdrew hs).push (Obj.cells ⟨(xs ++ List.replicate k z).flatMap f.enc ++ zeros (c - (xs.length + k)) ti.zero.cells.toList⟩ e)
  have e1 : ((⟨xs.flatMap f.enc⟩ : Array Value) ++ (⟨zeros k ti.zero.cells.toList⟩ : Array Value) ++ (⟨zeros (c - (xs.length + k)) ti.zero.cells.toList⟩ : Array Value)) = ⟨(xs ++ List.replicate k z).flatMap f.enc ++ zeros (c - (xs.length + k)) ti.zero.cells.toList⟩ := by
    apply Array.ext'
    simp [hzz]
  rw [e1]
  exact h11
/-- so many zeros are appended, where they do not fit: a new row -/
theorem append_zeros (hΓ : TyOk P Γ) {dst : Option Nat} {s x : Operand} {sT xT e ty : TypeId} {pos : String} {after : Array Edge} {guard : Option (Nat × Bool)} {fr : Fr} {bl : List Blk} {R : List Hp} {K : St → Prop} {ti : TI} {kn : IntKind}
    {z : α} {base : Option Addr} {m cap k : Nat} {xs : List α}
    (hs1 : getK fr s fun sv => sv = .v (.slice base m cap)) (hx1 : getK fr x fun sv => sv = .v (.int .i64 (k : Int)))
    (hr2 : (rpSl f.rp).rd (St.hall ⟨[], bl, R⟩) [.slice base m cap] xs) (hw : ∀ x ∈ xs, f.wf x)
    (hsT : undOf Γ sT = some (.slice e)) (hxT : undOf Γ xT = some (.int kn)) (ht : tyOf Γ e = some ti) (hsz : ti.size = f.size) (hz : ti.zero.cells.toList = f.enc z) (hzw : f.wf z)
    (hby : Nat.ble ti.bytes 65536 = true) (hk0 : 0 < k) (hfit : cap < m + k) (hlen : m + k ≤ 1073741824)
    (hk : ∀ base' cap' A', Ow f e (.slice base' (xs ++ List.replicate k z).length cap') (xs ++ List.replicate k z) A' → putK n fr dst (.v (.slice base' (xs ++ List.replicate k z).length cap')) fun fr => K ⟨fr, bl, A' :: R⟩) :
    VCraw P E n ⟨dst, .call ⟨.builtin .append, #[s, x], #[sT, xT]⟩, ty, pos, after, guard⟩ ⟨fr, bl, R⟩ K := by
  refine ⟨fun a w hr Q => ?_⟩
  obtain ⟨sv, g1, _, rfl⟩ := getK_sound hr hs1
  obtain ⟨sv, g2, _, rfl⟩ := getK_sound hr hx1
  obtain ⟨base', cap', A', w', h1, h2, h3⟩ := run_append_zeros (E := E) (ty := ty) hΓ (undOf_ok hΓ hsT) (undOf_ok hΓ hxT) ht hsz hz hzw hr.sat hr2 hw hk0 hfit hlen (Nat.le_of_ble_eq_true hby)
  have hr' : Rel E n ⟨fr, bl, A' :: R⟩ a w' := by
    refine hr.ids rfl (h3.perm ?_)
    simp only [St.hall, List.flatten_cons]
    rw [← List.append_assoc, ← List.append_assoc]
    exact List.perm_append_comm.append_right _
  refine wp_value (s := .v _) (v := .slice base' (xs ++ List.replicate k z).length cap') ?_ hr' rfl trivial (hk _ _ A' h2)
  simp only [execOp, resolve, invoke, builtin, Sem.run_bind, Sem.run_pure, Result.andThen_ok]
  rw [show (#[s, x] : Array Operand).map a.eval = #[a.eval s, a.eval x] from by simp, g1, g2]
  simp only [SV.den]
  rw [h1]; rfl
/-- the model's entry for slices.overlaps, at two slices of two blocks -/
theorem call_overlaps {fi : FuncId} {fn : Func} {tS tR e : TypeId} {size : Nat} {bl : List Blk} {R : List Hp} {K : Value → List Blk → List Hp → Prop}
    (hf : P.funcs[fi]? = some fn) (hname : (fn.name == "runtime.NumGoroutine") = false) (hb : fn.body.isNone = true) (hn : Extern.findNext fn = none) (he : Extern.find fn = some (Extern.SlicesOverlaps.overlaps #[tS, tS] #[tR]))
    (ht : P.underlying tS = some (.slice e)) (hz : ∀ w, (Go.sizeOf e).run P w = .ok size w) {a b : Addr} {la ca lb cb : Nat} {c1 c2 : Array Value} {t1 t2 : TypeId} {H : Hp}
    (hsp : (St.hall ⟨[], bl, R⟩).Perm ((b.block, Obj.cells c2 t2) :: H)) (m1 : (a.block, Obj.cells c1 t1) ∈ H) (h0 : c2.size ≠ 0) (hk : K (.bool false) bl R) :
    VCcall P E fi [.slice (some a) la ca, .slice (some b) lb cb] ⟨[], bl, R⟩ K := by
  refine .ext fun w hs => ⟨.bool false, w, bl, R, ?_, hs, rfl, hk⟩
  have hs2 := hs.perm hsp
  have e1 := hs2.mem _ _ (List.mem_cons_of_mem _ m1)
  have e2 := hs2.mem _ _ (List.mem_cons_self ..)
  have hne : a.block ≠ b.block := by
    have h1 := hs2.nodup
    rw [List.map_cons, List.nodup_cons] at h1
    intro e
    exact h1.1 (List.mem_map.2 ⟨_, m1, e⟩)
  rw [run_callFunc_extern hf hname hb hn he, show (⟨[.slice (some a) la ca, .slice (some b) lb cb]⟩ : Array Value) = #[.slice (some a) la ca, .slice (some b) lb cb] from rfl,
    Lib.run_overlaps_apart w tS tR e ht size hz a b la ca lb cb hne t1 t2 c1.size c2.size (by simp [World.shape?, e1]) (by simp [World.shape?, e2]) h0 (by simp [World.frozen?, e1]) (by simp [World.frozen?, e1])]
  rfl
end
end Go.SX

namespace Go.Proofs.YtjgehblllhkdbaaGreat
open Go.SX Go.Proofs
def ty3 : TI := ⟨.int .i64, 1, 8, .int .i64 0⟩
theorem ty3_ok : ty3.ok Tryz.prog 3 := ⟨Tryz.underlying3, by kernel_rfl⟩
def ty4 : TI := ⟨.bool, 1, 1, .bool false⟩
theorem ty4_ok : ty4.ok Tryz.prog 4 := ⟨Tryz.underlying4, by kernel_rfl⟩
def ty9 : TI := ⟨.string, 1, 16, .string .empty⟩
theorem ty9_ok : ty9.ok Tryz.prog 9 := ⟨Tryz.underlying9, by kernel_rfl⟩
def ty5 : TI := ⟨.int .u8, 1, 1, .int .u8 0⟩
theorem ty5_ok : ty5.ok Tryz.prog 5 := ⟨Tryz.underlying5, by kernel_rfl⟩
def ty27 : TI := ⟨.slice 3, 1, 24, .slice none 0 0⟩
theorem ty27_ok : ty27.ok Tryz.prog 27 := ⟨Tryz.underlying27, by kernel_rfl⟩
def ty2 : TI := ⟨.int .i64, 1, 8, .int .i64 0⟩
theorem ty2_ok : ty2.ok Tryz.prog 2 := ⟨Tryz.underlying2, by kernel_rfl⟩
def ty12 : TI := ⟨.int .u64, 1, 8, .int .u64 0⟩
theorem ty12_ok : ty12.ok Tryz.prog 12 := ⟨Tryz.underlying12, by kernel_rfl⟩
def ty13 : TI := ⟨.struct [(0, 9), (1, 12)], 2, 24, .agg #[.string .empty, .int .u64 0]⟩
theorem ty13_ok : ty13.ok Tryz.prog 13 := ⟨⟨_, Tryz.underlying13, by kernel_rfl⟩, by kernel_rfl⟩
def ty21 : TI := ⟨.int .i32, 1, 4, .int .i32 0⟩
theorem ty21_ok : ty21.ok Tryz.prog 21 := ⟨Tryz.underlying21, by kernel_rfl⟩
def ty22 : TI := ⟨.slice 9, 1, 24, .slice none 0 0⟩
theorem ty22_ok : ty22.ok Tryz.prog 22 := ⟨Tryz.underlying22, by kernel_rfl⟩
def ty23 : TI := ⟨.slice 211, 1, 24, .slice none 0 0⟩
theorem ty23_ok : ty23.ok Tryz.prog 23 := ⟨Tryz.underlying23, by kernel_rfl⟩
def ty24 : TI := ⟨.slice 214, 1, 24, .slice none 0 0⟩
theorem ty24_ok : ty24.ok Tryz.prog 24 := ⟨Tryz.underlying24, by kernel_rfl⟩
def ty25 : TI := ⟨.struct [(0, 4), (1, 22), (2, 23), (3, 24)], 4, 80, .agg #[.bool false, .slice none 0 0, .slice none 0 0, .slice none 0 0]⟩
theorem ty25_ok : ty25.ok Tryz.prog 25 := ⟨⟨_, Tryz.underlying25, by kernel_rfl⟩, by kernel_rfl⟩
def ty26 : TI := ⟨.struct [(0, 4), (1, 22), (2, 23), (3, 24)], 4, 80, .agg #[.bool false, .slice none 0 0, .slice none 0 0, .slice none 0 0]⟩
theorem ty26_ok : ty26.ok Tryz.prog 26 := ⟨⟨_, Tryz.underlying26, by kernel_rfl⟩, by kernel_rfl⟩
def ty28 : TI := ⟨.slice 27, 1, 24, .slice none 0 0⟩
theorem ty28_ok : ty28.ok Tryz.prog 28 := ⟨Tryz.underlying28, by kernel_rfl⟩
def ty31 : TI := ⟨.slice 218, 1, 24, .slice none 0 0⟩
theorem ty31_ok : ty31.ok Tryz.prog 31 := ⟨Tryz.underlying31, by kernel_rfl⟩
def ty32 : TI := ⟨.struct [(0, 31)], 1, 24, .agg #[.slice none 0 0]⟩
theorem ty32_ok : ty32.ok Tryz.prog 32 := ⟨⟨_, Tryz.underlying32, by kernel_rfl⟩, by kernel_rfl⟩
def ty33 : TI := ⟨.struct [(0, 31)], 1, 24, .agg #[.slice none 0 0]⟩
theorem ty33_ok : ty33.ok Tryz.prog 33 := ⟨⟨_, Tryz.underlying33, by kernel_rfl⟩, by kernel_rfl⟩
def ty36 : TI := ⟨.slice 118, 1, 24, .slice none 0 0⟩
theorem ty36_ok : ty36.ok Tryz.prog 36 := ⟨Tryz.underlying36, by kernel_rfl⟩
def ty37 : TI := ⟨.slice 220, 1, 24, .slice none 0 0⟩
theorem ty37_ok : ty37.ok Tryz.prog 37 := ⟨Tryz.underlying37, by kernel_rfl⟩
def ty38 : TI := ⟨.struct [(0, 4), (1, 22), (2, 36), (3, 37)], 4, 80, .agg #[.bool false, .slice none 0 0, .slice none 0 0, .slice none 0 0]⟩
theorem ty38_ok : ty38.ok Tryz.prog 38 := ⟨⟨_, Tryz.underlying38, by kernel_rfl⟩, by kernel_rfl⟩
def ty39 : TI := ⟨.struct [(0, 4), (1, 22), (2, 36), (3, 37)], 4, 80, .agg #[.bool false, .slice none 0 0, .slice none 0 0, .slice none 0 0]⟩
theorem ty39_ok : ty39.ok Tryz.prog 39 := ⟨⟨_, Tryz.underlying39, by kernel_rfl⟩, by kernel_rfl⟩
def ty51 : TI := ⟨.slice 241, 1, 24, .slice none 0 0⟩
theorem ty51_ok : ty51.ok Tryz.prog 51 := ⟨Tryz.underlying51, by kernel_rfl⟩
def ty52 : TI := ⟨.slice 294, 1, 24, .slice none 0 0⟩
theorem ty52_ok : ty52.ok Tryz.prog 52 := ⟨Tryz.underlying52, by kernel_rfl⟩
def ty53 : TI := ⟨.struct [(0, 26), (4, 27), (5, 3), (6, 3), (7, 52)], 8, 144, .agg #[.bool false, .slice none 0 0, .slice none 0 0, .slice none 0 0, .slice none 0 0, .int .i64 0, .int .i64 0, .slice none 0 0]⟩
theorem ty53_ok : ty53.ok Tryz.prog 53 := ⟨⟨_, Tryz.underlying53, by kernel_rfl⟩, by kernel_rfl⟩
def ty54 : TI := ⟨.struct [(0, 26), (4, 27), (5, 3), (6, 3), (7, 52)], 8, 144, .agg #[.bool false, .slice none 0 0, .slice none 0 0, .slice none 0 0, .slice none 0 0, .int .i64 0, .int .i64 0, .slice none 0 0]⟩
theorem ty54_ok : ty54.ok Tryz.prog 54 := ⟨⟨_, Tryz.underlying54, by kernel_rfl⟩, by kernel_rfl⟩
def ty55 : TI := ⟨.slice 239, 1, 24, .slice none 0 0⟩
theorem ty55_ok : ty55.ok Tryz.prog 55 := ⟨Tryz.underlying55, by kernel_rfl⟩
def ty56 : TI := ⟨.struct [(0, 4), (1, 26), (5, 27), (6, 3), (7, 51), (8, 3), (9, 4), (10, 4), (11, 3), (12, 4), (13, 4), (14, 54), (22, 4), (23, 55)], 24, 352, .agg #[.bool false, .bool false, .slice none 0 0, .slice none 0 0, .slice none 0 0, .slice none 0 0, .int .i64 0, .slice none 0 0, .int .i64 0, .bool false, .bool false, .int .i64 0, .bool false, .bool false, .bool false, .slice none 0 0, .slice none 0 0, .slice none 0 0, .slice none 0 0, .int .i64 0, .int .i64 0, .slice none 0 0, .bool false, .slice none 0 0]⟩
theorem ty56_ok : ty56.ok Tryz.prog 56 := ⟨⟨_, Tryz.underlying56, by kernel_rfl⟩, by kernel_rfl⟩
def ty57 : TI := ⟨.struct [(0, 4), (1, 26), (5, 27), (6, 3), (7, 51), (8, 3), (9, 4), (10, 4), (11, 3), (12, 4), (13, 4), (14, 54), (22, 4), (23, 55)], 24, 352, .agg #[.bool false, .bool false, .slice none 0 0, .slice none 0 0, .slice none 0 0, .slice none 0 0, .int .i64 0, .slice none 0 0, .int .i64 0, .bool false, .bool false, .int .i64 0, .bool false, .bool false, .bool false, .slice none 0 0, .slice none 0 0, .slice none 0 0, .slice none 0 0, .int .i64 0, .int .i64 0, .slice none 0 0, .bool false, .slice none 0 0]⟩
theorem ty57_ok : ty57.ok Tryz.prog 57 := ⟨⟨_, Tryz.underlying57, by kernel_rfl⟩, by kernel_rfl⟩
def ty60 : TI := ⟨.slice 164, 1, 24, .slice none 0 0⟩
theorem ty60_ok : ty60.ok Tryz.prog 60 := ⟨Tryz.underlying60, by kernel_rfl⟩
def ty61 : TI := ⟨.slice 188, 1, 24, .slice none 0 0⟩
theorem ty61_ok : ty61.ok Tryz.prog 61 := ⟨Tryz.underlying61, by kernel_rfl⟩
def ty62 : TI := ⟨.struct [(0, 39), (4, 27), (5, 3), (6, 3), (7, 61)], 8, 144, .agg #[.bool false, .slice none 0 0, .slice none 0 0, .slice none 0 0, .slice none 0 0, .int .i64 0, .int .i64 0, .slice none 0 0]⟩
theorem ty62_ok : ty62.ok Tryz.prog 62 := ⟨⟨_, Tryz.underlying62, by kernel_rfl⟩, by kernel_rfl⟩
def ty63 : TI := ⟨.struct [(0, 39), (4, 27), (5, 3), (6, 3), (7, 61)], 8, 144, .agg #[.bool false, .slice none 0 0, .slice none 0 0, .slice none 0 0, .slice none 0 0, .int .i64 0, .int .i64 0, .slice none 0 0]⟩
theorem ty63_ok : ty63.ok Tryz.prog 63 := ⟨⟨_, Tryz.underlying63, by kernel_rfl⟩, by kernel_rfl⟩
def ty64 : TI := ⟨.slice 245, 1, 24, .slice none 0 0⟩
theorem ty64_ok : ty64.ok Tryz.prog 64 := ⟨Tryz.underlying64, by kernel_rfl⟩
def ty65 : TI := ⟨.struct [(0, 4), (1, 39), (5, 27), (6, 3), (7, 60), (8, 3), (9, 4), (10, 4), (11, 3), (12, 4), (13, 4), (14, 63), (22, 4), (23, 64)], 24, 352, .agg #[.bool false, .bool false, .slice none 0 0, .slice none 0 0, .slice none 0 0, .slice none 0 0, .int .i64 0, .slice none 0 0, .int .i64 0, .bool false, .bool false, .int .i64 0, .bool false, .bool false, .bool false, .slice none 0 0, .slice none 0 0, .slice none 0 0, .slice none 0 0, .int .i64 0, .int .i64 0, .slice none 0 0, .bool false, .slice none 0 0]⟩
theorem ty65_ok : ty65.ok Tryz.prog 65 := ⟨⟨_, Tryz.underlying65, by kernel_rfl⟩, by kernel_rfl⟩
def ty66 : TI := ⟨.struct [(0, 4), (1, 39), (5, 27), (6, 3), (7, 60), (8, 3), (9, 4), (10, 4), (11, 3), (12, 4), (13, 4), (14, 63), (22, 4), (23, 64)], 24, 352, .agg #[.bool false, .bool false, .slice none 0 0, .slice none 0 0, .slice none 0 0, .slice none 0 0, .int .i64 0, .slice none 0 0, .int .i64 0, .bool false, .bool false, .int .i64 0, .bool false, .bool false, .bool false, .slice none 0 0, .slice none 0 0, .slice none 0 0, .slice none 0 0, .int .i64 0, .int .i64 0, .slice none 0 0, .bool false, .slice none 0 0]⟩
theorem ty66_ok : ty66.ok Tryz.prog 66 := ⟨⟨_, Tryz.underlying66, by kernel_rfl⟩, by kernel_rfl⟩
def ty71 : TI := ⟨.slice 263, 1, 24, .slice none 0 0⟩
theorem ty71_ok : ty71.ok Tryz.prog 71 := ⟨Tryz.underlying71, by kernel_rfl⟩
def ty72 : TI := ⟨.slice 259, 1, 24, .slice none 0 0⟩
theorem ty72_ok : ty72.ok Tryz.prog 72 := ⟨Tryz.underlying72, by kernel_rfl⟩
def ty73 : TI := ⟨.struct [(0, 26), (4, 71), (5, 22), (6, 27), (7, 72)], 8, 176, .agg #[.bool false, .slice none 0 0, .slice none 0 0, .slice none 0 0, .slice none 0 0, .slice none 0 0, .slice none 0 0, .slice none 0 0]⟩
theorem ty73_ok : ty73.ok Tryz.prog 73 := ⟨⟨_, Tryz.underlying73, by kernel_rfl⟩, by kernel_rfl⟩
def ty74 : TI := ⟨.struct [(0, 26), (4, 71), (5, 22), (6, 27), (7, 72)], 8, 176, .agg #[.bool false, .slice none 0 0, .slice none 0 0, .slice none 0 0, .slice none 0 0, .slice none 0 0, .slice none 0 0, .slice none 0 0]⟩
theorem ty74_ok : ty74.ok Tryz.prog 74 := ⟨⟨_, Tryz.underlying74, by kernel_rfl⟩, by kernel_rfl⟩
def ty75 : TI := ⟨.slice 280, 1, 24, .slice none 0 0⟩
theorem ty75_ok : ty75.ok Tryz.prog 75 := ⟨Tryz.underlying75, by kernel_rfl⟩
def ty76 : TI := ⟨.struct [(0, 3), (1, 75)], 2, 32, .agg #[.int .i64 0, .slice none 0 0]⟩
theorem ty76_ok : ty76.ok Tryz.prog 76 := ⟨⟨_, Tryz.underlying76, by kernel_rfl⟩, by kernel_rfl⟩
def ty77 : TI := ⟨.struct [(0, 3), (1, 75)], 2, 32, .agg #[.int .i64 0, .slice none 0 0]⟩
theorem ty77_ok : ty77.ok Tryz.prog 77 := ⟨⟨_, Tryz.underlying77, by kernel_rfl⟩, by kernel_rfl⟩
def ty81 : TI := ⟨.slice 158, 1, 24, .slice none 0 0⟩
theorem ty81_ok : ty81.ok Tryz.prog 81 := ⟨Tryz.underlying81, by kernel_rfl⟩
def ty82 : TI := ⟨.slice 33, 1, 24, .slice none 0 0⟩
theorem ty82_ok : ty82.ok Tryz.prog 82 := ⟨Tryz.underlying82, by kernel_rfl⟩
def ty83 : TI := ⟨.struct [(0, 39), (4, 81), (5, 22), (6, 27), (7, 82)], 8, 176, .agg #[.bool false, .slice none 0 0, .slice none 0 0, .slice none 0 0, .slice none 0 0, .slice none 0 0, .slice none 0 0, .slice none 0 0]⟩
theorem ty83_ok : ty83.ok Tryz.prog 83 := ⟨⟨_, Tryz.underlying83, by kernel_rfl⟩, by kernel_rfl⟩
def ty84 : TI := ⟨.struct [(0, 39), (4, 81), (5, 22), (6, 27), (7, 82)], 8, 176, .agg #[.bool false, .slice none 0 0, .slice none 0 0, .slice none 0 0, .slice none 0 0, .slice none 0 0, .slice none 0 0, .slice none 0 0]⟩
theorem ty84_ok : ty84.ok Tryz.prog 84 := ⟨⟨_, Tryz.underlying84, by kernel_rfl⟩, by kernel_rfl⟩
def ty86 : TI := ⟨.slice 209, 1, 24, .slice none 0 0⟩
theorem ty86_ok : ty86.ok Tryz.prog 86 := ⟨Tryz.underlying86, by kernel_rfl⟩
def ty87 : TI := ⟨.struct [(0, 3), (1, 86)], 2, 32, .agg #[.int .i64 0, .slice none 0 0]⟩
theorem ty87_ok : ty87.ok Tryz.prog 87 := ⟨⟨_, Tryz.underlying87, by kernel_rfl⟩, by kernel_rfl⟩
def ty88 : TI := ⟨.struct [(0, 3), (1, 86)], 2, 32, .agg #[.int .i64 0, .slice none 0 0]⟩
theorem ty88_ok : ty88.ok Tryz.prog 88 := ⟨⟨_, Tryz.underlying88, by kernel_rfl⟩, by kernel_rfl⟩
def ty99 : TI := ⟨.slice 5, 1, 24, .slice none 0 0⟩
theorem ty99_ok : ty99.ok Tryz.prog 99 := ⟨Tryz.underlying99, by kernel_rfl⟩
def ty103 : TI := ⟨.slice 153, 1, 24, .slice none 0 0⟩
theorem ty103_ok : ty103.ok Tryz.prog 103 := ⟨Tryz.underlying103, by kernel_rfl⟩
def ty117 : TI := ⟨.struct [(0, 9), (1, 9), (2, 9)], 3, 48, .agg #[.string .empty, .string .empty, .string .empty]⟩
theorem ty117_ok : ty117.ok Tryz.prog 117 := ⟨⟨_, Tryz.underlying117, by kernel_rfl⟩, by kernel_rfl⟩
def ty118 : TI := ⟨.struct [(0, 9), (1, 9), (2, 9)], 3, 48, .agg #[.string .empty, .string .empty, .string .empty]⟩
theorem ty118_ok : ty118.ok Tryz.prog 118 := ⟨⟨_, Tryz.underlying118, by kernel_rfl⟩, by kernel_rfl⟩
def ty151 : TI := ⟨.slice 323, 1, 24, .slice none 0 0⟩
theorem ty151_ok : ty151.ok Tryz.prog 151 := ⟨Tryz.underlying151, by kernel_rfl⟩
def ty152 : TI := ⟨.struct [(0, 151)], 1, 24, .agg #[.slice none 0 0]⟩
theorem ty152_ok : ty152.ok Tryz.prog 152 := ⟨⟨_, Tryz.underlying152, by kernel_rfl⟩, by kernel_rfl⟩
def ty153 : TI := ⟨.struct [(0, 151)], 1, 24, .agg #[.slice none 0 0]⟩
theorem ty153_ok : ty153.ok Tryz.prog 153 := ⟨⟨_, Tryz.underlying153, by kernel_rfl⟩, by kernel_rfl⟩
def ty154 : TI := ⟨.slice 421, 1, 24, .slice none 0 0⟩
theorem ty154_ok : ty154.ok Tryz.prog 154 := ⟨Tryz.underlying154, by kernel_rfl⟩
def ty155 : TI := ⟨.struct [(0, 4), (1, 39), (5, 27), (6, 3), (7, 61), (8, 4), (9, 33)], 10, 176, .agg #[.bool false, .bool false, .slice none 0 0, .slice none 0 0, .slice none 0 0, .slice none 0 0, .int .i64 0, .slice none 0 0, .bool false, .slice none 0 0]⟩
theorem ty155_ok : ty155.ok Tryz.prog 155 := ⟨⟨_, Tryz.underlying155, by kernel_rfl⟩, by kernel_rfl⟩
def ty156 : TI := ⟨.struct [(0, 4), (1, 39), (5, 27), (6, 3), (7, 61), (8, 4), (9, 33)], 10, 176, .agg #[.bool false, .bool false, .slice none 0 0, .slice none 0 0, .slice none 0 0, .slice none 0 0, .int .i64 0, .slice none 0 0, .bool false, .slice none 0 0]⟩
theorem ty156_ok : ty156.ok Tryz.prog 156 := ⟨⟨_, Tryz.underlying156, by kernel_rfl⟩, by kernel_rfl⟩
def ty157 : TI := ⟨.struct [(0, 3), (1, 4), (2, 153), (3, 3), (4, 4), (5, 154), (6, 66), (30, 156)], 40, 608, .agg #[.int .i64 0, .bool false, .slice none 0 0, .int .i64 0, .bool false, .slice none 0 0, .bool false, .bool false, .slice none 0 0, .slice none 0 0, .slice none 0 0, .slice none 0 0, .int .i64 0, .slice none 0 0, .int .i64 0, .bool false, .bool false, .int .i64 0, .bool false, .bool false, .bool false, .slice none 0 0, .slice none 0 0, .slice none 0 0, .slice none 0 0, .int .i64 0, .int .i64 0, .slice none 0 0, .bool false, .slice none 0 0, .bool false, .bool false, .slice none 0 0, .slice none 0 0, .slice none 0 0, .slice none 0 0, .int .i64 0, .slice none 0 0, .bool false, .slice none 0 0]⟩
theorem ty157_ok : ty157.ok Tryz.prog 157 := ⟨⟨_, Tryz.underlying157, by kernel_rfl⟩, by kernel_rfl⟩
def ty158 : TI := ⟨.struct [(0, 3), (1, 4), (2, 153), (3, 3), (4, 4), (5, 154), (6, 66), (30, 156)], 40, 608, .agg #[.int .i64 0, .bool false, .slice none 0 0, .int .i64 0, .bool false, .slice none 0 0, .bool false, .bool false, .slice none 0 0, .slice none 0 0, .slice none 0 0, .slice none 0 0, .int .i64 0, .slice none 0 0, .int .i64 0, .bool false, .bool false, .int .i64 0, .bool false, .bool false, .bool false, .slice none 0 0, .slice none 0 0, .slice none 0 0, .slice none 0 0, .int .i64 0, .int .i64 0, .slice none 0 0, .bool false, .slice none 0 0, .bool false, .bool false, .slice none 0 0, .slice none 0 0, .slice none 0 0, .slice none 0 0, .int .i64 0, .slice none 0 0, .bool false, .slice none 0 0]⟩
theorem ty158_ok : ty158.ok Tryz.prog 158 := ⟨⟨_, Tryz.underlying158, by kernel_rfl⟩, by kernel_rfl⟩
def ty161 : TI := ⟨.slice 169, 1, 24, .slice none 0 0⟩
theorem ty161_ok : ty161.ok Tryz.prog 161 := ⟨Tryz.underlying161, by kernel_rfl⟩
def ty163 : TI := ⟨.struct [(0, 3), (1, 3), (2, 3), (3, 3)], 4, 32, .agg #[.int .i64 0, .int .i64 0, .int .i64 0, .int .i64 0]⟩
theorem ty163_ok : ty163.ok Tryz.prog 163 := ⟨⟨_, Tryz.underlying163, by kernel_rfl⟩, by kernel_rfl⟩
def ty164 : TI := ⟨.struct [(0, 3), (1, 3), (2, 3), (3, 3)], 4, 32, .agg #[.int .i64 0, .int .i64 0, .int .i64 0, .int .i64 0]⟩
theorem ty164_ok : ty164.ok Tryz.prog 164 := ⟨⟨_, Tryz.underlying164, by kernel_rfl⟩, by kernel_rfl⟩
def ty166 : TI := ⟨.slice 276, 1, 24, .slice none 0 0⟩
theorem ty166_ok : ty166.ok Tryz.prog 166 := ⟨Tryz.underlying166, by kernel_rfl⟩
def ty167 : TI := ⟨.slice 4, 1, 24, .slice none 0 0⟩
theorem ty167_ok : ty167.ok Tryz.prog 167 := ⟨Tryz.underlying167, by kernel_rfl⟩
def ty168 : TI := ⟨.struct [(0, 3), (1, 166), (2, 167)], 3, 56, .agg #[.int .i64 0, .slice none 0 0, .slice none 0 0]⟩
theorem ty168_ok : ty168.ok Tryz.prog 168 := ⟨⟨_, Tryz.underlying168, by kernel_rfl⟩, by kernel_rfl⟩
def ty169 : TI := ⟨.struct [(0, 3), (1, 166), (2, 167)], 3, 56, .agg #[.int .i64 0, .slice none 0 0, .slice none 0 0]⟩
theorem ty169_ok : ty169.ok Tryz.prog 169 := ⟨⟨_, Tryz.underlying169, by kernel_rfl⟩, by kernel_rfl⟩
def ty175 : TI := ⟨.slice 178, 1, 24, .slice none 0 0⟩
theorem ty175_ok : ty175.ok Tryz.prog 175 := ⟨Tryz.underlying175, by kernel_rfl⟩
def ty177 : TI := ⟨.struct [(0, 3), (1, 66)], 25, 360, .agg #[.int .i64 0, .bool false, .bool false, .slice none 0 0, .slice none 0 0, .slice none 0 0, .slice none 0 0, .int .i64 0, .slice none 0 0, .int .i64 0, .bool false, .bool false, .int .i64 0, .bool false, .bool false, .bool false, .slice none 0 0, .slice none 0 0, .slice none 0 0, .slice none 0 0, .int .i64 0, .int .i64 0, .slice none 0 0, .bool false, .slice none 0 0]⟩
theorem ty177_ok : ty177.ok Tryz.prog 177 := ⟨⟨_, Tryz.underlying177, by kernel_rfl⟩, by kernel_rfl⟩
def ty178 : TI := ⟨.struct [(0, 3), (1, 66)], 25, 360, .agg #[.int .i64 0, .bool false, .bool false, .slice none 0 0, .slice none 0 0, .slice none 0 0, .slice none 0 0, .int .i64 0, .slice none 0 0, .int .i64 0, .bool false, .bool false, .int .i64 0, .bool false, .bool false, .bool false, .slice none 0 0, .slice none 0 0, .slice none 0 0, .slice none 0 0, .int .i64 0, .int .i64 0, .slice none 0 0, .bool false, .slice none 0 0]⟩
theorem ty178_ok : ty178.ok Tryz.prog 178 := ⟨⟨_, Tryz.underlying178, by kernel_rfl⟩, by kernel_rfl⟩
def ty186 : TI := ⟨.slice 191, 1, 24, .slice none 0 0⟩
theorem ty186_ok : ty186.ok Tryz.prog 186 := ⟨Tryz.underlying186, by kernel_rfl⟩
def ty187 : TI := ⟨.struct [(0, 3), (1, 3), (2, 33)], 3, 40, .agg #[.int .i64 0, .int .i64 0, .slice none 0 0]⟩
theorem ty187_ok : ty187.ok Tryz.prog 187 := ⟨⟨_, Tryz.underlying187, by kernel_rfl⟩, by kernel_rfl⟩
def ty188 : TI := ⟨.struct [(0, 3), (1, 3), (2, 33)], 3, 40, .agg #[.int .i64 0, .int .i64 0, .slice none 0 0]⟩
theorem ty188_ok : ty188.ok Tryz.prog 188 := ⟨⟨_, Tryz.underlying188, by kernel_rfl⟩, by kernel_rfl⟩
def ty190 : TI := ⟨.struct [(0, 22), (1, 33)], 2, 48, .agg #[.slice none 0 0, .slice none 0 0]⟩
theorem ty190_ok : ty190.ok Tryz.prog 190 := ⟨⟨_, Tryz.underlying190, by kernel_rfl⟩, by kernel_rfl⟩
def ty191 : TI := ⟨.struct [(0, 22), (1, 33)], 2, 48, .agg #[.slice none 0 0, .slice none 0 0]⟩
theorem ty191_ok : ty191.ok Tryz.prog 191 := ⟨⟨_, Tryz.underlying191, by kernel_rfl⟩, by kernel_rfl⟩
def ty197 : TI := ⟨.pointer 314, 1, 8, .pointer none⟩
theorem ty197_ok : ty197.ok Tryz.prog 197 := ⟨Tryz.underlying197, by kernel_rfl⟩
def ty204 : TI := ⟨.slice 88, 1, 24, .slice none 0 0⟩
theorem ty204_ok : ty204.ok Tryz.prog 204 := ⟨Tryz.underlying204, by kernel_rfl⟩
def ty208 : TI := ⟨.struct [(0, 3), (1, 5), (2, 3)], 3, 24, .agg #[.int .i64 0, .int .u8 0, .int .i64 0]⟩
theorem ty208_ok : ty208.ok Tryz.prog 208 := ⟨⟨_, Tryz.underlying208, by kernel_rfl⟩, by kernel_rfl⟩
def ty209 : TI := ⟨.struct [(0, 3), (1, 5), (2, 3)], 3, 24, .agg #[.int .i64 0, .int .u8 0, .int .i64 0]⟩
theorem ty209_ok : ty209.ok Tryz.prog 209 := ⟨⟨_, Tryz.underlying209, by kernel_rfl⟩, by kernel_rfl⟩
def ty211 : TI := ⟨.struct [(0, 9), (1, 9), (2, 9)], 3, 48, .agg #[.string .empty, .string .empty, .string .empty]⟩
theorem ty211_ok : ty211.ok Tryz.prog 211 := ⟨⟨_, Tryz.underlying211, by kernel_rfl⟩, by kernel_rfl⟩
def ty213 : TI := ⟨.struct [(0, 9), (1, 3), (2, 9), (3, 3)], 4, 48, .agg #[.string .empty, .int .i64 0, .string .empty, .int .i64 0]⟩
theorem ty213_ok : ty213.ok Tryz.prog 213 := ⟨⟨_, Tryz.underlying213, by kernel_rfl⟩, by kernel_rfl⟩
def ty214 : TI := ⟨.struct [(0, 9), (1, 3), (2, 9), (3, 3)], 4, 48, .agg #[.string .empty, .int .i64 0, .string .empty, .int .i64 0]⟩
theorem ty214_ok : ty214.ok Tryz.prog 214 := ⟨⟨_, Tryz.underlying214, by kernel_rfl⟩, by kernel_rfl⟩
def ty217 : TI := ⟨.struct [(0, 27), (1, 3)], 2, 32, .agg #[.slice none 0 0, .int .i64 0]⟩
theorem ty217_ok : ty217.ok Tryz.prog 217 := ⟨⟨_, Tryz.underlying217, by kernel_rfl⟩, by kernel_rfl⟩
def ty218 : TI := ⟨.struct [(0, 27), (1, 3)], 2, 32, .agg #[.slice none 0 0, .int .i64 0]⟩
theorem ty218_ok : ty218.ok Tryz.prog 218 := ⟨⟨_, Tryz.underlying218, by kernel_rfl⟩, by kernel_rfl⟩
def ty220 : TI := ⟨.struct [(0, 9), (1, 3), (2, 9), (3, 3)], 4, 48, .agg #[.string .empty, .int .i64 0, .string .empty, .int .i64 0]⟩
theorem ty220_ok : ty220.ok Tryz.prog 220 := ⟨⟨_, Tryz.underlying220, by kernel_rfl⟩, by kernel_rfl⟩
def ty222 : TI := ⟨.struct [(0, 22), (1, 27)], 2, 48, .agg #[.slice none 0 0, .slice none 0 0]⟩
theorem ty222_ok : ty222.ok Tryz.prog 222 := ⟨⟨_, Tryz.underlying222, by kernel_rfl⟩, by kernel_rfl⟩
def ty223 : TI := ⟨.struct [(0, 22), (1, 27)], 2, 48, .agg #[.slice none 0 0, .slice none 0 0]⟩
theorem ty223_ok : ty223.ok Tryz.prog 223 := ⟨⟨_, Tryz.underlying223, by kernel_rfl⟩, by kernel_rfl⟩
def ty226 : TI := ⟨.pointer 33, 1, 8, .pointer none⟩
theorem ty226_ok : ty226.ok Tryz.prog 226 := ⟨Tryz.underlying226, by kernel_rfl⟩
def ty236 : TI := ⟨.struct [(0, 3), (1, 3), (2, 3), (3, 4), (4, 51), (5, 9)], 6, 72, .agg #[.int .i64 0, .int .i64 0, .int .i64 0, .bool false, .slice none 0 0, .string .empty]⟩
theorem ty236_ok : ty236.ok Tryz.prog 236 := ⟨⟨_, Tryz.underlying236, by kernel_rfl⟩, by kernel_rfl⟩
def ty237 : TI := ⟨.struct [(0, 3), (1, 3), (2, 3), (3, 4), (4, 51), (5, 9)], 6, 72, .agg #[.int .i64 0, .int .i64 0, .int .i64 0, .bool false, .slice none 0 0, .string .empty]⟩
theorem ty237_ok : ty237.ok Tryz.prog 237 := ⟨⟨_, Tryz.underlying237, by kernel_rfl⟩, by kernel_rfl⟩
def ty238 : TI := ⟨.struct [(0, 3), (1, 237)], 7, 80, .agg #[.int .i64 0, .int .i64 0, .int .i64 0, .int .i64 0, .bool false, .slice none 0 0, .string .empty]⟩
theorem ty238_ok : ty238.ok Tryz.prog 238 := ⟨⟨_, Tryz.underlying238, by kernel_rfl⟩, by kernel_rfl⟩
def ty239 : TI := ⟨.struct [(0, 3), (1, 237)], 7, 80, .agg #[.int .i64 0, .int .i64 0, .int .i64 0, .int .i64 0, .bool false, .slice none 0 0, .string .empty]⟩
theorem ty239_ok : ty239.ok Tryz.prog 239 := ⟨⟨_, Tryz.underlying239, by kernel_rfl⟩, by kernel_rfl⟩
def ty241 : TI := ⟨.struct [(0, 3), (1, 3), (2, 3), (3, 3)], 4, 32, .agg #[.int .i64 0, .int .i64 0, .int .i64 0, .int .i64 0]⟩
theorem ty241_ok : ty241.ok Tryz.prog 241 := ⟨⟨_, Tryz.underlying241, by kernel_rfl⟩, by kernel_rfl⟩
def ty242 : TI := ⟨.struct [(0, 3), (1, 3), (2, 3), (3, 4), (4, 60), (5, 9)], 6, 72, .agg #[.int .i64 0, .int .i64 0, .int .i64 0, .bool false, .slice none 0 0, .string .empty]⟩
theorem ty242_ok : ty242.ok Tryz.prog 242 := ⟨⟨_, Tryz.underlying242, by kernel_rfl⟩, by kernel_rfl⟩
def ty243 : TI := ⟨.struct [(0, 3), (1, 3), (2, 3), (3, 4), (4, 60), (5, 9)], 6, 72, .agg #[.int .i64 0, .int .i64 0, .int .i64 0, .bool false, .slice none 0 0, .string .empty]⟩
theorem ty243_ok : ty243.ok Tryz.prog 243 := ⟨⟨_, Tryz.underlying243, by kernel_rfl⟩, by kernel_rfl⟩
def ty244 : TI := ⟨.struct [(0, 3), (1, 243)], 7, 80, .agg #[.int .i64 0, .int .i64 0, .int .i64 0, .int .i64 0, .bool false, .slice none 0 0, .string .empty]⟩
theorem ty244_ok : ty244.ok Tryz.prog 244 := ⟨⟨_, Tryz.underlying244, by kernel_rfl⟩, by kernel_rfl⟩
def ty245 : TI := ⟨.struct [(0, 3), (1, 243)], 7, 80, .agg #[.int .i64 0, .int .i64 0, .int .i64 0, .int .i64 0, .bool false, .slice none 0 0, .string .empty]⟩
theorem ty245_ok : ty245.ok Tryz.prog 245 := ⟨⟨_, Tryz.underlying245, by kernel_rfl⟩, by kernel_rfl⟩
def ty253 : TI := ⟨.slice 470, 1, 24, .slice none 0 0⟩
theorem ty253_ok : ty253.ok Tryz.prog 253 := ⟨Tryz.underlying253, by kernel_rfl⟩
def ty254 : TI := ⟨.struct [(0, 253)], 1, 24, .agg #[.slice none 0 0]⟩
theorem ty254_ok : ty254.ok Tryz.prog 254 := ⟨⟨_, Tryz.underlying254, by kernel_rfl⟩, by kernel_rfl⟩
def ty255 : TI := ⟨.struct [(0, 253)], 1, 24, .agg #[.slice none 0 0]⟩
theorem ty255_ok : ty255.ok Tryz.prog 255 := ⟨⟨_, Tryz.underlying255, by kernel_rfl⟩, by kernel_rfl⟩
def ty256 : TI := ⟨.slice 412, 1, 24, .slice none 0 0⟩
theorem ty256_ok : ty256.ok Tryz.prog 256 := ⟨Tryz.underlying256, by kernel_rfl⟩
def ty257 : TI := ⟨.slice 414, 1, 24, .slice none 0 0⟩
theorem ty257_ok : ty257.ok Tryz.prog 257 := ⟨Tryz.underlying257, by kernel_rfl⟩
def ty258 : TI := ⟨.struct [(0, 257)], 1, 24, .agg #[.slice none 0 0]⟩
theorem ty258_ok : ty258.ok Tryz.prog 258 := ⟨⟨_, Tryz.underlying258, by kernel_rfl⟩, by kernel_rfl⟩
def ty259 : TI := ⟨.struct [(0, 257)], 1, 24, .agg #[.slice none 0 0]⟩
theorem ty259_ok : ty259.ok Tryz.prog 259 := ⟨⟨_, Tryz.underlying259, by kernel_rfl⟩, by kernel_rfl⟩
def ty260 : TI := ⟨.struct [(0, 4), (1, 26), (5, 27), (6, 3), (7, 52), (8, 4), (9, 259)], 10, 176, .agg #[.bool false, .bool false, .slice none 0 0, .slice none 0 0, .slice none 0 0, .slice none 0 0, .int .i64 0, .slice none 0 0, .bool false, .slice none 0 0]⟩
theorem ty260_ok : ty260.ok Tryz.prog 260 := ⟨⟨_, Tryz.underlying260, by kernel_rfl⟩, by kernel_rfl⟩
def ty261 : TI := ⟨.struct [(0, 4), (1, 26), (5, 27), (6, 3), (7, 52), (8, 4), (9, 259)], 10, 176, .agg #[.bool false, .bool false, .slice none 0 0, .slice none 0 0, .slice none 0 0, .slice none 0 0, .int .i64 0, .slice none 0 0, .bool false, .slice none 0 0]⟩
theorem ty261_ok : ty261.ok Tryz.prog 261 := ⟨⟨_, Tryz.underlying261, by kernel_rfl⟩, by kernel_rfl⟩
def ty262 : TI := ⟨.struct [(0, 3), (1, 4), (2, 255), (3, 3), (4, 4), (5, 256), (6, 57), (30, 261)], 40, 608, .agg #[.int .i64 0, .bool false, .slice none 0 0, .int .i64 0, .bool false, .slice none 0 0, .bool false, .bool false, .slice none 0 0, .slice none 0 0, .slice none 0 0, .slice none 0 0, .int .i64 0, .slice none 0 0, .int .i64 0, .bool false, .bool false, .int .i64 0, .bool false, .bool false, .bool false, .slice none 0 0, .slice none 0 0, .slice none 0 0, .slice none 0 0, .int .i64 0, .int .i64 0, .slice none 0 0, .bool false, .slice none 0 0, .bool false, .bool false, .slice none 0 0, .slice none 0 0, .slice none 0 0, .slice none 0 0, .int .i64 0, .slice none 0 0, .bool false, .slice none 0 0]⟩
theorem ty262_ok : ty262.ok Tryz.prog 262 := ⟨⟨_, Tryz.underlying262, by kernel_rfl⟩, by kernel_rfl⟩
def ty263 : TI := ⟨.struct [(0, 3), (1, 4), (2, 255), (3, 3), (4, 4), (5, 256), (6, 57), (30, 261)], 40, 608, .agg #[.int .i64 0, .bool false, .slice none 0 0, .int .i64 0, .bool false, .slice none 0 0, .bool false, .bool false, .slice none 0 0, .slice none 0 0, .slice none 0 0, .slice none 0 0, .int .i64 0, .slice none 0 0, .int .i64 0, .bool false, .bool false, .int .i64 0, .bool false, .bool false, .bool false, .slice none 0 0, .slice none 0 0, .slice none 0 0, .slice none 0 0, .int .i64 0, .int .i64 0, .slice none 0 0, .bool false, .slice none 0 0, .bool false, .bool false, .slice none 0 0, .slice none 0 0, .slice none 0 0, .slice none 0 0, .int .i64 0, .slice none 0 0, .bool false, .slice none 0 0]⟩
theorem ty263_ok : ty263.ok Tryz.prog 263 := ⟨⟨_, Tryz.underlying263, by kernel_rfl⟩, by kernel_rfl⟩
def ty267 : TI := ⟨.slice 417, 1, 24, .slice none 0 0⟩
theorem ty267_ok : ty267.ok Tryz.prog 267 := ⟨Tryz.underlying267, by kernel_rfl⟩
def ty268 : TI := ⟨.struct [(0, 267)], 1, 24, .agg #[.slice none 0 0]⟩
theorem ty268_ok : ty268.ok Tryz.prog 268 := ⟨⟨_, Tryz.underlying268, by kernel_rfl⟩, by kernel_rfl⟩
def ty269 : TI := ⟨.struct [(0, 267)], 1, 24, .agg #[.slice none 0 0]⟩
theorem ty269_ok : ty269.ok Tryz.prog 269 := ⟨⟨_, Tryz.underlying269, by kernel_rfl⟩, by kernel_rfl⟩
def ty274 : TI := ⟨.int .u32, 1, 4, .int .u32 0⟩
theorem ty274_ok : ty274.ok Tryz.prog 274 := ⟨Tryz.underlying274, by kernel_rfl⟩
def ty276 : TI := ⟨.struct [(0, 3), (1, 5), (2, 3)], 3, 24, .agg #[.int .i64 0, .int .u8 0, .int .i64 0]⟩
theorem ty276_ok : ty276.ok Tryz.prog 276 := ⟨⟨_, Tryz.underlying276, by kernel_rfl⟩, by kernel_rfl⟩
def ty280 : TI := ⟨.struct [(0, 3), (1, 5), (2, 3)], 3, 24, .agg #[.int .i64 0, .int .u8 0, .int .i64 0]⟩
theorem ty280_ok : ty280.ok Tryz.prog 280 := ⟨⟨_, Tryz.underlying280, by kernel_rfl⟩, by kernel_rfl⟩
def ty286 : TI := ⟨.slice 274, 1, 24, .slice none 0 0⟩
theorem ty286_ok : ty286.ok Tryz.prog 286 := ⟨Tryz.underlying286, by kernel_rfl⟩
def ty288 : TI := ⟨.int .u64, 1, 8, .int .u64 0⟩
theorem ty288_ok : ty288.ok Tryz.prog 288 := ⟨Tryz.underlying288, by kernel_rfl⟩
def ty293 : TI := ⟨.struct [(0, 3), (1, 3), (2, 259)], 3, 40, .agg #[.int .i64 0, .int .i64 0, .slice none 0 0]⟩
theorem ty293_ok : ty293.ok Tryz.prog 293 := ⟨⟨_, Tryz.underlying293, by kernel_rfl⟩, by kernel_rfl⟩
def ty294 : TI := ⟨.struct [(0, 3), (1, 3), (2, 259)], 3, 40, .agg #[.int .i64 0, .int .i64 0, .slice none 0 0]⟩
theorem ty294_ok : ty294.ok Tryz.prog 294 := ⟨⟨_, Tryz.underlying294, by kernel_rfl⟩, by kernel_rfl⟩
def ty313 : TI := ⟨.struct [(0, 99), (1, 3), (2, 3)], 3, 40, .agg #[.slice none 0 0, .int .i64 0, .int .i64 0]⟩
theorem ty313_ok : ty313.ok Tryz.prog 313 := ⟨⟨_, Tryz.underlying313, by kernel_rfl⟩, by kernel_rfl⟩
def ty314 : TI := ⟨.struct [(0, 99), (1, 3), (2, 3)], 3, 40, .agg #[.slice none 0 0, .int .i64 0, .int .i64 0]⟩
theorem ty314_ok : ty314.ok Tryz.prog 314 := ⟨⟨_, Tryz.underlying314, by kernel_rfl⟩, by kernel_rfl⟩
def ty315 : TI := ⟨.slice 382, 1, 24, .slice none 0 0⟩
theorem ty315_ok : ty315.ok Tryz.prog 315 := ⟨Tryz.underlying315, by kernel_rfl⟩
def ty322 : TI := ⟨.struct [(0, 9), (1, 9), (2, 3)], 3, 40, .agg #[.string .empty, .string .empty, .int .i64 0]⟩
theorem ty322_ok : ty322.ok Tryz.prog 322 := ⟨⟨_, Tryz.underlying322, by kernel_rfl⟩, by kernel_rfl⟩
def ty323 : TI := ⟨.struct [(0, 9), (1, 9), (2, 3)], 3, 40, .agg #[.string .empty, .string .empty, .int .i64 0]⟩
theorem ty323_ok : ty323.ok Tryz.prog 323 := ⟨⟨_, Tryz.underlying323, by kernel_rfl⟩, by kernel_rfl⟩
def ty344 : TI := ⟨.pointer 346, 1, 8, .pointer none⟩
theorem ty344_ok : ty344.ok Tryz.prog 344 := ⟨Tryz.underlying344, by kernel_rfl⟩
def ty345 : TI := ⟨.struct [(0, 9), (1, 3), (2, 4), (3, 267)], 4, 56, .agg #[.string .empty, .int .i64 0, .bool false, .slice none 0 0]⟩
theorem ty345_ok : ty345.ok Tryz.prog 345 := ⟨⟨_, Tryz.underlying345, by kernel_rfl⟩, by kernel_rfl⟩
def ty346 : TI := ⟨.struct [(0, 9), (1, 3), (2, 4), (3, 267)], 4, 56, .agg #[.string .empty, .int .i64 0, .bool false, .slice none 0 0]⟩
theorem ty346_ok : ty346.ok Tryz.prog 346 := ⟨⟨_, Tryz.underlying346, by kernel_rfl⟩, by kernel_rfl⟩
def ty349 : TI := ⟨.pointer 351, 1, 8, .pointer none⟩
theorem ty349_ok : ty349.ok Tryz.prog 349 := ⟨Tryz.underlying349, by kernel_rfl⟩
def ty350 : TI := ⟨.struct [(0, 269), (1, 99), (2, 166), (3, 4)], 4, 80, .agg #[.slice none 0 0, .slice none 0 0, .slice none 0 0, .bool false]⟩
theorem ty350_ok : ty350.ok Tryz.prog 350 := ⟨⟨_, Tryz.underlying350, by kernel_rfl⟩, by kernel_rfl⟩
def ty351 : TI := ⟨.struct [(0, 269), (1, 99), (2, 166), (3, 4)], 4, 80, .agg #[.slice none 0 0, .slice none 0 0, .slice none 0 0, .bool false]⟩
theorem ty351_ok : ty351.ok Tryz.prog 351 := ⟨⟨_, Tryz.underlying351, by kernel_rfl⟩, by kernel_rfl⟩
def ty352 : TI := ⟨.struct [(0, 27), (1, 27), (2, 4)], 3, 56, .agg #[.slice none 0 0, .slice none 0 0, .bool false]⟩
theorem ty352_ok : ty352.ok Tryz.prog 352 := ⟨⟨_, Tryz.underlying352, by kernel_rfl⟩, by kernel_rfl⟩
def ty353 : TI := ⟨.struct [(0, 27), (1, 27), (2, 4)], 3, 56, .agg #[.slice none 0 0, .slice none 0 0, .bool false]⟩
theorem ty353_ok : ty353.ok Tryz.prog 353 := ⟨⟨_, Tryz.underlying353, by kernel_rfl⟩, by kernel_rfl⟩
def ty368 : TI := ⟨.struct [(0, 9), (1, 3), (2, 269)], 3, 48, .agg #[.string .empty, .int .i64 0, .slice none 0 0]⟩
theorem ty368_ok : ty368.ok Tryz.prog 368 := ⟨⟨_, Tryz.underlying368, by kernel_rfl⟩, by kernel_rfl⟩
def ty369 : TI := ⟨.struct [(0, 9), (1, 3), (2, 269)], 3, 48, .agg #[.string .empty, .int .i64 0, .slice none 0 0]⟩
theorem ty369_ok : ty369.ok Tryz.prog 369 := ⟨⟨_, Tryz.underlying369, by kernel_rfl⟩, by kernel_rfl⟩
def ty371 : TI := ⟨.slice 274, 1, 24, .slice none 0 0⟩
theorem ty371_ok : ty371.ok Tryz.prog 371 := ⟨Tryz.underlying371, by kernel_rfl⟩
def ty381 : TI := ⟨.struct [(0, 3), (1, 9), (2, 9), (3, 9)], 4, 56, .agg #[.int .i64 0, .string .empty, .string .empty, .string .empty]⟩
theorem ty381_ok : ty381.ok Tryz.prog 381 := ⟨⟨_, Tryz.underlying381, by kernel_rfl⟩, by kernel_rfl⟩
def ty382 : TI := ⟨.struct [(0, 3), (1, 9), (2, 9), (3, 9)], 4, 56, .agg #[.int .i64 0, .string .empty, .string .empty, .string .empty]⟩
theorem ty382_ok : ty382.ok Tryz.prog 382 := ⟨⟨_, Tryz.underlying382, by kernel_rfl⟩, by kernel_rfl⟩
def ty384 : TI := ⟨.struct [(0, 9), (1, 3), (2, 4)], 3, 32, .agg #[.string .empty, .int .i64 0, .bool false]⟩
theorem ty384_ok : ty384.ok Tryz.prog 384 := ⟨⟨_, Tryz.underlying384, by kernel_rfl⟩, by kernel_rfl⟩
def ty385 : TI := ⟨.struct [(0, 9), (1, 3), (2, 4)], 3, 32, .agg #[.string .empty, .int .i64 0, .bool false]⟩
theorem ty385_ok : ty385.ok Tryz.prog 385 := ⟨⟨_, Tryz.underlying385, by kernel_rfl⟩, by kernel_rfl⟩
def ty395 : TI := ⟨.pointer 397, 1, 8, .pointer none⟩
theorem ty395_ok : ty395.ok Tryz.prog 395 := ⟨Tryz.underlying395, by kernel_rfl⟩
def ty396 : TI := ⟨.struct [(0, 9), (1, 3), (2, 4)], 3, 32, .agg #[.string .empty, .int .i64 0, .bool false]⟩
theorem ty396_ok : ty396.ok Tryz.prog 396 := ⟨⟨_, Tryz.underlying396, by kernel_rfl⟩, by kernel_rfl⟩
def ty397 : TI := ⟨.struct [(0, 9), (1, 3), (2, 4)], 3, 32, .agg #[.string .empty, .int .i64 0, .bool false]⟩
theorem ty397_ok : ty397.ok Tryz.prog 397 := ⟨⟨_, Tryz.underlying397, by kernel_rfl⟩, by kernel_rfl⟩
def ty400 : TI := ⟨.int .i64, 1, 8, .int .i64 0⟩
theorem ty400_ok : ty400.ok Tryz.prog 400 := ⟨Tryz.underlying400, by kernel_rfl⟩
def ty408 : TI := ⟨.int .u64, 1, 8, .int .u64 0⟩
theorem ty408_ok : ty408.ok Tryz.prog 408 := ⟨Tryz.underlying408, by kernel_rfl⟩
def ty411 : TI := ⟨.struct [(0, 22), (1, 3), (2, 3)], 3, 40, .agg #[.slice none 0 0, .int .i64 0, .int .i64 0]⟩
theorem ty411_ok : ty411.ok Tryz.prog 411 := ⟨⟨_, Tryz.underlying411, by kernel_rfl⟩, by kernel_rfl⟩
def ty412 : TI := ⟨.struct [(0, 22), (1, 3), (2, 3)], 3, 40, .agg #[.slice none 0 0, .int .i64 0, .int .i64 0]⟩
theorem ty412_ok : ty412.ok Tryz.prog 412 := ⟨⟨_, Tryz.underlying412, by kernel_rfl⟩, by kernel_rfl⟩
def ty414 : TI := ⟨.struct [(0, 27), (1, 3)], 2, 32, .agg #[.slice none 0 0, .int .i64 0]⟩
theorem ty414_ok : ty414.ok Tryz.prog 414 := ⟨⟨_, Tryz.underlying414, by kernel_rfl⟩, by kernel_rfl⟩
def ty416 : TI := ⟨.struct [(0, 3), (1, 5), (2, 27)], 3, 40, .agg #[.int .i64 0, .int .u8 0, .slice none 0 0]⟩
theorem ty416_ok : ty416.ok Tryz.prog 416 := ⟨⟨_, Tryz.underlying416, by kernel_rfl⟩, by kernel_rfl⟩
def ty417 : TI := ⟨.struct [(0, 3), (1, 5), (2, 27)], 3, 40, .agg #[.int .i64 0, .int .u8 0, .slice none 0 0]⟩
theorem ty417_ok : ty417.ok Tryz.prog 417 := ⟨⟨_, Tryz.underlying417, by kernel_rfl⟩, by kernel_rfl⟩
def ty421 : TI := ⟨.struct [(0, 22), (1, 3), (2, 3)], 3, 40, .agg #[.slice none 0 0, .int .i64 0, .int .i64 0]⟩
theorem ty421_ok : ty421.ok Tryz.prog 421 := ⟨⟨_, Tryz.underlying421, by kernel_rfl⟩, by kernel_rfl⟩
def ty425 : TI := ⟨.struct [(0, 269), (1, 99), (2, 286)], 3, 72, .agg #[.slice none 0 0, .slice none 0 0, .slice none 0 0]⟩
theorem ty425_ok : ty425.ok Tryz.prog 425 := ⟨⟨_, Tryz.underlying425, by kernel_rfl⟩, by kernel_rfl⟩
def ty426 : TI := ⟨.struct [(0, 269), (1, 99), (2, 286)], 3, 72, .agg #[.slice none 0 0, .slice none 0 0, .slice none 0 0]⟩
theorem ty426_ok : ty426.ok Tryz.prog 426 := ⟨⟨_, Tryz.underlying426, by kernel_rfl⟩, by kernel_rfl⟩
def ty427 : TI := ⟨.struct [(0, 274), (1, 274), (2, 4)], 3, 12, .agg #[.int .u32 0, .int .u32 0, .bool false]⟩
theorem ty427_ok : ty427.ok Tryz.prog 427 := ⟨⟨_, Tryz.underlying427, by kernel_rfl⟩, by kernel_rfl⟩
def ty428 : TI := ⟨.struct [(0, 274), (1, 274), (2, 4)], 3, 12, .agg #[.int .u32 0, .int .u32 0, .bool false]⟩
theorem ty428_ok : ty428.ok Tryz.prog 428 := ⟨⟨_, Tryz.underlying428, by kernel_rfl⟩, by kernel_rfl⟩
def ty435 : TI := ⟨.slice 167, 1, 24, .slice none 0 0⟩
theorem ty435_ok : ty435.ok Tryz.prog 435 := ⟨Tryz.underlying435, by kernel_rfl⟩
def ty437 : TI := ⟨.pointer 369, 1, 8, .pointer none⟩
theorem ty437_ok : ty437.ok Tryz.prog 437 := ⟨Tryz.underlying437, by kernel_rfl⟩
def ty444 : TI := ⟨.pointer 446, 1, 8, .pointer none⟩
theorem ty444_ok : ty444.ok Tryz.prog 444 := ⟨Tryz.underlying444, by kernel_rfl⟩
def ty445 : TI := ⟨.struct [(0, 444), (1, 99)], 2, 32, .agg #[.pointer none, .slice none 0 0]⟩
theorem ty445_ok : ty445.ok Tryz.prog 445 := ⟨⟨_, Tryz.underlying445, by kernel_rfl⟩, by kernel_rfl⟩
def ty446 : TI := ⟨.struct [(0, 444), (1, 99)], 2, 32, .agg #[.pointer none, .slice none 0 0]⟩
theorem ty446_ok : ty446.ok Tryz.prog 446 := ⟨⟨_, Tryz.underlying446, by kernel_rfl⟩, by kernel_rfl⟩
def ty459 : TI := ⟨.pointer 385, 1, 8, .pointer none⟩
theorem ty459_ok : ty459.ok Tryz.prog 459 := ⟨Tryz.underlying459, by kernel_rfl⟩
def ty463 : TI := ⟨.int .u64, 1, 8, .int .u64 0⟩
theorem ty463_ok : ty463.ok Tryz.prog 463 := ⟨Tryz.underlying463, by kernel_rfl⟩
def ty467 : TI := ⟨.pointer 3, 1, 8, .pointer none⟩
theorem ty467_ok : ty467.ok Tryz.prog 467 := ⟨Tryz.underlying467, by kernel_rfl⟩
def ty470 : TI := ⟨.struct [(0, 9), (1, 9), (2, 3)], 3, 40, .agg #[.string .empty, .string .empty, .int .i64 0]⟩
theorem ty470_ok : ty470.ok Tryz.prog 470 := ⟨⟨_, Tryz.underlying470, by kernel_rfl⟩, by kernel_rfl⟩
def ty472 : TI := ⟨.pointer 426, 1, 8, .pointer none⟩
theorem ty472_ok : ty472.ok Tryz.prog 472 := ⟨Tryz.underlying472, by kernel_rfl⟩
def ty478 : TI := ⟨.slice 371, 1, 24, .slice none 0 0⟩
theorem ty478_ok : ty478.ok Tryz.prog 478 := ⟨Tryz.underlying478, by kernel_rfl⟩
def ty482 : TI := ⟨.pointer 5, 1, 8, .pointer none⟩
theorem ty482_ok : ty482.ok Tryz.prog 482 := ⟨Tryz.underlying482, by kernel_rfl⟩
def ty486 : TI := ⟨.pointer 153, 1, 8, .pointer none⟩
theorem ty486_ok : ty486.ok Tryz.prog 486 := ⟨Tryz.underlying486, by kernel_rfl⟩
def ty490 : TI := ⟨.pointer 463, 1, 8, .pointer none⟩
theorem ty490_ok : ty490.ok Tryz.prog 490 := ⟨Tryz.underlying490, by kernel_rfl⟩
def G : Ty := [(3, ty3), (4, ty4), (9, ty9), (5, ty5), (27, ty27), (2, ty2), (12, ty12), (13, ty13), (21, ty21), (22, ty22), (23, ty23), (24, ty24), (25, ty25), (26, ty26), (28, ty28), (31, ty31), (32, ty32), (33, ty33), (36, ty36), (37, ty37), (38, ty38), (39, ty39), (51, ty51), (52, ty52), (53, ty53), (54, ty54), (55, ty55), (56, ty56), (57, ty57), (60, ty60), (61, ty61), (62, ty62), (63, ty63), (64, ty64), (65, ty65), (66, ty66), (71, ty71), (72, ty72), (73, ty73), (74, ty74), (75, ty75), (76, ty76), (77, ty77), (81, ty81), (82, ty82), (83, ty83), (84, ty84), (86, ty86), (87, ty87), (88, ty88), (99, ty99), (103, ty103), (117, ty117), (118, ty118), (151, ty151), (152, ty152), (153, ty153), (154, ty154), (155, ty155), (156, ty156), (157, ty157), (158, ty158), (161, ty161), (163, ty163), (164, ty164), (166, ty166), (167, ty167), (168, ty168), (169, ty169), (175, ty175), (177, ty177), (178, ty178), (186, ty186), (187, ty187), (188, ty188), (190, ty190), (191, ty191), (197, ty197), (204, ty204), (208, ty208), (209, ty209), (211, ty211), (213, ty213), (214, ty214), (217, ty217), (218, ty218), (220, ty220), (222, ty222), (223, ty223), (226, ty226), (236, ty236), (237, ty237), (238, ty238), (239, ty239), (241, ty241), (242, ty242), (243, ty243), (244, ty244), (245, ty245), (253, ty253), (254, ty254), (255, ty255), (256, ty256), (257, ty257), (258, ty258), (259, ty259), (260, ty260), (261, ty261), (262, ty262), (263, ty263), (267, ty267), (268, ty268), (269, ty269), (274, ty274), (276, ty276), (280, ty280), (286, ty286), (288, ty288), (293, ty293), (294, ty294), (313, ty313), (314, ty314), (315, ty315), (322, ty322), (323, ty323), (344, ty344), (345, ty345), (346, ty346), (349, ty349), (350, ty350), (351, ty351), (352, ty352), (353, ty353), (368, ty368), (369, ty369), (371, ty371), (381, ty381), (382, ty382), (384, ty384), (385, ty385), (395, ty395), (396, ty396), (397, ty397), (400, ty400), (408, ty408), (411, ty411), (412, ty412), (414, ty414), (416, ty416), (417, ty417), (421, ty421), (425, ty425), (426, ty426), (427, ty427), (428, ty428), (435, ty435), (437, ty437), (444, ty444), (445, ty445), (446, ty446), (459, ty459), (463, ty463), (467, ty467), (470, ty470), (472, ty472), (478, ty478), (482, ty482), (486, ty486), (490, ty490)]
theorem G_ok : TyOk Tryz.prog G :=
  .cons ty3_ok (.cons ty4_ok (.cons ty9_ok (.cons ty5_ok (.cons ty27_ok (.cons ty2_ok (.cons ty12_ok (.cons ty13_ok (.cons ty21_ok (.cons ty22_ok (.cons ty23_ok (.cons ty24_ok (.cons ty25_ok (.cons ty26_ok (.cons ty28_ok (.cons ty31_ok (.cons ty32_ok (.cons ty33_ok (.cons ty36_ok (.cons ty37_ok (.cons ty38_ok (.cons ty39_ok (.cons ty51_ok (.cons ty52_ok (.cons ty53_ok (.cons ty54_ok (.cons ty55_ok (.cons ty56_ok (.cons ty57_ok (.cons ty60_ok (.cons ty61_ok (.cons ty62_ok (.cons ty63_ok (.cons ty64_ok (.cons ty65_ok (.cons ty66_ok (.cons ty71_ok (.cons ty72_ok (.cons ty73_ok (.cons ty74_ok (.cons ty75_ok (.cons ty76_ok (.cons ty77_ok (.cons ty81_ok (.cons ty82_ok (.cons ty83_ok (.cons ty84_ok (.cons ty86_ok (.cons ty87_ok (.cons ty88_ok (.cons ty99_ok (.cons ty103_ok (.cons ty117_ok (.cons ty118_ok (.cons ty151_ok (.cons ty152_ok (.cons ty153_ok (.cons ty154_ok (.cons ty155_ok (.cons ty156_ok (.cons ty157_ok (.cons ty158_ok (.cons ty161_ok (.cons ty163_ok (.cons ty164_ok (.cons ty166_ok (.cons ty167_ok (.cons ty168_ok (.cons ty169_ok (.cons ty175_ok (.cons ty177_ok (.cons ty178_ok (.cons ty186_ok (.cons ty187_ok (.cons ty188_ok (.cons ty190_ok (.cons ty191_ok (.cons ty197_ok (.cons ty204_ok (.cons ty208_ok (.cons ty209_ok (.cons ty211_ok (.cons ty213_ok (.cons ty214_ok (.cons ty217_ok (.cons ty218_ok (.cons ty220_ok (.cons ty222_ok (.cons ty223_ok (.cons ty226_ok (.cons ty236_ok (.cons ty237_ok (.cons ty238_ok (.cons ty239_ok (.cons ty241_ok (.cons ty242_ok (.cons ty243_ok (.cons ty244_ok (.cons ty245_ok (.cons ty253_ok (.cons ty254_ok (.cons ty255_ok (.cons ty256_ok (.cons ty257_ok (.cons ty258_ok (.cons ty259_ok (.cons ty260_ok (.cons ty261_ok (.cons ty262_ok (.cons ty263_ok (.cons ty267_ok (.cons ty268_ok (.cons ty269_ok (.cons ty274_ok (.cons ty276_ok (.cons ty280_ok (.cons ty286_ok (.cons ty288_ok (.cons ty293_ok (.cons ty294_ok (.cons ty313_ok (.cons ty314_ok (.cons ty315_ok (.cons ty322_ok (.cons ty323_ok (.cons ty344_ok (.cons ty345_ok (.cons ty346_ok (.cons ty349_ok (.cons ty350_ok (.cons ty351_ok (.cons ty352_ok (.cons ty353_ok (.cons ty368_ok (.cons ty369_ok (.cons ty371_ok (.cons ty381_ok (.cons ty382_ok (.cons ty384_ok (.cons ty385_ok (.cons ty395_ok (.cons ty396_ok (.cons ty397_ok (.cons ty400_ok (.cons ty408_ok (.cons ty411_ok (.cons ty412_ok (.cons ty414_ok (.cons ty416_ok (.cons ty417_ok (.cons ty421_ok (.cons ty425_ok (.cons ty426_ok (.cons ty427_ok (.cons ty428_ok (.cons ty435_ok (.cons ty437_ok (.cons ty444_ok (.cons ty445_ok (.cons ty446_ok (.cons ty459_ok (.cons ty463_ok (.cons ty467_ok (.cons ty470_ok (.cons ty472_ok (.cons ty478_ok (.cons ty482_ok (.cons ty486_ok (.cons ty490_ok (.nil)))))))))))))))))))))))))))))))))))))))))))))))))))))))))))))))))))))))))))))))))))))))))))))))))))))))))))))))))))))))))))))))))))))))))))))))))))))))))))))))))))))))))
end Go.Proofs.YtjgehblllhkdbaaGreat

namespace Go.Proofs.YtjgehblllhkdbaaGreat
open Go.SX Go.Proofs
theorem mixed : Tryz.prog.follows .mixedOrders = true := by kernel_rfl
theorem rd_len {α : Type} {r : Rp α} {H : Hp} {base : Option Addr} {m cap : Nat} {xs : List α} (h : (rpSl r).rd H [.slice base m cap] xs) : m = xs.length ∧ xs.length ≤ 9223372036854775807 := by
  obtain ⟨_, _, e, h1, _⟩ := h; cases e; exact ⟨rfl, h1.2⟩
theorem rd_cap {α : Type} {r : Rp α} {H : Hp} {base : Option Addr} {m cap : Nat} {xs : List α} (h : (rpSl r).rd H [.slice base m cap] xs) : xs.length ≤ cap := by
  obtain ⟨_, _, e, h1, _⟩ := h; cases e; exact h1.1
theorem rd_el {α : Type} {r : Rp α} {H : Hp} {base : Option Addr} {m cap : Nat} {xs : List α} (h : (rpSl r).rd H [.slice base m cap] xs) (i : Nat) (hi : i < xs.length) : ∃ l, r.rd H l xs[i] := by
  obtain ⟨_, _, e, _, h2⟩ := h
  obtain ⟨_, _, l, _, _, h3⟩ := h2 i hi
  exact ⟨l, h3⟩
/-- a text's mark -/
def dgs : Nat → Nat → ByteArray → ByteArray
  | 0, _, out => out
  | f + 1, k, out => if k = 0 then out else dgs f (k / 10) (⟨#[UInt8.ofNat (48 + k % 10)]⟩ ++ out)
def mtx (k : Int) : ByteArray := if k ≤ 0 then ⟨#[109, 48]⟩ else ⟨#[109]⟩ ++ dgs 20 k.toNat .empty
def gS : Gt ByteArray := flStr.gt mtx fun s => s.size
theorem gS_ow {x : ByteArray} (h : x.size ≤ 9223372036854775807) : gS.ow [.string x] x [] := ⟨rfl, h, rfl⟩
theorem gY_owM (k : Int) : gY.ow [.int .u8 (IntKind.u8.wrap k)] (UInt8.ofNat (k % 256).toNat) [] := by
  refine ⟨?_, trivial, rfl⟩
  show [Value.int .u8 _] = [Value.int .u8 _]
  have : IntKind.u8.wrap k = ((UInt8.ofNat (k % 256).toNat).toNat : Int) := by
    unfold IntKind.wrap
    simp only [IntKind.bits, IntKind.signed]
    simp
    omega
  rw [this]
section
variable {α : Type}
end
end Go.Proofs.YtjgehblllhkdbaaGreat

--@dev import Derived.Test.YtjgehblllhkdbaaGreatSxWalk
namespace Go.Proofs.YtjgehblllhkdbaaGreat
open Go.SX Go.Proofs
set_option maxHeartbeats 4000000
set_option linter.unusedSimpArgs false
set_option linter.unusedVariables false
--@gt impl.Item | gItem | default | obtain ⟨b0x#, c0x#, rfl, h0x#, w1x#⟩ := gItem_rd.1 hl# | 0 1 sl gItem_row ; 1 1 pr gItem_times | 2 | 
--@gt impl.Bag | gBag | default | obtain ⟨b0x#, c0x#, rfl, h0x#⟩ := gBag_rd.1 hl# | 0 1 sl gBag_items | 1 | 
structure Edge where
  from' : Int
  label : UInt8
  to : Int
deriving DecidableEq, Inhabited
def gEdge : Gt Edge := gIso (SX.gPair gI (SX.gPair gY gI)) (fun x => (x.from', (x.label, x.to))) (fun p => ⟨p.1, p.2.1, p.2.2⟩)
theorem gEdge_rd {H : Hp} {l : List Value} {x : Edge} : gEdge.rd H l x ↔ l = .int .i64 x.from' :: .int .u8 (x.label).toNat :: .int .i64 x.to :: [] ∧ okI x.from' ∧ okI x.to := by
  constructor
  · rintro ⟨m0, q0, rfl, h0, m1, q1, rfl, h1, h2⟩
    obtain ⟨rfl, w0⟩ := h0
    obtain ⟨rfl, w1⟩ := h1
    obtain ⟨rfl, w2⟩ := h2
    exact ⟨rfl, w0, w2⟩
  rintro ⟨rfl, w0, w2⟩
  exact ⟨[.int .i64 x.from'], .int .u8 (x.label).toNat :: .int .i64 x.to :: [], rfl, ⟨rfl, w0⟩, ⟨[.int .u8 (x.label).toNat], [.int .i64 x.to], rfl, ⟨rfl, trivial⟩, ⟨rfl, w2⟩⟩⟩
open Classical in
theorem gEdge_ow {A : Hp} {l : List Value} {x : Edge} : gEdge.ow l x A ↔ l = .int .i64 x.from' :: .int .u8 (x.label).toNat :: .int .i64 x.to :: [] ∧ A.Perm [] ∧ okI x.from' ∧ okI x.to := by
  constructor
  · rintro ⟨m0, q0, D0, E0, rfl, p0, h0, m1, q1, D1, E1, rfl, p1, h1, h2⟩
    obtain ⟨rfl, w0, e0⟩ := h0
    subst e0
    obtain ⟨rfl, w1, e1⟩ := h1
    subst e1
    obtain ⟨rfl, w2, e2⟩ := h2
    subst e2
    exact ⟨rfl, (perm_cnt fun a => by have e0 := p0.count_eq a; have e1 := p1.count_eq a; simp only [List.count_append, List.count_nil] at *; omega), w0, w2⟩
  rintro ⟨rfl, hp, w0, w2⟩
  exact ⟨[.int .i64 x.from'], .int .u8 (x.label).toNat :: .int .i64 x.to :: [], [], ([] ++ []), rfl, (perm_cnt fun a => by have e := hp.count_eq a; simp only [List.count_append, List.count_nil] at *; omega), ⟨rfl, w0, rfl⟩, ⟨[.int .u8 (x.label).toNat], [.int .i64 x.to], [], [], rfl, .refl _, ⟨rfl, trivial, rfl⟩, ⟨rfl, w2, rfl⟩⟩⟩
def zEdge : Edge := ⟨0, 0, 0⟩
theorem zEdge_ow : gEdge.ow [.int .i64 0, .int .u8 0, .int .i64 0] zEdge [] := gEdge_ow.2 ⟨rfl, by simp, by first | (unfold okI; decide) | decide, by first | (unfold okI; decide) | decide⟩
theorem gEdge_own {H : Hp} {l : List Value} {x : Edge} (h : gEdge.rd H l x) : gEdge.ow l x [] := by
  obtain ⟨rfl, w0, w2⟩ := gEdge_rd.1 h
  exact gEdge_ow.2 ⟨rfl, by simp, w0, w2⟩
--@gt impl.Edge | gEdge | default | obtain ⟨rfl, w0x#, w2x#⟩ := gEdge_rd.1 hl# | 0 1 pr gEdge_from ; 1 1 pr gEdge_label ; 2 1 pr gEdge_to | 3 | gEdge_own ‹_›
structure Graph where
  size : Int
  edges : List Edge
deriving DecidableEq, Inhabited
def gGraph : Gt Graph := gIso (SX.gPair gI (gSl 209 gEdge)) (fun x => (x.size, x.edges)) (fun p => ⟨p.1, p.2⟩)
theorem gGraph_rd {H : Hp} {l : List Value} {x : Graph} : gGraph.rd H l x ↔ ∃ (b1 : Option Addr) (c1 : Nat), l = .int .i64 x.size :: .slice b1 x.edges.length c1 :: [] ∧ okI x.size ∧ (gSl 209 gEdge).rd H [.slice b1 x.edges.length c1] x.edges := by
  constructor
  · rintro ⟨m0, q0, rfl, h0, h1⟩
    obtain ⟨rfl, w0⟩ := h0
    obtain ⟨b1, c1, rfl, h1⟩ := sl_rd h1
    exact ⟨b1, c1, rfl, w0, h1⟩
  rintro ⟨b1, c1, rfl, w0, h1⟩
  exact ⟨[.int .i64 x.size], [.slice b1 x.edges.length c1], rfl, ⟨rfl, w0⟩, h1⟩
open Classical in
theorem gGraph_ow {A : Hp} {l : List Value} {x : Graph} : gGraph.ow l x A ↔ ∃ (b1 : Option Addr) (c1 : Nat) (A1 : Hp), l = .int .i64 x.size :: .slice b1 x.edges.length c1 :: [] ∧ A.Perm A1 ∧ okI x.size ∧ (gSl 209 gEdge).ow [.slice b1 x.edges.length c1] x.edges A1 := by
  constructor
  · rintro ⟨m0, q0, D0, E0, rfl, p0, h0, h1⟩
    obtain ⟨rfl, w0, e0⟩ := h0
    subst e0
    obtain ⟨b1, c1, rfl, h1⟩ := sl_ow h1
    exact ⟨b1, c1, E0, rfl, (perm_cnt fun a => by have e0 := p0.count_eq a; simp only [List.count_append, List.count_nil] at *; omega), w0, h1⟩
  rintro ⟨b1, c1, A1, rfl, hp, w0, h1⟩
  exact ⟨[.int .i64 x.size], [.slice b1 x.edges.length c1], [], A1, rfl, (perm_cnt fun a => by have e := hp.count_eq a; simp only [List.count_append, List.count_nil] at *; omega), ⟨rfl, w0, rfl⟩, h1⟩
--@gt impl.Graph | gGraph | default | obtain ⟨b1x#, c1x#, rfl, w0x#, h1x#⟩ := gGraph_rd.1 hl# | 0 1 pr gGraph_size ; 1 1 sl gGraph_edges | 2 | 
--@gt impl.Piece | gPiece | default | obtain ⟨b2x#, c2x#, rfl, w0x#, h2x#⟩ := gPiece_rd.1 hl# | 0 1 pr gPiece_op ; 1 1 pr gPiece_label ; 2 1 sl gPiece_kids | 3 | 
--@gt impl.Path | gPath | default | obtain ⟨b0x#, c0x#, rfl, h0x#⟩ := gPath_rd.1 hl# | 0 1 sl gPath_pieces | 1 | 
--@gt impl.Arc | gArc | default | obtain ⟨rfl, w0x#, w2x#⟩ := gArc_rd.1 hl# | 0 1 pr gArc_from ; 1 1 pr gArc_label ; 2 1 pr gArc_to | 3 | gArc_own ‹_›
--@gt impl.Nfa | gNfa | default | obtain ⟨b1x#, c1x#, b2x#, c2x#, rfl, w0x#, h1x#, h2x#⟩ := gNfa_rd.1 hl# | 0 1 pr gNfa_states ; 1 1 sl gNfa_arcs ; 2 1 sl gNfa_ends | 3 | 
--@gt impl.Atom | gAtom | default | obtain ⟨rfl, w0x#, w1x#, w2x#⟩ := gAtom_rd.1 hl# | 0 1 pr gAtom_from ; 1 1 pr gAtom_path ; 2 1 pr gAtom_to | 3 | gAtom_own ‹_›
--@gt impl.Filter | gFilter | default | obtain ⟨rfl, w0x#, w1x#, w2x#, w3x#⟩ := gFilter_rd.1 hl# | 0 1 pr gFilter_left ; 1 1 pr gFilter_op ; 2 1 pr gFilter_right ; 3 1 pr gFilter_num | 4 | gFilter_own ‹_›
--@gt impl.Query | gQuery | default | obtain ⟨b1x#, c1x#, b2x#, c2x#, b3x#, c3x#, rfl, h1x#, h2x#, h3x#⟩ := gQuery_rd.1 hl# | 0 1 pr gQuery_each ; 1 1 sl gQuery_out ; 2 1 sl gQuery_atoms ; 3 1 sl gQuery_filters | 4 | 
--@gt impl.Table | gTable | default | obtain ⟨b0x#, c0x#, l1x#, rfl, h0x#, h1x#⟩ := gTable_rd.1 hl# ; obtain ⟨b0_1x#, c0_1x#, rfl, h0_1x#⟩ := gBag_rd.1 h1x# | 0 1 sl gTable_cols ; 1 1 st gTable_bag ; 1 1 sl gTable_bag_items | 2 | 
structure File where
  name : ByteArray
  text : ByteArray
  kept : Int
deriving DecidableEq, Inhabited
def gFile : Gt File := gIso (SX.gPair gS (SX.gPair gS gI)) (fun x => (x.name, (x.text, x.kept))) (fun p => ⟨p.1, p.2.1, p.2.2⟩)
theorem gFile_rd {H : Hp} {l : List Value} {x : File} : gFile.rd H l x ↔ l = .string x.name :: .string x.text :: .int .i64 x.kept :: [] ∧ x.name.size ≤ 9223372036854775807 ∧ x.text.size ≤ 9223372036854775807 ∧ okI x.kept := by
  constructor
  · rintro ⟨m0, q0, rfl, h0, m1, q1, rfl, h1, h2⟩
    obtain ⟨rfl, w0⟩ := h0
    obtain ⟨rfl, w1⟩ := h1
    obtain ⟨rfl, w2⟩ := h2
    exact ⟨rfl, w0, w1, w2⟩
  rintro ⟨rfl, w0, w1, w2⟩
  exact ⟨[.string x.name], .string x.text :: .int .i64 x.kept :: [], rfl, ⟨rfl, w0⟩, ⟨[.string x.text], [.int .i64 x.kept], rfl, ⟨rfl, w1⟩, ⟨rfl, w2⟩⟩⟩
open Classical in
theorem gFile_ow {A : Hp} {l : List Value} {x : File} : gFile.ow l x A ↔ l = .string x.name :: .string x.text :: .int .i64 x.kept :: [] ∧ A.Perm [] ∧ x.name.size ≤ 9223372036854775807 ∧ x.text.size ≤ 9223372036854775807 ∧ okI x.kept := by
  constructor
  · rintro ⟨m0, q0, D0, E0, rfl, p0, h0, m1, q1, D1, E1, rfl, p1, h1, h2⟩
    obtain ⟨rfl, w0, e0⟩ := h0
    subst e0
    obtain ⟨rfl, w1, e1⟩ := h1
    subst e1
    obtain ⟨rfl, w2, e2⟩ := h2
    subst e2
    exact ⟨rfl, (perm_cnt fun a => by have e0 := p0.count_eq a; have e1 := p1.count_eq a; simp only [List.count_append, List.count_nil] at *; omega), w0, w1, w2⟩
  rintro ⟨rfl, hp, w0, w1, w2⟩
  exact ⟨[.string x.name], .string x.text :: .int .i64 x.kept :: [], [], ([] ++ []), rfl, (perm_cnt fun a => by have e := hp.count_eq a; simp only [List.count_append, List.count_nil] at *; omega), ⟨rfl, w0, rfl⟩, ⟨[.string x.text], [.int .i64 x.kept], [], [], rfl, .refl _, ⟨rfl, w1, rfl⟩, ⟨rfl, w2, rfl⟩⟩⟩
theorem gFile_text : Fld gFile gS (fun x => x.text) (fun x y => { x with text := y }) 1 := ((Fld.snd _ _).comp (Fld.fst _ _)).iso (fun _ => rfl) (fun _ _ => rfl)
theorem gFile_kept : Fld gFile gI (fun x => x.kept) (fun x y => { x with kept := y }) 2 := ((Fld.snd _ _).comp (Fld.snd _ _)).iso (fun _ => rfl) (fun _ _ => rfl)
theorem gFile_own {H : Hp} {l : List Value} {x : File} (h : gFile.rd H l x) : gFile.ow l x [] := by
  obtain ⟨rfl, w0, w1, w2⟩ := gFile_rd.1 h
  exact gFile_ow.2 ⟨rfl, by simp, w0, w1, w2⟩
--@gt impl.File | gFile | default | obtain ⟨rfl, w0x#, w1x#, w2x#⟩ := gFile_rd.1 hl# | 0 1 pr gFile_name ; 1 1 pr gFile_text ; 2 1 pr gFile_kept | 3 | gFile_own ‹_›
structure Disk where
  files : List File
deriving DecidableEq, Inhabited
def gDisk : Gt Disk := gIso (gSl 323 gFile) (fun x => x.files) (fun p => ⟨p⟩)
theorem gDisk_rd {H : Hp} {l : List Value} {x : Disk} : gDisk.rd H l x ↔ ∃ (b0 : Option Addr) (c0 : Nat), l = .slice b0 x.files.length c0 :: [] ∧ (gSl 323 gFile).rd H [.slice b0 x.files.length c0] x.files := by
  constructor
  · rintro h0
    obtain ⟨b0, c0, rfl, h0⟩ := sl_rd h0
    exact ⟨b0, c0, rfl, h0⟩
  rintro ⟨b0, c0, rfl, h0⟩
  exact h0
open Classical in
theorem gDisk_ow {A : Hp} {l : List Value} {x : Disk} : gDisk.ow l x A ↔ ∃ (b0 : Option Addr) (c0 : Nat) (A0 : Hp), l = .slice b0 x.files.length c0 :: [] ∧ A.Perm A0 ∧ (gSl 323 gFile).ow [.slice b0 x.files.length c0] x.files A0 := by
  constructor
  · rintro h0
    obtain ⟨b0, c0, rfl, h0⟩ := sl_ow h0
    exact ⟨b0, c0, A, rfl, .refl _, h0⟩
  rintro ⟨b0, c0, A0, rfl, hp, h0⟩
  exact gDisk.owp (l := _) (x := x) h0 hp
theorem gDisk_sz (x : Disk) : gDisk.sz x = szL gFile x.files := rfl
--@gt impl.Disk | gDisk | default | obtain ⟨b0x#, c0x#, rfl, h0x#⟩ := gDisk_rd.1 hl# | 0 1 sl gDisk_files | 1 | 
structure Act where
  kind : Int
  name : ByteArray
  text : ByteArray
  to : ByteArray
deriving DecidableEq, Inhabited
def gAct : Gt Act := gIso (SX.gPair gI (SX.gPair gS (SX.gPair gS gS))) (fun x => (x.kind, (x.name, (x.text, x.to)))) (fun p => ⟨p.1, p.2.1, p.2.2.1, p.2.2.2⟩)
theorem gAct_rd {H : Hp} {l : List Value} {x : Act} : gAct.rd H l x ↔ l = .int .i64 x.kind :: .string x.name :: .string x.text :: .string x.to :: [] ∧ okI x.kind ∧ x.name.size ≤ 9223372036854775807 ∧ x.text.size ≤ 9223372036854775807 ∧ x.to.size ≤ 9223372036854775807 := by
  constructor
  · rintro ⟨m0, q0, rfl, h0, m1, q1, rfl, h1, m2, q2, rfl, h2, h3⟩
    obtain ⟨rfl, w0⟩ := h0
    obtain ⟨rfl, w1⟩ := h1
    obtain ⟨rfl, w2⟩ := h2
    obtain ⟨rfl, w3⟩ := h3
    exact ⟨rfl, w0, w1, w2, w3⟩
  rintro ⟨rfl, w0, w1, w2, w3⟩
  exact ⟨[.int .i64 x.kind], .string x.name :: .string x.text :: .string x.to :: [], rfl, ⟨rfl, w0⟩, ⟨[.string x.name], .string x.text :: .string x.to :: [], rfl, ⟨rfl, w1⟩, ⟨[.string x.text], [.string x.to], rfl, ⟨rfl, w2⟩, ⟨rfl, w3⟩⟩⟩⟩
open Classical in
theorem gAct_ow {A : Hp} {l : List Value} {x : Act} : gAct.ow l x A ↔ l = .int .i64 x.kind :: .string x.name :: .string x.text :: .string x.to :: [] ∧ A.Perm [] ∧ okI x.kind ∧ x.name.size ≤ 9223372036854775807 ∧ x.text.size ≤ 9223372036854775807 ∧ x.to.size ≤ 9223372036854775807 := by
  constructor
  · rintro ⟨m0, q0, D0, E0, rfl, p0, h0, m1, q1, D1, E1, rfl, p1, h1, m2, q2, D2, E2, rfl, p2, h2, h3⟩
    obtain ⟨rfl, w0, e0⟩ := h0
    subst e0
    obtain ⟨rfl, w1, e1⟩ := h1
    subst e1
    obtain ⟨rfl, w2, e2⟩ := h2
    subst e2
    obtain ⟨rfl, w3, e3⟩ := h3
    subst e3
    exact ⟨rfl, (perm_cnt fun a => by have e0 := p0.count_eq a; have e1 := p1.count_eq a; have e2 := p2.count_eq a; simp only [List.count_append, List.count_nil] at *; omega), w0, w1, w2, w3⟩
  rintro ⟨rfl, hp, w0, w1, w2, w3⟩
  exact ⟨[.int .i64 x.kind], .string x.name :: .string x.text :: .string x.to :: [], [], ([] ++ ([] ++ [])), rfl, (perm_cnt fun a => by have e := hp.count_eq a; simp only [List.count_append, List.count_nil] at *; omega), ⟨rfl, w0, rfl⟩, ⟨[.string x.name], .string x.text :: .string x.to :: [], [], ([] ++ []), rfl, .refl _, ⟨rfl, w1, rfl⟩, ⟨[.string x.text], [.string x.to], [], [], rfl, .refl _, ⟨rfl, w2, rfl⟩, ⟨rfl, w3, rfl⟩⟩⟩⟩
--@gt impl.Act | gAct | default | obtain ⟨rfl, w0x#, w1x#, w2x#, w3x#⟩ := gAct_rd.1 hl# | 0 1 pr gAct_kind ; 1 1 pr gAct_name ; 2 1 pr gAct_text ; 3 1 pr gAct_to | 4 | gAct_own ‹_›
--@gt impl.Walk | gWalk | default | obtain ⟨rfl, w0x#, w1x#, w2x#, w3x#⟩ := gWalk_rd.1 hl# | 0 1 pr gWalk_atom ; 1 1 pr gWalk_src ; 2 1 pr gWalk_at ; 3 1 pr gWalk_state | 4 | gWalk_own ‹_›
--@gt impl.Letter | gLetter | default | obtain ⟨b4x#, c4x#, rfl, w0x#, w1x#, w2x#, h4x#, w5x#⟩ := gLetter_rd.1 hl# | 0 1 pr gLetter_kind ; 1 1 pr gLetter_atom ; 2 1 pr gLetter_num ; 3 1 pr gLetter_black ; 4 1 sl gLetter_walks ; 5 1 pr gLetter_text | 6 | 
--@gt impl.Link | gLink | default | obtain ⟨b0x#, c0x#, rfl, h0x#, w1x#, w2x#⟩ := gLink_rd.1 hl# | 0 1 sl gLink_sent ; 1 1 pr gLink_acked ; 2 1 pr gLink_took | 3 | 
--@gt impl.Got | gGot | default | obtain ⟨l2x#, rfl, w0x#, w1x#, h2x#⟩ := gGot_rd.1 hl# ; obtain ⟨b0_2x#, c0_2x#, rfl, h0_2x#⟩ := gBag_rd.1 h2x# | 0 1 pr gGot_from ; 1 1 pr gGot_atom ; 2 1 st gGot_bag ; 2 1 sl gGot_bag_items | 3 | 
--@gt impl.Cell | gCell | default | obtain ⟨l0x#, b1x#, c1x#, b4x#, c4x#, rfl, h0x#, h1x#, w2x#, w3x#, h4x#⟩ := gCell_rd.1 hl# ; obtain ⟨b1_0x#, c1_0x#, b2_0x#, c2_0x#, b3_0x#, c3_0x#, rfl, h1_0x#, h2_0x#, h3_0x#⟩ := gQuery_rd.1 h0x# | 0 4 st gCell_query ; 0 1 pr gCell_query_each ; 1 1 sl gCell_query_out ; 2 1 sl gCell_query_atoms ; 3 1 sl gCell_query_filters ; 4 1 sl gCell_shares ; 5 1 pr gCell_at ; 6 1 pr gCell_n ; 7 1 sl gCell_gots | 8 | 
--@gt impl.Mail | gMail | default | obtain ⟨l1x#, rfl, w0x#, h1x#⟩ := gMail_rd.1 hl# ; obtain ⟨b4_1x#, c4_1x#, rfl, w0_1x#, w1_1x#, w2_1x#, h4_1x#, w5_1x#⟩ := gLetter_rd.1 h1x# | 0 1 pr gMail_peer ; 1 6 st gMail_letter ; 1 1 pr gMail_letter_kind ; 2 1 pr gMail_letter_atom ; 3 1 pr gMail_letter_num ; 4 1 pr gMail_letter_black ; 5 1 sl gMail_letter_walks ; 6 1 pr gMail_letter_text | 7 | 
--@gt impl.Work | gWork | default | obtain ⟨l1x#, b2x#, c2x#, b4x#, c4x#, l11x#, b13x#, c13x#, rfl, h1x#, h2x#, w3x#, h4x#, w5x#, w8x#, h11x#, h13x#⟩ := gWork_rd.1 hl# ; obtain ⟨b1_1x#, c1_1x#, b2_1x#, c2_1x#, b3_1x#, c3_1x#, rfl, h1_1x#, h2_1x#, h3_1x#⟩ := gQuery_rd.1 h1x# ; obtain ⟨l0_11x#, b1_11x#, c1_11x#, b4_11x#, c4_11x#, rfl, h0_11x#, h1_11x#, w2_11x#, w3_11x#, h4_11x#⟩ := gCell_rd.1 h11x# ; obtain ⟨b1_0_11x#, c1_0_11x#, b2_0_11x#, c2_0_11x#, b3_0_11x#, c3_0_11x#, rfl, h1_0_11x#, h2_0_11x#, h3_0_11x#⟩ := gQuery_rd.1 h0_11x# | 0 1 pr gWork_begun ; 1 4 st gWork_query ; 1 1 pr gWork_query_each ; 2 1 sl gWork_query_out ; 3 1 sl gWork_query_atoms ; 4 1 sl gWork_query_filters ; 5 1 sl gWork_shares ; 6 1 pr gWork_count ; 7 1 sl gWork_seen ; 8 1 pr gWork_num ; 9 1 pr gWork_black ; 10 1 pr gWork_holds ; 11 1 pr gWork_tokNum ; 12 1 pr gWork_tokBlack ; 13 1 pr gWork_walked ; 14 8 st gWork_cell ; 14 4 st gWork_cell_query ; 14 1 pr gWork_cell_query_each ; 15 1 sl gWork_cell_query_out ; 16 1 sl gWork_cell_query_atoms ; 17 1 sl gWork_cell_query_filters ; 18 1 sl gWork_cell_shares ; 19 1 pr gWork_cell_at ; 20 1 pr gWork_cell_n ; 21 1 sl gWork_cell_gots ; 22 1 pr gWork_told ; 23 1 sl gWork_waits | 24 | 
--@gt impl.Ask | gAsk | default | obtain ⟨l1x#, b2x#, c2x#, b4x#, c4x#, l6x#, rfl, h1x#, h2x#, w3x#, h4x#, h6x#⟩ := gAsk_rd.1 hl# ; obtain ⟨b1_1x#, c1_1x#, b2_1x#, c2_1x#, b3_1x#, c3_1x#, rfl, h1_1x#, h2_1x#, h3_1x#⟩ := gQuery_rd.1 h1x# ; obtain ⟨b0_6x#, c0_6x#, rfl, h0_6x#⟩ := gBag_rd.1 h6x# | 0 1 pr gAsk_on ; 1 4 st gAsk_query ; 1 1 pr gAsk_query_each ; 2 1 sl gAsk_query_out ; 3 1 sl gAsk_query_atoms ; 4 1 sl gAsk_query_filters ; 5 1 sl gAsk_shares ; 6 1 pr gAsk_count ; 7 1 sl gAsk_results ; 8 1 pr gAsk_over ; 9 1 st gAsk_answer ; 9 1 sl gAsk_answer_items | 10 | 
--@gt impl.Node | gNode | default | obtain ⟨l2x#, b5x#, c5x#, l6x#, l7x#, rfl, w0x#, h2x#, w3x#, h5x#, h6x#, h7x#⟩ := gNode_rd.1 hl# ; obtain ⟨b0_2x#, c0_2x#, rfl, h0_2x#⟩ := gDisk_rd.1 h2x# ; obtain ⟨l1_6x#, b2_6x#, c2_6x#, b4_6x#, c4_6x#, l11_6x#, b13_6x#, c13_6x#, rfl, h1_6x#, h2_6x#, w3_6x#, h4_6x#, w5_6x#, w8_6x#, h11_6x#, h13_6x#⟩ := gWork_rd.1 h6x# ; obtain ⟨b1_1_6x#, c1_1_6x#, b2_1_6x#, c2_1_6x#, b3_1_6x#, c3_1_6x#, rfl, h1_1_6x#, h2_1_6x#, h3_1_6x#⟩ := gQuery_rd.1 h1_6x# ; obtain ⟨l0_11_6x#, b1_11_6x#, c1_11_6x#, b4_11_6x#, c4_11_6x#, rfl, h0_11_6x#, h1_11_6x#, w2_11_6x#, w3_11_6x#, h4_11_6x#⟩ := gCell_rd.1 h11_6x# ; obtain ⟨b1_0_11_6x#, c1_0_11_6x#, b2_0_11_6x#, c2_0_11_6x#, b3_0_11_6x#, c3_0_11_6x#, rfl, h1_0_11_6x#, h2_0_11_6x#, h3_0_11_6x#⟩ := gQuery_rd.1 h0_11_6x# ; obtain ⟨l1_7x#, b2_7x#, c2_7x#, b4_7x#, c4_7x#, l6_7x#, rfl, h1_7x#, h2_7x#, w3_7x#, h4_7x#, h6_7x#⟩ := gAsk_rd.1 h7x# ; obtain ⟨b1_1_7x#, c1_1_7x#, b2_1_7x#, c2_1_7x#, b3_1_7x#, c3_1_7x#, rfl, h1_1_7x#, h2_1_7x#, h3_1_7x#⟩ := gQuery_rd.1 h1_7x# ; obtain ⟨b0_6_7x#, c0_6_7x#, rfl, h0_6_7x#⟩ := gBag_rd.1 h6_7x# | 0 1 pr gNode_id ; 1 1 pr gNode_up ; 2 1 st gNode_disk ; 2 1 sl gNode_disk_files ; 3 1 pr gNode_epoch ; 4 1 pr gNode_joined ; 5 1 sl gNode_links ; 6 24 st gNode_work ; 6 1 pr gNode_work_begun ; 7 4 st gNode_work_query ; 7 1 pr gNode_work_query_each ; 8 1 sl gNode_work_query_out ; 9 1 sl gNode_work_query_atoms ; 10 1 sl gNode_work_query_filters ; 11 1 sl gNode_work_shares ; 12 1 pr gNode_work_count ; 13 1 sl gNode_work_seen ; 14 1 pr gNode_work_num ; 15 1 pr gNode_work_black ; 16 1 pr gNode_work_holds ; 17 1 pr gNode_work_tokNum ; 18 1 pr gNode_work_tokBlack ; 19 1 pr gNode_work_walked ; 20 8 st gNode_work_cell ; 20 4 st gNode_work_cell_query ; 20 1 pr gNode_work_cell_query_each ; 21 1 sl gNode_work_cell_query_out ; 22 1 sl gNode_work_cell_query_atoms ; 23 1 sl gNode_work_cell_query_filters ; 24 1 sl gNode_work_cell_shares ; 25 1 pr gNode_work_cell_at ; 26 1 pr gNode_work_cell_n ; 27 1 sl gNode_work_cell_gots ; 28 1 pr gNode_work_told ; 29 1 sl gNode_work_waits ; 30 10 st gNode_ask ; 30 1 pr gNode_ask_on ; 31 4 st gNode_ask_query ; 31 1 pr gNode_ask_query_each ; 32 1 sl gNode_ask_query_out ; 33 1 sl gNode_ask_query_atoms ; 34 1 sl gNode_ask_query_filters ; 35 1 sl gNode_ask_shares ; 36 1 pr gNode_ask_count ; 37 1 sl gNode_ask_results ; 38 1 pr gNode_ask_over ; 39 1 st gNode_ask_answer ; 39 1 sl gNode_ask_answer_items | 40 | 
--@gt impl.Cluster | gCluster | default | obtain ⟨l0x#, b1x#, c1x#, b2x#, c2x#, b3x#, c3x#, b4x#, c4x#, rfl, h0x#, h1x#, h2x#, h3x#, h4x#⟩ := gCluster_rd.1 hl# ; obtain ⟨b1_0x#, c1_0x#, b2_0x#, c2_0x#, b3_0x#, c3_0x#, rfl, h1_0x#, h2_0x#, h3_0x#⟩ := gQuery_rd.1 h0x# | 0 4 st gCluster_query ; 0 1 pr gCluster_query_each ; 1 1 sl gCluster_query_out ; 2 1 sl gCluster_query_atoms ; 3 1 sl gCluster_query_filters ; 4 1 sl gCluster_nodes ; 5 1 sl gCluster_net ; 6 1 sl gCluster_codes ; 7 1 sl gCluster_replies | 8 | 
--@gt []impl.Item | (gSl 218 gItem) | [] | | 0 1 sl fldId | 1
--@gt []impl.Bag | (gSl 33 gBag) | [] | | 0 1 sl fldId | 1
--@gt []impl.Edge | (gSl 209 gEdge) | [] | | 0 1 sl fldId | 1
--@gt []impl.Graph | (gSl 88 gGraph) | [] | | 0 1 sl fldId | 1
--@gt []impl.Piece | (gSl 417 gPiece) | [] | | 0 1 sl fldId | 1
--@gt []impl.Path | (gSl 269 gPath) | [] | | 0 1 sl fldId | 1
--@gt []impl.Arc | (gSl 276 gArc) | [] | | 0 1 sl fldId | 1
--@gt []impl.Nfa | (gSl 169 gNfa) | [] | | 0 1 sl fldId | 1
--@gt []impl.Atom | (gSl 118 gAtom) | [] | | 0 1 sl fldId | 1
--@gt []impl.Filter | (gSl 220 gFilter) | [] | | 0 1 sl fldId | 1
--@gt []impl.Query | (gSl 39 gQuery) | [] | | 0 1 sl fldId | 1
--@gt []impl.Table | (gSl 191 gTable) | [] | | 0 1 sl fldId | 1
--@gt []impl.File | (gSl 323 gFile) | [] | | 0 1 sl fldId | 1
--@gt []impl.Disk | (gSl 153 gDisk) | [] | | 0 1 sl fldId | 1
--@gt []impl.Act | (gSl 382 gAct) | [] | | 0 1 sl fldId | 1
--@gt []impl.Walk | (gSl 164 gWalk) | [] | | 0 1 sl fldId | 1
--@gt []impl.Letter | (gSl 243 gLetter) | [] | | 0 1 sl fldId | 1
--@gt []impl.Link | (gSl 421 gLink) | [] | | 0 1 sl fldId | 1
--@gt []impl.Got | (gSl 188 gGot) | [] | | 0 1 sl fldId | 1
--@gt []impl.Cell | (gSl 63 gCell) | [] | | 0 1 sl fldId | 1
--@gt []impl.Mail | (gSl 245 gMail) | [] | | 0 1 sl fldId | 1
--@gt []impl.Work | (gSl 66 gWork) | [] | | 0 1 sl fldId | 1
--@gt []impl.Ask | (gSl 156 gAsk) | [] | | 0 1 sl fldId | 1
--@gt []impl.Node | (gSl 158 gNode) | [] | | 0 1 sl fldId | 1
--@gt []impl.Cluster | (gSl 84 gCluster) | [] | | 0 1 sl fldId | 1
--@gt []int | (gSl 3 gI) | [] | | 0 1 sl fldId | 1
--@gt []bool | (gSl 4 gB) | [] | | 0 1 sl fldId | 1
--@gt []uint8 | (gSl 5 gY) | [] | | 0 1 sl fldId | 1
--@gt []string | (gSl 9 gS) | [] | | 0 1 sl fldId | 1
--@gt int | gI | 0 | | 0 1 pr fldId | 1 | gI_ow ?_
--@gt bool | gB | false | | 0 1 pr fldId | 1 | gB_ow ?_
--@gt uint8 | gY | 0 | | 0 1 pr fldId | 1 | gY_owM _; gY_ow trivial
--@gt string | gS | ByteArray.empty | | 0 1 pr fldId | 1 | gS_ow ?_
end Go.Proofs.YtjgehblllhkdbaaGreat

namespace Go.Proofs.YtjgehblllhkdbaaGreat
open Go.SX Go.Proofs
set_option linter.unusedSimpArgs false
set_option linter.unusedVariables false
set_option maxHeartbeats 4000000
def inR (a b n : Int) : Bool := decide (a ≤ n) && decide (n ≤ b)
theorem inR_iff {a b n : Int} : inR a b n = true ↔ a ≤ n ∧ n ≤ b := by unfold inR; simp
--@ct impl.isWorkers val isWorkers_ct _
theorem isWorkers_ct (n : Int) : Ct Tryz.prog 140 [.int .i64 n] [] (fun _ => True) (fun v A => v = .bool (inR 1 8 n) ∧ A = []) := by
  refine Ct.intro0 G_ok Tryz.func140 rfl rfl rfl fun E H hp => ?_
  refine VCsplit.intro (fun q0 => ?_) (fun q0 => ?_)
  ·
    simp at q0
    exact ⟨[], ⟨by unfold inR; first | rw [decide_eq_true (by omega : (1 : Int) ≤ n), Bool.true_and] | rw [decide_eq_false (by omega : ¬ (1 : Int) ≤ n), Bool.false_and], rfl⟩, (.le fun a => by (try simp only [setR, List.cons_append, List.nil_append]); simp only [List.flatten_append, List.flatten_cons, List.flatten_nil, List.count_append, List.count_nil, List.append_nil, List.nil_append]; omega)⟩
  ·
    simp at q0
    exact ⟨[], ⟨by unfold inR; first | rw [decide_eq_true (by omega : (1 : Int) ≤ n), Bool.true_and] | rw [decide_eq_false (by omega : ¬ (1 : Int) ≤ n), Bool.false_and], rfl⟩, (.le fun a => by (try simp only [setR, List.cons_append, List.nil_append]); simp only [List.flatten_append, List.flatten_cons, List.flatten_nil, List.count_append, List.count_nil, List.append_nil, List.nil_append]; omega)⟩
--@ct spec.l01In val l01In_ct _ _ _
theorem l01In_ct (n a b : Int) : Ct Tryz.prog 61 [.int .i64 n, .int .i64 a, .int .i64 b] [] (fun _ => True) (fun v A => v = .bool (inR a b n) ∧ A = []) := by
  refine Ct.intro0 G_ok Tryz.func61 rfl rfl rfl fun E H hp => ?_
  refine VCsplit.intro (fun q0 => ?_) (fun q0 => ?_)
  ·
    simp at q0
    exact ⟨[], ⟨by unfold inR; first | rw [decide_eq_true (by omega : a ≤ n), Bool.true_and] | rw [decide_eq_false (by omega : ¬ a ≤ n), Bool.false_and], rfl⟩, (.le fun a => by (try simp only [setR, List.cons_append, List.nil_append]); simp only [List.flatten_append, List.flatten_cons, List.flatten_nil, List.count_append, List.count_nil, List.append_nil, List.nil_append]; omega)⟩
  ·
    simp at q0
    exact ⟨[], ⟨by unfold inR; first | rw [decide_eq_true (by omega : a ≤ n), Bool.true_and] | rw [decide_eq_false (by omega : ¬ a ≤ n), Bool.false_and], rfl⟩, (.le fun a => by (try simp only [setR, List.cons_append, List.nil_append]); simp only [List.flatten_append, List.flatten_cons, List.flatten_nil, List.count_append, List.count_nil, List.append_nil, List.nil_append]; omega)⟩
end Go.Proofs.YtjgehblllhkdbaaGreat

namespace Go.Proofs.YtjgehblllhkdbaaGreat
open Go.SX Go.Proofs
set_option linter.unusedSimpArgs false
set_option linter.unusedVariables false
set_option maxHeartbeats 4000000
/-- the bytes of a text -/
def by' (s : ByteArray) : List UInt8 := s.data.toList
def tx (l : List UInt8) : ByteArray := ⟨l.toArray⟩
theorem tx_by (s : ByteArray) : tx (by' s) = s := by unfold tx by'; rfl
theorem by_tx (l : List UInt8) : by' (tx l) = l := by unfold tx by'; simp
theorem by_inj {a b : ByteArray} : by' a = by' b ↔ a = b := ⟨fun h => by rw [← tx_by a, h, tx_by], fun h => by rw [h]⟩
theorem by_size (s : ByteArray) : (by' s).length = s.size := by unfold by'; simp
theorem by_app (a b : ByteArray) : by' (a ++ b) = by' a ++ by' b := by unfold by'; simp
theorem tx_app (a b : List UInt8) : tx (a ++ b) = tx a ++ tx b := by rw [← by_inj, by_app, by_tx, by_tx, by_tx]
theorem by_get (s : ByteArray) (i : Nat) : (s[i]?).getD 0 = ((by' s)[i]?).getD 0 := by
  by_cases h : i < s.size
  · have h2 : i < s.data.size := h
    rw [getElem?_pos s i h, List.getElem?_eq_getElem (by rw [by_size]; exact h)]
    simp [by']; rfl
  rw [getElem?_neg s i h, List.getElem?_eq_none (by rw [by_size]; omega)]
def xu (x y : Int) : Int := IntKind.u32.wrap (BitVec.ofInt IntKind.u32.bits x ^^^ BitVec.ofInt IntKind.u32.bits y).toNat
theorem u32_wrap (x : Int) : IntKind.u32.wrap x = x % 4294967296 := by
  unfold IntKind.wrap
  simp [IntKind.bits, IntKind.signed]
theorem xu_rng (x y : Int) : 0 ≤ xu x y ∧ xu x y < 4294967296 := by unfold xu; rw [u32_wrap]; omega
def bitStep (s : Int) : Int := if s % 2 = 1 then xu (s / 2) 3558460437 else s / 2
theorem bitStep_rng {s : Int} (h : 0 ≤ s ∧ s < 4294967296) : 0 ≤ bitStep s ∧ bitStep s < 4294967296 := by
  unfold bitStep; split
  · exact xu_rng _ _
  omega
def bits : Nat → Int → Int
  | 0, s => s
  | n + 1, s => bitStep (bits n s)
theorem bits_rng {s : Int} (h : 0 ≤ s ∧ s < 4294967296) : ∀ n, 0 ≤ bits n s ∧ bits n s < 4294967296
  | 0 => h
  | n + 1 => bitStep_rng (bits_rng h n)
def byteStep (s : Int) (b : UInt8) : Int := bits 8 (xu s b.toNat)
def sumMore (s : Int) (l : List UInt8) : Int := l.foldl byteStep s
theorem byteStep_rng (s : Int) (b : UInt8) : 0 ≤ byteStep s b ∧ byteStep s b < 4294967296 := bits_rng (xu_rng _ _) 8
theorem sumMore_rng {s : Int} (h : 0 ≤ s ∧ s < 4294967296) (l : List UInt8) : 0 ≤ sumMore s l ∧ sumMore s l < 4294967296 := by
  unfold sumMore
  induction l generalizing s with
  | nil => exact h
  | cons b r ih => exact ih (byteStep_rng s b)
theorem sumMore_step (s : Int) (t : ByteArray) (k : Nat) (h : k < t.size) : sumMore s ((by' t).take (k + 1)) = byteStep (sumMore s ((by' t).take k)) ((t[k]?).getD 0) := by
  unfold sumMore
  rw [by_get, List.getElem?_eq_getElem (by rw [by_size]; exact h), ← List.take_append_getElem (by rw [by_size]; exact h), List.foldl_append]
  rfl
def sumOf (t : ByteArray) : Int := sumMore 4294967295 (by' t)
theorem sumOf_rng (t : ByteArray) : 0 ≤ sumOf t ∧ sumOf t < 4294967296 := sumMore_rng (by omega) _
theorem xu_in (S : Int) (b : UInt8) : Value.int .u32 (IntKind.u32.wrap (BitVec.ofInt IntKind.u32.bits S ^^^ BitVec.ofInt IntKind.u32.bits (IntKind.u32.wrap (b.toNat : Nat))).toNat) = Value.int .u32 (bits 0 (xu S b.toNat)) := by
  have : IntKind.u32.wrap (b.toNat : Nat) = (b.toNat : Nat) := by rw [u32_wrap]; have := b.toNat_lt; omega
  rw [this]; rfl
theorem sum_out (s : Int) (t : ByteArray) (k : Nat) (h : k < t.size) : Value.int .u32 (bits 8 (xu (sumMore s ((by' t).take k)) ((t[k]?).getD 0).toNat)) = Value.int .u32 (sumMore s ((by' t).take (k + 1))) := by
  rw [sumMore_step s t k h]; rfl
theorem and_one {s : Int} (h : 0 ≤ s ∧ s < 4294967296) : IntKind.u32.wrap (BitVec.ofInt IntKind.u32.bits s &&& BitVec.ofInt IntKind.u32.bits 1).toNat = s % 2 := by
  obtain ⟨n, rfl⟩ := Int.eq_ofNat_of_zero_le h.1
  have hn : n < 4294967296 := by omega
  rw [u32_wrap]
  show (((BitVec.ofInt 32 (n : Int) &&& BitVec.ofInt 32 1).toNat : Nat) : Int) % 4294967296 = _
  have e1 : BitVec.ofInt 32 (n : Int) = BitVec.ofNat 32 n := by simp
  have e2 : BitVec.ofInt 32 1 = BitVec.ofNat 32 1 := by decide
  rw [e1, e2, BitVec.toNat_and, BitVec.toNat_ofNat, BitVec.toNat_ofNat, Nat.mod_eq_of_lt (by omega : n < 2 ^ 32)]
  rw [show 1 % 2 ^ 32 = 1 from rfl, Nat.and_one_is_mod]
  omega
theorem bits_succ (j : Nat) (s : Int) : bits (j + 1) s = bitStep (bits j s) := rfl
theorem sum_in (s : Int) (t : ByteArray) : Value.int .u32 s = Value.int .u32 (sumMore s ((by' t).take 0)) := rfl
theorem half_i (B : Int) : B.fdiv (2 ^ min (Int.toNat 1) IntKind.u32.bits) = B / 2 := by
  rw [show (2 : Int) ^ min (Int.toNat 1) IntKind.u32.bits = 2 from by decide, Int.fdiv_eq_ediv_of_nonneg _ (by omega)]
theorem half_s {B : Int} (hB : 0 ≤ B ∧ B < 4294967296) : IntKind.u32.wrap (B.tdiv 2) = B / 2 := by
  rw [Int.tdiv_eq_ediv_of_nonneg hB.1, u32_wrap]; omega
theorem odd_i {B : Int} (h : B % 2 = 1) : Value.int .u32 (IntKind.u32.wrap (BitVec.ofInt IntKind.u32.bits (B.fdiv (2 ^ min (Int.toNat 1) IntKind.u32.bits)) ^^^ BitVec.ofInt IntKind.u32.bits 3558460437).toNat) = Value.int .u32 (bitStep B) := by
  rw [half_i]; unfold bitStep; rw [if_pos h]; rfl
theorem even_i {B : Int} (h : ¬ B % 2 = 1) : Value.int .u32 (B.fdiv (2 ^ min (Int.toNat 1) IntKind.u32.bits)) = Value.int .u32 (bitStep B) := by
  rw [half_i]; unfold bitStep; rw [if_neg h]
theorem odd_s {B : Int} (hB : 0 ≤ B ∧ B < 4294967296) (h : B % 2 = 1) : Value.int .u32 (IntKind.u32.wrap (BitVec.ofInt IntKind.u32.bits (IntKind.u32.wrap (B.tdiv 2)) ^^^ BitVec.ofInt IntKind.u32.bits 3558460437).toNat) = Value.int .u32 (bitStep B) := by
  rw [half_s hB]; unfold bitStep; rw [if_pos h]; rfl
theorem even_s {B : Int} (hB : 0 ≤ B ∧ B < 4294967296) (h : ¬ B % 2 = 1) : Value.int .u32 (IntKind.u32.wrap (B.tdiv 2)) = Value.int .u32 (bitStep B) := by
  rw [half_s hB]; unfold bitStep; rw [if_neg h]
theorem tmod2 {B : Int} (hB : 0 ≤ B ∧ B < 4294967296) : B.tmod 2 = B % 2 := Int.tmod_eq_emod_of_nonneg hB.1
attribute [irreducible] xu bits sumMore
attribute [local irreducible] IntKind.wrap
--@ct impl.SumMore val implSumMore_ct _ _ ?_ ?_
theorem implSumMore_ct (s : Int) (t : ByteArray) (hs : 0 ≤ s ∧ s < 4294967296) (ht : t.size ≤ 9223372036854775807) :
    Ct Tryz.prog 330 [.int .u32 s, .string t] [] (fun _ => True) (fun v A => v = .int .u32 (sumMore s (by' t)) ∧ A = []) := by
  refine Ct.intro0 G_ok Tryz.func330 rfl rfl rfl fun E H hp => ?_
  apply loop_mod (α := (Nat)) G_ok [7, 8, 9, 10, 13, 14, 15, 16, 17, 18, 0, 19, 20, 21, 22, 6, 23, 24, 25, 26, 27, 28, 29, 11, 12, 5] (fun z => [(5, .v (.int .i64 z)), (0, .v (.int .u32 (sumMore s ((by' t).take z))))]) (fun z => []) (fun z => [H]) (fun z => t.size - z) (fun z => z ≤ t.size) (0)
  · repeat' (first | exact trivial | refine ⟨⟨_, rfl, by first | rfl | exact inc_eq _ (by omega) | (refine sl_eq ?_; simp; done) | exact xu_in _ _ | exact sum_in _ _ | (rw [bits_succ]; exact odd_i ‹_›) | (rw [bits_succ]; exact even_i ‹_›) | (rw [bits_succ]; exact odd_s hB ‹_›) | (rw [bits_succ]; exact even_s hB ‹_›) | exact sum_out s t k (by omega), by first | exact trivial | simp [SV.ok]⟩, ?_⟩)
  · exact trivial
  · omega
  · exact .refl _
  rintro k hI
  obtain hk : k ≤ t.size := hI
  try dsimp only
  refine VCsplit.intro (fun q0 => ?_) (fun q0 => ?_)
  ·
    simp at q0
    have hS := sumMore_rng hs ((by' t).take k)
    have hX := xu_rng (sumMore s ((by' t).take k)) ((t[k]?).getD 0).toNat
    refine VC.intro ?_ ?_
    · omega
    apply loop_mod (α := (Nat)) G_ok [20, 21, 22, 6, 23, 24, 0, 25, 26, 27, 28, 29, 19] (fun z => [(19, .v (.int .i64 z)), (0, .v (.int .u32 (bits z (xu (sumMore s ((by' t).take k)) ((t[k]?).getD 0).toNat))))]) (fun z => []) (fun z => [H]) (fun z => 8 - z) (fun z => z ≤ 8) (0)
    · repeat' (first | exact trivial | refine ⟨⟨_, rfl, by first | rfl | exact inc_eq _ (by omega) | (refine sl_eq ?_; simp; done) | exact xu_in _ _ | exact sum_in _ _ | (rw [bits_succ]; exact odd_i ‹_›) | (rw [bits_succ]; exact even_i ‹_›) | (rw [bits_succ]; exact odd_s hB ‹_›) | (rw [bits_succ]; exact even_s hB ‹_›) | exact sum_out s t k (by omega), by first | exact trivial | simp [SV.ok]⟩, ?_⟩)
    · exact trivial
    · trivial
    · exact .refl _
    rintro j hI
    obtain hj : j ≤ 8 := hI
    try dsimp only
    refine VCsplit.intro (fun q1 => ?_) (fun q1 => ?_)
    ·
      simp at q1
      have hB := bits_rng hX j
      refine VC.intro ?_ ?_
      · trivial
      refine VCsplit.intro (fun q2 => ?_) (fun q2 => ?_)
      ·
        rw [and_one hB] at q2
        simp at q2
        apply loop_stepA (j + 1)
        · exact .refl _
        · repeat' (first | exact trivial | refine ⟨⟨_, rfl, by first | rfl | exact inc_eq _ (by omega) | (refine sl_eq ?_; simp; done) | exact xu_in _ _ | exact sum_in _ _ | (rw [bits_succ]; exact odd_i ‹_›) | (rw [bits_succ]; exact even_i ‹_›) | (rw [bits_succ]; exact odd_s hB ‹_›) | (rw [bits_succ]; exact even_s hB ‹_›) | exact sum_out s t k (by omega), by first | exact trivial | simp [SV.ok]⟩, ?_⟩)
        · exact trivial
        · omega
        omega
      ·
        rw [and_one hB] at q2
        simp at q2
        apply loop_stepA (j + 1)
        · exact .refl _
        · repeat' (first | exact trivial | refine ⟨⟨_, rfl, by first | rfl | exact inc_eq _ (by omega) | (refine sl_eq ?_; simp; done) | exact xu_in _ _ | exact sum_in _ _ | (rw [bits_succ]; exact odd_i ‹_›) | (rw [bits_succ]; exact even_i ‹_›) | (rw [bits_succ]; exact odd_s hB ‹_›) | (rw [bits_succ]; exact even_s hB ‹_›) | exact sum_out s t k (by omega), by first | exact trivial | simp [SV.ok]⟩, ?_⟩)
        · exact trivial
        · omega
        omega
    ·
      simp at q1
      obtain rfl : j = 8 := by omega
      apply loop_stepA (k + 1)
      · exact .refl _
      · repeat' (first | exact trivial | refine ⟨⟨_, rfl, by first | rfl | exact inc_eq _ (by omega) | (refine sl_eq ?_; simp; done) | exact xu_in _ _ | exact sum_in _ _ | (rw [bits_succ]; exact odd_i ‹_›) | (rw [bits_succ]; exact even_i ‹_›) | (rw [bits_succ]; exact odd_s hB ‹_›) | (rw [bits_succ]; exact even_s hB ‹_›) | exact sum_out s t k (by omega), by first | exact trivial | simp [SV.ok]⟩, ?_⟩)
      · exact trivial
      · trivial
      omega
  ·
    simp at q0
    obtain rfl : k = t.size := by omega
    have hF : (by' t).take t.size = by' t := by rw [← by_size, List.take_length]
    exact ⟨[], ⟨by rw [hF], rfl⟩, (.le fun a => by (try simp only [setR, List.cons_append, List.nil_append]); simp only [List.flatten_append, List.flatten_cons, List.flatten_nil, List.count_append, List.count_nil, List.append_nil, List.nil_append]; omega)⟩
--@ct spec.SumMore val specSumMore_ct _ _ ?_ ?_
theorem specSumMore_ct (s : Int) (t : ByteArray) (hs : 0 ≤ s ∧ s < 4294967296) (ht : t.size ≤ 9223372036854775807) :
    Ct Tryz.prog 275 [.int .u32 s, .string t] [] (fun _ => True) (fun v A => v = .int .u32 (sumMore s (by' t)) ∧ A = []) := by
  refine Ct.intro0 G_ok Tryz.func275 rfl rfl rfl fun E H hp => ?_
  apply loop_mod (α := (Nat)) G_ok [8, 9, 10, 11, 14, 15, 16, 17, 18, 19, 0, 6, 20, 21, 24, 25, 26, 7, 27, 28, 29, 30, 31, 22, 23, 12, 13, 5] (fun z => [(5, .v (.int .i64 z)), (0, .v (.int .u32 (sumMore s ((by' t).take z))))]) (fun z => []) (fun z => [H]) (fun z => t.size - z) (fun z => z ≤ t.size) (0)
  · repeat' (first | exact trivial | refine ⟨⟨_, rfl, by first | rfl | exact inc_eq _ (by omega) | (refine sl_eq ?_; simp; done) | exact xu_in _ _ | exact sum_in _ _ | (rw [bits_succ]; exact odd_i ‹_›) | (rw [bits_succ]; exact even_i ‹_›) | (rw [bits_succ]; exact odd_s hB ‹_›) | (rw [bits_succ]; exact even_s hB ‹_›) | exact sum_out s t k (by omega), by first | exact trivial | simp [SV.ok]⟩, ?_⟩)
  · exact trivial
  · omega
  · exact .refl _
  rintro k hI
  obtain hk : k ≤ t.size := hI
  try dsimp only
  refine VCsplit.intro (fun q0 => ?_) (fun q0 => ?_)
  ·
    simp at q0
    have hS := sumMore_rng hs ((by' t).take k)
    have hX := xu_rng (sumMore s ((by' t).take k)) ((t[k]?).getD 0).toNat
    refine VC.intro ?_ ?_
    · omega
    apply loop_mod (α := (Nat)) G_ok [20, 21, 24, 25, 26, 7, 27, 28, 0, 29, 30, 31, 22, 23, 6] (fun z => [(6, .v (.int .i64 z)), (0, .v (.int .u32 (bits z (xu (sumMore s ((by' t).take k)) ((t[k]?).getD 0).toNat))))]) (fun z => []) (fun z => [H]) (fun z => 8 - z) (fun z => z ≤ 8) (0)
    · repeat' (first | exact trivial | refine ⟨⟨_, rfl, by first | rfl | exact inc_eq _ (by omega) | (refine sl_eq ?_; simp; done) | exact xu_in _ _ | exact sum_in _ _ | (rw [bits_succ]; exact odd_i ‹_›) | (rw [bits_succ]; exact even_i ‹_›) | (rw [bits_succ]; exact odd_s hB ‹_›) | (rw [bits_succ]; exact even_s hB ‹_›) | exact sum_out s t k (by omega), by first | exact trivial | simp [SV.ok]⟩, ?_⟩)
    · exact trivial
    · trivial
    · exact .refl _
    rintro j hI
    obtain hj : j ≤ 8 := hI
    try dsimp only
    refine VCsplit.intro (fun q1 => ?_) (fun q1 => ?_)
    ·
      simp at q1
      have hB := bits_rng hX j
      refine VC.intro ?_ ?_
      · trivial
      refine VC.intro ?_ ?_
      · trivial
      refine VCsplit.intro (fun q2 => ?_) (fun q2 => ?_)
      ·
        rw [tmod2 hB] at q2
        simp at q2
        apply loop_stepA (j + 1)
        · exact .refl _
        · repeat' (first | exact trivial | refine ⟨⟨_, rfl, by first | rfl | exact inc_eq _ (by omega) | (refine sl_eq ?_; simp; done) | exact xu_in _ _ | exact sum_in _ _ | (rw [bits_succ]; exact odd_i ‹_›) | (rw [bits_succ]; exact even_i ‹_›) | (rw [bits_succ]; exact odd_s hB ‹_›) | (rw [bits_succ]; exact even_s hB ‹_›) | exact sum_out s t k (by omega), by first | exact trivial | simp [SV.ok]⟩, ?_⟩)
        · exact trivial
        · omega
        omega
      ·
        rw [tmod2 hB] at q2
        simp at q2
        apply loop_stepA (j + 1)
        · exact .refl _
        · repeat' (first | exact trivial | refine ⟨⟨_, rfl, by first | rfl | exact inc_eq _ (by omega) | (refine sl_eq ?_; simp; done) | exact xu_in _ _ | exact sum_in _ _ | (rw [bits_succ]; exact odd_i ‹_›) | (rw [bits_succ]; exact even_i ‹_›) | (rw [bits_succ]; exact odd_s hB ‹_›) | (rw [bits_succ]; exact even_s hB ‹_›) | exact sum_out s t k (by omega), by first | exact trivial | simp [SV.ok]⟩, ?_⟩)
        · exact trivial
        · omega
        omega
    ·
      simp at q1
      obtain rfl : j = 8 := by omega
      apply loop_stepA (k + 1)
      · exact .refl _
      · repeat' (first | exact trivial | refine ⟨⟨_, rfl, by first | rfl | exact inc_eq _ (by omega) | (refine sl_eq ?_; simp; done) | exact xu_in _ _ | exact sum_in _ _ | (rw [bits_succ]; exact odd_i ‹_›) | (rw [bits_succ]; exact even_i ‹_›) | (rw [bits_succ]; exact odd_s hB ‹_›) | (rw [bits_succ]; exact even_s hB ‹_›) | exact sum_out s t k (by omega), by first | exact trivial | simp [SV.ok]⟩, ?_⟩)
      · exact trivial
      · trivial
      omega
  ·
    simp at q0
    obtain rfl : k = t.size := by omega
    have hF : (by' t).take t.size = by' t := by rw [← by_size, List.take_length]
    exact ⟨[], ⟨by rw [hF], rfl⟩, (.le fun a => by (try simp only [setR, List.cons_append, List.nil_append]); simp only [List.flatten_append, List.flatten_cons, List.flatten_nil, List.count_append, List.count_nil, List.append_nil, List.nil_append]; omega)⟩
end Go.Proofs.YtjgehblllhkdbaaGreat

namespace Go.Proofs.YtjgehblllhkdbaaGreat
open Go.SX Go.Proofs
set_option linter.unusedSimpArgs false
set_option linter.unusedVariables false
set_option maxHeartbeats 4000000
attribute [local irreducible] IntKind.wrap
--@ct impl.SumOf val implSumOf_ct _ ?_
theorem implSumOf_ct (t : ByteArray) (ht : t.size ≤ 9223372036854775807) : Ct Tryz.prog 253 [.string t] [] (fun _ => True) (fun v A => v = .int .u32 (sumOf t) ∧ A = []) := by
  refine Ct.intro0 G_ok Tryz.func253 rfl rfl rfl fun E H hp => ?_
  refine call_val (implSumMore_ct _ _ ?_ ?_) trivial ?_
  · trivial
  · trivial
  rintro _ rfl
  exact ⟨[], ⟨rfl, rfl⟩, (.le fun a => by (try simp only [setR, List.cons_append, List.nil_append]); simp only [List.flatten_append, List.flatten_cons, List.flatten_nil, List.count_append, List.count_nil, List.append_nil, List.nil_append]; omega)⟩
--@ct spec.SumOf val specSumOf_ct _ ?_
theorem specSumOf_ct (t : ByteArray) (ht : t.size ≤ 9223372036854775807) : Ct Tryz.prog 192 [.string t] [] (fun _ => True) (fun v A => v = .int .u32 (sumOf t) ∧ A = []) := by
  refine Ct.intro0 G_ok Tryz.func192 rfl rfl rfl fun E H hp => ?_
  refine call_val (specSumMore_ct _ _ ?_ ?_) trivial ?_
  · trivial
  · trivial
  rintro _ rfl
  exact ⟨[], ⟨rfl, rfl⟩, (.le fun a => by (try simp only [setR, List.cons_append, List.nil_append]); simp only [List.flatten_append, List.flatten_cons, List.flatten_nil, List.count_append, List.count_nil, List.append_nil, List.nil_append]; omega)⟩
def varL : Nat → Nat → List UInt8
  | 0, n => [UInt8.ofNat n]
  | f + 1, n => if 127 < n then UInt8.ofNat (128 + n % 128) :: varL f (n / 128) else [UInt8.ofNat n]
def varT (n : Int) : List UInt8 := varL 9 n.toNat
def varText (n : Int) : ByteArray := tx (varT n)
theorem varL_len : ∀ f n, (varL f n).length ≤ f + 1
  | 0, n => by simp [varL]
  | f + 1, n => by
    unfold varL; split
    · have := varL_len f (n / 128); simp only [List.length_cons]; omega
    simp
theorem varL_low (f n : Nat) (h : n ≤ 127) : varL f n = [UInt8.ofNat n] := by
  cases f with
  | zero => rfl
  | succ f => unfold varL; rw [if_neg (by omega)]
theorem varText_size (n : Int) : (varText n).size ≤ 10 := by
  rw [← by_size]; unfold varText; rw [by_tx]; exact varL_len 9 _
theorem var_b1 (q : Nat) : UInt8.ofNat (IntKind.i64.wrap (128 + (q : Int).tmod 128) % 256).toNat = UInt8.ofNat (128 + q % 128) := by
  rw [Int.tmod_eq_emod_of_nonneg (by omega), wrap_of (by omega) (by omega)]; congr 1; omega
theorem var_b1' (q : Nat) : UInt8.ofNat (IntKind.i64.wrap ((q : Int).tmod 128 + 128) % 256).toNat = UInt8.ofNat (128 + q % 128) := by
  rw [Int.tmod_eq_emod_of_nonneg (by omega), wrap_of (by omega) (by omega)]; congr 1; omega
theorem var_b2 (q : Nat) (h : q ≤ 127) : UInt8.ofNat ((q : Int) % 256).toNat = UInt8.ofNat q := by congr 1; omega
theorem var_q (q : Nat) (h : q ≤ 4611686018427387904) : Value.int .i64 (IntKind.i64.wrap ((q : Int).tdiv 128)) = Value.int .i64 ((q / 128 : Nat) : Int) := by
  rw [Int.tdiv_eq_ediv_of_nonneg (by omega), wrap_of (by omega) (by omega)]; congr 1
theorem pow128 (f q : Nat) (h : q < 128 ^ (f + 1)) (h1 : 127 < q) : ∃ f', f = f' + 1 := by
  cases f with
  | zero => simp at h; omega
  | succ f' => exact ⟨f', rfl⟩
--@ct impl.varText val varText_ct _ ?_ ?_
theorem varText_ct (n : Int) (h0 : 0 ≤ n) (h1 : n ≤ 4611686018427387904) : Ct Tryz.prog 254 [.int .i64 n] [] (fun _ => True) (fun v A => v = .string (varText n) ∧ A = []) := by
  refine Ct.intro0 G_ok Tryz.func254 rfl rfl rfl fun E H hp => ?_
  apply loop_mod (α := (Nat) × (Nat) × (List UInt8) × (Hp) × (Option Addr) × (Nat)) G_ok [4, 5, 6, 7, 8, 9, 10, 11, 12, 3, 13, 14, 0] (fun z => [(3, .v (.slice z.2.2.2.2.1 z.2.2.1.length z.2.2.2.2.2)), (0, .v (.int .i64 z.2.1))]) (fun z => []) (fun z => [z.2.2.2.1, H]) (fun z => z.2.1) (fun z => (gSl 5 gY).ow [.slice z.2.2.2.2.1 z.2.2.1.length z.2.2.2.2.2] z.2.2.1 z.2.2.2.1 ∧ z.2.2.1 ++ varL z.1 z.2.1 = varT n ∧ z.2.1 < 128 ^ (z.1 + 1) ∧ z.2.2.1.length + z.1 ≤ 9 ∧ z.2.1 ≤ 4611686018427387904) ((9, n.toNat, [], [], none, 0))
  · repeat' (first | exact trivial | refine ⟨⟨_, rfl, by first | rfl | exact inc_eq _ (by omega) | (refine sl_eq ?_; simp; done) | (refine svi_eq ?_; (try dsimp only); omega) | exact var_q q (by omega), by first | exact trivial | simp [SV.ok]⟩, ?_⟩)
  · exact trivial
  · try dsimp only
    exact ⟨sl_nil _ _ _, rfl, by omega, by simp, by omega⟩
  · exact .refl _
  rintro ⟨f, q, o, A, b, c⟩ hI
  obtain ⟨oo, hv, hq, hl, hm⟩ : (gSl 5 gY).ow [.slice b o.length c] o A ∧ o ++ varL f q = varT n ∧ q < 128 ^ (f + 1) ∧ o.length + f ≤ 9 ∧ q ≤ 4611686018427387904 := hI
  try dsimp only
  refine VCsplit.intro (fun q0 => ?_) (fun q0 => ?_)
  ·
    simp at q0
    obtain ⟨f, rfl⟩ := pow128 f q hq (by omega)
    refine VC.intro ?_ ?_
    · trivial
    refine VCnew.intro fun x1 => ?_
    refine gappend1 (g := gY) (T := (5 : TypeId)) G_ok A [] [H] ?_ oo (gY_owM _) (List.mem_of_getElem? (i := 0) rfl) rfl rfl rfl rfl rfl rfl rfl rfl ?_ fun b2 c2 A2 o2 => ?_
    · exact .tl
    · omega
    refine VC.intro ?_ ?_
    · trivial
    apply loop_stepA (f, q / 128, _, _, _, _)
    · exact .refl _
    · repeat' (first | exact trivial | refine ⟨⟨_, rfl, by first | rfl | exact inc_eq _ (by omega) | (refine sl_eq ?_; simp; done) | (refine svi_eq ?_; (try dsimp only); omega) | exact var_q q (by omega), by first | exact trivial | simp [SV.ok]⟩, ?_⟩)
    · exact trivial
    · try dsimp only
      exact ⟨‹_›, by rw [var_b1, ← hv]; (conv => rhs; unfold varL; rw [if_pos (by omega)]); rw [List.append_assoc, List.singleton_append], by rw [Nat.pow_succ] at hq; omega, by simp; omega, by omega⟩
    try dsimp only
    omega
  ·
    simp at q0
    refine VCnew.intro fun x3 => ?_
    refine gappend1 (g := gY) (T := (5 : TypeId)) G_ok A [] [H] ?_ oo (gY_owM _) (List.mem_of_getElem? (i := 0) rfl) rfl rfl rfl rfl rfl rfl rfl rfl ?_ fun b4 c4 A4 o4 => ?_
    · exact .tl
    · omega
    refine conv_bs G_ok (o ++ [UInt8.ofNat ((↑q : Int) % (256 : Int)).toNat]) rfl (Rp.mono _ (mem_at 0 rfl) (Gt.owrd _ o4)) rfl rfl rfl ?_
    exact ⟨[], ⟨by rw [var_b2 q (by omega), ← varL_low f q (by omega), hv]; rfl, rfl⟩, (.le fun a => by (try simp only [setR, List.cons_append, List.nil_append]); simp only [List.flatten_append, List.flatten_cons, List.flatten_nil, List.count_append, List.count_nil, List.append_nil, List.nil_append]; omega)⟩
--@ct spec.l01Var val l01Var_ct _ ?_ ?_
theorem l01Var_ct (n : Int) (h0 : 0 ≤ n) (h1 : n ≤ 4611686018427387904) : Ct Tryz.prog 193 [.int .i64 n] [] (fun _ => True) (fun v A => v = .string (varText n) ∧ A = []) := by
  refine Ct.intro0 G_ok Tryz.func193 rfl rfl rfl fun E H hp => ?_
  refine VCnew.intro fun x0 => ?_
  apply loop_mod (α := (Nat) × (Nat) × (List UInt8) × (Hp) × (Option Addr) × (Nat)) G_ok [5, 6, 7, 8, 9, 10, 11, 12, 13, 3, 14, 15, 0] (fun z => [(3, .v (.slice z.2.2.2.2.1 z.2.2.1.length z.2.2.2.2.2)), (0, .v (.int .i64 z.2.1))]) (fun z => []) (fun z => [z.2.2.2.1, H]) (fun z => z.2.1) (fun z => (gSl 5 gY).ow [.slice z.2.2.2.2.1 z.2.2.1.length z.2.2.2.2.2] z.2.2.1 z.2.2.2.1 ∧ z.2.2.1 ++ varL z.1 z.2.1 = varT n ∧ z.2.1 < 128 ^ (z.1 + 1) ∧ z.2.2.1.length + z.1 ≤ 9 ∧ z.2.1 ≤ 4611686018427387904) ((9, n.toNat, [], [], some ⟨x0, 0, none⟩, 0))
  · repeat' (first | exact trivial | refine ⟨⟨_, rfl, by first | rfl | exact inc_eq _ (by omega) | (refine sl_eq ?_; simp; done) | (refine svi_eq ?_; (try dsimp only); omega) | exact var_q q (by omega), by first | exact trivial | simp [SV.ok]⟩, ?_⟩)
  · exact trivial
  · try dsimp only
    exact ⟨sl_nil _ _ _, rfl, by omega, by simp, by omega⟩
  · exact .tl
  rintro ⟨f, q, o, A, b, c⟩ hI
  obtain ⟨oo, hv, hq, hl, hm⟩ : (gSl 5 gY).ow [.slice b o.length c] o A ∧ o ++ varL f q = varT n ∧ q < 128 ^ (f + 1) ∧ o.length + f ≤ 9 ∧ q ≤ 4611686018427387904 := hI
  try dsimp only
  refine VCsplit.intro (fun q1 => ?_) (fun q1 => ?_)
  ·
    simp at q1
    obtain ⟨f, rfl⟩ := pow128 f q hq (by omega)
    refine VC.intro ?_ ?_
    · trivial
    refine VCnew.intro fun x2 => ?_
    refine gappend1 (g := gY) (T := (5 : TypeId)) G_ok A [] [H] ?_ oo (gY_owM _) (List.mem_of_getElem? (i := 0) rfl) rfl rfl rfl rfl rfl rfl rfl rfl ?_ fun b3 c3 A3 o3 => ?_
    · exact .tl
    · omega
    refine VC.intro ?_ ?_
    · trivial
    apply loop_stepA (f, q / 128, _, _, _, _)
    · exact .refl _
    · repeat' (first | exact trivial | refine ⟨⟨_, rfl, by first | rfl | exact inc_eq _ (by omega) | (refine sl_eq ?_; simp; done) | (refine svi_eq ?_; (try dsimp only); omega) | exact var_q q (by omega), by first | exact trivial | simp [SV.ok]⟩, ?_⟩)
    · exact trivial
    · try dsimp only
      exact ⟨‹_›, by rw [var_b1', ← hv]; (conv => rhs; unfold varL; rw [if_pos (by omega)]); rw [List.append_assoc, List.singleton_append], by rw [Nat.pow_succ] at hq; omega, by simp; omega, by omega⟩
    try dsimp only
    omega
  ·
    simp at q1
    refine VCnew.intro fun x4 => ?_
    refine gappend1 (g := gY) (T := (5 : TypeId)) G_ok A [] [H] ?_ oo (gY_owM _) (List.mem_of_getElem? (i := 0) rfl) rfl rfl rfl rfl rfl rfl rfl rfl ?_ fun b5 c5 A5 o5 => ?_
    · exact .tl
    · omega
    refine conv_bs G_ok (o ++ [UInt8.ofNat ((↑q : Int) % (256 : Int)).toNat]) rfl (Rp.mono _ (mem_at 0 rfl) (Gt.owrd _ o5)) rfl rfl rfl ?_
    exact ⟨[], ⟨by rw [var_b2 q (by omega), ← varL_low f q (by omega), hv]; rfl, rfl⟩, (.le fun a => by (try simp only [setR, List.cons_append, List.nil_append]); simp only [List.flatten_append, List.flatten_cons, List.flatten_nil, List.count_append, List.count_nil, List.append_nil, List.nil_append]; omega)⟩
def fourL (s : Int) : List UInt8 := [UInt8.ofNat (s / 16777216 % 256).toNat, UInt8.ofNat (s / 65536 % 256).toNat, UInt8.ofNat (s / 256 % 256).toNat, UInt8.ofNat (s % 256).toNat]
def four (s : Int) : ByteArray := tx (fourL s)
theorem four_eq (s : Int) : four s = ⟨(([IntKind.u8.wrap (s.fdiv (2 ^ min (Int.toNat 24) IntKind.u32.bits)), IntKind.u8.wrap (s.fdiv (2 ^ min (Int.toNat 16) IntKind.u32.bits)), IntKind.u8.wrap (s.fdiv (2 ^ min (Int.toNat 8) IntKind.u32.bits)), IntKind.u8.wrap s] : List Int).map fun v => UInt8.ofNat v.toNat).toArray⟩ := by
  unfold four fourL tx
  rw [show (2 : Int) ^ min (Int.toNat 24) IntKind.u32.bits = 16777216 from by decide, show (2 : Int) ^ min (Int.toNat 16) IntKind.u32.bits = 65536 from by decide, show (2 : Int) ^ min (Int.toNat 8) IntKind.u32.bits = 256 from by decide]
  simp only [u8_wrap, List.map_cons, List.map_nil]
  rw [Int.fdiv_eq_ediv_of_nonneg _ (by omega), Int.fdiv_eq_ediv_of_nonneg _ (by omega), Int.fdiv_eq_ediv_of_nonneg _ (by omega)]
--@ct spec.l02Four val l02Four_ct _ ?_
theorem l02Four_ct (s : Int) (hs : 0 ≤ s ∧ s < 4294967296) : Ct Tryz.prog 323 [.int .u32 s] [] (fun _ => True) (fun v A => v = .string (four s) ∧ A = []) := by
  refine Ct.intro0 G_ok Tryz.func323 rfl rfl rfl fun E H hp => ?_
  refine VC.intro ?_ ?_
  · trivial
  refine VC.intro ?_ ?_
  · trivial
  refine VC.intro ?_ ?_
  · trivial
  refine VCnew.intro fun x0 => ?_
  refine conv_bs G_ok (([IntKind.u8.wrap (s.fdiv ((2 : Int) ^ min (Int.toNat (24 : Int)) IntKind.u32.bits)), IntKind.u8.wrap (s.fdiv ((2 : Int) ^ min (Int.toNat (16 : Int)) IntKind.u32.bits)), IntKind.u8.wrap (s.fdiv ((2 : Int) ^ min (Int.toNat (8 : Int)) IntKind.u32.bits)), IntKind.u8.wrap s] : List Int).map fun v => UInt8.ofNat v.toNat) rfl (lit_bs [IntKind.u8.wrap (s.fdiv ((2 : Int) ^ min (Int.toNat (24 : Int)) IntKind.u32.bits)), IntKind.u8.wrap (s.fdiv ((2 : Int) ^ min (Int.toNat (16 : Int)) IntKind.u32.bits)), IntKind.u8.wrap (s.fdiv ((2 : Int) ^ min (Int.toNat (8 : Int)) IntKind.u32.bits)), IntKind.u8.wrap s] (mem_at 0 rfl _ (List.mem_singleton.2 rfl)) rfl ?_ (by simp)) rfl rfl rfl ?_
  · (simp only [inU8, u8_wrap, and_true]; omega)
  try dsimp only
  exact ⟨[], ⟨by rw [four_eq s], rfl⟩, (.le fun a => by (try simp only [setR, List.cons_append, List.nil_append]); simp only [List.flatten_append, List.flatten_cons, List.flatten_nil, List.count_append, List.count_nil, List.append_nil, List.nil_append]; omega)⟩
--@ct impl.sumText val sumText_ct _ ?_
theorem sumText_ct (t : ByteArray) (ht : t.size ≤ 9223372036854775807) : Ct Tryz.prog 407 [.string t] [] (fun _ => True) (fun v A => v = .string (four (sumOf t)) ∧ A = []) := by
  refine Ct.intro0 G_ok Tryz.func407 rfl rfl rfl fun E H hp => ?_
  have hs := sumOf_rng t
  refine call_val (implSumOf_ct _ ?_) trivial ?_
  · trivial
  rintro _ rfl
  refine VC.intro ?_ ?_
  · trivial
  refine VC.intro ?_ ?_
  · trivial
  refine VC.intro ?_ ?_
  · trivial
  refine VCnew.intro fun x1 => ?_
  refine conv_bs G_ok (([IntKind.u8.wrap ((sumOf t).fdiv ((2 : Int) ^ min (Int.toNat (24 : Int)) IntKind.u32.bits)), IntKind.u8.wrap ((sumOf t).fdiv ((2 : Int) ^ min (Int.toNat (16 : Int)) IntKind.u32.bits)), IntKind.u8.wrap ((sumOf t).fdiv ((2 : Int) ^ min (Int.toNat (8 : Int)) IntKind.u32.bits)), IntKind.u8.wrap (sumOf t)] : List Int).map fun v => UInt8.ofNat v.toNat) rfl (lit_bs [IntKind.u8.wrap ((sumOf t).fdiv ((2 : Int) ^ min (Int.toNat (24 : Int)) IntKind.u32.bits)), IntKind.u8.wrap ((sumOf t).fdiv ((2 : Int) ^ min (Int.toNat (16 : Int)) IntKind.u32.bits)), IntKind.u8.wrap ((sumOf t).fdiv ((2 : Int) ^ min (Int.toNat (8 : Int)) IntKind.u32.bits)), IntKind.u8.wrap (sumOf t)] (mem_at 0 rfl _ (List.mem_singleton.2 rfl)) rfl ?_ (by simp)) rfl rfl rfl ?_
  · (simp only [inU8, u8_wrap, and_true]; omega)
  try dsimp only
  exact ⟨[], ⟨by rw [four_eq (sumOf t)], rfl⟩, (.le fun a => by (try simp only [setR, List.cons_append, List.nil_append]); simp only [List.flatten_append, List.flatten_cons, List.flatten_nil, List.count_append, List.count_nil, List.append_nil, List.nil_append]; omega)⟩
end Go.Proofs.YtjgehblllhkdbaaGreat

namespace Go.Proofs.YtjgehblllhkdbaaGreat
open Go.SX Go.Proofs
set_option linter.unusedSimpArgs false
set_option linter.unusedVariables false
set_option maxHeartbeats 4000000
attribute [local irreducible] IntKind.wrap
def cmpI (a b : Int) : Int := if a < b then -1 else if b < a then 1 else 0
def cmpL : List Int → List Int → Int
  | [], [] => 0
  | [], _ :: _ => -1
  | _ :: _, [] => 1
  | a :: r, b :: s => if a < b then -1 else if b < a then 1 else cmpL r s
--@ct cmp.isNaN[int] val isNaN_ct _
theorem isNaN_ct (a : Int) : Ct Tryz.prog 342 [.int .i64 a] [] (fun _ => True) (fun v A => v = .bool false ∧ A = []) := by
  refine Ct.intro0 G_ok Tryz.func342 rfl rfl rfl fun E H hp => ?_
  exact ⟨[], ⟨by simp, rfl⟩, (.le fun a => by (try simp only [setR, List.cons_append, List.nil_append]); simp only [List.flatten_append, List.flatten_cons, List.flatten_nil, List.count_append, List.count_nil, List.append_nil, List.nil_append]; omega)⟩
--@ct cmp.Compare[int] val cmpCompare_ct _ _
theorem cmpCompare_ct (a b : Int) : Ct Tryz.prog 263 [.int .i64 a, .int .i64 b] [] (fun _ => True) (fun v A => v = .int .i64 (cmpI a b) ∧ A = []) := by
  refine Ct.intro0 G_ok Tryz.func263 rfl rfl rfl fun E H hp => ?_
  refine call_val (isNaN_ct _) trivial ?_
  rintro _ rfl
  refine call_val (isNaN_ct _) trivial ?_
  rintro _ rfl
  refine VCsplit.intro (fun q2 => ?_) (fun q2 => ?_)
  ·
    simp at q2
  ·
    simp at q2
    refine VCsplit.intro (fun q3 => ?_) (fun q3 => ?_)
    ·
      simp at q3
    ·
      simp at q3
      refine VCsplit.intro (fun q4 => ?_) (fun q4 => ?_)
      ·
        simp at q4
        exact ⟨[], ⟨by unfold cmpI; rw [if_pos (by omega)], rfl⟩, (.le fun a => by (try simp only [setR, List.cons_append, List.nil_append]); simp only [List.flatten_append, List.flatten_cons, List.flatten_nil, List.count_append, List.count_nil, List.append_nil, List.nil_append]; omega)⟩
      ·
        simp at q4
        refine VCsplit.intro (fun q5 => ?_) (fun q5 => ?_)
        ·
          simp at q5
          exact ⟨[], ⟨by unfold cmpI; rw [if_neg (by omega), if_pos (by omega)], rfl⟩, (.le fun a => by (try simp only [setR, List.cons_append, List.nil_append]); simp only [List.flatten_append, List.flatten_cons, List.flatten_nil, List.count_append, List.count_nil, List.append_nil, List.nil_append]; omega)⟩
        ·
          simp at q5
          exact ⟨[], ⟨by unfold cmpI; rw [if_neg (by omega), if_neg (by omega)], rfl⟩, (.le fun a => by (try simp only [setR, List.cons_append, List.nil_append]); simp only [List.flatten_append, List.flatten_cons, List.flatten_nil, List.count_append, List.count_nil, List.append_nil, List.nil_append]; omega)⟩
theorem cmpL_drop {xs ys : List Int} (k : Nat) (h1 : k < xs.length) (h2 : k < ys.length) :
    cmpL (xs.drop k) (ys.drop k) = if cmpI (xs[k]?.getD 0) (ys[k]?.getD 0) = 0 then cmpL (xs.drop (k + 1)) (ys.drop (k + 1)) else cmpI (xs[k]?.getD 0) (ys[k]?.getD 0) := by
  rw [List.drop_eq_getElem_cons h1, List.drop_eq_getElem_cons h2, List.getElem?_eq_getElem h1, List.getElem?_eq_getElem h2]
  simp only [Option.getD_some, cmpL, cmpI]
  split
  · simp
  split
  · simp
  simp
--@ct slices.Compare[[]int,int] val sCompare_ct _ _ _ _ _ _ $1 $2 | ⟨%1, %2⟩
theorem sCompare_ct (b1 : Option Addr) (m1 c1 : Nat) (b2 : Option Addr) (m2 c2 : Nat) (xs ys : List Int) :
    Ct Tryz.prog 179 [.slice b1 m1 c1, .slice b2 m2 c2] [] (fun H => (gSl 3 gI).rd H [.slice b1 m1 c1] xs ∧ (gSl 3 gI).rd H [.slice b2 m2 c2] ys) (fun v A => v = .int .i64 (cmpL xs ys) ∧ A = []) := by
  refine Ct.intro0 G_ok Tryz.func179 rfl rfl rfl fun E H hp => ?_
  obtain ⟨hp1, hp2⟩ := hp
  obtain ⟨rfl, hc1, hl1⟩ := sl_len hp1
  obtain ⟨rfl, hc2, hl2⟩ := sl_len hp2
  apply loop_mod (α := (Nat)) G_ok [12, 13, 14, 15, 5, 6, 16, 17, 18, 19, 4, 20, 21, 22, 23, 7, 24, 25, 26, 8, 27, 28, 29, 30, 11] (fun z => [(11, .v (.int .i64 z))]) (fun z => []) (fun z => [H]) (fun z => xs.length - z) (fun z => z ≤ xs.length ∧ z ≤ ys.length ∧ cmpL xs ys = cmpL (xs.drop z) (ys.drop z)) (0)
  · repeat' (first | exact trivial | refine ⟨⟨_, rfl, by first | rfl | exact inc_eq _ (by omega) | (refine sl_eq ?_; simp; done), by first | exact trivial | simp [SV.ok]⟩, ?_⟩)
  · exact trivial
  · exact ⟨by omega, by omega, by simp⟩
  · exact .refl _
  rintro k hI
  obtain ⟨hk, hk2, he⟩ : k ≤ xs.length ∧ k ≤ ys.length ∧ cmpL xs ys = cmpL (xs.drop k) (ys.drop k) := hI
  try dsimp only
  refine VCsplit.intro (fun q0 => ?_) (fun q0 => ?_)
  ·
    simp at q0
    refine idx_rd hp1 ?_ ?_ fun b1 o1 hb1 => ?_
    · omega
    · omega
    refine load_allN 0 (k) rfl hp1 ?_ ?_ hb1 rfl (mem_at 0 rfl) fun l2 hl2 => ?_
    · omega
    · omega
    obtain ⟨rfl, hw2⟩ := hl2; simp only [flStr, flInt, okI] at hw2
    refine VCsplit.intro (fun q3 => ?_) (fun q3 => ?_)
    ·
      simp at q3
      exact ⟨[], ⟨by rw [he, List.drop_eq_getElem_cons (by omega : k < xs.length), List.drop_eq_nil_of_le (by omega : ys.length ≤ k)]; rfl, rfl⟩, (.le fun a => by (try simp only [setR, List.cons_append, List.nil_append]); simp only [List.flatten_append, List.flatten_cons, List.flatten_nil, List.count_append, List.count_nil, List.append_nil, List.nil_append]; omega)⟩
    ·
      simp at q3
      refine idx_rd hp2 ?_ ?_ fun b4 o4 hb4 => ?_
      · omega
      · omega
      refine load_allN 0 (k) rfl hp2 ?_ ?_ hb4 rfl (mem_at 0 rfl) fun l5 hl5 => ?_
      · omega
      · omega
      obtain ⟨rfl, hw5⟩ := hl5; simp only [flStr, flInt, okI] at hw5
      refine call_val (cmpCompare_ct _ _) trivial ?_
      rintro _ rfl
      refine VCsplit.intro (fun q7 => ?_) (fun q7 => ?_)
      ·
        simp at q7
        exact ⟨[], ⟨by rw [he, cmpL_drop k (by omega) (by omega), if_neg (by assumption)], rfl⟩, (.le fun a => by (try simp only [setR, List.cons_append, List.nil_append]); simp only [List.flatten_append, List.flatten_cons, List.flatten_nil, List.count_append, List.count_nil, List.append_nil, List.nil_append]; omega)⟩
      ·
        simp at q7
        apply loop_stepA (k + 1)
        · exact .refl _
        · repeat' (first | exact trivial | refine ⟨⟨_, rfl, by first | rfl | exact inc_eq _ (by omega) | (refine sl_eq ?_; simp; done), by first | exact trivial | simp [SV.ok]⟩, ?_⟩)
        · exact trivial
        · exact ⟨by omega, by omega, by rw [he, cmpL_drop k (by omega) (by omega), if_pos (by assumption)]⟩
        omega
  ·
    simp at q0
    refine VCsplit.intro (fun q8 => ?_) (fun q8 => ?_)
    ·
      simp at q8
      exact ⟨[], ⟨by rw [he, List.drop_eq_getElem_cons (by omega : k < ys.length), List.drop_eq_nil_of_le (by omega : xs.length ≤ k)]; rfl, rfl⟩, (.le fun a => by (try simp only [setR, List.cons_append, List.nil_append]); simp only [List.flatten_append, List.flatten_cons, List.flatten_nil, List.count_append, List.count_nil, List.append_nil, List.nil_append]; omega)⟩
    ·
      simp at q8
      exact ⟨[], ⟨by rw [he, List.drop_eq_nil_of_le (by omega : ys.length ≤ k), List.drop_eq_nil_of_le (by omega : xs.length ≤ k)]; rfl, rfl⟩, (.le fun a => by (try simp only [setR, List.cons_append, List.nil_append]); simp only [List.flatten_append, List.flatten_cons, List.flatten_nil, List.count_append, List.count_nil, List.append_nil, List.nil_append]; omega)⟩
def labelOk (b : UInt8) : Bool := decide (97 ≤ (b.toNat : Int)) && decide ((b.toNat : Int) ≤ 100)
--@ct impl.isLabel val isLabel_ct _
theorem isLabel_ct (b : UInt8) : Ct Tryz.prog 198 [.int .u8 b.toNat] [] (fun _ => True) (fun v A => v = .bool (labelOk b) ∧ A = []) := by
  refine Ct.intro0 G_ok Tryz.func198 rfl rfl rfl fun E H hp => ?_
  refine VCsplit.intro (fun q0 => ?_) (fun q0 => ?_)
  ·
    simp at q0
    exact ⟨[], ⟨by unfold labelOk; first | rw [decide_eq_true (by omega : (97 : Int) ≤ b.toNat), Bool.true_and] | rw [decide_eq_false (by omega : ¬ (97 : Int) ≤ b.toNat), Bool.false_and], rfl⟩, (.le fun a => by (try simp only [setR, List.cons_append, List.nil_append]); simp only [List.flatten_append, List.flatten_cons, List.flatten_nil, List.count_append, List.count_nil, List.append_nil, List.nil_append]; omega)⟩
  ·
    simp at q0
    exact ⟨[], ⟨by unfold labelOk; first | rw [decide_eq_true (by omega : (97 : Int) ≤ b.toNat), Bool.true_and] | rw [decide_eq_false (by omega : ¬ (97 : Int) ≤ b.toNat), Bool.false_and], rfl⟩, (.le fun a => by (try simp only [setR, List.cons_append, List.nil_append]); simp only [List.flatten_append, List.flatten_cons, List.flatten_nil, List.count_append, List.count_nil, List.append_nil, List.nil_append]; omega)⟩
end Go.Proofs.YtjgehblllhkdbaaGreat

namespace Go.Proofs.YtjgehblllhkdbaaGreat
open Go.SX Go.Proofs
set_option linter.unusedSimpArgs false
set_option linter.unusedVariables false
set_option maxHeartbeats 4000000
attribute [local irreducible] IntKind.wrap
def edgeLess (a b : Edge) : Bool :=
  if a.from' = b.from' then if a.label = b.label then decide (a.to < b.to) else decide (a.label.toNat < b.label.toNat) else decide (a.from' < b.from')
def cmpE (a b : Edge) : Int := if a.label ≠ b.label ∧ a.from' = b.from' then (a.label.toNat : Int) - b.label.toNat else cmpL [a.from', a.to] [b.from', b.to]
theorem cmpE_lt (a b : Edge) : decide (cmpE a b < 0) = edgeLess a b := by
  unfold cmpE edgeLess
  by_cases h1 : a.from' = b.from' <;> by_cases h2 : a.label = b.label
  · rw [if_neg (by simp [h2]), if_pos h1, if_pos h2, h1]
    simp only [cmpL, Int.lt_irrefl, if_false]
    by_cases h3 : a.to < b.to <;> by_cases h4 : b.to < a.to <;> simp [h3, h4]
  · rw [if_pos ⟨h2, h1⟩, if_pos h1, if_neg h2, decide_eq_decide]; omega
  · rw [if_neg (by simp [h1]), if_neg h1]
    simp only [cmpL]
    by_cases h3 : a.from' < b.from' <;> by_cases h4 : b.from' < a.from' <;> simp [h3, h4]; omega
  rw [if_neg (by simp [h1]), if_neg h1]
  simp only [cmpL]
  by_cases h3 : a.from' < b.from' <;> by_cases h4 : b.from' < a.from' <;> simp [h3, h4]; omega
--@ct impl.compareEdges val compareEdges_ct _ _ $1 $2 | ⟨%1, %2⟩
theorem compareEdges_ct (l1 l2 : List Value) (a b : Edge) :
    Ct Tryz.prog 280 [.agg ⟨l1⟩, .agg ⟨l2⟩] [] (fun H => gEdge.rd H l1 a ∧ gEdge.rd H l2 b) (fun v A => v = .int .i64 (cmpE a b) ∧ A = []) := by
  refine Ct.intro0 G_ok Tryz.func280 rfl rfl rfl fun E H hp => ?_
  obtain ⟨hp1, hp2⟩ := hp
  obtain ⟨rfl, wa, wb⟩ := gEdge_rd.1 hp1
  obtain ⟨rfl, wc, wd⟩ := gEdge_rd.1 hp2
  refine VCnew.intro fun x0 => ?_
  refine VCnew.intro fun x1 => ?_
  refine VCsplit.intro (fun q2 => ?_) (fun q2 => ?_)
  ·
    simp at q2
    simp only [str_inj, u8_inj, u8_wrap] at q2
    refine VCsplit.intro (fun q3 => ?_) (fun q3 => ?_)
    ·
      simp at q3
      exact ⟨[], ⟨by unfold cmpE; rw [if_pos ⟨by assumption, by assumption⟩]; have h1 := a.label.toNat_lt; have h2 := b.label.toNat_lt; simp (disch := omega) only [wrap_of], rfl⟩, (.le fun a => by (try simp only [setR, List.cons_append, List.nil_append]); simp only [List.flatten_append, List.flatten_cons, List.flatten_nil, List.count_append, List.count_nil, List.append_nil, List.nil_append]; omega)⟩
    ·
      simp at q3
      refine VCnew.intro fun x4 => ?_
      refine VCnew.intro fun x5 => ?_
      refine call_val (sCompare_ct _ _ _ _ _ _ ([a.from', a.to]) ([b.from', b.to])) ⟨(Rp.mono _ (mem_at 1 rfl) (Ow.rd (Ow.lit (f := flInt) (T := (3 : TypeId)) (b := x4) (xs := [a.from', a.to]) (by first | (simp [flInt, okI]; done) | (simp only [List.forall_mem_cons]; simp_all [flInt, okI])) (by simp)))), (Rp.mono _ (mem_at 0 rfl) (Ow.rd (Ow.lit (f := flInt) (T := (3 : TypeId)) (b := x5) (xs := [b.from', b.to]) (by first | (simp [flInt, okI]; done) | (simp only [List.forall_mem_cons]; simp_all [flInt, okI])) (by simp))))⟩ ?_
      rintro _ rfl
      try dsimp only
      exact ⟨[], ⟨by unfold cmpE; rw [if_neg (by simp_all)], rfl⟩, (.le fun a => by (try simp only [setR, List.cons_append, List.nil_append]); simp only [List.flatten_append, List.flatten_cons, List.flatten_nil, List.count_append, List.count_nil, List.append_nil, List.nil_append]; omega)⟩
  ·
    simp at q2
    simp only [str_inj, u8_inj, u8_wrap] at q2
    refine VCnew.intro fun x7 => ?_
    refine VCnew.intro fun x8 => ?_
    refine call_val (sCompare_ct _ _ _ _ _ _ ([a.from', a.to]) ([b.from', b.to])) ⟨(Rp.mono _ (mem_at 1 rfl) (Ow.rd (Ow.lit (f := flInt) (T := (3 : TypeId)) (b := x7) (xs := [a.from', a.to]) (by first | (simp [flInt, okI]; done) | (simp only [List.forall_mem_cons]; simp_all [flInt, okI])) (by simp)))), (Rp.mono _ (mem_at 0 rfl) (Ow.rd (Ow.lit (f := flInt) (T := (3 : TypeId)) (b := x8) (xs := [b.from', b.to]) (by first | (simp [flInt, okI]; done) | (simp only [List.forall_mem_cons]; simp_all [flInt, okI])) (by simp))))⟩ ?_
    rintro _ rfl
    try dsimp only
    exact ⟨[], ⟨by unfold cmpE; rw [if_neg (by simp_all)], rfl⟩, (.le fun a => by (try simp only [setR, List.cons_append, List.nil_append]); simp only [List.flatten_append, List.flatten_cons, List.flatten_nil, List.count_append, List.count_nil, List.append_nil, List.nil_append]; omega)⟩
--@ct impl.EdgeLess val implEdgeLess_ct _ _ $1 $2 | ⟨%1, %2⟩
theorem implEdgeLess_ct (l1 l2 : List Value) (a b : Edge) :
    Ct Tryz.prog 199 [.agg ⟨l1⟩, .agg ⟨l2⟩] [] (fun H => gEdge.rd H l1 a ∧ gEdge.rd H l2 b) (fun v A => v = .bool (edgeLess a b) ∧ A = []) := by
  refine Ct.intro0 G_ok Tryz.func199 rfl rfl rfl fun E H hp => ?_
  obtain ⟨hp1, hp2⟩ := hp
  obtain ⟨rfl, wa, wb⟩ := gEdge_rd.1 hp1
  obtain ⟨rfl, wc, wd⟩ := gEdge_rd.1 hp2
  refine VCnew.intro fun x0 => ?_
  refine VCnew.intro fun x1 => ?_
  refine call_val (compareEdges_ct _ _ (a) (b)) ⟨(Rp.mono _ (mem_at 0 rfl) hp1), (Rp.mono _ (mem_at 0 rfl) hp2)⟩ ?_
  rintro _ rfl
  exact ⟨[], ⟨by rw [cmpE_lt], rfl⟩, (.le fun a => by (try simp only [setR, List.cons_append, List.nil_append]); simp only [List.flatten_append, List.flatten_cons, List.flatten_nil, List.count_append, List.count_nil, List.append_nil, List.nil_append]; omega)⟩
--@ct spec.EdgeLess val specEdgeLess_ct _ _ $1 $2 | ⟨%1, %2⟩
theorem specEdgeLess_ct (l1 l2 : List Value) (a b : Edge) :
    Ct Tryz.prog 188 [.agg ⟨l1⟩, .agg ⟨l2⟩] [] (fun H => gEdge.rd H l1 a ∧ gEdge.rd H l2 b) (fun v A => v = .bool (edgeLess a b) ∧ A = []) := by
  refine Ct.intro0 G_ok Tryz.func188 rfl rfl rfl fun E H hp => ?_
  obtain ⟨hp1, hp2⟩ := hp
  obtain ⟨rfl, wa, wb⟩ := gEdge_rd.1 hp1
  obtain ⟨rfl, wc, wd⟩ := gEdge_rd.1 hp2
  refine VCnew.intro fun x0 => ?_
  refine VCnew.intro fun x1 => ?_
  refine VCsplit.intro (fun q2 => ?_) (fun q2 => ?_)
  ·
    simp at q2
    exact ⟨[], ⟨by unfold edgeLess; rw [if_neg (by assumption)], rfl⟩, (.le fun a => by (try simp only [setR, List.cons_append, List.nil_append]); simp only [List.flatten_append, List.flatten_cons, List.flatten_nil, List.count_append, List.count_nil, List.append_nil, List.nil_append]; omega)⟩
  ·
    simp at q2
    refine VCsplit.intro (fun q3 => ?_) (fun q3 => ?_)
    ·
      simp at q3
      simp only [str_inj, u8_inj, u8_wrap] at q3
      exact ⟨[], ⟨by unfold edgeLess; rw [if_pos (by assumption), if_neg (by assumption)]; simp, rfl⟩, (.le fun a => by (try simp only [setR, List.cons_append, List.nil_append]); simp only [List.flatten_append, List.flatten_cons, List.flatten_nil, List.count_append, List.count_nil, List.append_nil, List.nil_append]; omega)⟩
    ·
      simp at q3
      simp only [str_inj, u8_inj, u8_wrap] at q3
      exact ⟨[], ⟨by unfold edgeLess; rw [if_pos (by assumption), if_pos (by assumption)], rfl⟩, (.le fun a => by (try simp only [setR, List.cons_append, List.nil_append]); simp only [List.flatten_append, List.flatten_cons, List.flatten_nil, List.count_append, List.count_nil, List.append_nil, List.nil_append]; omega)⟩
def edgeOk (g : Graph) (i : Nat) : Bool :=
  inR 0 (g.size - 1) (g.edges[i]?.getD default).from' && (inR 0 (g.size - 1) (g.edges[i]?.getD default).to && (labelOk (g.edges[i]?.getD default).label && (decide (i = 0) || edgeLess (g.edges[i - 1]?.getD default) (g.edges[i]?.getD default))))
def allOk (g : Graph) : Nat → Bool
  | 0 => true
  | k + 1 => allOk g k && edgeOk g k
def graphOk (g : Graph) : Bool := inR 1 12 g.size && (decide (g.edges.length ≤ 40) && allOk g g.edges.length)
theorem allOk_no (g : Graph) (k : Nat) (h : edgeOk g k = false) : ∀ n, k < n → allOk g n = false
  | 0, h1 => by omega
  | n + 1, h1 => by
    unfold allOk
    rcases Nat.lt_or_ge k n with h2 | h2
    · rw [allOk_no g k h n h2]; rfl
    rw [show n = k by omega, h]; simp
theorem graphOk_no (g : Graph) (k : Nat) (h1 : k < g.edges.length) (h : edgeOk g k = false) : graphOk g = false := by
  unfold graphOk; rw [allOk_no g k h _ h1]; simp
--@ct impl.isVertex val isVertex_ct _ $1 _ ?_ | %1
theorem isVertex_ct (l : List Value) (g : Graph) (v : Int) (hg : 1 ≤ g.size) : Ct Tryz.prog 197 [.agg ⟨l⟩, .int .i64 v] [] (fun H => gGraph.rd H l g) (fun r A => r = .bool (inR 0 (g.size - 1) v) ∧ A = []) := by
  refine Ct.intro0 G_ok Tryz.func197 rfl rfl rfl fun E H hp => ?_
  obtain ⟨b1, c1, rfl, w0, h1⟩ := gGraph_rd.1 hp
  refine VCnew.intro fun x0 => ?_
  refine VCsplit.intro (fun q1 => ?_) (fun q1 => ?_)
  ·
    simp at q1
    exact ⟨[], ⟨by unfold inR; rw [decide_eq_true (by omega : (0 : Int) ≤ v), Bool.true_and]; congr 1; rw [decide_eq_decide]; omega, rfl⟩, (.le fun a => by (try simp only [setR, List.cons_append, List.nil_append]); simp only [List.flatten_append, List.flatten_cons, List.flatten_nil, List.count_append, List.count_nil, List.append_nil, List.nil_append]; omega)⟩
  ·
    simp at q1
    exact ⟨[], ⟨by unfold inR; rw [decide_eq_false (by omega : ¬ (0 : Int) ≤ v), Bool.false_and], rfl⟩, (.le fun a => by (try simp only [setR, List.cons_append, List.nil_append]); simp only [List.flatten_append, List.flatten_cons, List.flatten_nil, List.count_append, List.count_nil, List.append_nil, List.nil_append]; omega)⟩
--@ct impl.GraphOk val implGraphOk_ct _ $1 | %1
theorem implGraphOk_ct (l : List Value) (g : Graph) : Ct Tryz.prog 114 [.agg ⟨l⟩] [] (fun H => gGraph.rd H l g) (fun v A => v = .bool (graphOk g) ∧ A = []) := by
  refine Ct.intro0 G_ok Tryz.func114 rfl rfl rfl fun E H hp => ?_
  obtain ⟨b1, c1, rfl, w0, h1⟩ := gGraph_rd.1 hp
  refine VCnew.intro fun x0 => ?_
  refine VCsplit.intro (fun q1 => ?_) (fun q1 => ?_)
  ·
    simp at q1
    exact ⟨[], ⟨by unfold graphOk inR; simp; omega, rfl⟩, (.le fun a => by (try simp only [setR, List.cons_append, List.nil_append]); simp only [List.flatten_append, List.flatten_cons, List.flatten_nil, List.count_append, List.count_nil, List.append_nil, List.nil_append]; omega)⟩
  ·
    simp at q1
    refine VCsplit.intro (fun q2 => ?_) (fun q2 => ?_)
    ·
      simp at q2
      exact ⟨[], ⟨by unfold graphOk inR; simp; omega, rfl⟩, (.le fun a => by (try simp only [setR, List.cons_append, List.nil_append]); simp only [List.flatten_append, List.flatten_cons, List.flatten_nil, List.count_append, List.count_nil, List.append_nil, List.nil_append]; omega)⟩
    ·
      simp at q2
      refine VCsplit.intro (fun q3 => ?_) (fun q3 => ?_)
      ·
        simp at q3
        exact ⟨[], ⟨by unfold graphOk inR; simp; omega, rfl⟩, (.le fun a => by (try simp only [setR, List.cons_append, List.nil_append]); simp only [List.flatten_append, List.flatten_cons, List.flatten_nil, List.count_append, List.count_nil, List.append_nil, List.nil_append]; omega)⟩
      ·
        simp at q3
        apply loop_mod (α := (Nat)) G_ok [23, 24, 25, 26, 4, 3, 27, 28, 29, 30, 31, 32, 33, 34, 35, 36, 37, 38, 39, 40, 41, 42, 43, 44, 2, 45, 46, 47, 48, 49, 50, 51, 52, 53, 54, 55, 56, 57, 58, 22] (fun z => [(22, .v (.int .i64 z))]) (fun z => [{ id := x0, cs := [Value.int IntKind.i64 g.size, Value.slice b1 g.edges.length c1], ty := (88 : Nat) }]) (fun z => [H]) (fun z => g.edges.length - z) (fun z => z ≤ g.edges.length ∧ allOk g z = true) (0)
        · repeat' (first | exact trivial | refine ⟨⟨_, rfl, by first | rfl | exact inc_eq _ (by omega) | (refine sl_eq ?_; simp; done), by first | exact trivial | simp [SV.ok]⟩, ?_⟩)
        · exact ⟨rfl, trivial⟩
        · exact ⟨by omega, rfl⟩
        · exact .refl _
        rintro k hI
        obtain ⟨hk, ha⟩ : k ≤ g.edges.length ∧ allOk g k = true := hI
        try dsimp only
        refine VCsplit.intro (fun q4 => ?_) (fun q4 => ?_)
        ·
          simp at q4
          refine idx_rd h1 ?_ ?_ fun b5 o5 hb5 => ?_
          · omega
          · omega
          refine load_allN default (k) rfl h1 ?_ ?_ hb5 rfl (mem_at 0 rfl) fun l6 hl6 => ?_
          · omega
          · omega
          obtain ⟨rfl, w0x6, w2x6⟩ := gEdge_rd.1 hl6
          refine VCnew.intro fun x7 => ?_
          refine call_val (isVertex_ct _ (g) _ ?_) (Rp.mono _ (mem_at 0 rfl) hp) ?_
          · trivial
          rintro _ rfl
          refine VCsplit.intro (fun q9 => ?_) (fun q9 => ?_)
          ·
            simp at q9
            exact ⟨[], ⟨by rw [graphOk_no g k (by omega) (by simp_all [edgeOk])], rfl⟩, (.le fun a => by (try simp only [setR, List.cons_append, List.nil_append]); simp only [List.flatten_append, List.flatten_cons, List.flatten_nil, List.count_append, List.count_nil, List.append_nil, List.nil_append]; omega)⟩
          ·
            simp at q9
            have iq9 := inR_iff.1 q9
            refine call_val (isVertex_ct _ (g) _ ?_) (Rp.mono _ (mem_at 0 rfl) hp) ?_
            · trivial
            rintro _ rfl
            refine VCsplit.intro (fun q11 => ?_) (fun q11 => ?_)
            ·
              simp at q11
              exact ⟨[], ⟨by rw [graphOk_no g k (by omega) (by simp_all [edgeOk])], rfl⟩, (.le fun a => by (try simp only [setR, List.cons_append, List.nil_append]); simp only [List.flatten_append, List.flatten_cons, List.flatten_nil, List.count_append, List.count_nil, List.append_nil, List.nil_append]; omega)⟩
            ·
              simp at q11
              have iq11 := inR_iff.1 q11
              refine call_val (isLabel_ct _) trivial ?_
              rintro _ rfl
              refine VCsplit.intro (fun q13 => ?_) (fun q13 => ?_)
              ·
                simp at q13
                exact ⟨[], ⟨by rw [graphOk_no g k (by omega) (by simp_all [edgeOk])], rfl⟩, (.le fun a => by (try simp only [setR, List.cons_append, List.nil_append]); simp only [List.flatten_append, List.flatten_cons, List.flatten_nil, List.count_append, List.count_nil, List.append_nil, List.nil_append]; omega)⟩
              ·
                simp at q13
                have iq13 := inR_iff.1 q13
                refine draw G_ok mixed none (.q 0 (.q 1 (.q 2 (.q 3 (.q 4 (.q 5 (.q 6 (.q 7 (.q 8 (.q 9 (.f 10 (.q 11 (.q 12 (.nil)))))))))))))) (by decide +kernel) ?_
                refine VCsplit.intro (fun q14 => ?_) (fun q14 => ?_)
                ·
                  simp at q14
                  refine idx_rd h1 ?_ ?_ fun b15 o15 hb15 => ?_
                  · (simp (disch := omega) only [wrap_of]; omega)
                  · (simp (disch := omega) only [wrap_of]; omega)
                  refine load_all default h1 ?_ ?_ hb15 rfl (mem_at 0 rfl) fun l16 hl16 => ?_
                  · (simp (disch := omega) only [wrap_of]; omega)
                  · (simp (disch := omega) only [wrap_of]; omega)
                  rw [show (IntKind.i64.wrap ((k : Int) - 1)).toNat = k - 1 by (simp (disch := omega) only [wrap_of]; omega)] at hl16
                  obtain ⟨rfl, w0x16, w2x16⟩ := gEdge_rd.1 hl16
                  refine call_val (implEdgeLess_ct _ _ (g.edges[k - (1 : Nat)]?.getD default) (g.edges[k]?.getD default)) ⟨(Rp.mono _ (mem_at 0 rfl) hl16), (Rp.mono _ (mem_at 0 rfl) hl6)⟩ ?_
                  rintro _ rfl
                  refine VC.intro ?_ ?_
                  · exact fun _ h => h
                  refine VCsplit.intro (fun q18 => ?_) (fun q18 => ?_)
                  ·
                    simp at q18
                    exact ⟨[], ⟨by rw [graphOk_no g k (by omega) (by unfold edgeOk; rw [‹edgeLess _ _ = false›, decide_eq_false (by omega : ¬ k = 0)]; simp)], rfl⟩, (.le fun a => by (try simp only [setR, List.cons_append, List.nil_append]); simp only [List.flatten_append, List.flatten_cons, List.flatten_nil, List.count_append, List.count_nil, List.append_nil, List.nil_append]; omega)⟩
                  ·
                    simp at q18
                    apply loop_stepA (k + 1)
                    · exact .refl _
                    · repeat' (first | exact trivial | refine ⟨⟨_, rfl, by first | rfl | exact inc_eq _ (by omega) | (refine sl_eq ?_; simp; done), by first | exact trivial | simp [SV.ok]⟩, ?_⟩)
                    · exact ⟨rfl, trivial⟩
                    · exact ⟨by omega, by simp_all [allOk, edgeOk]⟩
                    omega
                ·
                  simp at q14
                  apply loop_stepA (k + 1)
                  · exact .refl _
                  · repeat' (first | exact trivial | refine ⟨⟨_, rfl, by first | rfl | exact inc_eq _ (by omega) | (refine sl_eq ?_; simp; done), by first | exact trivial | simp [SV.ok]⟩, ?_⟩)
                  · exact ⟨rfl, trivial⟩
                  · exact ⟨by omega, by simp_all [allOk, edgeOk]⟩
                  omega
        ·
          simp at q4
          obtain rfl : k = g.edges.length := by omega
          exact ⟨[], ⟨by unfold graphOk inR; simp_all; omega, rfl⟩, (.le fun a => by (try simp only [setR, List.cons_append, List.nil_append]); simp only [List.flatten_append, List.flatten_cons, List.flatten_nil, List.count_append, List.count_nil, List.append_nil, List.nil_append]; omega)⟩
--@ct spec.GraphOk val specGraphOk_ct _ $1 | %1
theorem specGraphOk_ct (l : List Value) (g : Graph) : Ct Tryz.prog 104 [.agg ⟨l⟩] [] (fun H => gGraph.rd H l g) (fun v A => v = .bool (graphOk g) ∧ A = []) := by
  refine Ct.intro0 G_ok Tryz.func104 rfl rfl rfl fun E H hp => ?_
  obtain ⟨b1, c1, rfl, w0, h1⟩ := gGraph_rd.1 hp
  refine VCnew.intro fun x0 => ?_
  refine call_val (l01In_ct _ _ _) trivial ?_
  rintro _ rfl
  refine VCsplit.intro (fun q2 => ?_) (fun q2 => ?_)
  ·
    simp at q2
    exact ⟨[], ⟨by unfold graphOk; simp_all, rfl⟩, (.le fun a => by (try simp only [setR, List.cons_append, List.nil_append]); simp only [List.flatten_append, List.flatten_cons, List.flatten_nil, List.count_append, List.count_nil, List.append_nil, List.nil_append]; omega)⟩
  ·
    simp at q2
    have iq2 := inR_iff.1 q2
    refine VCsplit.intro (fun q3 => ?_) (fun q3 => ?_)
    ·
      simp at q3
      exact ⟨[], ⟨by unfold graphOk inR; simp; omega, rfl⟩, (.le fun a => by (try simp only [setR, List.cons_append, List.nil_append]); simp only [List.flatten_append, List.flatten_cons, List.flatten_nil, List.count_append, List.count_nil, List.append_nil, List.nil_append]; omega)⟩
    ·
      simp at q3
      apply loop_mod (α := (Nat)) G_ok [15, 16, 17, 18, 19, 22, 23, 24, 25, 26, 4, 27, 28, 29, 30, 31, 32, 33, 34, 35, 36, 37, 38, 39, 40, 41, 42, 43, 44, 45, 46, 47, 48, 49, 50, 51, 52, 53, 54, 55, 56, 57, 58, 59, 60, 61, 62, 63, 64, 65, 66, 67, 2, 20, 21, 3] (fun z => [(3, .v (.int .i64 z))]) (fun z => [{ id := x0, cs := [Value.int IntKind.i64 g.size, Value.slice b1 g.edges.length c1], ty := (88 : Nat) }]) (fun z => [H]) (fun z => g.edges.length - z) (fun z => z ≤ g.edges.length ∧ allOk g z = true) (0)
      · repeat' (first | exact trivial | refine ⟨⟨_, rfl, by first | rfl | exact inc_eq _ (by omega) | (refine sl_eq ?_; simp; done), by first | exact trivial | simp [SV.ok]⟩, ?_⟩)
      · exact ⟨rfl, trivial⟩
      · exact ⟨by omega, rfl⟩
      · exact .refl _
      rintro k hI
      obtain ⟨hk, ha⟩ : k ≤ g.edges.length ∧ allOk g k = true := hI
      try dsimp only
      refine VCsplit.intro (fun q4 => ?_) (fun q4 => ?_)
      ·
        simp at q4
        refine idx_rd h1 ?_ ?_ fun b5 o5 hb5 => ?_
        · omega
        · omega
        refine load_allN default (k) rfl h1 ?_ ?_ hb5 rfl (mem_at 0 rfl) fun l6 hl6 => ?_
        · omega
        · omega
        obtain ⟨rfl, w0x6, w2x6⟩ := gEdge_rd.1 hl6
        refine VCnew.intro fun x7 => ?_
        refine draw G_ok mixed none (.q 0 (.q 1 (.q 2 (.q 3 (.q 4 (.f 5 (.q 6 (.q 7 (.q 8 (.q 9 (.q 10 (.q 11 (.q 12 (.f 13 (.q 14 (.q 15 (.q 16 (.q 17 (.q 18 (.q 19 (.q 20 (.q 21 (.q 22 (.q 23 (.q 24 (.q 25 (.q 26 (.q 27 (.q 28 (.q 29 (.q 30 (.q 31 (.q 32 (.q 33 (.q 34 (.q 35 (.q 36 (.f 37 (.q 38 (.q 39 (.q 40 (.nil)))))))))))))))))))))))))))))))))))))))))) (by decide +kernel) ?_
        refine call_val (l01In_ct _ _ _) trivial ?_
        rintro _ rfl
        refine VC.intro ?_ ?_
        · exact fun _ h => h
        refine VCsplit.intro (fun q9 => ?_) (fun q9 => ?_)
        ·
          simp at q9
          simp (disch := omega) only [wrap_of] at q9
          exact ⟨[], ⟨by rw [graphOk_no g k (by omega) (by simp_all [edgeOk])], rfl⟩, (.le fun a => by (try simp only [setR, List.cons_append, List.nil_append]); simp only [List.flatten_append, List.flatten_cons, List.flatten_nil, List.count_append, List.count_nil, List.append_nil, List.nil_append]; omega)⟩
        ·
          simp at q9
          simp (disch := omega) only [wrap_of] at q9
          have iq9 := inR_iff.1 q9
          refine call_val (l01In_ct _ _ _) trivial ?_
          rintro _ rfl
          refine VC.intro ?_ ?_
          · exact fun _ h => h
          refine VCsplit.intro (fun q11 => ?_) (fun q11 => ?_)
          ·
            simp at q11
            simp (disch := omega) only [wrap_of] at q11
            exact ⟨[], ⟨by rw [graphOk_no g k (by omega) (by simp_all [edgeOk])], rfl⟩, (.le fun a => by (try simp only [setR, List.cons_append, List.nil_append]); simp only [List.flatten_append, List.flatten_cons, List.flatten_nil, List.count_append, List.count_nil, List.append_nil, List.nil_append]; omega)⟩
          ·
            simp at q11
            simp (disch := omega) only [wrap_of] at q11
            have iq11 := inR_iff.1 q11
            refine VCsplit.intro (fun q12 => ?_) (fun q12 => ?_)
            ·
              simp at q12
              exact ⟨[], ⟨by rw [graphOk_no g k (by omega) (by unfold edgeOk labelOk; rw [decide_eq_false (by omega : ¬ (97 : Int) ≤ ((g.edges[k]?.getD default).label.toNat : Nat))]; simp)], rfl⟩, (.le fun a => by (try simp only [setR, List.cons_append, List.nil_append]); simp only [List.flatten_append, List.flatten_cons, List.flatten_nil, List.count_append, List.count_nil, List.append_nil, List.nil_append]; omega)⟩
            ·
              simp at q12
              refine VCsplit.intro (fun q13 => ?_) (fun q13 => ?_)
              ·
                simp at q13
                exact ⟨[], ⟨by rw [graphOk_no g k (by omega) (by unfold edgeOk labelOk; rw [decide_eq_false (by omega : ¬ (((g.edges[k]?.getD default).label.toNat : Nat) : Int) ≤ 100)]; simp)], rfl⟩, (.le fun a => by (try simp only [setR, List.cons_append, List.nil_append]); simp only [List.flatten_append, List.flatten_cons, List.flatten_nil, List.count_append, List.count_nil, List.append_nil, List.nil_append]; omega)⟩
              ·
                simp at q13
                refine VCsplit.intro (fun q14 => ?_) (fun q14 => ?_)
                ·
                  simp at q14
                  refine idx_rd h1 ?_ ?_ fun b15 o15 hb15 => ?_
                  · (simp (disch := omega) only [wrap_of]; omega)
                  · (simp (disch := omega) only [wrap_of]; omega)
                  refine load_all default h1 ?_ ?_ hb15 rfl (mem_at 0 rfl) fun l16 hl16 => ?_
                  · (simp (disch := omega) only [wrap_of]; omega)
                  · (simp (disch := omega) only [wrap_of]; omega)
                  rw [show (IntKind.i64.wrap ((k : Int) - 1)).toNat = k - 1 by (simp (disch := omega) only [wrap_of]; omega)] at hl16
                  obtain ⟨rfl, w0x16, w2x16⟩ := gEdge_rd.1 hl16
                  refine call_val (specEdgeLess_ct _ _ (g.edges[k - (1 : Nat)]?.getD default) (g.edges[k]?.getD default)) ⟨(Rp.mono _ (mem_at 0 rfl) hl16), (Rp.mono _ (mem_at 0 rfl) hl6)⟩ ?_
                  rintro _ rfl
                  refine VC.intro ?_ ?_
                  · exact fun _ h => h
                  refine VCsplit.intro (fun q18 => ?_) (fun q18 => ?_)
                  ·
                    simp at q18
                    exact ⟨[], ⟨by rw [graphOk_no g k (by omega) (by unfold edgeOk; rw [‹edgeLess _ _ = false›, decide_eq_false (by omega : ¬ k = 0)]; simp)], rfl⟩, (.le fun a => by (try simp only [setR, List.cons_append, List.nil_append]); simp only [List.flatten_append, List.flatten_cons, List.flatten_nil, List.count_append, List.count_nil, List.append_nil, List.nil_append]; omega)⟩
                  ·
                    simp at q18
                    apply loop_stepA (k + 1)
                    · exact .refl _
                    · repeat' (first | exact trivial | refine ⟨⟨_, rfl, by first | rfl | exact inc_eq _ (by omega) | (refine sl_eq ?_; simp; done), by first | exact trivial | simp [SV.ok]⟩, ?_⟩)
                    · exact ⟨rfl, trivial⟩
                    · exact ⟨by omega, by unfold allOk edgeOk labelOk; rw [ha, ‹inR 0 (g.size - 1) (g.edges[k]?.getD default).from' = true›, ‹inR 0 (g.size - 1) (g.edges[k]?.getD default).to = true›, decide_eq_true (by omega : (97 : Int) ≤ ((g.edges[k]?.getD default).label.toNat : Nat)), decide_eq_true (by omega : (((g.edges[k]?.getD default).label.toNat : Nat) : Int) ≤ 100)]; first | (rw [‹edgeLess _ _ = true›]; simp) | (rw [decide_eq_true (by omega : k = 0)]; rfl)⟩
                    omega
                ·
                  simp at q14
                  apply loop_stepA (k + 1)
                  · exact .refl _
                  · repeat' (first | exact trivial | refine ⟨⟨_, rfl, by first | rfl | exact inc_eq _ (by omega) | (refine sl_eq ?_; simp; done), by first | exact trivial | simp [SV.ok]⟩, ?_⟩)
                  · exact ⟨rfl, trivial⟩
                  · exact ⟨by omega, by unfold allOk edgeOk labelOk; rw [ha, ‹inR 0 (g.size - 1) (g.edges[k]?.getD default).from' = true›, ‹inR 0 (g.size - 1) (g.edges[k]?.getD default).to = true›, decide_eq_true (by omega : (97 : Int) ≤ ((g.edges[k]?.getD default).label.toNat : Nat)), decide_eq_true (by omega : (((g.edges[k]?.getD default).label.toNat : Nat) : Int) ≤ 100)]; first | (rw [‹edgeLess _ _ = true›]; simp) | (rw [decide_eq_true (by omega : k = 0)]; rfl)⟩
                  omega
      ·
        simp at q4
        obtain rfl : k = g.edges.length := by omega
        exact ⟨[], ⟨by unfold graphOk inR; simp_all; omega, rfl⟩, (.le fun a => by (try simp only [setR, List.cons_append, List.nil_append]); simp only [List.flatten_append, List.flatten_cons, List.flatten_nil, List.count_append, List.count_nil, List.append_nil, List.nil_append]; omega)⟩
end Go.Proofs.YtjgehblllhkdbaaGreat

namespace Go.Proofs.YtjgehblllhkdbaaGreat
open Go.SX Go.Proofs
set_option maxHeartbeats 1000000
theorem edgeLess_iff {a b : Edge} : edgeLess a b = true ↔ a.from' < b.from' ∨ (a.from' = b.from' ∧ (a.label.toNat < b.label.toNat ∨ (a.label.toNat = b.label.toNat ∧ a.to < b.to))) := by
  unfold edgeLess
  by_cases e1 : a.from' = b.from'
  · rw [if_pos e1]
    by_cases e3 : a.label = b.label
    · rw [if_pos e3, decide_eq_true_iff, e3]; omega
    have : ¬ a.label.toNat = b.label.toNat := fun h => e3 (UInt8.toNat_inj.1 h)
    rw [if_neg e3, decide_eq_true_iff]; omega
  rw [if_neg e1, decide_eq_true_iff]; omega
theorem edgeLess_no {a b : Edge} : edgeLess a b = false ↔ ¬ (a.from' < b.from' ∨ (a.from' = b.from' ∧ (a.label.toNat < b.label.toNat ∨ (a.label.toNat = b.label.toNat ∧ a.to < b.to)))) := by
  rw [← edgeLess_iff, Bool.not_eq_true]
theorem edgeLess_trans {a b c : Edge} (h1 : edgeLess a b = true) (h2 : edgeLess b c = true) : edgeLess a c = true := by
  rw [edgeLess_iff] at *; omega
theorem edgeLess_irr (a : Edge) : edgeLess a a = false := by rw [edgeLess_no]; omega
theorem edgeLess_asym {a b : Edge} (h : edgeLess a b = true) : edgeLess b a = false := by
  rw [edgeLess_iff] at h; rw [edgeLess_no]; omega
theorem edgeLess_total {a b : Edge} (h1 : edgeLess a b = false) (h2 : edgeLess b a = false) : a = b := by
  rw [edgeLess_no] at h1 h2
  have h3 : a.label = b.label := UInt8.toNat_inj.1 (by omega)
  have h4 : a.from' = b.from' := by omega
  have h5 : a.to = b.to := by omega
  cases a; cases b; simp_all
/-- an edge that a graph of this size may have -/
def eOk (n : Int) (e : Edge) : Bool := inR 0 (n - 1) e.from' && (inR 0 (n - 1) e.to && labelOk e.label)
def sortedE (l : List Edge) : Prop := l.Pairwise fun a b => edgeLess a b = true
def gOk (n : Int) (l : List Edge) : Prop := (∀ e ∈ l, eOk n e = true) ∧ sortedE l
theorem edgeOk_iff {g : Graph} {i : Nat} : edgeOk g i = true ↔ eOk g.size (g.edges[i]?.getD default) = true ∧ (i = 0 ∨ edgeLess (g.edges[i - 1]?.getD default) (g.edges[i]?.getD default) = true) := by
  unfold edgeOk eOk; simp only [Bool.and_eq_true, Bool.or_eq_true, decide_eq_true_iff, and_assoc]
theorem allOk_iff {g : Graph} : ∀ {n : Nat}, allOk g n = true ↔ ∀ i, i < n → edgeOk g i = true
  | 0 => by unfold allOk; simp
  | n + 1 => by
    unfold allOk; rw [Bool.and_eq_true, allOk_iff]
    constructor
    · rintro ⟨h1, h2⟩ i hi
      rcases Nat.lt_or_ge i n with h | h
      · exact h1 i h
      rw [show i = n by omega]; exact h2
    exact fun h => ⟨fun i hi => h i (by omega), h n (by omega)⟩
theorem adj_pair {l : List Edge} (h : ∀ i, i + 1 < l.length → edgeLess (l[i]?.getD default) (l[i + 1]?.getD default) = true) : sortedE l := by
  induction l with
  | nil => exact .nil
  | cons a l ih =>
    have h2 := ih fun i hi => by have := h (i + 1) (by simp; omega); simpa using this
    refine List.Pairwise.cons ?_ h2
    intro b hb
    cases l with
    | nil => cases hb
    | cons c l =>
      have h3 : edgeLess a c = true := by have := h 0 (by simp); simpa using this
      rcases List.mem_cons.1 hb with rfl | hb
      · exact h3
      exact edgeLess_trans h3 ((List.pairwise_cons.1 h2).1 b hb)
theorem getD_mem {l : List Edge} {i : Nat} (h : i < l.length) : l[i]?.getD default ∈ l := by
  rw [List.getElem?_eq_getElem h]; exact List.getElem_mem h
theorem sorted_at {l : List Edge} (h : sortedE l) {i j : Nat} (hij : i < j) (hj : j < l.length) : edgeLess (l[i]?.getD default) (l[j]?.getD default) = true := by
  rw [List.getElem?_eq_getElem hj, List.getElem?_eq_getElem (by omega : i < l.length)]
  exact List.pairwise_iff_getElem.1 h i j (by omega) hj hij
theorem graphOk_iff {g : Graph} : graphOk g = true ↔ (1 ≤ g.size ∧ g.size ≤ 12) ∧ g.edges.length ≤ 40 ∧ gOk g.size g.edges := by
  unfold graphOk
  rw [Bool.and_eq_true, Bool.and_eq_true, inR_iff, decide_eq_true_iff, allOk_iff]
  refine and_congr_right fun _ => and_congr_right fun _ => ⟨fun h => ⟨?_, ?_⟩, fun h i hi => edgeOk_iff.2 ⟨h.1 _ (getD_mem hi), ?_⟩⟩
  · intro e he
    obtain ⟨i, hi, rfl⟩ := List.getElem_of_mem he
    have := (edgeOk_iff.1 (h i hi)).1
    rw [List.getElem?_eq_getElem hi] at this; exact this
  · refine adj_pair fun i hi => ?_
    have := (edgeOk_iff.1 (h (i + 1) hi)).2
    rcases this with h | h
    · omega
    exact h
  rcases Nat.eq_zero_or_pos i with h0 | h0
  · exact .inl h0
  exact .inr (sorted_at h.2 (by omega) hi)
theorem graphOk_filter {g : Graph} (p : Edge → Bool) (h : graphOk g = true) : graphOk ⟨g.size, g.edges.filter p⟩ = true := by
  obtain ⟨h1, h2, h3, h4⟩ := graphOk_iff.1 h
  refine graphOk_iff.2 ⟨h1, Nat.le_trans (List.length_filter_le _ _) h2, fun e he => h3 e ((List.mem_filter.1 he).1), ?_⟩
  exact List.Pairwise.filter _ h4
/-! edges put into their place -/
def putE (l : List Edge) (e : Edge) : List Edge := l.filter (fun x => edgeLess x e) ++ ([e] ++ l.filter (fun x => edgeLess e x))
theorem putE_mem {l : List Edge} {e x : Edge} (h : x ∈ putE l e) : x = e ∨ x ∈ l := by
  unfold putE at h
  simp only [List.mem_append, List.mem_filter, List.mem_singleton] at h
  rcases h with h | h | h
  · exact .inr h.1
  · exact .inl h
  exact .inr h.1
theorem putE_sorted {l : List Edge} (e : Edge) (h : sortedE l) : sortedE (putE l e) := by
  unfold putE sortedE
  refine List.pairwise_append.2 ⟨List.Pairwise.filter _ h, List.pairwise_append.2 ⟨List.pairwise_singleton _ _, List.Pairwise.filter _ h, ?_⟩, ?_⟩
  · intro a ha b hb
    rw [List.mem_singleton] at ha; subst ha
    exact (List.mem_filter.1 hb).2
  intro a ha b hb
  have h1 := (List.mem_filter.1 ha).2
  rcases List.mem_append.1 hb with hb | hb
  · rw [List.mem_singleton] at hb; subst hb; exact h1
  exact edgeLess_trans h1 (List.mem_filter.1 hb).2
theorem putE_ok {n : Int} {l : List Edge} {e : Edge} (h : gOk n l) (he : eOk n e = true) : gOk n (putE l e) := by
  refine ⟨fun x hx => ?_, putE_sorted e h.2⟩
  rcases putE_mem hx with rfl | hx
  · exact he
  exact h.1 x hx
/-- a sorted list around a place -/
theorem filt_lt {l : List Edge} {e : Edge} {k : Nat} (h1 : ∀ i, i < k → edgeLess (l[i]?.getD default) e = true) (h2 : ∀ i, k ≤ i → i < l.length → edgeLess (l[i]?.getD default) e = false) (hk : k ≤ l.length) : l.filter (fun x => edgeLess x e) = l.take k := by
  conv => lhs; rw [← List.take_append_drop k l]
  rw [List.filter_append, List.filter_eq_self.2, List.filter_eq_nil_iff.2, List.append_nil]
  · intro x hx
    obtain ⟨i, hi, rfl⟩ := List.getElem_of_mem hx
    rw [List.length_drop] at hi
    have := h2 (k + i) (by omega) (by omega)
    rw [List.getElem?_eq_getElem (by omega)] at this
    rw [List.getElem_drop]; simpa using this
  intro x hx
  obtain ⟨i, hi, rfl⟩ := List.getElem_of_mem hx
  rw [List.length_take] at hi
  have := h1 i (by omega)
  rw [List.getElem?_eq_getElem (by omega)] at this
  rw [List.getElem_take]; simpa using this
theorem filt_gt {l : List Edge} {e : Edge} {k : Nat} (h1 : ∀ i, i < k → edgeLess e (l[i]?.getD default) = false) (h2 : ∀ i, k ≤ i → i < l.length → edgeLess e (l[i]?.getD default) = true) (hk : k ≤ l.length) : l.filter (fun x => edgeLess e x) = l.drop k := by
  conv => lhs; rw [← List.take_append_drop k l]
  rw [List.filter_append, List.filter_eq_nil_iff.2, List.filter_eq_self.2, List.nil_append]
  · intro x hx
    obtain ⟨i, hi, rfl⟩ := List.getElem_of_mem hx
    rw [List.length_drop] at hi
    have := h2 (k + i) (by omega) (by omega)
    rw [List.getElem?_eq_getElem (by omega)] at this
    rw [List.getElem_drop]; simpa using this
  intro x hx
  obtain ⟨i, hi, rfl⟩ := List.getElem_of_mem hx
  rw [List.length_take] at hi
  have := h1 i (by omega)
  rw [List.getElem?_eq_getElem (by omega)] at this
  rw [List.getElem_take]; simpa using this
/-- the place of an edge in a sorted list: all ahead of it are less, those from it on are not -/
def atE (l : List Edge) (e : Edge) (k : Nat) : Prop := k ≤ l.length ∧ (∀ i, i < k → edgeLess (l[i]?.getD default) e = true) ∧ ∀ i, k ≤ i → i < l.length → edgeLess (l[i]?.getD default) e = false
theorem putE_new {l : List Edge} {e : Edge} {k : Nat} (h : sortedE l) (ha : atE l e k) (hn : ¬ (k < l.length ∧ l[k]?.getD default = e)) : putE l e = l.take k ++ ([e] ++ l.drop k) := by
  obtain ⟨hk, h1, h2⟩ := ha
  unfold putE
  rw [filt_lt h1 h2 hk, filt_gt (fun i hi => edgeLess_asym (h1 i hi)) ?_ hk]
  intro i hi1 hi2
  have h3 := h2 i hi1 hi2
  cases e1 : edgeLess e (l[i]?.getD default) with
  | true => rfl
  | false =>
    have h4 := edgeLess_total h3 e1
    exfalso
    rcases Nat.lt_or_ge k i with h5 | h5
    · have h6 := sorted_at h h5 hi2
      rw [h4, h2 k (Nat.le_refl _) (by omega)] at h6; cases h6
    have : i = k := by omega
    subst this
    exact hn ⟨hi2, h4⟩
theorem putE_old {l : List Edge} {e : Edge} {k : Nat} (h : sortedE l) (ha : atE l e k) (hk : k < l.length) (he : l[k]?.getD default = e) : putE l e = l := by
  obtain ⟨_, h1, h2⟩ := ha
  unfold putE
  rw [filt_lt h1 h2 (by omega), filt_gt (k := k + 1) ?_ ?_ (by omega)]
  · have h3 := List.drop_eq_getElem_cons hk
    rw [List.getElem?_eq_getElem hk] at he
    simp only [Option.getD_some] at he
    rw [he] at h3
    rw [show [e] ++ l.drop (k + 1) = l.drop k from h3.symm, List.take_append_drop]
  · intro i hi
    rcases Nat.lt_or_ge i k with h3 | h3
    · exact edgeLess_asym (h1 i h3)
    rw [show i = k by omega, he, edgeLess_irr]
  intro i hi1 hi2
  have := sorted_at h (show k < i by omega) hi2
  rw [he] at this; exact this
end Go.Proofs.YtjgehblllhkdbaaGreat

namespace Go.Proofs.YtjgehblllhkdbaaGreat
open Go.SX Go.Proofs
set_option maxHeartbeats 1000000
theorem glit1 {α : Type} {T : TypeId} {g : Gt α} {b : Nat} {l : List Value} {x : α} {B : Hp} (h : g.ow l x B) : (gSl T g).ow [.slice (some ⟨b, 0, none⟩) 1 1] [x] ((b, Obj.cells ⟨l⟩ T) :: B) :=
  ⟨_, [⟨l, raw_of (g.owrd h)⟩], _, [B], rfl, Ow.lit (f := flRaw g.size g.pos) (b := b) (T := T) (xs := [⟨l, raw_of (g.owrd h)⟩]) (fun _ _ => trivial) (by simp), by simp [flRaw], .cons h .nil⟩
theorem glit2 {α : Type} {T : TypeId} {g : Gt α} {b : Nat} {l1 l2 : List Value} {x y : α} {B1 B2 : Hp} (h1 : g.ow l1 x B1) (h2 : g.ow l2 y B2) : (gSl T g).ow [.slice (some ⟨b, 0, none⟩) 2 2] [x, y] ((b, Obj.cells ⟨l1 ++ l2⟩ T) :: (B1 ++ B2)) :=
  ⟨_, [⟨l1, raw_of (g.owrd h1)⟩, ⟨l2, raw_of (g.owrd h2)⟩], _, [B1, B2], rfl, Ow.lit (f := flRaw g.size g.pos) (b := b) (T := T) (xs := [⟨l1, raw_of (g.owrd h1)⟩, ⟨l2, raw_of (g.owrd h2)⟩]) (fun _ _ => trivial) (by simp), by simp [flRaw], .cons h1 (.cons h2 .nil)⟩
theorem bytesLess_irr : ∀ l : List UInt8, Op.bytesLess l l = false
  | [] => rfl
  | x :: l => by unfold Op.bytesLess; simp [bytesLess_irr l]
end Go.Proofs.YtjgehblllhkdbaaGreat

namespace Go.Proofs.YtjgehblllhkdbaaGreat
open Go.SX Go.Proofs
set_option maxHeartbeats 4000000
theorem ins_grow {α : Type} {ls : List α} {y z : α} {i L k m1 m2 : Nat} (hi : i < ls.length) (hk : k = ls.length + 1 - i) (hm1 : m1 = 1) (hL : L = i + 1) (hm2 : m2 = ls.length - i) :
    ((ls.take i ++ List.replicate k z).take i ++ ([y].take m1 ++ (ls.take i ++ List.replicate k z).drop (i + m1))).take L ++ (((ls.take ls.length).drop i).take m2 ++ ((ls.take i ++ List.replicate k z).take i ++ ([y].take m1 ++ (ls.take i ++ List.replicate k z).drop (i + m1))).drop (L + m2)) = ls.take i ++ ([y] ++ ls.drop i) := by
  subst hk hm1 hL hm2
  have h1 : (ls.take i).length = i := by rw [List.length_take]; omega
  have e1 : (ls.take i ++ List.replicate (ls.length + 1 - i) z).take i = ls.take i := by
    conv => lhs; arg 1; rw [← h1]
    rw [List.take_left]
  rw [e1, List.take_length, show [y].take 1 = [y] from rfl]
  rw [List.take_of_length_le (show (ls.drop i).length ≤ ls.length - i by rw [List.length_drop]; omega)]
  have e2 : (ls.take i ++ ([y] ++ (ls.take i ++ List.replicate (ls.length + 1 - i) z).drop (i + 1))).take (i + 1) = ls.take i ++ [y] := by
    rw [← List.append_assoc, show i + 1 = (ls.take i ++ [y]).length by rw [List.length_append, h1]; rfl, List.take_left]
  have e3 : (ls.take i ++ ([y] ++ (ls.take i ++ List.replicate (ls.length + 1 - i) z).drop (i + 1))).drop (i + 1 + (ls.length - i)) = [] :=
    List.drop_eq_nil_of_le (by simp only [List.length_append, h1, List.length_drop, List.length_replicate, List.length_cons, List.length_nil]; omega)
  rw [e2, e3, List.append_nil, List.append_assoc]
theorem ins_room {α : Type} {ls : List α} {y : α} {i L m1 : Nat} (hi : i < ls.length) (hm1 : m1 = 1) (hL : L = i + 1) :
    (ls.take L ++ (ls.take ls.length).drop i).take i ++ ([y].take m1 ++ (ls.take L ++ (ls.take ls.length).drop i).drop (i + m1)) = ls.take i ++ ([y] ++ ls.drop i) := by
  subst hm1 hL
  have h1 : (ls.take (i + 1)).length = i + 1 := by rw [List.length_take]; omega
  rw [List.take_append_of_le_length (by omega), List.take_take, Nat.min_eq_left (by omega), List.take_length, show [y].take 1 = [y] from rfl]
  congr 2
  conv => lhs; arg 1; rw [← h1]
  rw [List.drop_left]
theorem ow_some {α : Type} {f : Fl α} {T : TypeId} {b : Option Addr} {m c : Nat} {xs : List α} {A : Hp} (h : Ow f T (.slice b m c) xs A) (h0 : 0 < xs.length) : ∃ bb cs, b = some ⟨bb, 0, none⟩ ∧ A = [(bb, Obj.cells ⟨cs⟩ T)] ∧ cs.length ≠ 0 := by
  obtain ⟨_, _, b0, c0, e, h2⟩ := h
  cases e
  rcases h2 with ⟨rfl, rfl, rfl⟩ | ⟨bb, sp, rfl, rfl, _, _⟩
  · exact absurd h0 (Nat.lt_irrefl 0)
  refine ⟨bb, _, rfl, rfl, ?_⟩
  rw [List.length_append, flat_length]
  have h3 : 0 < f.size := f.pos
  have := Nat.mul_le_mul h0 h3
  simp at this; omega
theorem sb_two {c l bb sz : Nat} (h : l < c) : subBase (c - 0) l (subBase c 0 (some ⟨bb, 0, none⟩) sz) sz = some ⟨bb, 0 + l * sz, none⟩ := by
  have h0 : subBase c 0 (some ⟨bb, 0, none⟩) sz = some ⟨bb, 0, none⟩ := by
    rw [subBase_eq]; split
    · rfl
    rw [Option.map_some, addr_add]; simp
  rw [h0, subBase_eq, if_neg (by omega), Option.map_some, addr_add]
end Go.Proofs.YtjgehblllhkdbaaGreat

namespace Go.Proofs.YtjgehblllhkdbaaGreat
open Go.SX Go.Proofs
set_option linter.unusedSimpArgs false
set_option linter.unusedVariables false
set_option maxHeartbeats 4000000
attribute [local irreducible] IntKind.wrap
theorem ovEdge {E : World} {bl : List Blk} {R : List Hp} {K : Value → List Blk → List Hp → Prop} {a b : Addr} {la ca lb cb : Nat} {c1 c2 : Array Value} {t1 t2 : TypeId} {H : Hp}
    (hsp : (St.hall ⟨[], bl, R⟩).Perm ((b.block, Obj.cells c2 t2) :: H)) (m1 : (a.block, Obj.cells c1 t1) ∈ H) (h0 : c2.size ≠ 0) (hk : K (.bool false) bl R) :
    VCcall Tryz.prog E 382 [.slice (some a) la ca, .slice (some b) lb cb] ⟨[], bl, R⟩ K :=
  call_overlaps (tS := 86) (tR := 4) Tryz.func382 (by kernel_rfl) (by kernel_rfl) (by kernel_rfl) (by kernel_rfl) Tryz.underlying86 Tryz.sizeOf209 hsp m1 h0 hk
theorem ovEdge2 {E : World} {bl : List Blk} {R : List Hp} {K : Value → List Blk → List Hp → Prop} {x bb c l sz la ca lb cb : Nat} {c1 c2 : Array Value} {t1 t2 : TypeId} {H : Hp} (hl : l < c)
    (hsp : (St.hall ⟨[], bl, R⟩).Perm ((bb, Obj.cells c2 t2) :: H)) (m1 : (x, Obj.cells c1 t1) ∈ H) (h0 : c2.size ≠ 0) (hk : K (.bool false) bl R) :
    VCcall Tryz.prog E 382 [.slice (some ⟨x, 0, none⟩) la ca, .slice (subBase (c - 0) l (subBase c 0 (some ⟨bb, 0, none⟩) sz) sz) lb cb] ⟨[], bl, R⟩ K := by
  rw [sb_two hl]
  exact ovEdge (b := ⟨bb, 0 + l * sz, none⟩) (a := ⟨x, 0, none⟩) hsp m1 h0 hk
--@ct slices.overlaps[impl.Edge] raw refine ovEdge2 (H := H ++ []) ?_ (.refl _) (List.mem_append_left _ hmem) (by simpa using hcs) ?_
--@ct slices.Insert[[]impl.Edge,impl.Edge] raw refine callR_at &1 rfl (insEdge_ct _ _ _ _ _ _ _ _ _ ~1 (gEdge_own ‹gEdge.rd _ _ _›) ?_ ?_) (mem_at @3 rfl _ (List.mem_singleton.2 rfl)) ?_ | | rintro _ A# ⟨b#, c#, rfl, o#⟩
theorem insRaw_ct (b : Option Addr) (m c i x : Nat) (ls : List (RawC gEdge.size)) (y : RawC gEdge.size) (A : Hp) (hA : Ow (flRaw gEdge.size gEdge.pos) 209 (.slice b m c) ls A) (hi : i ≤ m) (hm : m ≤ 1000000) :
    CtR Tryz.prog 319 [.slice b m c, .int .i64 (i : Int), .slice (some ⟨x, 0, none⟩) 1 1] A (fun H => (rpSl (flRaw gEdge.size gEdge.pos).rp).rd H [.slice (some ⟨x, 0, none⟩) 1 1] [y] ∧ (x, Obj.cells ⟨y.1⟩ 209) ∈ H)
      (fun v A => ∃ b c, v = .slice b (m + 1) c ∧ Ow (flRaw gEdge.size gEdge.pos) 209 (.slice b (m + 1) c) (ls.take i ++ ([y] ++ ls.drop i)) A) := by
  refine CtR.intro G_ok [A] Tryz.func319 rfl rfl rfl (by simp) fun E H hp => ?_
  obtain ⟨hp, hmem⟩ := hp
  obtain ⟨rfl, hlm⟩ := rd_len hA.rd
  have hcl := rd_cap hA.rd
  have hwA : IntKind.i64.wrap (IntKind.i64.wrap ((ls.length : Int) + ((1 : Nat) : Int)) - (i : Int)) = ((ls.length + 1 - i : Nat) : Int) := by
    have e1 : IntKind.i64.wrap ((ls.length : Int) + ((1 : Nat) : Int)) = (ls.length : Int) + 1 := wrap_of (by omega) (by omega)
    rw [e1, wrap_of (by omega) (by omega)]; omega
  have hwB : (IntKind.i64.wrap ((i : Int) + ((1 : Nat) : Int))).toNat = i + 1 := by
    have e1 : IntKind.i64.wrap ((i : Int) + ((1 : Nat) : Int)) = (i : Int) + 1 := wrap_of (by omega) (by omega)
    rw [e1]; exact Int.toNat_natCast (i + 1)
  have hwC : (IntKind.i64.wrap ((ls.length : Int) + ((1 : Nat) : Int))).toNat = ls.length + 1 := by
    have e1 : IntKind.i64.wrap ((ls.length : Int) + ((1 : Nat) : Int)) = (ls.length : Int) + 1 := wrap_of (by omega) (by omega)
    rw [e1]; exact Int.toNat_natCast (ls.length + 1)
  refine VC.intro ?_ ?_
  · omega
  refine VCsplit.intro (fun q0 => ?_) (fun q0 => ?_)
  ·
    simp at q0
  ·
    simp at q0
    refine VCsplit.intro (fun q1 => ?_) (fun q1 => ?_)
    ·
      simp at q1
      refine append_ow (f := flRaw gEdge.size gEdge.pos) G_ok 0 rfl hA (Rp.mono _ (mem_at 1 rfl) hp) (fun _ _ => trivial) rfl rfl rfl rfl rfl rfl rfl rfl ?_ fun b' c' A' o' hc' => ?_
      · simp; omega
      (have hi0 : i = ls.length := (by omega); subst hi0; rw [show ls.take ls.length ++ ([y] ++ ls.drop ls.length) = ls ++ [y] by simp]; exact ⟨_, ⟨_, _, rfl, o'⟩, (.le fun a => by (try simp only [setR, List.cons_append, List.nil_append]); simp only [List.flatten_append, List.flatten_cons, List.flatten_nil, List.count_append, List.count_nil, List.append_nil, List.nil_append]; omega)⟩)
    ·
      simp at q1
      refine VCsplit.intro (fun q2 => ?_) (fun q2 => ?_)
      ·
        simp at q2
        simp (disch := omega) only [wrap_of] at q2
        refine VC.intro ?_ ?_
        · omega
        refine append_zeros (f := flRaw gEdge.size gEdge.pos) (z := (⟨_, raw_of (gEdge.owrd zEdge_ow)⟩ : RawC gEdge.size)) (xs := ls.take i) (base := b) (m := i) (cap := c) (k := ls.length + 1 - i) G_ok rfl (congrArg (fun v => SV.v (Value.int .i64 v)) hwA) (rd_pre (Rp.mono _ (mem_at 0 rfl) (Ow.rd hA)) i hi) (fun _ _ => trivial) rfl rfl rfl rfl rfl trivial rfl ?_ ?_ ?_ fun b' c' A' o' => ?_
        · omega
        · omega
        · omega
        refine VC.intro ?_ ?_
        · simp; omega
        refine copy_ow (f := flRaw gEdge.size gEdge.pos) (l := i) G_ok 0 rfl o' rfl rfl (Rp.mono _ (mem_at 2 rfl) hp) (fun _ _ => trivial) ?_ rfl rfl rfl fun A2 o2 => ?_
        · simp; omega
        refine draw G_ok mixed (some 8) (.q 0 (.q 1 (.q 2 (.q 3 (.q 4 (.q 5 (.q 6 (.q 7 (.tl 8 (.nil)))))))))) (by decide +kernel) ?_
        refine VC.intro ?_ ?_
        · simp_all; omega
        refine VC.intro ?_ ?_
        · omega
        refine copy_ow (f := flRaw gEdge.size gEdge.pos) G_ok 0 rfl o2 rfl rfl (rd_sub (l := i) (h := ls.length) (Rp.mono _ (mem_at 1 rfl) (Ow.rd hA)) hi (Nat.le_refl _)) (fun _ _ => trivial) ?_ rfl rfl rfl fun A3 o3 => ?_
        · simp_all; omega
        (have hlz : (ls.take i ++ List.replicate (ls.length + 1 - i) (⟨_, raw_of (gEdge.owrd zEdge_ow)⟩ : RawC gEdge.size)).length = ls.length + 1 := (by simp only [List.length_append, List.length_take, List.length_replicate]; omega); rw [ins_grow (by omega) rfl (by simp only [List.length_append, List.length_take, List.length_replicate]; omega) hwB (by simp only [hwB, List.length_append, List.length_take, List.length_replicate, List.length_drop, List.length_cons, List.length_nil]; omega)] at o3; rw [hlz] at o3 ⊢; exact ⟨_, ⟨_, _, rfl, o3⟩, (.le fun a => by (try simp only [setR, List.cons_append, List.nil_append]); simp only [List.flatten_append, List.flatten_cons, List.flatten_nil, List.count_append, List.count_nil, List.append_nil, List.nil_append]; omega)⟩)
      ·
        simp at q2
        simp (disch := omega) only [wrap_of] at q2
        obtain ⟨bb, cs, rfl, rfl, hcs⟩ := ow_some hA (by omega)
        refine VC.intro ?_ ?_
        · (simp (disch := omega) only [wrap_of]; omega)
        refine VC.intro ?_ ?_
        · (simp (disch := omega) only [wrap_of]; omega)
        refine ovEdge2 (H := H ++ []) ?_ (.refl _) (List.mem_append_left _ hmem) (by simpa using hcs) ?_
        · (simp (disch := omega) only [wrap_of]; omega)
        refine VCsplit.intro (fun q4 => ?_) (fun q4 => ?_)
        ·
          simp at q4
          refine draw G_ok mixed (some 8) (.q 0 (.q 1 (.q 2 (.q 3 (.q 4 (.q 5 (.q 6 (.q 7 (.tl 8 (.nil)))))))))) (by decide +kernel) ?_
          refine VC.intro ?_ ?_
          · (simp (disch := omega) only [wrap_of]; omega)
          refine VC.intro ?_ ?_
          · (simp (disch := omega) only [wrap_of]; omega)
          refine copy_end (f := flRaw gEdge.size gEdge.pos) (l := (IntKind.i64.wrap ((i : Int) + ((1 : Nat) : Int))).toNat) (q := ls.length - i) (ys := (ls.take ls.length).drop i) G_ok 0 rfl hA rfl rfl (rd_sub (l := i) (h := ls.length) (Rp.mono _ (mem_at 0 rfl) (Ow.rd hA)) hi (Nat.le_refl _)) ?_ (fun _ _ => trivial) ?_ ?_ ?_ ?_ ?_ rfl rfl rfl fun A2 o2 => ?_
          · (simp (disch := omega) only [wrap_of]; omega)
          · (simp (disch := omega) only [wrap_of]; omega)
          · (simp (disch := omega) only [wrap_of]; omega)
          · (simp (disch := omega) only [wrap_of]; omega)
          · omega
          · (simp (disch := omega) only [wrap_of]; omega)
          refine VC.intro ?_ ?_
          · (simp (disch := omega) only [wrap_of]; omega)
          refine copy_ow (f := flRaw gEdge.size gEdge.pos) (l := i) G_ok 0 rfl o2 rfl rfl (Rp.mono _ (mem_at 1 rfl) hp) (fun _ _ => trivial) ?_ rfl rfl rfl fun A3 o3 => ?_
          · (simp (disch := omega) only [wrap_of]; omega)
          (have hlz : (IntKind.i64.wrap ((i : Int) + ((1 : Nat) : Int))).toNat + (ls.length - i) = ls.length + 1 := (by rw [hwB]; omega); rw [ins_room (by omega) (by simp only [hwC]; omega) hwB] at o3; rw [hlz] at o3; rw [hwC]; exact ⟨_, ⟨_, _, rfl, o3⟩, (.le fun a => by (try simp only [setR, List.cons_append, List.nil_append]); simp only [List.flatten_append, List.flatten_cons, List.flatten_nil, List.count_append, List.count_nil, List.append_nil, List.nil_append]; omega)⟩)
        ·
          simp at q4
end Go.Proofs.YtjgehblllhkdbaaGreat

namespace Go.Proofs.YtjgehblllhkdbaaGreat
open Go.SX Go.Proofs
set_option linter.unusedSimpArgs false
set_option linter.unusedVariables false
set_option maxHeartbeats 4000000
attribute [local irreducible] IntKind.wrap
theorem four_size (s : Int) : (four s).size = 4 := rfl
def frameOk (t : ByteArray) : Bool := inR 1 9000 t.size
def frame (t : ByteArray) : ByteArray := varText t.size ++ four (sumOf t) ++ t
theorem frame_size (t : ByteArray) : (frame t).size ≤ 14 + t.size := by
  unfold frame
  rw [ByteArray.size_append, ByteArray.size_append, four_size]
  have := varText_size t.size
  omega
--@ct impl.Frame val implFrame_ct _ ?_
theorem implFrame_ct (t : ByteArray) (ht : t.size ≤ 9223372036854775807) : Ct Tryz.prog 372 [.string t] [] (fun _ => True) (fun v A => v = .tuple #[.string (if frameOk t then frame t else .empty), .bool (frameOk t)] ∧ A = []) := by
  refine Ct.intro0 G_ok Tryz.func372 rfl rfl rfl fun E H hp => ?_
  have h1 := varText_size t.size
  have h2 := four_size (sumOf t)
  refine VCsplit.intro (fun q0 => ?_) (fun q0 => ?_)
  ·
    simp at q0
    exact ⟨[], ⟨by rw [show frameOk t = false by unfold frameOk inR; simp; omega]; rfl, rfl⟩, (.le fun a => by (try simp only [setR, List.cons_append, List.nil_append]); simp only [List.flatten_append, List.flatten_cons, List.flatten_nil, List.count_append, List.count_nil, List.append_nil, List.nil_append]; omega)⟩
  ·
    simp at q0
    refine VCsplit.intro (fun q1 => ?_) (fun q1 => ?_)
    ·
      simp at q1
      exact ⟨[], ⟨by rw [show frameOk t = false by unfold frameOk inR; simp; omega]; rfl, rfl⟩, (.le fun a => by (try simp only [setR, List.cons_append, List.nil_append]); simp only [List.flatten_append, List.flatten_cons, List.flatten_nil, List.count_append, List.count_nil, List.append_nil, List.nil_append]; omega)⟩
    ·
      simp at q1
      refine call_val (varText_ct _ ?_ ?_) trivial ?_
      · omega
      · omega
      rintro _ rfl
      refine call_val (sumText_ct _ ?_) trivial ?_
      · trivial
      rintro _ rfl
      refine VC.intro ?_ ?_
      · simp; omega
      refine VC.intro ?_ ?_
      · simp; omega
      exact ⟨[], ⟨by rw [show frameOk t = true by unfold frameOk inR; simp; omega]; rfl, rfl⟩, (.le fun a => by (try simp only [setR, List.cons_append, List.nil_append]); simp only [List.flatten_append, List.flatten_cons, List.flatten_nil, List.count_append, List.count_nil, List.append_nil, List.nil_append]; omega)⟩
--@ct spec.Frame val specFrame_ct _ ?_
theorem specFrame_ct (t : ByteArray) (ht : t.size ≤ 9223372036854775807) : Ct Tryz.prog 246 [.string t] [] (fun _ => True) (fun v A => v = .tuple #[.string (if frameOk t then frame t else .empty), .bool (frameOk t)] ∧ A = []) := by
  refine Ct.intro0 G_ok Tryz.func246 rfl rfl rfl fun E H hp => ?_
  have h1 := varText_size t.size
  have h2 := four_size (sumOf t)
  refine call_val (l01In_ct _ _ _) trivial ?_
  rintro _ rfl
  refine VCsplit.intro (fun q1 => ?_) (fun q1 => ?_)
  ·
    simp at q1
    exact ⟨[], ⟨by rw [show frameOk t = false by assumption]; rfl, rfl⟩, (.le fun a => by (try simp only [setR, List.cons_append, List.nil_append]); simp only [List.flatten_append, List.flatten_cons, List.flatten_nil, List.count_append, List.count_nil, List.append_nil, List.nil_append]; omega)⟩
  ·
    simp at q1
    have iq1 := inR_iff.1 q1
    refine call_val (l01Var_ct _ ?_ ?_) trivial ?_
    · omega
    · omega
    rintro _ rfl
    refine call_val (specSumOf_ct _ ?_) trivial ?_
    · trivial
    rintro _ rfl
    refine call_val (l02Four_ct _ ?_) trivial ?_
    · exact sumOf_rng t
    rintro _ rfl
    refine VC.intro ?_ ?_
    · simp; omega
    refine VC.intro ?_ ?_
    · simp; omega
    exact ⟨[], ⟨by rw [show frameOk t = true by assumption]; rfl, rfl⟩, (.le fun a => by (try simp only [setR, List.cons_append, List.nil_append]); simp only [List.flatten_append, List.flatten_cons, List.flatten_nil, List.count_append, List.count_nil, List.append_nil, List.nil_append]; omega)⟩
/-! numbers read -/
def byteAt (t : ByteArray) (i : Nat) : UInt8 := (t[i]?).getD 0
/-- from place p, k bytes at most, i read, n so far, u the next byte's weight -/
def rvGo (t : ByteArray) (p : Nat) : Nat → Nat → Nat → Nat → Nat × Nat × Bool
  | 0, _, _, _ => (0, 0, false)
  | k + 1, i, n, u =>
    if p + i < t.size then
      if 128 ≤ (byteAt t (p + i)).toNat then rvGo t p k (i + 1) (n + (byteAt t (p + i)).toNat % 128 * u) (u * 128)
      else if ((byteAt t (p + i)).toNat = 0 ∧ 0 < i) ∨ 1000000000 < n + (byteAt t (p + i)).toNat % 128 * u then (0, 0, false)
      else (n + (byteAt t (p + i)).toNat % 128 * u, p + i + 1, true)
    else (0, 0, false)
def readVar (t : ByteArray) (p : Nat) : Nat × Nat × Bool := rvGo t p 5 0 0 1
theorem rvGo_le (t : ByteArray) (p : Nat) : ∀ k i n u, (rvGo t p k i n u).2.2 = true → p < (rvGo t p k i n u).2.1 ∧ (rvGo t p k i n u).2.1 ≤ t.size ∧ (rvGo t p k i n u).1 ≤ 1000000000
  | 0, i, n, u, h => by simp [rvGo] at h
  | k + 1, i, n, u, h => by
    unfold rvGo at h ⊢
    split at h
    · rename_i h1; rw [if_pos h1]
      split at h
      · rename_i h2; rw [if_pos h2]; exact rvGo_le t p k _ _ _ h
      rename_i h2; rw [if_neg h2]
      split at h
      · simp at h
      rename_i h3; rw [if_neg h3]; refine ⟨?_, ?_, ?_⟩ <;> simp only <;> omega
    simp at h
theorem readVar_le {t : ByteArray} {p : Nat} (h : (readVar t p).2.2 = true) : p < (readVar t p).2.1 ∧ (readVar t p).2.1 ≤ t.size ∧ (readVar t p).1 ≤ 1000000000 := rvGo_le t p 5 0 0 1 h
theorem rvGo_end {t : ByteArray} {p k i n u : Nat} (h : t.size ≤ p + i) : rvGo t p k i n u = (0, 0, false) := by
  cases k with
  | zero => rfl
  | succ k => unfold rvGo; rw [if_neg (by omega)]
theorem rvGo_on {t : ByteArray} {p k i n u : Nat} (h : p + i < t.size) (h2 : 128 ≤ (byteAt t (p + i)).toNat) : rvGo t p (k + 1) i n u = rvGo t p k (i + 1) (n + (byteAt t (p + i)).toNat % 128 * u) (u * 128) := by
  conv => lhs; unfold rvGo
  rw [if_pos h, if_pos h2]
theorem rvGo_bad {t : ByteArray} {p k i n u : Nat} (h : p + i < t.size) (h2 : ¬ 128 ≤ (byteAt t (p + i)).toNat) (h3 : ((byteAt t (p + i)).toNat = 0 ∧ 0 < i) ∨ 1000000000 < n + (byteAt t (p + i)).toNat % 128 * u) : rvGo t p (k + 1) i n u = (0, 0, false) := by
  conv => lhs; unfold rvGo
  rw [if_pos h, if_neg h2, if_pos h3]
theorem rvGo_ok {t : ByteArray} {p k i n u : Nat} (h : p + i < t.size) (h2 : ¬ 128 ≤ (byteAt t (p + i)).toNat) (h3 : ¬ (((byteAt t (p + i)).toNat = 0 ∧ 0 < i) ∨ 1000000000 < n + (byteAt t (p + i)).toNat % 128 * u)) : rvGo t p (k + 1) i n u = (n + (byteAt t (p + i)).toNat % 128 * u, p + i + 1, true) := by
  conv => lhs; unfold rvGo
  rw [if_pos h, if_neg h2, if_neg h3]
/-- the number so far, and what it is the number of -/
def hiOk (t : ByteArray) (p i n : Nat) : Prop := n < 128 ^ i ∧ p + i ≤ t.size ∧ ∀ f m, 0 < m → varL (f + i) (n + 128 ^ i * m) = ((by' t).drop p).take i ++ varL f m
theorem hiOk_zero {t : ByteArray} {p : Nat} (h : p ≤ t.size) : hiOk t p 0 0 := ⟨by simp, h, fun f m _ => by simp⟩
theorem byteAt_take {t : ByteArray} {p i : Nat} (h : p + i < t.size) : ((by' t).drop p).take (i + 1) = ((by' t).drop p).take i ++ [byteAt t (p + i)] := by
  have h1 : i < ((by' t).drop p).length := by rw [List.length_drop, by_size]; omega
  rw [List.take_add_one, List.getElem?_drop]
  unfold byteAt
  rw [by_get, List.getElem?_eq_getElem (by rw [by_size]; exact h)]; rfl
theorem hiOk_step {t : ByteArray} {p i n : Nat} (h : hiOk t p i n) (h1 : p + i < t.size) (h2 : 128 ≤ (byteAt t (p + i)).toNat) : hiOk t p (i + 1) (n + (byteAt t (p + i)).toNat % 128 * 128 ^ i) := by
  obtain ⟨hn, _, hv⟩ := h
  have hb := (byteAt t (p + i)).toNat_lt
  have h7 : (byteAt t (p + i)).toNat % 128 * 128 ^ i ≤ 127 * 128 ^ i := Nat.mul_le_mul_right _ (by omega)
  refine ⟨by rw [Nat.pow_succ]; omega, by omega, fun f m hm => ?_⟩
  have e1 : n + (byteAt t (p + i)).toNat % 128 * 128 ^ i + 128 ^ (i + 1) * m = n + 128 ^ i * ((byteAt t (p + i)).toNat % 128 + 128 * m) := by
    rw [Nat.pow_succ, Nat.mul_add, Nat.mul_assoc, Nat.mul_comm (128 ^ i) ((byteAt t (p + i)).toNat % 128)]; omega
  rw [e1, show f + (i + 1) = (f + 1) + i by omega, hv (f + 1) _ (by omega), byteAt_take h1, List.append_assoc]
  conv => lhs; arg 2; unfold varL
  rw [if_pos (by omega), show ((byteAt t (p + i)).toNat % 128 + 128 * m) / 128 = m by omega]
  have e2 : UInt8.ofNat (128 + ((byteAt t (p + i)).toNat % 128 + 128 * m) % 128) = byteAt t (p + i) := by
    rw [show 128 + ((byteAt t (p + i)).toNat % 128 + 128 * m) % 128 = (byteAt t (p + i)).toNat by omega]; exact UInt8.ofNat_toNat
  rw [e2]; rfl
theorem varL_short : ∀ f i n, n < 128 ^ (i + 1) → (varL f n).length ≤ i + 1
  | 0, i, n, h => by simp [varL]
  | f + 1, i, n, h => by
    unfold varL; split
    · rename_i h1
      obtain ⟨j, rfl⟩ := pow128 i n h h1
      have := varL_short f j (n / 128) (by rw [Nat.pow_succ] at h; omega)
      simp only [List.length_cons]; omega
    simp
theorem by_extract (t : ByteArray) (i k : Nat) : by' (t.extract i k) = ((by' t).drop i).take (k - i) := by
  unfold by'
  rw [ByteArray.data_extract, Array.toList_extract, List.extract_eq_take_drop]
theorem hi_canon {t : ByteArray} {p i n : Nat} (h : hiOk t p i n) (hi : i ≤ 9) (h1 : p + i < t.size) (h2 : ¬ 128 ≤ (byteAt t (p + i)).toNat) :
    (varText (n + (byteAt t (p + i)).toNat % 128 * 128 ^ i : Nat) = t.extract p (p + i + 1)) ↔ ¬ ((byteAt t (p + i)).toNat = 0 ∧ 0 < i) := by
  obtain ⟨hn, _, hv⟩ := h
  rw [← by_inj, by_extract, show p + i + 1 - p = i + 1 by omega, byteAt_take h1]
  unfold varText varT
  rw [by_tx, Int.toNat_natCast, Nat.mod_eq_of_lt (by omega : (byteAt t (p + i)).toNat < 128)]
  by_cases h3 : (byteAt t (p + i)).toNat = 0
  · rw [h3, Nat.zero_mul, Nat.add_zero]
    have e0 : byteAt t (p + i) = 0 := by apply UInt8.toNat_inj.1; rw [h3]; rfl
    cases i with
    | zero =>
      have : n = 0 := by simp at hn; exact hn
      subst this
      constructor
      · intro _; omega
      intro _; rw [varL_low _ _ (by omega), e0]; rfl
    | succ i =>
      constructor
      · intro e
        have h5 := varL_short 9 i n hn
        rw [e, List.length_append, List.length_take, List.length_drop, by_size] at h5
        simp at h5; omega
      intro e; exact absurd ⟨rfl, by omega⟩ e
  constructor
  · intro _ e; exact h3 e.1
  intro _
  have h5 := hv (9 - i) (byteAt t (p + i)).toNat (by omega)
  rw [show 9 - i + i = 9 by omega, Nat.mul_comm] at h5
  rw [h5, varL_low _ _ (by omega), UInt8.ofNat_toNat]
theorem rvGo_canon {t : ByteArray} {p : Nat} : ∀ k i n, hiOk t p i n → k + i ≤ 10 → (rvGo t p k i n (128 ^ i)).2.2 = true → varText ((rvGo t p k i n (128 ^ i)).1 : Nat) = t.extract p (rvGo t p k i n (128 ^ i)).2.1
  | 0, i, n, _, _, h => by simp [rvGo] at h
  | k + 1, i, n, hi, hk, h => by
    by_cases h1 : p + i < t.size
    · by_cases h2 : 128 ≤ (byteAt t (p + i)).toNat
      · rw [rvGo_on h1 h2, ← Nat.pow_succ] at h ⊢
        exact rvGo_canon k (i + 1) _ (hiOk_step hi h1 h2) (by omega) h
      by_cases h3 : ((byteAt t (p + i)).toNat = 0 ∧ 0 < i) ∨ 1000000000 < n + (byteAt t (p + i)).toNat % 128 * 128 ^ i
      · rw [rvGo_bad h1 h2 h3] at h; simp at h
      rw [rvGo_ok h1 h2 h3]
      exact (hi_canon hi (by omega) h1 h2).2 fun e => h3 (.inl e)
    rw [rvGo_end (by omega)] at h; simp at h
theorem readVar_canon {t : ByteArray} {p : Nat} (hp : p ≤ t.size) (h : (readVar t p).2.2 = true) : varText ((readVar t p).1 : Nat) = t.extract p (readVar t p).2.1 :=
  rvGo_canon 5 0 0 (hiOk_zero hp) (by omega) h
theorem readVar_end {t : ByteArray} {p : Nat} (h : t.size ≤ p) : readVar t p = (0, 0, false) := rvGo_end (by omega)
theorem ext_join (t : ByteArray) {a b c : Nat} (h1 : a ≤ b) (h2 : b ≤ c) : t.extract a c = t.extract a b ++ t.extract b c := by
  rw [← by_inj, by_app, by_extract, by_extract, by_extract, show c - a = (b - a) + (c - b) by omega, List.take_add, List.drop_drop, show a + (b - a) = b by omega]
theorem app_mid {a b c d : ByteArray} : a ++ b ++ c = a ++ d ++ c ↔ b = d := by
  constructor
  · intro h
    rw [← by_inj, by_app, by_app, by_app, by_app] at h
    exact by_inj.1 (List.append_cancel_left (List.append_cancel_right h))
  intro h; rw [h]
/-! frames -/
def frE (t : ByteArray) (p : Nat) : Nat := (readVar t p).2.1 + 4 + (readVar t p).1
def frT (t : ByteArray) (p : Nat) : ByteArray := t.extract ((readVar t p).2.1 + 4) (frE t p)
def frSum (t : ByteArray) (p : Nat) : Bool := decide (t.extract (readVar t p).2.1 ((readVar t p).2.1 + 4) = four (sumOf (frT t p)))
def frOk (t : ByteArray) (p : Nat) : Bool := (readVar t p).2.2 && (decide (1 ≤ (readVar t p).1) && (decide ((readVar t p).1 ≤ 9000) && (decide (frE t p ≤ t.size) && frSum t p)))
theorem frT_size {t : ByteArray} {p : Nat} (h : frE t p ≤ t.size) : (frT t p).size = (readVar t p).1 := by
  unfold frT; rw [ByteArray.size_extract]; unfold frE at h ⊢; omega
theorem frame_eq {t : ByteArray} {p : Nat} (h : (readVar t p).2.2 = true) (he : frE t p ≤ t.size) (hp : p ≤ t.size) : frame (frT t p) = t.extract p (frE t p) ↔ frSum t p = true := by
  have h1 := readVar_le h
  unfold frSum frame
  rw [frT_size he, readVar_canon hp h, ext_join t (b := (readVar t p).2.1) (by omega) (by unfold frE; omega : (readVar t p).2.1 ≤ frE t p), ext_join t (a := (readVar t p).2.1) (b := (readVar t p).2.1 + 4) (by omega) (by unfold frE; omega), decide_eq_true_iff]
  show _ ++ _ ++ frT t p = _ ++ (_ ++ frT t p) ↔ _
  rw [← ByteArray.append_assoc, app_mid]
  exact eq_comm
theorem frOk_le {t : ByteArray} {p : Nat} (h : frOk t p = true) : p + 6 ≤ frE t p ∧ frE t p ≤ t.size ∧ (frT t p).size + 6 ≤ frE t p - p + 1 ∧ (frT t p).size + p + 5 ≤ frE t p := by
  unfold frOk at h
  simp only [Bool.and_eq_true, decide_eq_true_iff] at h
  obtain ⟨h1, h2, h3, h4, h5⟩ := h
  have h6 := readVar_le h1
  have h7 := frT_size h4
  unfold frE at h4 h7 ⊢
  omega
/-- the frames read by and by -/
def unfK (t : ByteArray) : Nat → List ByteArray × Nat
  | 0 => ([], 0)
  | k + 1 => if frOk t (unfK t k).2 then ((unfK t k).1 ++ [frT t (unfK t k).2], frE t (unfK t k).2) else unfK t k
theorem unfK_stop {t : ByteArray} {k : Nat} (h : frOk t (unfK t k).2 = false) : ∀ m, unfK t (k + m) = unfK t k
  | 0 => rfl
  | m + 1 => by
    rw [← Nat.add_assoc]
    conv => lhs; unfold unfK
    rw [unfK_stop h m, h]; rfl
theorem unfK_more {t : ByteArray} {k : Nat} (h : frOk t (unfK t k).2 = true) : unfK t (k + 1) = ((unfK t k).1 ++ [frT t (unfK t k).2], frE t (unfK t k).2) := by
  conv => lhs; unfold unfK
  rw [if_pos h]
def unframe (t : ByteArray) : List ByteArray × Nat := if t.size ≤ 20000 then unfK t t.size else ([], 0)
theorem unframe_end {t : ByteArray} {k : Nat} (h0 : t.size ≤ 20000) (hk : k ≤ t.size) (h : frOk t (unfK t k).2 = false) : unframe t = unfK t k := by
  unfold unframe; rw [if_pos h0]
  have := unfK_stop h (t.size - k)
  rw [show k + (t.size - k) = t.size by omega] at this
  exact this
theorem unframe_big {t : ByteArray} (h : ¬ t.size ≤ 20000) : unframe t = ([], 0) := by unfold unframe; rw [if_neg h]
theorem unfK_sz (t : ByteArray) : ∀ k, szL gS (unfK t k).1 ≤ (unfK t k).2 ∧ (unfK t k).2 ≤ t.size
  | 0 => ⟨by simp [unfK, szL], by simp [unfK]⟩
  | k + 1 => by
    have := unfK_sz t k
    cases h : frOk t (unfK t k).2
    · rw [unfK_stop h 1]; exact this
    rw [unfK_more h]
    have h1 := frOk_le h
    refine ⟨?_, h1.2.1⟩
    rw [szL_append]
    have h2 : szL gS [frT t (unfK t k).2] = 1 + (frT t (unfK t k).2).size + 0 := rfl
    simp only [h2]; omega
theorem unframe_sz (t : ByteArray) : szL gS (unframe t).1 ≤ 20000 ∧ (unframe t).2 ≤ 20000 := by
  unfold unframe
  split
  · have := unfK_sz t t.size; omega
  simp [szL]
theorem byte_p (t : ByteArray) (k : Nat) : (t[k]?).getD 0 = byteAt t k := rfl
theorem byte_w (b : UInt8) : IntKind.i64.wrap ((b.toNat : Nat) : Int) = ((b.toNat : Nat) : Int) := by
  have := b.toNat_lt
  exact wrap_of (by omega) (by omega)
theorem rv_i (n u b : Nat) (h : n + b % 128 * u ≤ 4611686018427387904) : IntKind.i64.wrap ((n : Int) + IntKind.i64.wrap ((b : Int).tmod 128 * (u : Int))) = ((n + b % 128 * u : Nat) : Int) := by
  have e : (b : Int).tmod 128 * (u : Int) = ((b % 128 * u : Nat) : Int) := by rw [Int.tmod_eq_emod_of_nonneg (by omega)]; push_cast; rfl
  have e2 : IntKind.i64.wrap ((b % 128 * u : Nat) : Int) = ((b % 128 * u : Nat) : Int) := wrap_of (by omega) (by omega)
  rw [e, e2, wrap_of (by omega) (by omega)]; push_cast; rfl
theorem tup3 {a b c d : Int} (h1 : a = c) (h2 : b = d) : Value.tuple ⟨[.int .i64 a, .int .i64 b, .bool true]⟩ = .tuple #[.int .i64 c, .int .i64 d, .bool true] := by subst h1 h2; rfl
theorem rv_n (n u b : Nat) (h : n + b % 128 * u ≤ 4611686018427387904) : Value.int .i64 (IntKind.i64.wrap ((n : Int) + IntKind.i64.wrap ((b : Int).tmod 128 * (u : Int)))) = Value.int .i64 ((n + b % 128 * u : Nat) : Int) := by
  have e : (b : Int).tmod 128 * (u : Int) = ((b % 128 * u : Nat) : Int) := by rw [Int.tmod_eq_emod_of_nonneg (by omega)]; push_cast; rfl
  have e2 : IntKind.i64.wrap ((b % 128 * u : Nat) : Int) = ((b % 128 * u : Nat) : Int) := wrap_of (by omega) (by omega)
  rw [e, e2, wrap_of (by omega) (by omega)]; congr 1
theorem rv_u (u : Nat) (h : u ≤ 4611686018427387904 / 128) : Value.int .i64 (IntKind.i64.wrap ((u : Int) * 128)) = Value.int .i64 ((u * 128 : Nat) : Int) := by
  rw [wrap_of (by omega) (by omega)]; congr 1
theorem rv_bnd {i n u b : Nat} (hi : i < 5) (hn : n < 128 ^ i) (hu : u = 128 ^ i) : n + b % 128 * u ≤ 34359738367 ∧ u ≤ 268435456 := by
  have h1 : (128 : Nat) ^ i ≤ 128 ^ 4 := Nat.pow_le_pow_right (by omega) (by omega)
  have h2 : b % 128 * u ≤ 127 * 128 ^ 4 := Nat.mul_le_mul (by omega) (by omega)
  have h3 : (128 : Nat) ^ 4 = 268435456 := rfl
  omega
--@ct impl.ReadVar val implReadVar_ct _ _ ?_ ?_
theorem implReadVar_ct (t : ByteArray) (p : Nat) (ht : t.size ≤ 1152921504606846976) (hp : p ≤ t.size) :
    Ct Tryz.prog 380 [.string t, .int .i64 (p : Int)] [] (fun _ => True) (fun v A => v = .tuple #[.int .i64 ((readVar t p).1 : Nat), .int .i64 ((readVar t p).2.1 : Nat), .bool (readVar t p).2.2] ∧ A = []) := by
  refine Ct.intro0 G_ok Tryz.func380 rfl rfl rfl fun E H _ => ?_
  refine VCsplit.intro (fun q0 => ?_) (fun q0 => ?_)
  ·
    simp at q0
    exfalso; omega
  ·
    simp at q0
    refine VCsplit.intro (fun q1 => ?_) (fun q1 => ?_)
    ·
      simp at q1
      exfalso; omega
    ·
      simp at q1
      apply loop_mod (α := (Nat) × (Nat) × (Nat)) G_ok [19, 20, 21, 22, 23, 24, 25, 26, 27, 28, 31, 32, 33, 34, 35, 36, 10, 37, 38, 39, 40, 41, 42, 7, 43, 44, 8, 45, 46, 47, 48, 49, 50, 51, 52, 53, 54, 55, 56, 4, 5, 6, 57, 58, 59, 60, 61, 29, 30, 9] (fun z => [(9, .v (.int .i64 z.1)), (8, .v (.int .i64 z.2.2)), (7, .v (.int .i64 z.2.1))]) (fun z => []) (fun z => [H]) (fun z => 5 - z.1) (fun z => z.1 ≤ 5 ∧ hiOk t p z.1 z.2.1 ∧ z.2.2 = 128 ^ z.1 ∧ rvGo t p (5 - z.1) z.1 z.2.1 z.2.2 = readVar t p) ((0, 0, 1))
      · repeat' (first | exact trivial | refine ⟨⟨_, rfl, by first | rfl | exact inc_eq _ (by omega) | (refine sl_eq ?_; simp; done) | (simp only [byte_p, wi, wj, Int.toNat_natCast, byte_w]; exact rv_n _ _ _ (by have := rv_bnd (b := (byteAt t (p + i)).toNat) (i := i) (n := n) (u := u) (by omega) hh.1 hu; omega)) | exact rv_u _ (by have := rv_bnd (b := 0) (i := i) (n := n) (u := u) (by omega) hh.1 hu; omega), by first | exact trivial | simp [SV.ok]⟩, ?_⟩)
      · exact trivial
      · try dsimp only
        exact ⟨by omega, hiOk_zero hp, rfl, rfl⟩
      · exact .refl _
      rintro ⟨i, n, u⟩ hI
      obtain ⟨hi, hh, hu, hr⟩ : i ≤ 5 ∧ hiOk t p i n ∧ u = 128 ^ i ∧ rvGo t p (5 - i) i n u = readVar t p := hI
      try dsimp only
      refine VCsplit.intro (fun q2 => ?_) (fun q2 => ?_)
      ·
        simp at q2
        refine VCsplit.intro (fun q3 => ?_) (fun q3 => ?_)
        ·
          simp at q3
          simp (disch := omega) only [wrap_of] at q3
          have wi : (IntKind.i64.wrap ((p : Int) + (i : Int))).toNat = p + i := by (rw [wrap_of (by omega) (by omega)]; omega)
          have wj : ((p : Int) + (i : Int)).toNat = p + i := by omega
          have hbd := rv_bnd (b := (byteAt t (p + i)).toNat) (i := i) (n := n) (u := u) (by omega) hh.1 hu
          have wn : IntKind.i64.wrap ((n : Int) + IntKind.i64.wrap (((byteAt t (p + i)).toNat : Int).tmod 128 * (u : Int))) = ((n + (byteAt t (p + i)).toNat % 128 * u : Nat) : Int) := rv_i _ _ _ (by omega)
          refine VC.intro ?_ ?_
          · (simp (disch := omega) only [wrap_of]; omega)
          refine VC.intro ?_ ?_
          · trivial
          refine VCsplit.intro (fun q4 => ?_) (fun q4 => ?_)
          ·
            simp at q4
            simp (disch := omega) only [wrap_of] at q4
            simp only [byte_p, wi, wj, Int.toNat_natCast, byte_w, wn] at q4
            apply loop_stepA (i + 1, n + (byteAt t (p + i)).toNat % 128 * u, u * 128)
            · exact .refl _
            · repeat' (first | exact trivial | refine ⟨⟨_, rfl, by first | rfl | exact inc_eq _ (by omega) | (refine sl_eq ?_; simp; done) | (simp only [byte_p, wi, wj, Int.toNat_natCast, byte_w]; exact rv_n _ _ _ (by have := rv_bnd (b := (byteAt t (p + i)).toNat) (i := i) (n := n) (u := u) (by omega) hh.1 hu; omega)) | exact rv_u _ (by have := rv_bnd (b := 0) (i := i) (n := n) (u := u) (by omega) hh.1 hu; omega), by first | exact trivial | simp [SV.ok]⟩, ?_⟩)
            · exact trivial
            · try dsimp only
              exact ⟨by omega, by rw [hu]; exact hiOk_step hh (by omega) (by omega), by rw [hu, Nat.pow_succ], (rvGo_on (k := 5 - (i + 1)) (by omega) (by omega)).symm.trans (by rw [show 5 - (i + 1) + 1 = 5 - i by omega]; exact hr)⟩
            try dsimp only
            omega
          ·
            simp at q4
            simp (disch := omega) only [wrap_of] at q4
            simp only [byte_p, wi, wj, Int.toNat_natCast, byte_w, wn] at q4
            refine VCsplit.intro (fun q5 => ?_) (fun q5 => ?_)
            ·
              simp at q5
              simp (disch := omega) only [wrap_of] at q5
              simp only [byte_p, wi, wj, Int.toNat_natCast, byte_w, wn] at q5
              refine VCsplit.intro (fun q6 => ?_) (fun q6 => ?_)
              ·
                simp at q6
                exact ⟨[], ⟨by rw [show readVar t p = (0, 0, false) from by rw [← hr, show 5 - i = (5 - (i + 1)) + 1 by omega]; exact rvGo_bad (by omega) (by omega) (by omega)]; rfl, rfl⟩, (.le fun a => by (try simp only [setR, List.cons_append, List.nil_append]); simp only [List.flatten_append, List.flatten_cons, List.flatten_nil, List.count_append, List.count_nil, List.append_nil, List.nil_append]; omega)⟩
              ·
                simp at q6
                refine VCsplit.intro (fun q7 => ?_) (fun q7 => ?_)
                ·
                  simp at q7
                  simp (disch := omega) only [wrap_of] at q7
                  simp only [byte_p, wi, wj, Int.toNat_natCast, byte_w, wn] at q7
                  exact ⟨[], ⟨by rw [show readVar t p = (0, 0, false) from by rw [← hr, show 5 - i = (5 - (i + 1)) + 1 by omega]; exact rvGo_bad (by omega) (by omega) (by omega)]; rfl, rfl⟩, (.le fun a => by (try simp only [setR, List.cons_append, List.nil_append]); simp only [List.flatten_append, List.flatten_cons, List.flatten_nil, List.count_append, List.count_nil, List.append_nil, List.nil_append]; omega)⟩
                ·
                  simp at q7
                  simp (disch := omega) only [wrap_of] at q7
                  simp only [byte_p, wi, wj, Int.toNat_natCast, byte_w, wn] at q7
                  exact ⟨[], ⟨by rw [show readVar t p = (n + (byteAt t (p + i)).toNat % 128 * u, p + i + 1, true) from by rw [← hr, show 5 - i = (5 - (i + 1)) + 1 by omega]; exact rvGo_ok (by omega) (by omega) (by omega)]; exact tup3 (by simp only [byte_p, wi, wj, Int.toNat_natCast, byte_w, wn]) (by simp (disch := omega) only [wrap_of]; omega), rfl⟩, (.le fun a => by (try simp only [setR, List.cons_append, List.nil_append]); simp only [List.flatten_append, List.flatten_cons, List.flatten_nil, List.count_append, List.count_nil, List.append_nil, List.nil_append]; omega)⟩
            ·
              simp at q5
              simp (disch := omega) only [wrap_of] at q5
              simp only [byte_p, wi, wj, Int.toNat_natCast, byte_w, wn] at q5
              refine VCsplit.intro (fun q8 => ?_) (fun q8 => ?_)
              ·
                simp at q8
                simp (disch := omega) only [wrap_of] at q8
                simp only [byte_p, wi, wj, Int.toNat_natCast, byte_w, wn] at q8
                exact ⟨[], ⟨by rw [show readVar t p = (0, 0, false) from by rw [← hr, show 5 - i = (5 - (i + 1)) + 1 by omega]; exact rvGo_bad (by omega) (by omega) (by omega)]; rfl, rfl⟩, (.le fun a => by (try simp only [setR, List.cons_append, List.nil_append]); simp only [List.flatten_append, List.flatten_cons, List.flatten_nil, List.count_append, List.count_nil, List.append_nil, List.nil_append]; omega)⟩
              ·
                simp at q8
                simp (disch := omega) only [wrap_of] at q8
                simp only [byte_p, wi, wj, Int.toNat_natCast, byte_w, wn] at q8
                exact ⟨[], ⟨by rw [show readVar t p = (n + (byteAt t (p + i)).toNat % 128 * u, p + i + 1, true) from by rw [← hr, show 5 - i = (5 - (i + 1)) + 1 by omega]; exact rvGo_ok (by omega) (by omega) (by omega)]; exact tup3 (by simp only [byte_p, wi, wj, Int.toNat_natCast, byte_w, wn]) (by simp (disch := omega) only [wrap_of]; omega), rfl⟩, (.le fun a => by (try simp only [setR, List.cons_append, List.nil_append]); simp only [List.flatten_append, List.flatten_cons, List.flatten_nil, List.count_append, List.count_nil, List.append_nil, List.nil_append]; omega)⟩
        ·
          simp at q3
          simp (disch := omega) only [wrap_of] at q3
          exact ⟨[], ⟨by rw [show readVar t p = (0, 0, false) from by rw [← hr]; exact rvGo_end (by omega)]; rfl, rfl⟩, (.le fun a => by (try simp only [setR, List.cons_append, List.nil_append]); simp only [List.flatten_append, List.flatten_cons, List.flatten_nil, List.count_append, List.count_nil, List.append_nil, List.nil_append]; omega)⟩
      ·
        simp at q2
        exact ⟨[], ⟨by rw [show readVar t p = (0, 0, false) from by rw [← hr, show 5 - i = 0 by omega]; rfl]; rfl, rfl⟩, (.le fun a => by (try simp only [setR, List.cons_append, List.nil_append]); simp only [List.flatten_append, List.flatten_cons, List.flatten_nil, List.count_append, List.count_nil, List.append_nil, List.nil_append]; omega)⟩
--@ct spec.ReadVar val specReadVar_ct _ _ ?_ ?_
theorem specReadVar_ct (t : ByteArray) (p : Nat) (ht : t.size ≤ 1152921504606846976) (hp : p ≤ t.size) :
    Ct Tryz.prog 326 [.string t, .int .i64 (p : Int)] [] (fun _ => True) (fun v A => v = .tuple #[.int .i64 ((readVar t p).1 : Nat), .int .i64 ((readVar t p).2.1 : Nat), .bool (readVar t p).2.2] ∧ A = []) := by
  refine Ct.intro0 G_ok Tryz.func326 rfl rfl rfl fun E H _ => ?_
  refine call_val (l01In_ct _ _ _) trivial ?_
  rintro _ rfl
  refine VCsplit.intro (fun q1 => ?_) (fun q1 => ?_)
  ·
    simp at q1
    (exfalso; unfold inR at q1; simp at q1; omega)
  ·
    simp at q1
    apply loop_mod (α := (Nat) × (Nat) × (Nat)) G_ok [16, 17, 18, 19, 20, 21, 22, 23, 24, 25, 28, 29, 30, 31, 32, 33, 34, 35, 36, 7, 37, 38, 8, 39, 40, 41, 42, 43, 44, 45, 46, 47, 48, 49, 50, 51, 52, 53, 54, 4, 5, 6, 55, 56, 57, 26, 27, 9] (fun z => [(9, .v (.int .i64 ((p + z.1 : Nat) : Int))), (8, .v (.int .i64 z.2.2)), (7, .v (.int .i64 z.2.1))]) (fun z => []) (fun z => [H]) (fun z => 5 - z.1) (fun z => z.1 ≤ 5 ∧ hiOk t p z.1 z.2.1 ∧ z.2.2 = 128 ^ z.1 ∧ rvGo t p (5 - z.1) z.1 z.2.1 z.2.2 = readVar t p) ((0, 0, 1))
    · repeat' (first | exact trivial | refine ⟨⟨_, rfl, by first | rfl | exact inc_eq _ (by omega) | (refine sl_eq ?_; simp; done) | (simp only [byte_p, wi, wj, Int.toNat_natCast, byte_w]; exact rv_n _ _ _ (by have := rv_bnd (b := (byteAt t (p + i)).toNat) (i := i) (n := n) (u := u) (by omega) hh.1 hu; omega)) | exact rv_u _ (by have := rv_bnd (b := 0) (i := i) (n := n) (u := u) (by omega) hh.1 hu; omega), by first | exact trivial | simp [SV.ok]⟩, ?_⟩)
    · exact trivial
    · try dsimp only
      exact ⟨by omega, hiOk_zero hp, rfl, rfl⟩
    · exact .refl _
    rintro ⟨i, n, u⟩ hI
    obtain ⟨hi, hh, hu, hr⟩ : i ≤ 5 ∧ hiOk t p i n ∧ u = 128 ^ i ∧ rvGo t p (5 - i) i n u = readVar t p := hI
    try dsimp only
    refine VCsplit.intro (fun q2 => ?_) (fun q2 => ?_)
    ·
      simp at q2
      refine VCsplit.intro (fun q3 => ?_) (fun q3 => ?_)
      ·
        simp at q3
        simp (disch := omega) only [wrap_of] at q3
        have wi : (IntKind.i64.wrap ((p : Int) + (i : Int))).toNat = p + i := by (rw [wrap_of (by omega) (by omega)]; omega)
        have wj : ((p : Int) + (i : Int)).toNat = p + i := by omega
        have hbd := rv_bnd (b := (byteAt t (p + i)).toNat) (i := i) (n := n) (u := u) (by omega) hh.1 hu
        have wn : IntKind.i64.wrap ((n : Int) + IntKind.i64.wrap (((byteAt t (p + i)).toNat : Int).tmod 128 * (u : Int))) = ((n + (byteAt t (p + i)).toNat % 128 * u : Nat) : Int) := rv_i _ _ _ (by omega)
        refine VC.intro ?_ ?_
        · omega
        refine VC.intro ?_ ?_
        · trivial
        refine VC.intro ?_ ?_
        · omega
        refine VCsplit.intro (fun q4 => ?_) (fun q4 => ?_)
        ·
          simp at q4
          simp only [byte_p, wi, wj, Int.toNat_natCast, byte_w, wn] at q4
          have hc := hi_canon hh (by omega) (by omega) (by omega : ¬ 128 ≤ (byteAt t (p + i)).toNat)
          rw [← hu, show p + i + 1 = ((p : Int) + (i : Int) + 1).toNat by omega] at hc
          refine draw G_ok mixed none (.q 0 (.q 1 (.q 2 (.q 3 (.q 5 (.q 6 (.q 7 (.q 8 (.q 9 (.f 4 (.q 10 (.q 11 (.nil))))))))))))) (by decide +kernel) ?_
          refine VCsplit.intro (fun q5 => ?_) (fun q5 => ?_)
          ·
            simp at q5
            simp only [byte_p, wi, wj, Int.toNat_natCast, byte_w, wn] at q5
            exact ⟨[], ⟨by rw [show readVar t p = (0, 0, false) from by rw [← hr, show 5 - i = (5 - (i + 1)) + 1 by omega]; exact rvGo_bad (by omega) (by omega) (by omega)]; rfl, rfl⟩, (.le fun a => by (try simp only [setR, List.cons_append, List.nil_append]); simp only [List.flatten_append, List.flatten_cons, List.flatten_nil, List.count_append, List.count_nil, List.append_nil, List.nil_append]; omega)⟩
          ·
            simp at q5
            simp only [byte_p, wi, wj, Int.toNat_natCast, byte_w, wn] at q5
            refine VC.intro ?_ ?_
            · (simp (disch := omega) only [wrap_of]; omega)
            refine VC.intro ?_ ?_
            · (simp (disch := omega) only [wrap_of]; omega)
            refine call_val (l01Var_ct _ ?_ ?_) trivial ?_
            · (simp only [byte_p, wi, wj, Int.toNat_natCast, byte_w, wn]; omega)
            · (simp only [byte_p, wi, wj, Int.toNat_natCast, byte_w, wn]; omega)
            rintro _ rfl
            refine VC.intro ?_ ?_
            · exact fun _ h => h
            refine VCsplit.intro (fun q7 => ?_) (fun q7 => ?_)
            ·
              simp at q7
              simp only [str_inj, u8_inj, u8_wrap] at q7
              simp (disch := omega) only [wrap_of] at q7
              simp only [byte_p, wi, wj, Int.toNat_natCast, byte_w, wn] at q7
              exact ⟨[], ⟨by rw [show readVar t p = (0, 0, false) from by rw [← hr, show 5 - i = (5 - (i + 1)) + 1 by omega]; exact rvGo_bad (by omega) (by omega) (.inl (Classical.not_not.1 fun e => ‹¬ varText _ = _› (hc.2 e)))]; rfl, rfl⟩, (.le fun a => by (try simp only [setR, List.cons_append, List.nil_append]); simp only [List.flatten_append, List.flatten_cons, List.flatten_nil, List.count_append, List.count_nil, List.append_nil, List.nil_append]; omega)⟩
            ·
              simp at q7
              simp only [str_inj, u8_inj, u8_wrap] at q7
              simp (disch := omega) only [wrap_of] at q7
              simp only [byte_p, wi, wj, Int.toNat_natCast, byte_w, wn] at q7
              exact ⟨[], ⟨by rw [show readVar t p = (n + (byteAt t (p + i)).toNat % 128 * u, p + i + 1, true) from by rw [← hr, show 5 - i = (5 - (i + 1)) + 1 by omega]; exact rvGo_ok (by omega) (by omega) (fun e => e.elim (hc.1 ‹varText _ = _›) (by omega))]; exact tup3 (by simp only [byte_p, wi, wj, Int.toNat_natCast, byte_w, wn]) (by simp (disch := omega) only [wrap_of]; omega), rfl⟩, (.le fun a => by (try simp only [setR, List.cons_append, List.nil_append]); simp only [List.flatten_append, List.flatten_cons, List.flatten_nil, List.count_append, List.count_nil, List.append_nil, List.nil_append]; omega)⟩
        ·
          simp at q4
          simp only [byte_p, wi, wj, Int.toNat_natCast, byte_w, wn] at q4
          apply loop_stepA (i + 1, n + (byteAt t (p + i)).toNat % 128 * u, u * 128)
          · exact .refl _
          · repeat' (first | exact trivial | refine ⟨⟨_, rfl, by first | rfl | exact inc_eq _ (by omega) | (refine sl_eq ?_; simp; done) | (simp only [byte_p, wi, wj, Int.toNat_natCast, byte_w]; exact rv_n _ _ _ (by have := rv_bnd (b := (byteAt t (p + i)).toNat) (i := i) (n := n) (u := u) (by omega) hh.1 hu; omega)) | exact rv_u _ (by have := rv_bnd (b := 0) (i := i) (n := n) (u := u) (by omega) hh.1 hu; omega), by first | exact trivial | simp [SV.ok]⟩, ?_⟩)
          · exact trivial
          · try dsimp only
            exact ⟨by omega, by rw [hu]; exact hiOk_step hh (by omega) (by omega), by rw [hu, Nat.pow_succ], (rvGo_on (k := 5 - (i + 1)) (by omega) (by omega)).symm.trans (by rw [show 5 - (i + 1) + 1 = 5 - i by omega]; exact hr)⟩
          try dsimp only
          omega
      ·
        simp at q3
        simp (disch := omega) only [wrap_of] at q3
        exact ⟨[], ⟨by rw [show readVar t p = (0, 0, false) from by rw [← hr, show 5 - i = 0 by omega]; rfl]; rfl, rfl⟩, (.le fun a => by (try simp only [setR, List.cons_append, List.nil_append]); simp only [List.flatten_append, List.flatten_cons, List.flatten_nil, List.count_append, List.count_nil, List.append_nil, List.nil_append]; omega)⟩
    ·
      simp at q2
      exact ⟨[], ⟨by rw [show readVar t p = (0, 0, false) from by rw [← hr]; exact rvGo_end (by omega)]; rfl, rfl⟩, (.le fun a => by (try simp only [setR, List.cons_append, List.nil_append]); simp only [List.flatten_append, List.flatten_cons, List.flatten_nil, List.count_append, List.count_nil, List.append_nil, List.nil_append]; omega)⟩
end Go.Proofs.YtjgehblllhkdbaaGreat

namespace Go.Proofs.YtjgehblllhkdbaaGreat
open Go.SX Go.Proofs
set_option linter.unusedSimpArgs false
set_option linter.unusedVariables false
set_option maxHeartbeats 4000000
attribute [local irreducible] IntKind.wrap
theorem frOk_no {t : ByteArray} {p : Nat} (h : (readVar t p).2.2 = false) : frOk t p = false := by unfold frOk; rw [h]; rfl
theorem frOk_end {t : ByteArray} {p : Nat} (h : t.size ≤ p) : frOk t p = false := frOk_no (by rw [readVar_end h])
theorem frOk_big {t : ByteArray} {p : Nat} (h : t.size < frE t p) : frOk t p = false := by unfold frOk; rw [decide_eq_false (by omega : ¬ frE t p ≤ t.size)]; simp
theorem frOk_len {t : ByteArray} {p : Nat} (h : ¬ (1 ≤ (readVar t p).1 ∧ (readVar t p).1 ≤ 9000)) : frOk t p = false := by
  unfold frOk
  by_cases h1 : 1 ≤ (readVar t p).1
  · rw [decide_eq_false (by omega : ¬ (readVar t p).1 ≤ 9000)]; simp
  rw [decide_eq_false h1]; simp
theorem frOk_sum {t : ByteArray} {p : Nat} (h : ¬ t.extract (readVar t p).2.1 ((readVar t p).2.1 + 4) = four (sumOf (frT t p))) : frOk t p = false := by unfold frOk frSum; rw [decide_eq_false h]; simp
theorem frOk_yes {t : ByteArray} {p : Nat} (h1 : (readVar t p).2.2 = true) (h2 : 1 ≤ (readVar t p).1) (h3 : (readVar t p).1 ≤ 9000) (h4 : frE t p ≤ t.size) (h5 : t.extract (readVar t p).2.1 ((readVar t p).2.1 + 4) = four (sumOf (frT t p))) : frOk t p = true := by
  unfold frOk frSum; rw [h1, decide_eq_true h2, decide_eq_true h3, decide_eq_true h4, decide_eq_true h5]; rfl
theorem toN4 (a : Nat) : ((a : Int) + 4).toNat = a + 4 := by omega
theorem toN42 (a b : Nat) : ((a : Int) + 4 + (b : Int)).toNat = a + 4 + b := by omega
theorem tupS {a c : ByteArray} {b : Int} {d : Nat} {z : ByteArray} (h1 : a = c) (h2 : b = (d : Int)) : Value.tuple ⟨[.string a, .int .i64 b, .bool true]⟩ = .tuple #[.string (if true = true then c else z), .int .i64 (if true = true then d else 0 : Nat), .bool true] := by subst h1 h2; rfl
theorem frT_def (t : ByteArray) (p : Nat) : t.extract ((readVar t p).2.1 + 4) ((readVar t p).2.1 + 4 + (readVar t p).1) = frT t p := rfl
theorem frOk_fr {t : ByteArray} {p : Nat} (h1 : frameOk (frT t p) = false) (h2 : (frT t p).size = (readVar t p).1) : frOk t p = false := by
  unfold frameOk inR at h1
  refine frOk_len fun e => ?_
  rw [decide_eq_true (by omega), decide_eq_true (by omega)] at h1
  simp at h1
theorem frOk_fr2 {t : ByteArray} {p : Nat} (h1 : (readVar t p).2.2 = true) (h2 : frE t p ≤ t.size) (h3 : p ≤ t.size) (h4 : ¬ frame (frT t p) = t.extract p (frE t p)) : frOk t p = false := by
  rw [frame_eq h1 h2 h3] at h4
  unfold frOk; simp [h4]
theorem frOk_fr3 {t : ByteArray} {p : Nat} (h1 : (readVar t p).2.2 = true) (h2 : frE t p ≤ t.size) (h3 : p ≤ t.size) (h5 : frameOk (frT t p) = true) (h4 : frame (frT t p) = t.extract p (frE t p)) : frOk t p = true := by
  rw [frame_eq h1 h2 h3] at h4
  unfold frameOk at h5
  have h6 := inR_iff.1 h5
  have h7 := frT_size h2
  unfold frOk; rw [h1, h4, decide_eq_true (by omega), decide_eq_true (by omega), decide_eq_true h2]; rfl
attribute [local irreducible] readVar frOk sumOf frame four frameOk
--@ct impl.frameAt val frameAt_ct _ _ ?_ ?_
theorem frameAt_ct (t : ByteArray) (p : Nat) (ht : t.size ≤ 1152921504606846976) (hp : p ≤ t.size) :
    Ct Tryz.prog 379 [.string t, .int .i64 (p : Int)] [] (fun _ => True) (fun v A => v = .tuple #[.string (if frOk t p then frT t p else .empty), .int .i64 (if frOk t p then (frE t p : Nat) else 0 : Nat), .bool (frOk t p)] ∧ A = []) := by
  refine Ct.intro0 G_ok Tryz.func379 rfl rfl rfl fun E H _ => ?_
  refine call_val (implReadVar_ct _ _ ?_ ?_) trivial ?_
  · trivial
  · trivial
  rintro _ rfl
  refine VCsplit.intro (fun q1 => ?_) (fun q1 => ?_)
  ·
    simp at q1
    exact ⟨[], ⟨by rw [frOk_no (by assumption)]; rfl, rfl⟩, (.le fun a => by (try simp only [setR, List.cons_append, List.nil_append]); simp only [List.flatten_append, List.flatten_cons, List.flatten_nil, List.count_append, List.count_nil, List.append_nil, List.nil_append]; omega)⟩
  ·
    simp at q1
    have iq1 := readVar_le q1
    refine VCsplit.intro (fun q2 => ?_) (fun q2 => ?_)
    ·
      simp at q2
      exact ⟨[], ⟨by rw [frOk_len (by omega)]; rfl, rfl⟩, (.le fun a => by (try simp only [setR, List.cons_append, List.nil_append]); simp only [List.flatten_append, List.flatten_cons, List.flatten_nil, List.count_append, List.count_nil, List.append_nil, List.nil_append]; omega)⟩
    ·
      simp at q2
      refine VCsplit.intro (fun q3 => ?_) (fun q3 => ?_)
      ·
        simp at q3
        exact ⟨[], ⟨by rw [frOk_len (by omega)]; rfl, rfl⟩, (.le fun a => by (try simp only [setR, List.cons_append, List.nil_append]); simp only [List.flatten_append, List.flatten_cons, List.flatten_nil, List.count_append, List.count_nil, List.append_nil, List.nil_append]; omega)⟩
      ·
        simp at q3
        refine VCsplit.intro (fun q4 => ?_) (fun q4 => ?_)
        ·
          simp at q4
          simp (disch := omega) only [wrap_of] at q4
          exact ⟨[], ⟨by rw [frOk_big (by unfold frE; omega)]; rfl, rfl⟩, (.le fun a => by (try simp only [setR, List.cons_append, List.nil_append]); simp only [List.flatten_append, List.flatten_cons, List.flatten_nil, List.count_append, List.count_nil, List.append_nil, List.nil_append]; omega)⟩
        ·
          simp at q4
          simp (disch := omega) only [wrap_of] at q4
          refine VC.intro ?_ ?_
          · (simp (disch := omega) only [wrap_of]; omega)
          refine VC.intro ?_ ?_
          · (simp (disch := omega) only [wrap_of]; omega)
          refine draw G_ok mixed none (.q 0 (.q 1 (.q 2 (.q 3 (.q 4 (.q 5 (.f 6 (.q 7 (.nil))))))))) (by decide +kernel) ?_
          refine VC.intro ?_ ?_
          · (simp (disch := omega) only [wrap_of]; omega)
          refine VC.intro ?_ ?_
          · (simp (disch := omega) only [wrap_of]; omega)
          refine call_val (sumText_ct _ ?_) trivial ?_
          · simp; omega
          rintro _ rfl
          refine VC.intro ?_ ?_
          · exact fun _ h => h
          refine VCsplit.intro (fun q6 => ?_) (fun q6 => ?_)
          ·
            simp at q6
            simp only [str_inj, u8_inj, u8_wrap] at q6
            simp (disch := omega) only [wrap_of] at q6
            simp only [toN4, toN42, frT_def] at q6
            exact ⟨[], ⟨by rw [frOk_sum (by assumption)]; rfl, rfl⟩, (.le fun a => by (try simp only [setR, List.cons_append, List.nil_append]); simp only [List.flatten_append, List.flatten_cons, List.flatten_nil, List.count_append, List.count_nil, List.append_nil, List.nil_append]; omega)⟩
          ·
            simp at q6
            simp only [str_inj, u8_inj, u8_wrap] at q6
            simp (disch := omega) only [wrap_of] at q6
            simp only [toN4, toN42, frT_def] at q6
            exact ⟨[], ⟨by rw [frOk_yes (by assumption) (by omega) (by omega) (by unfold frE; omega) (by assumption)]; exact tupS (by simp (disch := omega) only [wrap_of, toN4, toN42, frT_def]) (by unfold frE; simp (disch := omega) only [wrap_of]; omega), rfl⟩, (.le fun a => by (try simp only [setR, List.cons_append, List.nil_append]); simp only [List.flatten_append, List.flatten_cons, List.flatten_nil, List.count_append, List.count_nil, List.append_nil, List.nil_append]; omega)⟩
--@ct impl.Unframe new implUnframe_ct _ ?_ | trivial | obtain ⟨b#, c#, rfl, o#⟩ := o#
theorem implUnframe_ct (t : ByteArray) (ht : t.size ≤ 1152921504606846976) :
    Ct Tryz.prog 313 [.string t] [] (fun _ => True) (fun v A => ∃ b c, v = .tuple #[.slice b (unframe t).1.length c, .int .i64 ((unframe t).2 : Nat)] ∧ (gSl 9 gS).ow [.slice b (unframe t).1.length c] (unframe t).1 A) := by
  refine Ct.intro0 G_ok Tryz.func313 rfl rfl rfl fun E H _ => ?_
  have hz0 := unfK_sz t
  refine VCsplit.intro (fun q0 => ?_) (fun q0 => ?_)
  ·
    simp at q0
    (rw [unframe_big (by omega)]; exact ⟨_, ⟨_, _, rfl, sl_nil _ _ _⟩, (.le fun a => by (try simp only [setR, List.cons_append, List.nil_append]); simp only [List.flatten_append, List.flatten_cons, List.flatten_nil, List.count_append, List.count_nil, List.append_nil, List.nil_append]; omega)⟩)
  ·
    simp at q0
    apply loop_mod (α := (Nat) × (Hp) × (Option Addr) × (Nat)) G_ok [13, 14, 15, 12, 16, 17, 18, 6, 7, 8, 19, 20, 21, 22, 2, 3, 23, 24, 25, 26, 4, 27, 5] (fun z => [(4, .v (.slice z.2.2.1 (unfK t z.1).1.length z.2.2.2)), (5, .v (.int .i64 ((unfK t z.1).2 : Nat)))]) (fun z => []) (fun z => [z.2.1, H]) (fun z => t.size - z.1) (fun z => z.1 ≤ (unfK t z.1).2 ∧ (gSl 9 gS).ow [.slice z.2.2.1 (unfK t z.1).1.length z.2.2.2] (unfK t z.1).1 z.2.1) ((0, [], none, 0))
    · repeat' (first | exact trivial | refine ⟨⟨_, rfl, by first | rfl | exact inc_eq _ (by omega) | (refine sl_eq ?_; simp; done) | (rw [unfK_more (by assumption)]), by first | exact trivial | simp [SV.ok]⟩, ?_⟩)
    · exact trivial
    · try dsimp only
      exact ⟨Nat.zero_le _, sl_nil _ _ _⟩
    · exact .refl _
    rintro ⟨k, A, b, c⟩ hI
    obtain ⟨hk, oA⟩ : k ≤ (unfK t k).2 ∧ (gSl 9 gS).ow [.slice b (unfK t k).1.length c] (unfK t k).1 A := hI
    try dsimp only
    have hz := hz0 k
    have hls := len_szL gS (unfK t k).1
    refine call_val (frameAt_ct _ _ ?_ ?_) trivial ?_
    · trivial
    · omega
    rintro _ rfl
    refine VCsplit.intro (fun q2 => ?_) (fun q2 => ?_)
    ·
      simp at q2
      (rw [unframe_end (k := k) (by omega) (by omega) (by assumption)]; exact ⟨_, ⟨_, _, rfl, oA⟩, (.le fun a => by (try simp only [setR, List.cons_append, List.nil_append]); simp only [List.flatten_append, List.flatten_cons, List.flatten_nil, List.count_append, List.count_nil, List.append_nil, List.nil_append]; omega)⟩)
    ·
      simp at q2
      simp only [show frOk t (unfK t k).2 = true from by assumption, if_true]
      have hfl := frOk_le ‹frOk t (unfK t k).2 = true›
      refine VCnew.intro fun x3 => ?_
      refine gappend1 (g := gS) (T := (9 : TypeId)) G_ok A [] [H] ?_ oA (gS_ow ?_) (List.mem_of_getElem? (i := 0) rfl) rfl rfl rfl rfl rfl rfl rfl rfl ?_ fun b4 c4 A4 o4 => ?_
      · exact .tl
      · omega
      · omega
      apply loop_stepA (k + 1, _, _, _)
      · exact .refl _
      · repeat' (first | exact trivial | refine ⟨⟨_, rfl, by first | rfl | exact inc_eq _ (by omega) | (refine sl_eq ?_; simp; done) | (rw [unfK_more (by assumption)]), by first | exact trivial | simp [SV.ok]⟩, ?_⟩)
      · exact trivial
      · try dsimp only
        exact ⟨by (rw [unfK_more (by assumption)]; have := frOk_le ‹frOk t (unfK t k).2 = true›; simp only; omega), by (rw [unfK_more (by assumption)]; assumption)⟩
      try dsimp only
      omega
--@ct spec.Unframe new specUnframe_ct _ ?_ | trivial | obtain ⟨b#, c#, rfl, o#⟩ := o#
theorem specUnframe_ct (t : ByteArray) (ht : t.size ≤ 1152921504606846976) :
    Ct Tryz.prog 249 [.string t] [] (fun _ => True) (fun v A => ∃ b c, v = .tuple #[.slice b (unframe t).1.length c, .int .i64 ((unframe t).2 : Nat)] ∧ (gSl 9 gS).ow [.slice b (unframe t).1.length c] (unframe t).1 A) := by
  refine Ct.intro0 G_ok Tryz.func249 rfl rfl rfl fun E H _ => ?_
  have hz0 := unfK_sz t
  refine VCnew.intro fun x0 => ?_
  refine VCsplit.intro (fun q1 => ?_) (fun q1 => ?_)
  ·
    simp at q1
    (rw [unframe_big (by omega)]; exact ⟨_, ⟨_, _, rfl, sl_nil _ _ _⟩, (.le fun a => by (try simp only [setR, List.cons_append, List.nil_append]); simp only [List.flatten_append, List.flatten_cons, List.flatten_nil, List.count_append, List.count_nil, List.append_nil, List.nil_append]; omega)⟩)
  ·
    simp at q1
    apply loop_mod (α := (Nat) × (Hp) × (Option Addr) × (Nat)) G_ok [17, 18, 19, 20, 22, 23, 24, 21, 25, 26, 27, 6, 7, 8, 28, 29, 30, 31, 32, 33, 34, 35, 36, 37, 38, 39, 40, 2, 3, 41, 42, 43, 44, 45, 46, 47, 48, 9, 50, 51, 49, 52, 53, 10, 11, 54, 55, 56, 57, 58, 59, 60, 61, 62, 63, 64, 65, 66, 67, 68, 69, 70, 71, 72, 4, 73, 74, 75, 76, 5] (fun z => [(4, .v (.slice z.2.2.1 (unfK t z.1).1.length z.2.2.2)), (5, .v (.int .i64 ((unfK t z.1).2 : Nat)))]) (fun z => []) (fun z => [z.2.1, H]) (fun z => t.size - z.1) (fun z => z.1 ≤ (unfK t z.1).2 ∧ (gSl 9 gS).ow [.slice z.2.2.1 (unfK t z.1).1.length z.2.2.2] (unfK t z.1).1 z.2.1) ((0, [], some ⟨x0, 0, none⟩, 0))
    · repeat' (first | exact trivial | refine ⟨⟨_, rfl, by first | rfl | exact inc_eq _ (by omega) | (refine sl_eq ?_; simp; done) | (rw [unfK_more (by assumption)]; unfold frE; simp (disch := omega) only [wrap_of]; rfl) | (rw [unfK_more (by assumption)]), by first | exact trivial | simp [SV.ok]⟩, ?_⟩)
    · exact trivial
    · try dsimp only
      exact ⟨Nat.zero_le _, sl_nil _ _ _⟩
    · exact .tl
    rintro ⟨k, A, b, c⟩ hI
    obtain ⟨hk, oA⟩ : k ≤ (unfK t k).2 ∧ (gSl 9 gS).ow [.slice b (unfK t k).1.length c] (unfK t k).1 A := hI
    try dsimp only
    have hz := hz0 k
    have hls := len_szL gS (unfK t k).1
    refine VCsplit.intro (fun q2 => ?_) (fun q2 => ?_)
    ·
      simp at q2
      refine call_val (specReadVar_ct _ _ ?_ ?_) trivial ?_
      · trivial
      · omega
      rintro _ rfl
      refine VCsplit.intro (fun q4 => ?_) (fun q4 => ?_)
      ·
        simp at q4
        (rw [unframe_end (k := k) (by omega) (by omega) (by first | assumption | exact frOk_end (by omega) | exact frOk_no (by assumption) | exact frOk_big (by unfold frE; omega) | exact frOk_fr (by assumption) (by assumption) | exact frOk_fr2 (by assumption) (by unfold frE; omega) (by omega) (by unfold frE; assumption))]; exact ⟨_, ⟨_, _, rfl, oA⟩, (.le fun a => by (try simp only [setR, List.cons_append, List.nil_append]); simp only [List.flatten_append, List.flatten_cons, List.flatten_nil, List.count_append, List.count_nil, List.append_nil, List.nil_append]; omega)⟩)
      ·
        simp at q4
        have iq4 := readVar_le q4
        refine VCsplit.intro (fun q5 => ?_) (fun q5 => ?_)
        ·
          simp at q5
          simp (disch := omega) only [wrap_of] at q5
          (rw [unframe_end (k := k) (by omega) (by omega) (by first | assumption | exact frOk_end (by omega) | exact frOk_no (by assumption) | exact frOk_big (by unfold frE; omega) | exact frOk_fr (by assumption) (by assumption) | exact frOk_fr2 (by assumption) (by unfold frE; omega) (by omega) (by unfold frE; assumption))]; exact ⟨_, ⟨_, _, rfl, oA⟩, (.le fun a => by (try simp only [setR, List.cons_append, List.nil_append]); simp only [List.flatten_append, List.flatten_cons, List.flatten_nil, List.count_append, List.count_nil, List.append_nil, List.nil_append]; omega)⟩)
        ·
          simp at q5
          simp (disch := omega) only [wrap_of] at q5
          have wa : (IntKind.i64.wrap (((readVar t (unfK t k).2).2.1 : Int) + 4)).toNat = (readVar t (unfK t k).2).2.1 + 4 := by (rw [wrap_of (by omega) (by omega)]; omega)
          have wb : (IntKind.i64.wrap (IntKind.i64.wrap (((readVar t (unfK t k).2).2.1 : Int) + 4) + ((readVar t (unfK t k).2).1 : Int))).toNat = (readVar t (unfK t k).2).2.1 + 4 + (readVar t (unfK t k).2).1 := by (simp (disch := omega) only [wrap_of]; omega)
          have hts := frT_size (t := t) (p := (unfK t k).2) (by unfold frE; omega)
          refine VC.intro ?_ ?_
          · (simp (disch := omega) only [wrap_of]; omega)
          refine VC.intro ?_ ?_
          · (simp (disch := omega) only [wrap_of]; omega)
          refine call_val (specFrame_ct _ ?_) trivial ?_
          · simp; omega
          rintro _ rfl
          refine VCsplit.intro (fun q7 => ?_) (fun q7 => ?_)
          ·
            simp at q7
            simp (disch := omega) only [wrap_of] at q7
            simp only [toN4, toN42, wa, wb, frT_def] at q7
            (rw [unframe_end (k := k) (by omega) (by omega) (by first | assumption | exact frOk_end (by omega) | exact frOk_no (by assumption) | exact frOk_big (by unfold frE; omega) | exact frOk_fr (by assumption) (by assumption) | exact frOk_fr2 (by assumption) (by unfold frE; omega) (by omega) (by unfold frE; assumption))]; exact ⟨_, ⟨_, _, rfl, oA⟩, (.le fun a => by (try simp only [setR, List.cons_append, List.nil_append]); simp only [List.flatten_append, List.flatten_cons, List.flatten_nil, List.count_append, List.count_nil, List.append_nil, List.nil_append]; omega)⟩)
          ·
            simp at q7
            simp (disch := omega) only [wrap_of] at q7
            simp only [toN4, toN42, wa, wb, frT_def] at q7
            have hfk : frameOk (frT t (unfK t k).2) = true := by assumption
            refine VC.intro ?_ ?_
            · (simp (disch := omega) only [wrap_of]; omega)
            refine VC.intro ?_ ?_
            · (simp (disch := omega) only [wrap_of]; omega)
            refine VCsplit.intro (fun q8 => ?_) (fun q8 => ?_)
            ·
              simp at q8
              simp only [str_inj, u8_inj, u8_wrap] at q8
              simp (disch := omega) only [wrap_of] at q8
              simp only [toN4, toN42, wa, wb, frT_def] at q8
              simp only [hfk, if_true] at q8
              (rw [unframe_end (k := k) (by omega) (by omega) (by first | assumption | exact frOk_end (by omega) | exact frOk_no (by assumption) | exact frOk_big (by unfold frE; omega) | exact frOk_fr (by assumption) (by assumption) | exact frOk_fr2 (by assumption) (by unfold frE; omega) (by omega) (by unfold frE; assumption))]; exact ⟨_, ⟨_, _, rfl, oA⟩, (.le fun a => by (try simp only [setR, List.cons_append, List.nil_append]); simp only [List.flatten_append, List.flatten_cons, List.flatten_nil, List.count_append, List.count_nil, List.append_nil, List.nil_append]; omega)⟩)
            ·
              simp at q8
              simp only [str_inj, u8_inj, u8_wrap] at q8
              simp (disch := omega) only [wrap_of] at q8
              simp only [toN4, toN42, wa, wb, frT_def] at q8
              simp only [hfk, if_true] at q8
              have hfo : frOk t (unfK t k).2 = true := frOk_fr3 (by assumption) (by unfold frE; omega) (by omega) hfk (by unfold frE; assumption)
              have hfl := frOk_le hfo
              simp only [wa, wb, frT_def]
              refine VCnew.intro fun x9 => ?_
              refine gappend1 (g := gS) (T := (9 : TypeId)) G_ok A [] [H] ?_ oA (gS_ow ?_) (List.mem_of_getElem? (i := 0) rfl) rfl rfl rfl rfl rfl rfl rfl rfl ?_ fun b10 c10 A10 o10 => ?_
              · exact .tl
              · omega
              · omega
              apply loop_stepA (k + 1, _, _, _)
              · exact .refl _
              · repeat' (first | exact trivial | refine ⟨⟨_, rfl, by first | rfl | exact inc_eq _ (by omega) | (refine sl_eq ?_; simp; done) | (rw [unfK_more (by assumption)]; unfold frE; simp (disch := omega) only [wrap_of]; rfl) | (rw [unfK_more (by assumption)]), by first | exact trivial | simp [SV.ok]⟩, ?_⟩)
              · exact trivial
              · try dsimp only
                exact ⟨by (rw [unfK_more (by assumption)]; have := frOk_le ‹frOk t (unfK t k).2 = true›; simp only; omega), by (rw [unfK_more (by assumption)]; simpa only [wa, wb, frT_def] using ‹(gSl 9 gS).ow _ _ _›)⟩
              try dsimp only
              omega
    ·
      simp at q2
      (rw [unframe_end (k := k) (by omega) (by omega) (by first | assumption | exact frOk_end (by omega) | exact frOk_no (by assumption) | exact frOk_big (by unfold frE; omega) | exact frOk_fr (by assumption) (by assumption) | exact frOk_fr2 (by assumption) (by unfold frE; omega) (by omega) (by unfold frE; assumption))]; exact ⟨_, ⟨_, _, rfl, oA⟩, (.le fun a => by (try simp only [setR, List.cons_append, List.nil_append]); simp only [List.flatten_append, List.flatten_cons, List.flatten_nil, List.count_append, List.count_nil, List.append_nil, List.nil_append]; omega)⟩)
end Go.Proofs.YtjgehblllhkdbaaGreat

namespace Go.Proofs.YtjgehblllhkdbaaGreat
open Go.SX Go.Proofs
set_option linter.unusedSimpArgs false
set_option linter.unusedVariables false
set_option maxHeartbeats 4000000
attribute [local irreducible] IntKind.wrap
/-! where a reader stands: the place, and whether it has failed -/
def scNum (t : ByteArray) (s : Nat × Bool) : Nat × (Nat × Bool) :=
  if (readVar t s.1).2.2 && !s.2 then ((readVar t s.1).1, ((readVar t s.1).2.1, false)) else (0, (s.1, true))
def scByte (t : ByteArray) (s : Nat × Bool) : UInt8 × (Nat × Bool) :=
  if !s.2 && decide (s.1 < t.size) then (byteAt t s.1, (s.1 + 1, false)) else (0, (s.1, true))
theorem scNum_le {t : ByteArray} {s : Nat × Bool} (h : s.1 ≤ t.size) : (scNum t s).2.1 ≤ t.size ∧ (scNum t s).1 ≤ 1000000000 := by
  unfold scNum; split
  · rename_i h1; rw [Bool.and_eq_true] at h1
    have := readVar_le h1.1
    exact ⟨this.2.1, this.2.2⟩
  exact ⟨h, by omega⟩
theorem scByte_le {t : ByteArray} {s : Nat × Bool} (h : s.1 ≤ t.size) : (scByte t s).2.1 ≤ t.size := by
  unfold scByte; split
  · rename_i h1; rw [Bool.and_eq_true, decide_eq_true_iff] at h1
    show s.1 + 1 ≤ t.size; omega
  exact h
/-- what was read stands in the text -/
theorem scNum_txt {t : ByteArray} {s : Nat × Bool} (hs : s.1 ≤ t.size) (h : (scNum t s).2.2 = false) : s.2 = false ∧ t.extract 0 (scNum t s).2.1 = t.extract 0 s.1 ++ varText (scNum t s).1 := by
  unfold scNum at h ⊢
  split at h
  · rename_i h1
    have h1' := h1
    rw [Bool.and_eq_true, Bool.not_eq_true'] at h1
    rw [if_pos h1']
    have h2 := readVar_le h1.1
    refine ⟨h1.2, ?_⟩
    show t.extract 0 (readVar t s.1).2.1 = t.extract 0 s.1 ++ varText (readVar t s.1).1
    rw [readVar_canon hs h1.1, ← ext_join t (by omega) (by omega)]
  cases h
theorem ext_one {t : ByteArray} {k : Nat} (h : k < t.size) : t.extract k (k + 1) = tx [byteAt t k] := by
  rw [← by_inj, by_extract, by_tx, show k + 1 - k = 1 by omega]
  have h1 : k < (by' t).length := by rw [by_size]; exact h
  rw [List.drop_eq_getElem_cons h1]
  unfold byteAt
  rw [by_get, List.getElem?_eq_getElem h1]; rfl
theorem scByte_txt {t : ByteArray} {s : Nat × Bool} (h : (scByte t s).2.2 = false) : s.2 = false ∧ t.extract 0 (scByte t s).2.1 = t.extract 0 s.1 ++ tx [(scByte t s).1] := by
  unfold scByte at h ⊢
  split at h
  · rename_i h1
    rw [if_pos h1]
    rw [Bool.and_eq_true, Bool.not_eq_true', decide_eq_true_iff] at h1
    refine ⟨h1.1, ?_⟩
    show t.extract 0 (s.1 + 1) = t.extract 0 s.1 ++ tx [byteAt t s.1]
    rw [← ext_one h1.2, ← ext_join t (by omega) (by omega)]
  cases h
/-! the readers themselves -/
theorem scNum_yes {t : ByteArray} {s : Nat × Bool} (h1 : (readVar t s.1).2.2 = true) (h2 : s.2 = false) : scNum t s = ((readVar t s.1).1, ((readVar t s.1).2.1, false)) := by unfold scNum; rw [h1, h2]; rfl
theorem scNum_no1 {t : ByteArray} {s : Nat × Bool} (h1 : (readVar t s.1).2.2 = false) : scNum t s = (0, (s.1, true)) := by unfold scNum; rw [h1]; rfl
theorem scNum_no2 {t : ByteArray} {s : Nat × Bool} (h2 : s.2 = true) : scNum t s = (0, (s.1, true)) := by unfold scNum; rw [h2]; simp
theorem scByte_yes {t : ByteArray} {s : Nat × Bool} (h1 : s.1 < t.size) (h2 : s.2 = false) : scByte t s = (byteAt t s.1, (s.1 + 1, false)) := by unfold scByte; rw [h2, decide_eq_true h1]; rfl
theorem scByte_no1 {t : ByteArray} {s : Nat × Bool} (h1 : ¬ s.1 < t.size) : scByte t s = (0, (s.1, true)) := by unfold scByte; rw [decide_eq_false h1]; simp
theorem scByte_no2 {t : ByteArray} {s : Nat × Bool} (h2 : s.2 = true) : scByte t s = (0, (s.1, true)) := by unfold scByte; rw [h2]; rfl
--@ct (*impl.scanner).number blk0 scNumber_ct _ _ _ _ _ rfl ?_ ?_ |  | rintro _ A# ⟨rfl, rfl⟩ ;; refine ⟨_, _, [], rfl, perm0, ?_⟩
--@ct spec.l03Var blk0 l03Var_ct _ _ _ _ _ rfl ?_ ?_ |  | rintro _ A# ⟨rfl, rfl⟩ ;; refine ⟨_, _, [], rfl, perm0, ?_⟩
--@ct (*impl.scanner).octet blk0 scOctet_ct _ _ _ _ _ rfl ?_ ?_ |  | rintro _ A# ⟨rfl, rfl⟩ ;; refine ⟨_, _, [], rfl, perm0, ?_⟩
--@ct spec.l03Byte blk0 l03Byte_ct _ _ _ _ _ rfl ?_ ?_ |  | rintro _ A# ⟨rfl, rfl⟩ ;; refine ⟨_, _, [], rfl, perm0, ?_⟩
theorem scNumber_ct (q : Nat) (t : ByteArray) (ai : Int) (a : Nat) (bd : Bool) (hai : ai = (a : Int)) (ht : t.size ≤ 1152921504606846976) (ha : a ≤ t.size) :
    CtR Tryz.prog 314 [.pointer (some ⟨q, 0, none⟩)] [(q, Obj.cells ⟨[.string t, .int .i64 ai, .bool bd]⟩ 385)] (fun _ => True) (fun v A => v = .int .i64 ((scNum t (a, bd)).1 : Nat) ∧ A = [(q, Obj.cells ⟨[.string t, .int .i64 ((scNum t (a, bd)).2.1 : Nat), .bool (scNum t (a, bd)).2.2]⟩ 385)]) := by
  subst hai
  have h0 : (0 : Int) ≤ (a : Int) := Int.natCast_nonneg _
  refine CtR.introB G_ok [.p 0 0] [⟨q, [.string t, .int .i64 (a : Int), .bool bd], 385⟩] [] Tryz.func314 rfl rfl rfl rfl (by simp [SV.ok]) (by simp [Blk.ent]) fun E H hp => ?_
  refine draw G_ok mixed none (.q 0 (.q 1 (.q 2 (.q 3 (.q 4 (.q 5 (.q 6 (.q 7 (.f 8 (.q 9 (.q 10 (.q 11 (.q 12 (.q 13 (.q 14 (.q 15 (.nil))))))))))))))))) (by decide +kernel) ?_
  refine call_val (implReadVar_ct _ _ ?_ ?_) trivial ?_
  · trivial
  · trivial
  rintro _ rfl
  refine VC.intro ?_ ?_
  · exact fun _ h => h
  refine VCsplit.intro (fun q1 => ?_) (fun q1 => ?_)
  ·
    simp at q1
    (rw [scNum_no1 (s := (a, bd)) ‹_›]; exact ⟨_, ⟨rfl, rfl⟩, (.le fun a => by (try simp only [setR, List.cons_append, List.nil_append]); simp [List.count_cons, Blk.ent, idOf]; try omega)⟩)
  ·
    simp at q1
    refine VCsplit.intro (fun q2 => ?_) (fun q2 => ?_)
    ·
      (rw [scNum_no2 (s := (a, bd)) ‹_›]; exact ⟨_, ⟨rfl, rfl⟩, (.le fun a => by (try simp only [setR, List.cons_append, List.nil_append]); simp [List.count_cons, Blk.ent, idOf]; try omega)⟩)
    ·
      (have hb0 : bd = false := ‹_›; subst hb0; rw [scNum_yes (s := (a, false)) ‹_› rfl]; exact ⟨_, ⟨rfl, rfl⟩, (.le fun a => by (try simp only [setR, List.cons_append, List.nil_append]); simp [List.count_cons, Blk.ent, idOf]; try omega)⟩)
theorem l03Var_ct (q : Nat) (t : ByteArray) (ai : Int) (a : Nat) (bd : Bool) (hai : ai = (a : Int)) (ht : t.size ≤ 1152921504606846976) (ha : a ≤ t.size) :
    CtR Tryz.prog 327 [.pointer (some ⟨q, 0, none⟩)] [(q, Obj.cells ⟨[.string t, .int .i64 ai, .bool bd]⟩ 397)] (fun _ => True) (fun v A => v = .int .i64 ((scNum t (a, bd)).1 : Nat) ∧ A = [(q, Obj.cells ⟨[.string t, .int .i64 ((scNum t (a, bd)).2.1 : Nat), .bool (scNum t (a, bd)).2.2]⟩ 397)]) := by
  subst hai
  have h0 : (0 : Int) ≤ (a : Int) := Int.natCast_nonneg _
  refine CtR.introB G_ok [.p 0 0] [⟨q, [.string t, .int .i64 (a : Int), .bool bd], 397⟩] [] Tryz.func327 rfl rfl rfl rfl (by simp [SV.ok]) (by simp [Blk.ent]) fun E H hp => ?_
  refine draw G_ok mixed none (.q 0 (.q 1 (.q 2 (.q 3 (.q 4 (.q 5 (.q 6 (.q 7 (.f 8 (.q 9 (.q 10 (.q 11 (.q 12 (.q 13 (.q 14 (.q 15 (.nil))))))))))))))))) (by decide +kernel) ?_
  refine call_val (specReadVar_ct _ _ ?_ ?_) trivial ?_
  · trivial
  · trivial
  rintro _ rfl
  refine VC.intro ?_ ?_
  · exact fun _ h => h
  refine VCsplit.intro (fun q1 => ?_) (fun q1 => ?_)
  ·
    (rw [scNum_no2 (s := (a, bd)) ‹_›]; exact ⟨_, ⟨rfl, rfl⟩, (.le fun a => by (try simp only [setR, List.cons_append, List.nil_append]); simp [List.count_cons, Blk.ent, idOf]; try omega)⟩)
  ·
    refine VCsplit.intro (fun q2 => ?_) (fun q2 => ?_)
    ·
      simp at q2
      (rw [scNum_no1 (s := (a, bd)) ‹_›]; exact ⟨_, ⟨rfl, rfl⟩, (.le fun a => by (try simp only [setR, List.cons_append, List.nil_append]); simp [List.count_cons, Blk.ent, idOf]; try omega)⟩)
    ·
      simp at q2
      (have hb0 : bd = false := ‹_›; subst hb0; rw [scNum_yes (s := (a, false)) ‹_› rfl]; exact ⟨_, ⟨rfl, rfl⟩, (.le fun a => by (try simp only [setR, List.cons_append, List.nil_append]); simp [List.count_cons, Blk.ent, idOf]; try omega)⟩)
theorem scOctet_ct (q : Nat) (t : ByteArray) (ai : Int) (a : Nat) (bd : Bool) (hai : ai = (a : Int)) (ht : t.size ≤ 1152921504606846976) (ha : a ≤ t.size) :
    CtR Tryz.prog 315 [.pointer (some ⟨q, 0, none⟩)] [(q, Obj.cells ⟨[.string t, .int .i64 ai, .bool bd]⟩ 385)] (fun _ => True) (fun v A => v = .int .u8 ((scByte t (a, bd)).1.toNat : Nat) ∧ A = [(q, Obj.cells ⟨[.string t, .int .i64 ((scByte t (a, bd)).2.1 : Nat), .bool (scByte t (a, bd)).2.2]⟩ 385)]) := by
  subst hai
  refine CtR.introB G_ok [.p 0 0] [⟨q, [.string t, .int .i64 (a : Int), .bool bd], 385⟩] [] Tryz.func315 rfl rfl rfl rfl (by simp [SV.ok]) (by simp [Blk.ent]) fun E H hp => ?_
  refine draw G_ok mixed none (.q 0 (.q 1 (.q 2 (.q 3 (.q 4 (.q 5 (.q 6 (.q 7 (.q 8 (.q 9 (.q 10 (.q 11 (.q 12 (.q 13 (.q 14 (.q 15 (.nil))))))))))))))))) (by decide +kernel) ?_
  refine VCsplit.intro (fun q0 => ?_) (fun q0 => ?_)
  ·
    (rw [scByte_no2 (s := (a, bd)) ‹_›]; exact ⟨_, ⟨rfl, rfl⟩, (.le fun a => by (try simp only [setR, List.cons_append, List.nil_append]); simp [List.count_cons, Blk.ent, idOf]; try omega)⟩)
  ·
    refine VCsplit.intro (fun q1 => ?_) (fun q1 => ?_)
    ·
      simp at q1
      (rw [scByte_no1 (s := (a, bd)) (by show ¬ a < t.size; omega)]; exact ⟨_, ⟨rfl, rfl⟩, (.le fun a => by (try simp only [setR, List.cons_append, List.nil_append]); simp [List.count_cons, Blk.ent, idOf]; try omega)⟩)
    ·
      simp at q1
      refine draw G_ok mixed none (.q 0 (.q 1 (.q 2 (.q 3 (.q 4 (.q 5 (.q 6 (.q 7 (.q 8 (.q 9 (.q 10 (.nil)))))))))))) (by decide +kernel) ?_
      refine VC.intro ?_ ?_
      · (simp (disch := omega) only [wrap_of]; omega)
      (have hb0 : bd = false := ‹_›; subst hb0; have e2 : IntKind.i64.wrap ((a : Int) + 1) = ((a + 1 : Nat) : Int) := (by rw [wrap_of (by omega) (by omega)]; omega); have e1 : (IntKind.i64.wrap (((a + 1 : Nat) : Int) - 1)).toNat = a := (by rw [wrap_of (by omega) (by omega)]; omega); rw [e2]; (try rw [e1]); rw [scByte_yes (s := (a, false)) (by omega) rfl]; exact ⟨_, ⟨rfl, rfl⟩, (.le fun a => by (try simp only [setR, List.cons_append, List.nil_append]); simp [List.count_cons, Blk.ent, idOf]; try omega)⟩)
theorem l03Byte_ct (q : Nat) (t : ByteArray) (ai : Int) (a : Nat) (bd : Bool) (hai : ai = (a : Int)) (ht : t.size ≤ 1152921504606846976) (ha : a ≤ t.size) :
    CtR Tryz.prog 328 [.pointer (some ⟨q, 0, none⟩)] [(q, Obj.cells ⟨[.string t, .int .i64 ai, .bool bd]⟩ 397)] (fun _ => True) (fun v A => v = .int .i64 ((scByte t (a, bd)).1.toNat : Nat) ∧ A = [(q, Obj.cells ⟨[.string t, .int .i64 ((scByte t (a, bd)).2.1 : Nat), .bool (scByte t (a, bd)).2.2]⟩ 397)]) := by
  subst hai
  refine CtR.introB G_ok [.p 0 0] [⟨q, [.string t, .int .i64 (a : Int), .bool bd], 397⟩] [] Tryz.func328 rfl rfl rfl rfl (by simp [SV.ok]) (by simp [Blk.ent]) fun E H hp => ?_
  refine draw G_ok mixed none (.q 0 (.q 1 (.q 2 (.q 3 (.q 4 (.q 5 (.q 6 (.q 7 (.q 8 (.q 9 (.q 10 (.q 11 (.q 12 (.q 13 (.q 14 (.q 15 (.nil))))))))))))))))) (by decide +kernel) ?_
  refine VCsplit.intro (fun q0 => ?_) (fun q0 => ?_)
  ·
    (rw [scByte_no2 (s := (a, bd)) ‹_›]; exact ⟨_, ⟨rfl, rfl⟩, (.le fun a => by (try simp only [setR, List.cons_append, List.nil_append]); simp [List.count_cons, Blk.ent, idOf]; try omega)⟩)
  ·
    refine VCsplit.intro (fun q1 => ?_) (fun q1 => ?_)
    ·
      simp at q1
      (rw [scByte_no1 (s := (a, bd)) (by show ¬ a < t.size; omega)]; exact ⟨_, ⟨rfl, rfl⟩, (.le fun a => by (try simp only [setR, List.cons_append, List.nil_append]); simp [List.count_cons, Blk.ent, idOf]; try omega)⟩)
    ·
      simp at q1
      refine draw G_ok mixed none (.q 0 (.q 1 (.q 2 (.q 3 (.q 4 (.q 5 (.q 6 (.q 7 (.q 8 (.q 9 (.q 10 (.q 11 (.nil))))))))))))) (by decide +kernel) ?_
      refine VC.intro ?_ ?_
      · (simp (disch := omega) only [wrap_of]; omega)
      (have hb0 : bd = false := ‹_›; subst hb0; have e2 : IntKind.i64.wrap ((a : Int) + 1) = ((a + 1 : Nat) : Int) := (by rw [wrap_of (by omega) (by omega)]; omega); have e1 : (IntKind.i64.wrap (((a + 1 : Nat) : Int) - 1)).toNat = a := (by rw [wrap_of (by omega) (by omega)]; omega); rw [e2, e1]; rw [scByte_yes (s := (a, false)) (by omega) rfl]; exact ⟨_, ⟨by (show Value.int IntKind.i64 (IntKind.i64.wrap _) = _; rw [byte_w]; rfl), rfl⟩, (.le fun a => by (try simp only [setR, List.cons_append, List.nil_append]); simp [List.count_cons, Blk.ent, idOf]; try omega)⟩)
end Go.Proofs.YtjgehblllhkdbaaGreat
