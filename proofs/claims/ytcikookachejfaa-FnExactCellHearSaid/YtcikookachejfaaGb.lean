/-
  The types of the laws: how their values lie, and the laws' helpers over them (printed by gent.py). Conditions: none.
-/
import Derived.Test.YtcikookachejfaaGa
--@dev import Derived.Test.YtcikookachejfaaSxWalk
namespace Go.Proofs.Ytcikookachejfaa
open Go.SX Go.Proofs
set_option maxHeartbeats 4000000
set_option linter.unusedSimpArgs false
set_option linter.unusedVariables false

structure Item where
  row : List Int
  times : Int
deriving DecidableEq, Inhabited
def gItem : Gt Item := gIso (SX.gPair (gSl 3 gI) gI) (fun x => (x.row, x.times)) (fun p => ⟨p.1, p.2⟩)
theorem gItem_rd {H : Hp} {l : List Value} {x : Item} : gItem.rd H l x ↔ ∃ (b0 : Option Addr) (c0 : Nat), l = .slice b0 x.row.length c0 :: .int .i64 x.times :: [] ∧ (gSl 3 gI).rd H [.slice b0 x.row.length c0] x.row ∧ okI x.times := by
  constructor
  · rintro ⟨m0, q0, rfl, h0, h1⟩
    obtain ⟨b0, c0, rfl, h0⟩ := sl_rd h0
    obtain ⟨rfl, w1⟩ := h1
    exact ⟨b0, c0, rfl, h0, w1⟩
  · rintro ⟨b0, c0, rfl, h0, w1⟩
    exact ⟨[.slice b0 x.row.length c0], [.int .i64 x.times], rfl, h0, ⟨rfl, w1⟩⟩
open Classical in
theorem gItem_ow {A : Hp} {l : List Value} {x : Item} : gItem.ow l x A ↔ ∃ (b0 : Option Addr) (c0 : Nat) (A0 : Hp), l = .slice b0 x.row.length c0 :: .int .i64 x.times :: [] ∧ A.Perm A0 ∧ (gSl 3 gI).ow [.slice b0 x.row.length c0] x.row A0 ∧ okI x.times := by
  constructor
  · rintro ⟨m0, q0, D0, E0, rfl, p0, h0, h1⟩
    obtain ⟨b0, c0, rfl, h0⟩ := sl_ow h0
    obtain ⟨rfl, w1, e1⟩ := h1
    subst e1
    exact ⟨b0, c0, D0, rfl, (perm_cnt fun a => by have e0 := p0.count_eq a; simp only [List.count_append, List.count_nil] at *; omega), h0, w1⟩
  · rintro ⟨b0, c0, A0, rfl, hp, h0, w1⟩
    exact ⟨[.slice b0 x.row.length c0], [.int .i64 x.times], A0, [], rfl, (perm_cnt fun a => by have e := hp.count_eq a; simp only [List.count_append, List.count_nil] at *; omega), h0, ⟨rfl, w1, rfl⟩⟩
theorem opens_Item : Opens Try.prog gItem.toRp 206 := by
  intro H' enc w H sp hd fuel cs d ps hcov ht
  obtain ⟨h1, h2⟩ := trod_fields ty206_ok.1 ht
  obtain ⟨_, _, t0⟩ := h2 0 0 29 rfl
  obtain ⟨x0, r0⟩ := (opens_sl ty29_ok.1 (by kernel_rfl) (by decide) (opens_fi ty3_ok.1)) _ _ H _ _ _ _ _ _ hcov t0
  rw [show Try.prog.cellsOf 29 = 1 by kernel_rfl] at r0
  obtain ⟨_, _, t1⟩ := h2 1 1 3 rfl
  obtain ⟨x1, r1⟩ := (opens_fi ty3_ok.1) _ _ H _ _ _ _ _ _ hcov t1
  rw [show Try.prog.cellsOf 3 = 1 by kernel_rfl] at r1
  rw [show Try.prog.cellsOf 206 = 2 by kernel_rfl] at h1
  have key : gItem.rd H ((cs.drop 0).take 2) ⟨x0, x1⟩ := (pair_at (g := (gSl 3 gI)) (h := gI) (off := 0) r0 r1)
  rw [List.drop_zero, List.take_of_length_le (by omega)] at key
  exact ⟨_, key⟩
def zItem : Item := ⟨[], 0⟩
theorem zItem_ow : gItem.ow [.slice none 0 0, .int .i64 0] zItem [] := gItem_ow.2 ⟨none, 0, [], rfl, by simp, sl_nil _ _ _, by first | (unfold okI; decide) | decide⟩
theorem gItem_row : Fld gItem (gSl 3 gI) (fun x => x.row) (fun x y => { x with row := y }) 0 := (Fld.fst _ _).iso (fun _ => rfl) (fun _ _ => rfl)
theorem gItem_times : Fld gItem gI (fun x => x.times) (fun x y => { x with times := y }) 1 := (Fld.snd _ _).iso (fun _ => rfl) (fun _ _ => rfl)
theorem gItem_sz (x : Item) : gItem.sz x = szL gI x.row + (0) := rfl
theorem gItem_cnt (x : Item) : gItem.cnt x = cntL gI x.row + (1) := rfl
theorem gItem_cntV (x : Item) : gItem.cntV x = cntL gI x.row + (0) := rfl
theorem gItem_mark (k : Int) (x : Item) : gItem.mark k x = ⟨mkL gI (k) x.row, k + cntL gI x.row⟩ := by
  have h : gItem.mark k x = ⟨mkL gI (k) x.row, (k + ((cntL gI x.row : Nat) : Int))⟩ := rfl
  rw [h] <;> simp
theorem gItem_markV (k : Int) (x : Item) : gItem.markV k x = ⟨mkL gI (k) x.row, x.times⟩ := by
  have h : gItem.markV k x = ⟨mkL gI (k) x.row, x.times⟩ := rfl
  rw [h] <;> simp
theorem Item.eq_iff {x y : Item} : x = y ↔ x.row = y.row ∧ x.times = y.times := by cases x; cases y; simp
--@gt impl.Item | gItem | default | obtain ⟨b0x#, c0x#, rfl, h0x#, w1x#⟩ := gItem_rd.1 hl# | 0 1 sl gItem_row ; 1 1 pr gItem_times | 2 | 

structure Bag where
  items : List Item
deriving DecidableEq, Inhabited
def gBag : Gt Bag := gIso (gSl 144 gItem) (fun x => x.items) (fun p => ⟨p⟩)
theorem gBag_rd {H : Hp} {l : List Value} {x : Bag} : gBag.rd H l x ↔ ∃ (b0 : Option Addr) (c0 : Nat), l = .slice b0 x.items.length c0 :: [] ∧ (gSl 144 gItem).rd H [.slice b0 x.items.length c0] x.items := by
  constructor
  · rintro h0
    obtain ⟨b0, c0, rfl, h0⟩ := sl_rd h0
    exact ⟨b0, c0, rfl, h0⟩
  · rintro ⟨b0, c0, rfl, h0⟩
    exact h0
open Classical in
theorem gBag_ow {A : Hp} {l : List Value} {x : Bag} : gBag.ow l x A ↔ ∃ (b0 : Option Addr) (c0 : Nat) (A0 : Hp), l = .slice b0 x.items.length c0 :: [] ∧ A.Perm A0 ∧ (gSl 144 gItem).ow [.slice b0 x.items.length c0] x.items A0 := by
  constructor
  · rintro h0
    obtain ⟨b0, c0, rfl, h0⟩ := sl_ow h0
    exact ⟨b0, c0, A, rfl, .refl _, h0⟩
  · rintro ⟨b0, c0, A0, rfl, hp, h0⟩
    exact gBag.owp (l := _) (x := x) h0 hp
theorem opens_Bag : Opens Try.prog gBag.toRp 77 := by
  intro H' enc w H sp hd fuel cs d ps hcov ht
  obtain ⟨h1, h2⟩ := trod_fields ty77_ok.1 ht
  obtain ⟨_, _, t0⟩ := h2 0 0 75 rfl
  obtain ⟨x0, r0⟩ := (opens_sl ty75_ok.1 (by kernel_rfl) (by decide) opens_Item) _ _ H _ _ _ _ _ _ hcov t0
  rw [show Try.prog.cellsOf 75 = 1 by kernel_rfl] at r0
  rw [show Try.prog.cellsOf 77 = 1 by kernel_rfl] at h1
  have key : gBag.rd H ((cs.drop 0).take 1) ⟨x0⟩ := r0
  rw [List.drop_zero, List.take_of_length_le (by omega)] at key
  exact ⟨_, key⟩
def zBag : Bag := ⟨[]⟩
theorem zBag_ow : gBag.ow [.slice none 0 0] zBag [] := gBag_ow.2 ⟨none, 0, [], rfl, by simp, sl_nil _ _ _⟩
theorem gBag_items : Fld gBag (gSl 144 gItem) (fun x => x.items) (fun x y => { x with items := y }) 0 := (Fld.id _).iso (fun _ => rfl) (fun _ _ => rfl)
theorem gBag_sz (x : Bag) : gBag.sz x = szL gItem x.items := rfl
theorem gBag_cnt (x : Bag) : gBag.cnt x = cntL gItem x.items := rfl
theorem gBag_cntV (x : Bag) : gBag.cntV x = cntL gItem x.items := rfl
theorem gBag_mark (k : Int) (x : Bag) : gBag.mark k x = ⟨mkL gItem (k) x.items⟩ := by
  have h : gBag.mark k x = ⟨mkL gItem (k) x.items⟩ := rfl
  rw [h] <;> simp
theorem gBag_markV (k : Int) (x : Bag) : gBag.markV k x = ⟨mkL gItem (k) x.items⟩ := by
  have h : gBag.markV k x = ⟨mkL gItem (k) x.items⟩ := rfl
  rw [h] <;> simp
theorem Bag.eq_iff {x y : Bag} : x = y ↔ x.items = y.items := by cases x; cases y; simp
--@gt impl.Bag | gBag | default | obtain ⟨b0x#, c0x#, rfl, h0x#⟩ := gBag_rd.1 hl# | 0 1 sl gBag_items | 1 | 

structure Edge where
  from' : Int
  label : UInt8
  to : Int
deriving DecidableEq, Inhabited
def gEdge : Gt Edge := gIso (SX.gPair gI (SX.gPair gY gI)) (fun x => (x.from', (x.label, x.to))) (fun p => ⟨p.1, p.2.1, p.2.2⟩)
theorem gEdge_rd {H : Hp} {l : List Value} {x : Edge} : gEdge.rd H l x ↔ l = .int .i64 x.from' :: .int .u8 (x.label).toNat :: .int .i64 x.to :: [] ∧ okI x.from' ∧ okI x.to := by
  constructor
  · rintro ⟨m0, q0, rfl, h0, m1, q1, rfl, h1, h2⟩
    obtain ⟨rfl, w0⟩ := h0
    obtain ⟨rfl, w1⟩ := h1
    obtain ⟨rfl, w2⟩ := h2
    exact ⟨rfl, w0, w2⟩
  · rintro ⟨rfl, w0, w2⟩
    exact ⟨[.int .i64 x.from'], .int .u8 (x.label).toNat :: .int .i64 x.to :: [], rfl, ⟨rfl, w0⟩, ⟨[.int .u8 (x.label).toNat], [.int .i64 x.to], rfl, ⟨rfl, trivial⟩, ⟨rfl, w2⟩⟩⟩
open Classical in
theorem gEdge_ow {A : Hp} {l : List Value} {x : Edge} : gEdge.ow l x A ↔ l = .int .i64 x.from' :: .int .u8 (x.label).toNat :: .int .i64 x.to :: [] ∧ A.Perm [] ∧ okI x.from' ∧ okI x.to := by
  constructor
  · rintro ⟨m0, q0, D0, E0, rfl, p0, h0, m1, q1, D1, E1, rfl, p1, h1, h2⟩
    obtain ⟨rfl, w0, e0⟩ := h0
    subst e0
    obtain ⟨rfl, w1, e1⟩ := h1
    subst e1
    obtain ⟨rfl, w2, e2⟩ := h2
    subst e2
    exact ⟨rfl, (perm_cnt fun a => by have e0 := p0.count_eq a; have e1 := p1.count_eq a; simp only [List.count_append, List.count_nil] at *; omega), w0, w2⟩
  · rintro ⟨rfl, hp, w0, w2⟩
    exact ⟨[.int .i64 x.from'], .int .u8 (x.label).toNat :: .int .i64 x.to :: [], [], ([] ++ []), rfl, (perm_cnt fun a => by have e := hp.count_eq a; simp only [List.count_append, List.count_nil] at *; omega), ⟨rfl, w0, rfl⟩, ⟨[.int .u8 (x.label).toNat], [.int .i64 x.to], [], [], rfl, .refl _, ⟨rfl, trivial, rfl⟩, ⟨rfl, w2, rfl⟩⟩⟩
def zEdge : Edge := ⟨0, 0, 0⟩
theorem zEdge_ow : gEdge.ow [.int .i64 0, .int .u8 0, .int .i64 0] zEdge [] := gEdge_ow.2 ⟨rfl, by simp, by first | (unfold okI; decide) | decide, by first | (unfold okI; decide) | decide⟩
theorem gEdge_from : Fld gEdge gI (fun x => x.from') (fun x y => { x with from' := y }) 0 := (Fld.fst _ _).iso (fun _ => rfl) (fun _ _ => rfl)
theorem gEdge_label : Fld gEdge gY (fun x => x.label) (fun x y => { x with label := y }) 1 := ((Fld.snd _ _).comp (Fld.fst _ _)).iso (fun _ => rfl) (fun _ _ => rfl)
theorem gEdge_to : Fld gEdge gI (fun x => x.to) (fun x y => { x with to := y }) 2 := ((Fld.snd _ _).comp (Fld.snd _ _)).iso (fun _ => rfl) (fun _ _ => rfl)
theorem gEdge_sz (x : Edge) : gEdge.sz x = 0 + (0 + (0)) := rfl
theorem gEdge_cnt (x : Edge) : gEdge.cnt x = 1 + (1 + (1)) := rfl
theorem gEdge_cntV (x : Edge) : gEdge.cntV x = 0 + (0 + (0)) := rfl
theorem gEdge_mark (k : Int) (x : Edge) : gEdge.mark k x = ⟨k, UInt8.ofNat ((k + 1) % 256).toNat, k + 1 + 1⟩ := by
  have h : gEdge.mark k x = ⟨k, UInt8.ofNat (((k + ((1 : Nat) : Int))) % 256).toNat, ((k + ((1 : Nat) : Int)) + ((1 : Nat) : Int))⟩ := rfl
  rw [h] <;> simp
theorem gEdge_markV (k : Int) (x : Edge) : gEdge.markV k x = ⟨x.from', x.label, x.to⟩ := by
  have h : gEdge.markV k x = ⟨x.from', x.label, x.to⟩ := rfl
  rw [h] <;> simp
theorem Edge.eq_iff {x y : Edge} : x = y ↔ x.from' = y.from' ∧ x.label = y.label ∧ x.to = y.to := by cases x; cases y; simp
theorem gEdge_own {H : Hp} {l : List Value} {x : Edge} (h : gEdge.rd H l x) : gEdge.ow l x [] := by
  obtain ⟨rfl, w0, w2⟩ := gEdge_rd.1 h
  exact gEdge_ow.2 ⟨rfl, by simp, w0, w2⟩
--@gt impl.Edge | gEdge | default | obtain ⟨rfl, w0x#, w2x#⟩ := gEdge_rd.1 hl# | 0 1 pr gEdge_from ; 1 1 pr gEdge_label ; 2 1 pr gEdge_to | 3 | gEdge_own ‹_›

structure Graph where
  size : Int
  edges : List Edge
deriving DecidableEq, Inhabited
def gGraph : Gt Graph := gIso (SX.gPair gI (gSl 192 gEdge)) (fun x => (x.size, x.edges)) (fun p => ⟨p.1, p.2⟩)
theorem gGraph_rd {H : Hp} {l : List Value} {x : Graph} : gGraph.rd H l x ↔ ∃ (b1 : Option Addr) (c1 : Nat), l = .int .i64 x.size :: .slice b1 x.edges.length c1 :: [] ∧ okI x.size ∧ (gSl 192 gEdge).rd H [.slice b1 x.edges.length c1] x.edges := by
  constructor
  · rintro ⟨m0, q0, rfl, h0, h1⟩
    obtain ⟨rfl, w0⟩ := h0
    obtain ⟨b1, c1, rfl, h1⟩ := sl_rd h1
    exact ⟨b1, c1, rfl, w0, h1⟩
  · rintro ⟨b1, c1, rfl, w0, h1⟩
    exact ⟨[.int .i64 x.size], [.slice b1 x.edges.length c1], rfl, ⟨rfl, w0⟩, h1⟩
open Classical in
theorem gGraph_ow {A : Hp} {l : List Value} {x : Graph} : gGraph.ow l x A ↔ ∃ (b1 : Option Addr) (c1 : Nat) (A1 : Hp), l = .int .i64 x.size :: .slice b1 x.edges.length c1 :: [] ∧ A.Perm A1 ∧ okI x.size ∧ (gSl 192 gEdge).ow [.slice b1 x.edges.length c1] x.edges A1 := by
  constructor
  · rintro ⟨m0, q0, D0, E0, rfl, p0, h0, h1⟩
    obtain ⟨rfl, w0, e0⟩ := h0
    subst e0
    obtain ⟨b1, c1, rfl, h1⟩ := sl_ow h1
    exact ⟨b1, c1, E0, rfl, (perm_cnt fun a => by have e0 := p0.count_eq a; simp only [List.count_append, List.count_nil] at *; omega), w0, h1⟩
  · rintro ⟨b1, c1, A1, rfl, hp, w0, h1⟩
    exact ⟨[.int .i64 x.size], [.slice b1 x.edges.length c1], [], A1, rfl, (perm_cnt fun a => by have e := hp.count_eq a; simp only [List.count_append, List.count_nil] at *; omega), ⟨rfl, w0, rfl⟩, h1⟩
def zGraph : Graph := ⟨0, []⟩
theorem zGraph_ow : gGraph.ow [.int .i64 0, .slice none 0 0] zGraph [] := gGraph_ow.2 ⟨none, 0, [], rfl, by simp, by first | (unfold okI; decide) | decide, sl_nil _ _ _⟩
theorem gGraph_size : Fld gGraph gI (fun x => x.size) (fun x y => { x with size := y }) 0 := (Fld.fst _ _).iso (fun _ => rfl) (fun _ _ => rfl)
theorem gGraph_edges : Fld gGraph (gSl 192 gEdge) (fun x => x.edges) (fun x y => { x with edges := y }) 1 := (Fld.snd _ _).iso (fun _ => rfl) (fun _ _ => rfl)
theorem gGraph_sz (x : Graph) : gGraph.sz x = 0 + (szL gEdge x.edges) := rfl
theorem gGraph_cnt (x : Graph) : gGraph.cnt x = 1 + (cntL gEdge x.edges) := rfl
theorem gGraph_cntV (x : Graph) : gGraph.cntV x = 0 + (cntL gEdge x.edges) := rfl
theorem gGraph_mark (k : Int) (x : Graph) : gGraph.mark k x = ⟨k, mkL gEdge (k + 1) x.edges⟩ := by
  have h : gGraph.mark k x = ⟨k, mkL gEdge ((k + ((1 : Nat) : Int))) x.edges⟩ := rfl
  rw [h] <;> simp
theorem gGraph_markV (k : Int) (x : Graph) : gGraph.markV k x = ⟨x.size, mkL gEdge (k) x.edges⟩ := by
  have h : gGraph.markV k x = ⟨x.size, mkL gEdge ((k + ((0 : Nat) : Int))) x.edges⟩ := rfl
  rw [h] <;> simp
theorem Graph.eq_iff {x y : Graph} : x = y ↔ x.size = y.size ∧ x.edges = y.edges := by cases x; cases y; simp
--@gt impl.Graph | gGraph | default | obtain ⟨b1x#, c1x#, rfl, w0x#, h1x#⟩ := gGraph_rd.1 hl# | 0 1 pr gGraph_size ; 1 1 sl gGraph_edges | 2 | 

structure Atom where
  from' : ByteArray
  path : ByteArray
  to : ByteArray
deriving DecidableEq, Inhabited
def gAtom : Gt Atom := gIso (SX.gPair gS (SX.gPair gS gS)) (fun x => (x.from', (x.path, x.to))) (fun p => ⟨p.1, p.2.1, p.2.2⟩)
theorem gAtom_rd {H : Hp} {l : List Value} {x : Atom} : gAtom.rd H l x ↔ l = .string x.from' :: .string x.path :: .string x.to :: [] ∧ x.from'.size ≤ 9223372036854775807 ∧ x.path.size ≤ 9223372036854775807 ∧ x.to.size ≤ 9223372036854775807 := by
  constructor
  · rintro ⟨m0, q0, rfl, h0, m1, q1, rfl, h1, h2⟩
    obtain ⟨rfl, w0⟩ := h0
    obtain ⟨rfl, w1⟩ := h1
    obtain ⟨rfl, w2⟩ := h2
    exact ⟨rfl, w0, w1, w2⟩
  · rintro ⟨rfl, w0, w1, w2⟩
    exact ⟨[.string x.from'], .string x.path :: .string x.to :: [], rfl, ⟨rfl, w0⟩, ⟨[.string x.path], [.string x.to], rfl, ⟨rfl, w1⟩, ⟨rfl, w2⟩⟩⟩
open Classical in
theorem gAtom_ow {A : Hp} {l : List Value} {x : Atom} : gAtom.ow l x A ↔ l = .string x.from' :: .string x.path :: .string x.to :: [] ∧ A.Perm [] ∧ x.from'.size ≤ 9223372036854775807 ∧ x.path.size ≤ 9223372036854775807 ∧ x.to.size ≤ 9223372036854775807 := by
  constructor
  · rintro ⟨m0, q0, D0, E0, rfl, p0, h0, m1, q1, D1, E1, rfl, p1, h1, h2⟩
    obtain ⟨rfl, w0, e0⟩ := h0
    subst e0
    obtain ⟨rfl, w1, e1⟩ := h1
    subst e1
    obtain ⟨rfl, w2, e2⟩ := h2
    subst e2
    exact ⟨rfl, (perm_cnt fun a => by have e0 := p0.count_eq a; have e1 := p1.count_eq a; simp only [List.count_append, List.count_nil] at *; omega), w0, w1, w2⟩
  · rintro ⟨rfl, hp, w0, w1, w2⟩
    exact ⟨[.string x.from'], .string x.path :: .string x.to :: [], [], ([] ++ []), rfl, (perm_cnt fun a => by have e := hp.count_eq a; simp only [List.count_append, List.count_nil] at *; omega), ⟨rfl, w0, rfl⟩, ⟨[.string x.path], [.string x.to], [], [], rfl, .refl _, ⟨rfl, w1, rfl⟩, ⟨rfl, w2, rfl⟩⟩⟩
theorem opens_Atom : Opens Try.prog gAtom.toRp 253 := by
  intro H' enc w H sp hd fuel cs d ps hcov ht
  obtain ⟨h1, h2⟩ := trod_fields ty253_ok.1 ht
  obtain ⟨_, _, t0⟩ := h2 0 0 9 rfl
  obtain ⟨x0, r0⟩ := (opens_fs ty9_ok.1) _ _ H _ _ _ _ _ _ hcov t0
  rw [show Try.prog.cellsOf 9 = 1 by kernel_rfl] at r0
  obtain ⟨_, _, t1⟩ := h2 1 1 9 rfl
  obtain ⟨x1, r1⟩ := (opens_fs ty9_ok.1) _ _ H _ _ _ _ _ _ hcov t1
  rw [show Try.prog.cellsOf 9 = 1 by kernel_rfl] at r1
  obtain ⟨_, _, t2⟩ := h2 2 2 9 rfl
  obtain ⟨x2, r2⟩ := (opens_fs ty9_ok.1) _ _ H _ _ _ _ _ _ hcov t2
  rw [show Try.prog.cellsOf 9 = 1 by kernel_rfl] at r2
  rw [show Try.prog.cellsOf 253 = 3 by kernel_rfl] at h1
  have key : gAtom.rd H ((cs.drop 0).take 3) ⟨x0, x1, x2⟩ := (pair_at (g := gS) (h := (SX.gPair gS gS)) (off := 0) r0 (pair_at (g := gS) (h := gS) (off := 1) r1 r2))
  rw [List.drop_zero, List.take_of_length_le (by omega)] at key
  exact ⟨_, key⟩
def zAtom : Atom := ⟨ByteArray.empty, ByteArray.empty, ByteArray.empty⟩
theorem zAtom_ow : gAtom.ow [.string .empty, .string .empty, .string .empty] zAtom [] := gAtom_ow.2 ⟨rfl, by simp, by first | (unfold okI; decide) | decide, by first | (unfold okI; decide) | decide, by first | (unfold okI; decide) | decide⟩
theorem gAtom_from : Fld gAtom gS (fun x => x.from') (fun x y => { x with from' := y }) 0 := (Fld.fst _ _).iso (fun _ => rfl) (fun _ _ => rfl)
theorem gAtom_path : Fld gAtom gS (fun x => x.path) (fun x y => { x with path := y }) 1 := ((Fld.snd _ _).comp (Fld.fst _ _)).iso (fun _ => rfl) (fun _ _ => rfl)
theorem gAtom_to : Fld gAtom gS (fun x => x.to) (fun x y => { x with to := y }) 2 := ((Fld.snd _ _).comp (Fld.snd _ _)).iso (fun _ => rfl) (fun _ _ => rfl)
theorem gAtom_sz (x : Atom) : gAtom.sz x = x.from'.size + (x.path.size + (x.to.size)) := rfl
theorem gAtom_cnt (x : Atom) : gAtom.cnt x = 1 + (1 + (1)) := rfl
theorem gAtom_cntV (x : Atom) : gAtom.cntV x = 0 + (0 + (0)) := rfl
theorem gAtom_mark (k : Int) (x : Atom) : gAtom.mark k x = ⟨mtx (k), mtx (k + 1), mtx (k + 1 + 1)⟩ := by
  have h : gAtom.mark k x = ⟨mtx (k), mtx ((k + ((1 : Nat) : Int))), mtx (((k + ((1 : Nat) : Int)) + ((1 : Nat) : Int)))⟩ := rfl
  rw [h] <;> simp
theorem gAtom_markV (k : Int) (x : Atom) : gAtom.markV k x = ⟨x.from', x.path, x.to⟩ := by
  have h : gAtom.markV k x = ⟨x.from', x.path, x.to⟩ := rfl
  rw [h] <;> simp
theorem Atom.eq_iff {x y : Atom} : x = y ↔ x.from' = y.from' ∧ x.path = y.path ∧ x.to = y.to := by cases x; cases y; simp
theorem gAtom_own {H : Hp} {l : List Value} {x : Atom} (h : gAtom.rd H l x) : gAtom.ow l x [] := by
  obtain ⟨rfl, w0, w1, w2⟩ := gAtom_rd.1 h
  exact gAtom_ow.2 ⟨rfl, by simp, w0, w1, w2⟩
--@gt impl.Atom | gAtom | default | obtain ⟨rfl, w0x#, w1x#, w2x#⟩ := gAtom_rd.1 hl# | 0 1 pr gAtom_from ; 1 1 pr gAtom_path ; 2 1 pr gAtom_to | 3 | gAtom_own ‹_›

structure Filter where
  left : ByteArray
  op : Int
  right : ByteArray
  num : Int
deriving DecidableEq, Inhabited
def gFilter : Gt Filter := gIso (SX.gPair gS (SX.gPair gI (SX.gPair gS gI))) (fun x => (x.left, (x.op, (x.right, x.num)))) (fun p => ⟨p.1, p.2.1, p.2.2.1, p.2.2.2⟩)
theorem gFilter_rd {H : Hp} {l : List Value} {x : Filter} : gFilter.rd H l x ↔ l = .string x.left :: .int .i64 x.op :: .string x.right :: .int .i64 x.num :: [] ∧ x.left.size ≤ 9223372036854775807 ∧ okI x.op ∧ x.right.size ≤ 9223372036854775807 ∧ okI x.num := by
  constructor
  · rintro ⟨m0, q0, rfl, h0, m1, q1, rfl, h1, m2, q2, rfl, h2, h3⟩
    obtain ⟨rfl, w0⟩ := h0
    obtain ⟨rfl, w1⟩ := h1
    obtain ⟨rfl, w2⟩ := h2
    obtain ⟨rfl, w3⟩ := h3
    exact ⟨rfl, w0, w1, w2, w3⟩
  · rintro ⟨rfl, w0, w1, w2, w3⟩
    exact ⟨[.string x.left], .int .i64 x.op :: .string x.right :: .int .i64 x.num :: [], rfl, ⟨rfl, w0⟩, ⟨[.int .i64 x.op], .string x.right :: .int .i64 x.num :: [], rfl, ⟨rfl, w1⟩, ⟨[.string x.right], [.int .i64 x.num], rfl, ⟨rfl, w2⟩, ⟨rfl, w3⟩⟩⟩⟩
open Classical in
theorem gFilter_ow {A : Hp} {l : List Value} {x : Filter} : gFilter.ow l x A ↔ l = .string x.left :: .int .i64 x.op :: .string x.right :: .int .i64 x.num :: [] ∧ A.Perm [] ∧ x.left.size ≤ 9223372036854775807 ∧ okI x.op ∧ x.right.size ≤ 9223372036854775807 ∧ okI x.num := by
  constructor
  · rintro ⟨m0, q0, D0, E0, rfl, p0, h0, m1, q1, D1, E1, rfl, p1, h1, m2, q2, D2, E2, rfl, p2, h2, h3⟩
    obtain ⟨rfl, w0, e0⟩ := h0
    subst e0
    obtain ⟨rfl, w1, e1⟩ := h1
    subst e1
    obtain ⟨rfl, w2, e2⟩ := h2
    subst e2
    obtain ⟨rfl, w3, e3⟩ := h3
    subst e3
    exact ⟨rfl, (perm_cnt fun a => by have e0 := p0.count_eq a; have e1 := p1.count_eq a; have e2 := p2.count_eq a; simp only [List.count_append, List.count_nil] at *; omega), w0, w1, w2, w3⟩
  · rintro ⟨rfl, hp, w0, w1, w2, w3⟩
    exact ⟨[.string x.left], .int .i64 x.op :: .string x.right :: .int .i64 x.num :: [], [], ([] ++ ([] ++ [])), rfl, (perm_cnt fun a => by have e := hp.count_eq a; simp only [List.count_append, List.count_nil] at *; omega), ⟨rfl, w0, rfl⟩, ⟨[.int .i64 x.op], .string x.right :: .int .i64 x.num :: [], [], ([] ++ []), rfl, .refl _, ⟨rfl, w1, rfl⟩, ⟨[.string x.right], [.int .i64 x.num], [], [], rfl, .refl _, ⟨rfl, w2, rfl⟩, ⟨rfl, w3, rfl⟩⟩⟩⟩
theorem opens_Filter : Opens Try.prog gFilter.toRp 256 := by
  intro H' enc w H sp hd fuel cs d ps hcov ht
  obtain ⟨h1, h2⟩ := trod_fields ty256_ok.1 ht
  obtain ⟨_, _, t0⟩ := h2 0 0 9 rfl
  obtain ⟨x0, r0⟩ := (opens_fs ty9_ok.1) _ _ H _ _ _ _ _ _ hcov t0
  rw [show Try.prog.cellsOf 9 = 1 by kernel_rfl] at r0
  obtain ⟨_, _, t1⟩ := h2 1 1 3 rfl
  obtain ⟨x1, r1⟩ := (opens_fi ty3_ok.1) _ _ H _ _ _ _ _ _ hcov t1
  rw [show Try.prog.cellsOf 3 = 1 by kernel_rfl] at r1
  obtain ⟨_, _, t2⟩ := h2 2 2 9 rfl
  obtain ⟨x2, r2⟩ := (opens_fs ty9_ok.1) _ _ H _ _ _ _ _ _ hcov t2
  rw [show Try.prog.cellsOf 9 = 1 by kernel_rfl] at r2
  obtain ⟨_, _, t3⟩ := h2 3 3 3 rfl
  obtain ⟨x3, r3⟩ := (opens_fi ty3_ok.1) _ _ H _ _ _ _ _ _ hcov t3
  rw [show Try.prog.cellsOf 3 = 1 by kernel_rfl] at r3
  rw [show Try.prog.cellsOf 256 = 4 by kernel_rfl] at h1
  have key : gFilter.rd H ((cs.drop 0).take 4) ⟨x0, x1, x2, x3⟩ := (pair_at (g := gS) (h := (SX.gPair gI (SX.gPair gS gI))) (off := 0) r0 (pair_at (g := gI) (h := (SX.gPair gS gI)) (off := 1) r1 (pair_at (g := gS) (h := gI) (off := 2) r2 r3)))
  rw [List.drop_zero, List.take_of_length_le (by omega)] at key
  exact ⟨_, key⟩
def zFilter : Filter := ⟨ByteArray.empty, 0, ByteArray.empty, 0⟩
theorem zFilter_ow : gFilter.ow [.string .empty, .int .i64 0, .string .empty, .int .i64 0] zFilter [] := gFilter_ow.2 ⟨rfl, by simp, by first | (unfold okI; decide) | decide, by first | (unfold okI; decide) | decide, by first | (unfold okI; decide) | decide, by first | (unfold okI; decide) | decide⟩
theorem gFilter_left : Fld gFilter gS (fun x => x.left) (fun x y => { x with left := y }) 0 := (Fld.fst _ _).iso (fun _ => rfl) (fun _ _ => rfl)
theorem gFilter_op : Fld gFilter gI (fun x => x.op) (fun x y => { x with op := y }) 1 := ((Fld.snd _ _).comp (Fld.fst _ _)).iso (fun _ => rfl) (fun _ _ => rfl)
theorem gFilter_right : Fld gFilter gS (fun x => x.right) (fun x y => { x with right := y }) 2 := ((Fld.snd _ _).comp ((Fld.snd _ _).comp (Fld.fst _ _))).iso (fun _ => rfl) (fun _ _ => rfl)
theorem gFilter_num : Fld gFilter gI (fun x => x.num) (fun x y => { x with num := y }) 3 := ((Fld.snd _ _).comp ((Fld.snd _ _).comp (Fld.snd _ _))).iso (fun _ => rfl) (fun _ _ => rfl)
theorem gFilter_sz (x : Filter) : gFilter.sz x = x.left.size + (0 + (x.right.size + (0))) := rfl
theorem gFilter_cnt (x : Filter) : gFilter.cnt x = 1 + (1 + (1 + (1))) := rfl
theorem gFilter_cntV (x : Filter) : gFilter.cntV x = 0 + (0 + (0 + (0))) := rfl
theorem gFilter_mark (k : Int) (x : Filter) : gFilter.mark k x = ⟨mtx (k), k + 1, mtx (k + 1 + 1), k + 1 + 1 + 1⟩ := by
  have h : gFilter.mark k x = ⟨mtx (k), (k + ((1 : Nat) : Int)), mtx (((k + ((1 : Nat) : Int)) + ((1 : Nat) : Int))), (((k + ((1 : Nat) : Int)) + ((1 : Nat) : Int)) + ((1 : Nat) : Int))⟩ := rfl
  rw [h] <;> simp
theorem gFilter_markV (k : Int) (x : Filter) : gFilter.markV k x = ⟨x.left, x.op, x.right, x.num⟩ := by
  have h : gFilter.markV k x = ⟨x.left, x.op, x.right, x.num⟩ := rfl
  rw [h] <;> simp
theorem Filter.eq_iff {x y : Filter} : x = y ↔ x.left = y.left ∧ x.op = y.op ∧ x.right = y.right ∧ x.num = y.num := by cases x; cases y; simp
theorem gFilter_own {H : Hp} {l : List Value} {x : Filter} (h : gFilter.rd H l x) : gFilter.ow l x [] := by
  obtain ⟨rfl, w0, w1, w2, w3⟩ := gFilter_rd.1 h
  exact gFilter_ow.2 ⟨rfl, by simp, w0, w1, w2, w3⟩
--@gt impl.Filter | gFilter | default | obtain ⟨rfl, w0x#, w1x#, w2x#, w3x#⟩ := gFilter_rd.1 hl# | 0 1 pr gFilter_left ; 1 1 pr gFilter_op ; 2 1 pr gFilter_right ; 3 1 pr gFilter_num | 4 | gFilter_own ‹_›

structure Query where
  each : Bool
  out : List ByteArray
  atoms : List Atom
  filters : List Filter
deriving DecidableEq, Inhabited
def gQuery : Gt Query := gIso (SX.gPair gB (SX.gPair (gSl 9 gS) (SX.gPair (gSl 147 gAtom) (gSl 258 gFilter)))) (fun x => (x.each, (x.out, (x.atoms, x.filters)))) (fun p => ⟨p.1, p.2.1, p.2.2.1, p.2.2.2⟩)
theorem gQuery_rd {H : Hp} {l : List Value} {x : Query} : gQuery.rd H l x ↔ ∃ (b1 : Option Addr) (c1 : Nat) (b2 : Option Addr) (c2 : Nat) (b3 : Option Addr) (c3 : Nat), l = .bool x.each :: .slice b1 x.out.length c1 :: .slice b2 x.atoms.length c2 :: .slice b3 x.filters.length c3 :: [] ∧ (gSl 9 gS).rd H [.slice b1 x.out.length c1] x.out ∧ (gSl 147 gAtom).rd H [.slice b2 x.atoms.length c2] x.atoms ∧ (gSl 258 gFilter).rd H [.slice b3 x.filters.length c3] x.filters := by
  constructor
  · rintro ⟨m0, q0, rfl, h0, m1, q1, rfl, h1, m2, q2, rfl, h2, h3⟩
    obtain ⟨rfl, w0⟩ := h0
    obtain ⟨b1, c1, rfl, h1⟩ := sl_rd h1
    obtain ⟨b2, c2, rfl, h2⟩ := sl_rd h2
    obtain ⟨b3, c3, rfl, h3⟩ := sl_rd h3
    exact ⟨b1, c1, b2, c2, b3, c3, rfl, h1, h2, h3⟩
  · rintro ⟨b1, c1, b2, c2, b3, c3, rfl, h1, h2, h3⟩
    exact ⟨[.bool x.each], .slice b1 x.out.length c1 :: .slice b2 x.atoms.length c2 :: .slice b3 x.filters.length c3 :: [], rfl, ⟨rfl, trivial⟩, ⟨[.slice b1 x.out.length c1], .slice b2 x.atoms.length c2 :: .slice b3 x.filters.length c3 :: [], rfl, h1, ⟨[.slice b2 x.atoms.length c2], [.slice b3 x.filters.length c3], rfl, h2, h3⟩⟩⟩
open Classical in
theorem gQuery_ow {A : Hp} {l : List Value} {x : Query} : gQuery.ow l x A ↔ ∃ (b1 : Option Addr) (c1 : Nat) (A1 : Hp) (b2 : Option Addr) (c2 : Nat) (A2 : Hp) (b3 : Option Addr) (c3 : Nat) (A3 : Hp), l = .bool x.each :: .slice b1 x.out.length c1 :: .slice b2 x.atoms.length c2 :: .slice b3 x.filters.length c3 :: [] ∧ A.Perm (A1 ++ (A2 ++ A3)) ∧ (gSl 9 gS).ow [.slice b1 x.out.length c1] x.out A1 ∧ (gSl 147 gAtom).ow [.slice b2 x.atoms.length c2] x.atoms A2 ∧ (gSl 258 gFilter).ow [.slice b3 x.filters.length c3] x.filters A3 := by
  constructor
  · rintro ⟨m0, q0, D0, E0, rfl, p0, h0, m1, q1, D1, E1, rfl, p1, h1, m2, q2, D2, E2, rfl, p2, h2, h3⟩
    obtain ⟨rfl, w0, e0⟩ := h0
    subst e0
    obtain ⟨b1, c1, rfl, h1⟩ := sl_ow h1
    obtain ⟨b2, c2, rfl, h2⟩ := sl_ow h2
    obtain ⟨b3, c3, rfl, h3⟩ := sl_ow h3
    exact ⟨b1, c1, D1, b2, c2, D2, b3, c3, E2, rfl, (perm_cnt fun a => by have e0 := p0.count_eq a; have e1 := p1.count_eq a; have e2 := p2.count_eq a; simp only [List.count_append, List.count_nil] at *; omega), h1, h2, h3⟩
  · rintro ⟨b1, c1, A1, b2, c2, A2, b3, c3, A3, rfl, hp, h1, h2, h3⟩
    exact ⟨[.bool x.each], .slice b1 x.out.length c1 :: .slice b2 x.atoms.length c2 :: .slice b3 x.filters.length c3 :: [], [], (A1 ++ (A2 ++ A3)), rfl, (perm_cnt fun a => by have e := hp.count_eq a; simp only [List.count_append, List.count_nil] at *; omega), ⟨rfl, trivial, rfl⟩, ⟨[.slice b1 x.out.length c1], .slice b2 x.atoms.length c2 :: .slice b3 x.filters.length c3 :: [], A1, (A2 ++ A3), rfl, .refl _, h1, ⟨[.slice b2 x.atoms.length c2], [.slice b3 x.filters.length c3], A2, A3, rfl, .refl _, h2, h3⟩⟩⟩
theorem opens_Query : Opens Try.prog gQuery.toRp 71 := by
  intro H' enc w H sp hd fuel cs d ps hcov ht
  obtain ⟨h1, h2⟩ := trod_fields ty71_ok.1 ht
  obtain ⟨_, _, t0⟩ := h2 0 0 4 rfl
  obtain ⟨x0, r0⟩ := (opens_fb ty4_ok.1) _ _ H _ _ _ _ _ _ hcov t0
  rw [show Try.prog.cellsOf 4 = 1 by kernel_rfl] at r0
  obtain ⟨_, _, t1⟩ := h2 1 1 27 rfl
  obtain ⟨x1, r1⟩ := (opens_sl ty27_ok.1 (by kernel_rfl) (by decide) (opens_fs ty9_ok.1)) _ _ H _ _ _ _ _ _ hcov t1
  rw [show Try.prog.cellsOf 27 = 1 by kernel_rfl] at r1
  obtain ⟨_, _, t2⟩ := h2 2 2 68 rfl
  obtain ⟨x2, r2⟩ := (opens_sl ty68_ok.1 (by kernel_rfl) (by decide) opens_Atom) _ _ H _ _ _ _ _ _ hcov t2
  rw [show Try.prog.cellsOf 68 = 1 by kernel_rfl] at r2
  obtain ⟨_, _, t3⟩ := h2 3 3 69 rfl
  obtain ⟨x3, r3⟩ := (opens_sl ty69_ok.1 (by kernel_rfl) (by decide) opens_Filter) _ _ H _ _ _ _ _ _ hcov t3
  rw [show Try.prog.cellsOf 69 = 1 by kernel_rfl] at r3
  rw [show Try.prog.cellsOf 71 = 4 by kernel_rfl] at h1
  have key : gQuery.rd H ((cs.drop 0).take 4) ⟨x0, x1, x2, x3⟩ := (pair_at (g := gB) (h := (SX.gPair (gSl 9 gS) (SX.gPair (gSl 147 gAtom) (gSl 258 gFilter)))) (off := 0) r0 (pair_at (g := (gSl 9 gS)) (h := (SX.gPair (gSl 147 gAtom) (gSl 258 gFilter))) (off := 1) r1 (pair_at (g := (gSl 147 gAtom)) (h := (gSl 258 gFilter)) (off := 2) r2 r3)))
  rw [List.drop_zero, List.take_of_length_le (by omega)] at key
  exact ⟨_, key⟩
def zQuery : Query := ⟨false, [], [], []⟩
theorem zQuery_ow : gQuery.ow [.bool false, .slice none 0 0, .slice none 0 0, .slice none 0 0] zQuery [] := gQuery_ow.2 ⟨none, 0, [], none, 0, [], none, 0, [], rfl, by simp, sl_nil _ _ _, sl_nil _ _ _, sl_nil _ _ _⟩
theorem gQuery_each : Fld gQuery gB (fun x => x.each) (fun x y => { x with each := y }) 0 := (Fld.fst _ _).iso (fun _ => rfl) (fun _ _ => rfl)
theorem gQuery_out : Fld gQuery (gSl 9 gS) (fun x => x.out) (fun x y => { x with out := y }) 1 := ((Fld.snd _ _).comp (Fld.fst _ _)).iso (fun _ => rfl) (fun _ _ => rfl)
theorem gQuery_atoms : Fld gQuery (gSl 147 gAtom) (fun x => x.atoms) (fun x y => { x with atoms := y }) 2 := ((Fld.snd _ _).comp ((Fld.snd _ _).comp (Fld.fst _ _))).iso (fun _ => rfl) (fun _ _ => rfl)
theorem gQuery_filters : Fld gQuery (gSl 258 gFilter) (fun x => x.filters) (fun x y => { x with filters := y }) 3 := ((Fld.snd _ _).comp ((Fld.snd _ _).comp (Fld.snd _ _))).iso (fun _ => rfl) (fun _ _ => rfl)
theorem gQuery_sz (x : Query) : gQuery.sz x = 0 + (szL gS x.out + (szL gAtom x.atoms + (szL gFilter x.filters))) := rfl
theorem gQuery_cnt (x : Query) : gQuery.cnt x = 1 + (cntL gS x.out + (cntL gAtom x.atoms + (cntL gFilter x.filters))) := rfl
theorem gQuery_cntV (x : Query) : gQuery.cntV x = 0 + (cntL gS x.out + (cntL gAtom x.atoms + (cntL gFilter x.filters))) := rfl
theorem gQuery_mark (k : Int) (x : Query) : gQuery.mark k x = ⟨(k).tmod 3 == 0, mkL gS (k + 1) x.out, mkL gAtom (k + 1 + cntL gS x.out) x.atoms, mkL gFilter (k + 1 + cntL gS x.out + cntL gAtom x.atoms) x.filters⟩ := by
  have h : gQuery.mark k x = ⟨(k).tmod 3 == 0, mkL gS ((k + ((1 : Nat) : Int))) x.out, mkL gAtom (((k + ((1 : Nat) : Int)) + ((cntL gS x.out : Nat) : Int))) x.atoms, mkL gFilter ((((k + ((1 : Nat) : Int)) + ((cntL gS x.out : Nat) : Int)) + ((cntL gAtom x.atoms : Nat) : Int))) x.filters⟩ := rfl
  rw [h] <;> simp
theorem gQuery_markV (k : Int) (x : Query) : gQuery.markV k x = ⟨x.each, mkL gS (k) x.out, mkL gAtom (k + cntL gS x.out) x.atoms, mkL gFilter (k + cntL gS x.out + cntL gAtom x.atoms) x.filters⟩ := by
  have h : gQuery.markV k x = ⟨x.each, mkL gS ((k + ((0 : Nat) : Int))) x.out, mkL gAtom (((k + ((0 : Nat) : Int)) + ((cntL gS x.out : Nat) : Int))) x.atoms, mkL gFilter ((((k + ((0 : Nat) : Int)) + ((cntL gS x.out : Nat) : Int)) + ((cntL gAtom x.atoms : Nat) : Int))) x.filters⟩ := rfl
  rw [h] <;> simp
theorem Query.eq_iff {x y : Query} : x = y ↔ x.each = y.each ∧ x.out = y.out ∧ x.atoms = y.atoms ∧ x.filters = y.filters := by cases x; cases y; simp
--@gt impl.Query | gQuery | default | obtain ⟨b1x#, c1x#, b2x#, c2x#, b3x#, c3x#, rfl, h1x#, h2x#, h3x#⟩ := gQuery_rd.1 hl# | 0 1 pr gQuery_each ; 1 1 sl gQuery_out ; 2 1 sl gQuery_atoms ; 3 1 sl gQuery_filters | 4 | 

structure File where
  name : ByteArray
  text : ByteArray
  kept : Int
deriving DecidableEq, Inhabited
def gFile : Gt File := gIso (SX.gPair gS (SX.gPair gS gI)) (fun x => (x.name, (x.text, x.kept))) (fun p => ⟨p.1, p.2.1, p.2.2⟩)
theorem gFile_rd {H : Hp} {l : List Value} {x : File} : gFile.rd H l x ↔ l = .string x.name :: .string x.text :: .int .i64 x.kept :: [] ∧ x.name.size ≤ 9223372036854775807 ∧ x.text.size ≤ 9223372036854775807 ∧ okI x.kept := by
  constructor
  · rintro ⟨m0, q0, rfl, h0, m1, q1, rfl, h1, h2⟩
    obtain ⟨rfl, w0⟩ := h0
    obtain ⟨rfl, w1⟩ := h1
    obtain ⟨rfl, w2⟩ := h2
    exact ⟨rfl, w0, w1, w2⟩
  · rintro ⟨rfl, w0, w1, w2⟩
    exact ⟨[.string x.name], .string x.text :: .int .i64 x.kept :: [], rfl, ⟨rfl, w0⟩, ⟨[.string x.text], [.int .i64 x.kept], rfl, ⟨rfl, w1⟩, ⟨rfl, w2⟩⟩⟩
open Classical in
theorem gFile_ow {A : Hp} {l : List Value} {x : File} : gFile.ow l x A ↔ l = .string x.name :: .string x.text :: .int .i64 x.kept :: [] ∧ A.Perm [] ∧ x.name.size ≤ 9223372036854775807 ∧ x.text.size ≤ 9223372036854775807 ∧ okI x.kept := by
  constructor
  · rintro ⟨m0, q0, D0, E0, rfl, p0, h0, m1, q1, D1, E1, rfl, p1, h1, h2⟩
    obtain ⟨rfl, w0, e0⟩ := h0
    subst e0
    obtain ⟨rfl, w1, e1⟩ := h1
    subst e1
    obtain ⟨rfl, w2, e2⟩ := h2
    subst e2
    exact ⟨rfl, (perm_cnt fun a => by have e0 := p0.count_eq a; have e1 := p1.count_eq a; simp only [List.count_append, List.count_nil] at *; omega), w0, w1, w2⟩
  · rintro ⟨rfl, hp, w0, w1, w2⟩
    exact ⟨[.string x.name], .string x.text :: .int .i64 x.kept :: [], [], ([] ++ []), rfl, (perm_cnt fun a => by have e := hp.count_eq a; simp only [List.count_append, List.count_nil] at *; omega), ⟨rfl, w0, rfl⟩, ⟨[.string x.text], [.int .i64 x.kept], [], [], rfl, .refl _, ⟨rfl, w1, rfl⟩, ⟨rfl, w2, rfl⟩⟩⟩
theorem opens_File : Opens Try.prog gFile.toRp 237 := by
  intro H' enc w H sp hd fuel cs d ps hcov ht
  obtain ⟨h1, h2⟩ := trod_fields ty237_ok.1 ht
  obtain ⟨_, _, t0⟩ := h2 0 0 9 rfl
  obtain ⟨x0, r0⟩ := (opens_fs ty9_ok.1) _ _ H _ _ _ _ _ _ hcov t0
  rw [show Try.prog.cellsOf 9 = 1 by kernel_rfl] at r0
  obtain ⟨_, _, t1⟩ := h2 1 1 9 rfl
  obtain ⟨x1, r1⟩ := (opens_fs ty9_ok.1) _ _ H _ _ _ _ _ _ hcov t1
  rw [show Try.prog.cellsOf 9 = 1 by kernel_rfl] at r1
  obtain ⟨_, _, t2⟩ := h2 2 2 3 rfl
  obtain ⟨x2, r2⟩ := (opens_fi ty3_ok.1) _ _ H _ _ _ _ _ _ hcov t2
  rw [show Try.prog.cellsOf 3 = 1 by kernel_rfl] at r2
  rw [show Try.prog.cellsOf 237 = 3 by kernel_rfl] at h1
  have key : gFile.rd H ((cs.drop 0).take 3) ⟨x0, x1, x2⟩ := (pair_at (g := gS) (h := (SX.gPair gS gI)) (off := 0) r0 (pair_at (g := gS) (h := gI) (off := 1) r1 r2))
  rw [List.drop_zero, List.take_of_length_le (by omega)] at key
  exact ⟨_, key⟩
def zFile : File := ⟨ByteArray.empty, ByteArray.empty, 0⟩
theorem zFile_ow : gFile.ow [.string .empty, .string .empty, .int .i64 0] zFile [] := gFile_ow.2 ⟨rfl, by simp, by first | (unfold okI; decide) | decide, by first | (unfold okI; decide) | decide, by first | (unfold okI; decide) | decide⟩
theorem gFile_name : Fld gFile gS (fun x => x.name) (fun x y => { x with name := y }) 0 := (Fld.fst _ _).iso (fun _ => rfl) (fun _ _ => rfl)
theorem gFile_text : Fld gFile gS (fun x => x.text) (fun x y => { x with text := y }) 1 := ((Fld.snd _ _).comp (Fld.fst _ _)).iso (fun _ => rfl) (fun _ _ => rfl)
theorem gFile_kept : Fld gFile gI (fun x => x.kept) (fun x y => { x with kept := y }) 2 := ((Fld.snd _ _).comp (Fld.snd _ _)).iso (fun _ => rfl) (fun _ _ => rfl)
theorem gFile_sz (x : File) : gFile.sz x = x.name.size + (x.text.size + (0)) := rfl
theorem gFile_cnt (x : File) : gFile.cnt x = 1 + (1 + (1)) := rfl
theorem gFile_cntV (x : File) : gFile.cntV x = 0 + (0 + (0)) := rfl
theorem gFile_mark (k : Int) (x : File) : gFile.mark k x = ⟨mtx (k), mtx (k + 1), k + 1 + 1⟩ := by
  have h : gFile.mark k x = ⟨mtx (k), mtx ((k + ((1 : Nat) : Int))), ((k + ((1 : Nat) : Int)) + ((1 : Nat) : Int))⟩ := rfl
  rw [h] <;> simp
theorem gFile_markV (k : Int) (x : File) : gFile.markV k x = ⟨x.name, x.text, x.kept⟩ := by
  have h : gFile.markV k x = ⟨x.name, x.text, x.kept⟩ := rfl
  rw [h] <;> simp
theorem File.eq_iff {x y : File} : x = y ↔ x.name = y.name ∧ x.text = y.text ∧ x.kept = y.kept := by cases x; cases y; simp
theorem gFile_own {H : Hp} {l : List Value} {x : File} (h : gFile.rd H l x) : gFile.ow l x [] := by
  obtain ⟨rfl, w0, w1, w2⟩ := gFile_rd.1 h
  exact gFile_ow.2 ⟨rfl, by simp, w0, w1, w2⟩
--@gt impl.File | gFile | default | obtain ⟨rfl, w0x#, w1x#, w2x#⟩ := gFile_rd.1 hl# | 0 1 pr gFile_name ; 1 1 pr gFile_text ; 2 1 pr gFile_kept | 3 | gFile_own ‹_›

structure Disk where
  files : List File
deriving DecidableEq, Inhabited
def gDisk : Gt Disk := gIso (gSl 199 gFile) (fun x => x.files) (fun p => ⟨p⟩)
theorem gDisk_rd {H : Hp} {l : List Value} {x : Disk} : gDisk.rd H l x ↔ ∃ (b0 : Option Addr) (c0 : Nat), l = .slice b0 x.files.length c0 :: [] ∧ (gSl 199 gFile).rd H [.slice b0 x.files.length c0] x.files := by
  constructor
  · rintro h0
    obtain ⟨b0, c0, rfl, h0⟩ := sl_rd h0
    exact ⟨b0, c0, rfl, h0⟩
  · rintro ⟨b0, c0, rfl, h0⟩
    exact h0
open Classical in
theorem gDisk_ow {A : Hp} {l : List Value} {x : Disk} : gDisk.ow l x A ↔ ∃ (b0 : Option Addr) (c0 : Nat) (A0 : Hp), l = .slice b0 x.files.length c0 :: [] ∧ A.Perm A0 ∧ (gSl 199 gFile).ow [.slice b0 x.files.length c0] x.files A0 := by
  constructor
  · rintro h0
    obtain ⟨b0, c0, rfl, h0⟩ := sl_ow h0
    exact ⟨b0, c0, A, rfl, .refl _, h0⟩
  · rintro ⟨b0, c0, A0, rfl, hp, h0⟩
    exact gDisk.owp (l := _) (x := x) h0 hp
theorem opens_Disk : Opens Try.prog gDisk.toRp 123 := by
  intro H' enc w H sp hd fuel cs d ps hcov ht
  obtain ⟨h1, h2⟩ := trod_fields ty123_ok.1 ht
  obtain ⟨_, _, t0⟩ := h2 0 0 121 rfl
  obtain ⟨x0, r0⟩ := (opens_sl ty121_ok.1 (by kernel_rfl) (by decide) opens_File) _ _ H _ _ _ _ _ _ hcov t0
  rw [show Try.prog.cellsOf 121 = 1 by kernel_rfl] at r0
  rw [show Try.prog.cellsOf 123 = 1 by kernel_rfl] at h1
  have key : gDisk.rd H ((cs.drop 0).take 1) ⟨x0⟩ := r0
  rw [List.drop_zero, List.take_of_length_le (by omega)] at key
  exact ⟨_, key⟩
def zDisk : Disk := ⟨[]⟩
theorem zDisk_ow : gDisk.ow [.slice none 0 0] zDisk [] := gDisk_ow.2 ⟨none, 0, [], rfl, by simp, sl_nil _ _ _⟩
theorem gDisk_files : Fld gDisk (gSl 199 gFile) (fun x => x.files) (fun x y => { x with files := y }) 0 := (Fld.id _).iso (fun _ => rfl) (fun _ _ => rfl)
theorem gDisk_sz (x : Disk) : gDisk.sz x = szL gFile x.files := rfl
theorem gDisk_cnt (x : Disk) : gDisk.cnt x = cntL gFile x.files := rfl
theorem gDisk_cntV (x : Disk) : gDisk.cntV x = cntL gFile x.files := rfl
theorem gDisk_mark (k : Int) (x : Disk) : gDisk.mark k x = ⟨mkL gFile (k) x.files⟩ := by
  have h : gDisk.mark k x = ⟨mkL gFile (k) x.files⟩ := rfl
  rw [h] <;> simp
theorem gDisk_markV (k : Int) (x : Disk) : gDisk.markV k x = ⟨mkL gFile (k) x.files⟩ := by
  have h : gDisk.markV k x = ⟨mkL gFile (k) x.files⟩ := rfl
  rw [h] <;> simp
theorem Disk.eq_iff {x y : Disk} : x = y ↔ x.files = y.files := by cases x; cases y; simp
--@gt impl.Disk | gDisk | default | obtain ⟨b0x#, c0x#, rfl, h0x#⟩ := gDisk_rd.1 hl# | 0 1 sl gDisk_files | 1 | 

structure Link where
  sent : List ByteArray
  acked : Int
  took : Int
deriving DecidableEq, Inhabited
def gLink : Gt Link := gIso (SX.gPair (gSl 9 gS) (SX.gPair gI gI)) (fun x => (x.sent, (x.acked, x.took))) (fun p => ⟨p.1, p.2.1, p.2.2⟩)
theorem gLink_rd {H : Hp} {l : List Value} {x : Link} : gLink.rd H l x ↔ ∃ (b0 : Option Addr) (c0 : Nat), l = .slice b0 x.sent.length c0 :: .int .i64 x.acked :: .int .i64 x.took :: [] ∧ (gSl 9 gS).rd H [.slice b0 x.sent.length c0] x.sent ∧ okI x.acked ∧ okI x.took := by
  constructor
  · rintro ⟨m0, q0, rfl, h0, m1, q1, rfl, h1, h2⟩
    obtain ⟨b0, c0, rfl, h0⟩ := sl_rd h0
    obtain ⟨rfl, w1⟩ := h1
    obtain ⟨rfl, w2⟩ := h2
    exact ⟨b0, c0, rfl, h0, w1, w2⟩
  · rintro ⟨b0, c0, rfl, h0, w1, w2⟩
    exact ⟨[.slice b0 x.sent.length c0], .int .i64 x.acked :: .int .i64 x.took :: [], rfl, h0, ⟨[.int .i64 x.acked], [.int .i64 x.took], rfl, ⟨rfl, w1⟩, ⟨rfl, w2⟩⟩⟩
open Classical in
theorem gLink_ow {A : Hp} {l : List Value} {x : Link} : gLink.ow l x A ↔ ∃ (b0 : Option Addr) (c0 : Nat) (A0 : Hp), l = .slice b0 x.sent.length c0 :: .int .i64 x.acked :: .int .i64 x.took :: [] ∧ A.Perm A0 ∧ (gSl 9 gS).ow [.slice b0 x.sent.length c0] x.sent A0 ∧ okI x.acked ∧ okI x.took := by
  constructor
  · rintro ⟨m0, q0, D0, E0, rfl, p0, h0, m1, q1, D1, E1, rfl, p1, h1, h2⟩
    obtain ⟨b0, c0, rfl, h0⟩ := sl_ow h0
    obtain ⟨rfl, w1, e1⟩ := h1
    subst e1
    obtain ⟨rfl, w2, e2⟩ := h2
    subst e2
    exact ⟨b0, c0, D0, rfl, (perm_cnt fun a => by have e0 := p0.count_eq a; have e1 := p1.count_eq a; simp only [List.count_append, List.count_nil] at *; omega), h0, w1, w2⟩
  · rintro ⟨b0, c0, A0, rfl, hp, h0, w1, w2⟩
    exact ⟨[.slice b0 x.sent.length c0], .int .i64 x.acked :: .int .i64 x.took :: [], A0, ([] ++ []), rfl, (perm_cnt fun a => by have e := hp.count_eq a; simp only [List.count_append, List.count_nil] at *; omega), h0, ⟨[.int .i64 x.acked], [.int .i64 x.took], [], [], rfl, .refl _, ⟨rfl, w1, rfl⟩, ⟨rfl, w2, rfl⟩⟩⟩
def zLink : Link := ⟨[], 0, 0⟩
theorem zLink_ow : gLink.ow [.slice none 0 0, .int .i64 0, .int .i64 0] zLink [] := gLink_ow.2 ⟨none, 0, [], rfl, by simp, sl_nil _ _ _, by first | (unfold okI; decide) | decide, by first | (unfold okI; decide) | decide⟩
theorem gLink_sent : Fld gLink (gSl 9 gS) (fun x => x.sent) (fun x y => { x with sent := y }) 0 := (Fld.fst _ _).iso (fun _ => rfl) (fun _ _ => rfl)
theorem gLink_acked : Fld gLink gI (fun x => x.acked) (fun x y => { x with acked := y }) 1 := ((Fld.snd _ _).comp (Fld.fst _ _)).iso (fun _ => rfl) (fun _ _ => rfl)
theorem gLink_took : Fld gLink gI (fun x => x.took) (fun x y => { x with took := y }) 2 := ((Fld.snd _ _).comp (Fld.snd _ _)).iso (fun _ => rfl) (fun _ _ => rfl)
theorem gLink_sz (x : Link) : gLink.sz x = szL gS x.sent + (0 + (0)) := rfl
theorem gLink_cnt (x : Link) : gLink.cnt x = cntL gS x.sent + (1 + (1)) := rfl
theorem gLink_cntV (x : Link) : gLink.cntV x = cntL gS x.sent + (0 + (0)) := rfl
theorem gLink_mark (k : Int) (x : Link) : gLink.mark k x = ⟨mkL gS (k) x.sent, k + cntL gS x.sent, k + cntL gS x.sent + 1⟩ := by
  have h : gLink.mark k x = ⟨mkL gS (k) x.sent, (k + ((cntL gS x.sent : Nat) : Int)), ((k + ((cntL gS x.sent : Nat) : Int)) + ((1 : Nat) : Int))⟩ := rfl
  rw [h] <;> simp
theorem gLink_markV (k : Int) (x : Link) : gLink.markV k x = ⟨mkL gS (k) x.sent, x.acked, x.took⟩ := by
  have h : gLink.markV k x = ⟨mkL gS (k) x.sent, x.acked, x.took⟩ := rfl
  rw [h] <;> simp
theorem Link.eq_iff {x y : Link} : x = y ↔ x.sent = y.sent ∧ x.acked = y.acked ∧ x.took = y.took := by cases x; cases y; simp
--@gt impl.Link | gLink | default | obtain ⟨b0x#, c0x#, rfl, h0x#, w1x#, w2x#⟩ := gLink_rd.1 hl# | 0 1 sl gLink_sent ; 1 1 pr gLink_acked ; 2 1 pr gLink_took | 3 | 

structure Packet where
  epoch : Int
  from' : Int
  to : Int
  seq : Int
  ack : Int
  body : ByteArray
deriving DecidableEq, Inhabited
def gPacket : Gt Packet := gIso (SX.gPair gI (SX.gPair gI (SX.gPair gI (SX.gPair gI (SX.gPair gI gS))))) (fun x => (x.epoch, (x.from', (x.to, (x.seq, (x.ack, x.body)))))) (fun p => ⟨p.1, p.2.1, p.2.2.1, p.2.2.2.1, p.2.2.2.2.1, p.2.2.2.2.2⟩)
theorem gPacket_rd {H : Hp} {l : List Value} {x : Packet} : gPacket.rd H l x ↔ l = .int .i64 x.epoch :: .int .i64 x.from' :: .int .i64 x.to :: .int .i64 x.seq :: .int .i64 x.ack :: .string x.body :: [] ∧ okI x.epoch ∧ okI x.from' ∧ okI x.to ∧ okI x.seq ∧ okI x.ack ∧ x.body.size ≤ 9223372036854775807 := by
  constructor
  · rintro ⟨m0, q0, rfl, h0, m1, q1, rfl, h1, m2, q2, rfl, h2, m3, q3, rfl, h3, m4, q4, rfl, h4, h5⟩
    obtain ⟨rfl, w0⟩ := h0
    obtain ⟨rfl, w1⟩ := h1
    obtain ⟨rfl, w2⟩ := h2
    obtain ⟨rfl, w3⟩ := h3
    obtain ⟨rfl, w4⟩ := h4
    obtain ⟨rfl, w5⟩ := h5
    exact ⟨rfl, w0, w1, w2, w3, w4, w5⟩
  · rintro ⟨rfl, w0, w1, w2, w3, w4, w5⟩
    exact ⟨[.int .i64 x.epoch], .int .i64 x.from' :: .int .i64 x.to :: .int .i64 x.seq :: .int .i64 x.ack :: .string x.body :: [], rfl, ⟨rfl, w0⟩, ⟨[.int .i64 x.from'], .int .i64 x.to :: .int .i64 x.seq :: .int .i64 x.ack :: .string x.body :: [], rfl, ⟨rfl, w1⟩, ⟨[.int .i64 x.to], .int .i64 x.seq :: .int .i64 x.ack :: .string x.body :: [], rfl, ⟨rfl, w2⟩, ⟨[.int .i64 x.seq], .int .i64 x.ack :: .string x.body :: [], rfl, ⟨rfl, w3⟩, ⟨[.int .i64 x.ack], [.string x.body], rfl, ⟨rfl, w4⟩, ⟨rfl, w5⟩⟩⟩⟩⟩⟩
open Classical in
theorem gPacket_ow {A : Hp} {l : List Value} {x : Packet} : gPacket.ow l x A ↔ l = .int .i64 x.epoch :: .int .i64 x.from' :: .int .i64 x.to :: .int .i64 x.seq :: .int .i64 x.ack :: .string x.body :: [] ∧ A.Perm [] ∧ okI x.epoch ∧ okI x.from' ∧ okI x.to ∧ okI x.seq ∧ okI x.ack ∧ x.body.size ≤ 9223372036854775807 := by
  constructor
  · rintro ⟨m0, q0, D0, E0, rfl, p0, h0, m1, q1, D1, E1, rfl, p1, h1, m2, q2, D2, E2, rfl, p2, h2, m3, q3, D3, E3, rfl, p3, h3, m4, q4, D4, E4, rfl, p4, h4, h5⟩
    obtain ⟨rfl, w0, e0⟩ := h0
    subst e0
    obtain ⟨rfl, w1, e1⟩ := h1
    subst e1
    obtain ⟨rfl, w2, e2⟩ := h2
    subst e2
    obtain ⟨rfl, w3, e3⟩ := h3
    subst e3
    obtain ⟨rfl, w4, e4⟩ := h4
    subst e4
    obtain ⟨rfl, w5, e5⟩ := h5
    subst e5
    exact ⟨rfl, (perm_cnt fun a => by have e0 := p0.count_eq a; have e1 := p1.count_eq a; have e2 := p2.count_eq a; have e3 := p3.count_eq a; have e4 := p4.count_eq a; simp only [List.count_append, List.count_nil] at *; omega), w0, w1, w2, w3, w4, w5⟩
  · rintro ⟨rfl, hp, w0, w1, w2, w3, w4, w5⟩
    exact ⟨[.int .i64 x.epoch], .int .i64 x.from' :: .int .i64 x.to :: .int .i64 x.seq :: .int .i64 x.ack :: .string x.body :: [], [], ([] ++ ([] ++ ([] ++ ([] ++ [])))), rfl, (perm_cnt fun a => by have e := hp.count_eq a; simp only [List.count_append, List.count_nil] at *; omega), ⟨rfl, w0, rfl⟩, ⟨[.int .i64 x.from'], .int .i64 x.to :: .int .i64 x.seq :: .int .i64 x.ack :: .string x.body :: [], [], ([] ++ ([] ++ ([] ++ []))), rfl, .refl _, ⟨rfl, w1, rfl⟩, ⟨[.int .i64 x.to], .int .i64 x.seq :: .int .i64 x.ack :: .string x.body :: [], [], ([] ++ ([] ++ [])), rfl, .refl _, ⟨rfl, w2, rfl⟩, ⟨[.int .i64 x.seq], .int .i64 x.ack :: .string x.body :: [], [], ([] ++ []), rfl, .refl _, ⟨rfl, w3, rfl⟩, ⟨[.int .i64 x.ack], [.string x.body], [], [], rfl, .refl _, ⟨rfl, w4, rfl⟩, ⟨rfl, w5, rfl⟩⟩⟩⟩⟩⟩
def zPacket : Packet := ⟨0, 0, 0, 0, 0, ByteArray.empty⟩
theorem zPacket_ow : gPacket.ow [.int .i64 0, .int .i64 0, .int .i64 0, .int .i64 0, .int .i64 0, .string .empty] zPacket [] := gPacket_ow.2 ⟨rfl, by simp, by first | (unfold okI; decide) | decide, by first | (unfold okI; decide) | decide, by first | (unfold okI; decide) | decide, by first | (unfold okI; decide) | decide, by first | (unfold okI; decide) | decide, by first | (unfold okI; decide) | decide⟩
theorem gPacket_epoch : Fld gPacket gI (fun x => x.epoch) (fun x y => { x with epoch := y }) 0 := (Fld.fst _ _).iso (fun _ => rfl) (fun _ _ => rfl)
theorem gPacket_from : Fld gPacket gI (fun x => x.from') (fun x y => { x with from' := y }) 1 := ((Fld.snd _ _).comp (Fld.fst _ _)).iso (fun _ => rfl) (fun _ _ => rfl)
theorem gPacket_to : Fld gPacket gI (fun x => x.to) (fun x y => { x with to := y }) 2 := ((Fld.snd _ _).comp ((Fld.snd _ _).comp (Fld.fst _ _))).iso (fun _ => rfl) (fun _ _ => rfl)
theorem gPacket_seq : Fld gPacket gI (fun x => x.seq) (fun x y => { x with seq := y }) 3 := ((Fld.snd _ _).comp ((Fld.snd _ _).comp ((Fld.snd _ _).comp (Fld.fst _ _)))).iso (fun _ => rfl) (fun _ _ => rfl)
theorem gPacket_ack : Fld gPacket gI (fun x => x.ack) (fun x y => { x with ack := y }) 4 := ((Fld.snd _ _).comp ((Fld.snd _ _).comp ((Fld.snd _ _).comp ((Fld.snd _ _).comp (Fld.fst _ _))))).iso (fun _ => rfl) (fun _ _ => rfl)
theorem gPacket_body : Fld gPacket gS (fun x => x.body) (fun x y => { x with body := y }) 5 := ((Fld.snd _ _).comp ((Fld.snd _ _).comp ((Fld.snd _ _).comp ((Fld.snd _ _).comp (Fld.snd _ _))))).iso (fun _ => rfl) (fun _ _ => rfl)
theorem gPacket_sz (x : Packet) : gPacket.sz x = 0 + (0 + (0 + (0 + (0 + (x.body.size))))) := rfl
theorem gPacket_cnt (x : Packet) : gPacket.cnt x = 1 + (1 + (1 + (1 + (1 + (1))))) := rfl
theorem gPacket_cntV (x : Packet) : gPacket.cntV x = 0 + (0 + (0 + (0 + (0 + (0))))) := rfl
theorem gPacket_mark (k : Int) (x : Packet) : gPacket.mark k x = ⟨k, k + 1, k + 1 + 1, k + 1 + 1 + 1, k + 1 + 1 + 1 + 1, mtx (k + 1 + 1 + 1 + 1 + 1)⟩ := by
  have h : gPacket.mark k x = ⟨k, (k + ((1 : Nat) : Int)), ((k + ((1 : Nat) : Int)) + ((1 : Nat) : Int)), (((k + ((1 : Nat) : Int)) + ((1 : Nat) : Int)) + ((1 : Nat) : Int)), ((((k + ((1 : Nat) : Int)) + ((1 : Nat) : Int)) + ((1 : Nat) : Int)) + ((1 : Nat) : Int)), mtx ((((((k + ((1 : Nat) : Int)) + ((1 : Nat) : Int)) + ((1 : Nat) : Int)) + ((1 : Nat) : Int)) + ((1 : Nat) : Int)))⟩ := rfl
  rw [h] <;> simp
theorem gPacket_markV (k : Int) (x : Packet) : gPacket.markV k x = ⟨x.epoch, x.from', x.to, x.seq, x.ack, x.body⟩ := by
  have h : gPacket.markV k x = ⟨x.epoch, x.from', x.to, x.seq, x.ack, x.body⟩ := rfl
  rw [h] <;> simp
theorem Packet.eq_iff {x y : Packet} : x = y ↔ x.epoch = y.epoch ∧ x.from' = y.from' ∧ x.to = y.to ∧ x.seq = y.seq ∧ x.ack = y.ack ∧ x.body = y.body := by cases x; cases y; simp
theorem gPacket_own {H : Hp} {l : List Value} {x : Packet} (h : gPacket.rd H l x) : gPacket.ow l x [] := by
  obtain ⟨rfl, w0, w1, w2, w3, w4, w5⟩ := gPacket_rd.1 h
  exact gPacket_ow.2 ⟨rfl, by simp, w0, w1, w2, w3, w4, w5⟩
--@gt impl.Packet | gPacket | default | obtain ⟨rfl, w0x#, w1x#, w2x#, w3x#, w4x#, w5x#⟩ := gPacket_rd.1 hl# | 0 1 pr gPacket_epoch ; 1 1 pr gPacket_from ; 2 1 pr gPacket_to ; 3 1 pr gPacket_seq ; 4 1 pr gPacket_ack ; 5 1 pr gPacket_body | 6 | gPacket_own ‹_›

structure Push where
  kind : Int
  side : Int
  at' : Int
  text : ByteArray
deriving DecidableEq, Inhabited
def gPush : Gt Push := gIso (SX.gPair gI (SX.gPair gI (SX.gPair gI gS))) (fun x => (x.kind, (x.side, (x.at', x.text)))) (fun p => ⟨p.1, p.2.1, p.2.2.1, p.2.2.2⟩)
theorem gPush_rd {H : Hp} {l : List Value} {x : Push} : gPush.rd H l x ↔ l = .int .i64 x.kind :: .int .i64 x.side :: .int .i64 x.at' :: .string x.text :: [] ∧ okI x.kind ∧ okI x.side ∧ okI x.at' ∧ x.text.size ≤ 9223372036854775807 := by
  constructor
  · rintro ⟨m0, q0, rfl, h0, m1, q1, rfl, h1, m2, q2, rfl, h2, h3⟩
    obtain ⟨rfl, w0⟩ := h0
    obtain ⟨rfl, w1⟩ := h1
    obtain ⟨rfl, w2⟩ := h2
    obtain ⟨rfl, w3⟩ := h3
    exact ⟨rfl, w0, w1, w2, w3⟩
  · rintro ⟨rfl, w0, w1, w2, w3⟩
    exact ⟨[.int .i64 x.kind], .int .i64 x.side :: .int .i64 x.at' :: .string x.text :: [], rfl, ⟨rfl, w0⟩, ⟨[.int .i64 x.side], .int .i64 x.at' :: .string x.text :: [], rfl, ⟨rfl, w1⟩, ⟨[.int .i64 x.at'], [.string x.text], rfl, ⟨rfl, w2⟩, ⟨rfl, w3⟩⟩⟩⟩
open Classical in
theorem gPush_ow {A : Hp} {l : List Value} {x : Push} : gPush.ow l x A ↔ l = .int .i64 x.kind :: .int .i64 x.side :: .int .i64 x.at' :: .string x.text :: [] ∧ A.Perm [] ∧ okI x.kind ∧ okI x.side ∧ okI x.at' ∧ x.text.size ≤ 9223372036854775807 := by
  constructor
  · rintro ⟨m0, q0, D0, E0, rfl, p0, h0, m1, q1, D1, E1, rfl, p1, h1, m2, q2, D2, E2, rfl, p2, h2, h3⟩
    obtain ⟨rfl, w0, e0⟩ := h0
    subst e0
    obtain ⟨rfl, w1, e1⟩ := h1
    subst e1
    obtain ⟨rfl, w2, e2⟩ := h2
    subst e2
    obtain ⟨rfl, w3, e3⟩ := h3
    subst e3
    exact ⟨rfl, (perm_cnt fun a => by have e0 := p0.count_eq a; have e1 := p1.count_eq a; have e2 := p2.count_eq a; simp only [List.count_append, List.count_nil] at *; omega), w0, w1, w2, w3⟩
  · rintro ⟨rfl, hp, w0, w1, w2, w3⟩
    exact ⟨[.int .i64 x.kind], .int .i64 x.side :: .int .i64 x.at' :: .string x.text :: [], [], ([] ++ ([] ++ [])), rfl, (perm_cnt fun a => by have e := hp.count_eq a; simp only [List.count_append, List.count_nil] at *; omega), ⟨rfl, w0, rfl⟩, ⟨[.int .i64 x.side], .int .i64 x.at' :: .string x.text :: [], [], ([] ++ []), rfl, .refl _, ⟨rfl, w1, rfl⟩, ⟨[.int .i64 x.at'], [.string x.text], [], [], rfl, .refl _, ⟨rfl, w2, rfl⟩, ⟨rfl, w3, rfl⟩⟩⟩⟩
theorem opens_Push : Opens Try.prog gPush.toRp 110 := by
  intro H' enc w H sp hd fuel cs d ps hcov ht
  obtain ⟨h1, h2⟩ := trod_fields ty110_ok.1 ht
  obtain ⟨_, _, t0⟩ := h2 0 0 3 rfl
  obtain ⟨x0, r0⟩ := (opens_fi ty3_ok.1) _ _ H _ _ _ _ _ _ hcov t0
  rw [show Try.prog.cellsOf 3 = 1 by kernel_rfl] at r0
  obtain ⟨_, _, t1⟩ := h2 1 1 3 rfl
  obtain ⟨x1, r1⟩ := (opens_fi ty3_ok.1) _ _ H _ _ _ _ _ _ hcov t1
  rw [show Try.prog.cellsOf 3 = 1 by kernel_rfl] at r1
  obtain ⟨_, _, t2⟩ := h2 2 2 3 rfl
  obtain ⟨x2, r2⟩ := (opens_fi ty3_ok.1) _ _ H _ _ _ _ _ _ hcov t2
  rw [show Try.prog.cellsOf 3 = 1 by kernel_rfl] at r2
  obtain ⟨_, _, t3⟩ := h2 3 3 9 rfl
  obtain ⟨x3, r3⟩ := (opens_fs ty9_ok.1) _ _ H _ _ _ _ _ _ hcov t3
  rw [show Try.prog.cellsOf 9 = 1 by kernel_rfl] at r3
  rw [show Try.prog.cellsOf 110 = 4 by kernel_rfl] at h1
  have key : gPush.rd H ((cs.drop 0).take 4) ⟨x0, x1, x2, x3⟩ := (pair_at (g := gI) (h := (SX.gPair gI (SX.gPair gI gS))) (off := 0) r0 (pair_at (g := gI) (h := (SX.gPair gI gS)) (off := 1) r1 (pair_at (g := gI) (h := gS) (off := 2) r2 r3)))
  rw [List.drop_zero, List.take_of_length_le (by omega)] at key
  exact ⟨_, key⟩
def zPush : Push := ⟨0, 0, 0, ByteArray.empty⟩
theorem zPush_ow : gPush.ow [.int .i64 0, .int .i64 0, .int .i64 0, .string .empty] zPush [] := gPush_ow.2 ⟨rfl, by simp, by first | (unfold okI; decide) | decide, by first | (unfold okI; decide) | decide, by first | (unfold okI; decide) | decide, by first | (unfold okI; decide) | decide⟩
theorem gPush_kind : Fld gPush gI (fun x => x.kind) (fun x y => { x with kind := y }) 0 := (Fld.fst _ _).iso (fun _ => rfl) (fun _ _ => rfl)
theorem gPush_side : Fld gPush gI (fun x => x.side) (fun x y => { x with side := y }) 1 := ((Fld.snd _ _).comp (Fld.fst _ _)).iso (fun _ => rfl) (fun _ _ => rfl)
theorem gPush_at : Fld gPush gI (fun x => x.at') (fun x y => { x with at' := y }) 2 := ((Fld.snd _ _).comp ((Fld.snd _ _).comp (Fld.fst _ _))).iso (fun _ => rfl) (fun _ _ => rfl)
theorem gPush_text : Fld gPush gS (fun x => x.text) (fun x y => { x with text := y }) 3 := ((Fld.snd _ _).comp ((Fld.snd _ _).comp (Fld.snd _ _))).iso (fun _ => rfl) (fun _ _ => rfl)
theorem gPush_sz (x : Push) : gPush.sz x = 0 + (0 + (0 + (x.text.size))) := rfl
theorem gPush_cnt (x : Push) : gPush.cnt x = 1 + (1 + (1 + (1))) := rfl
theorem gPush_cntV (x : Push) : gPush.cntV x = 0 + (0 + (0 + (0))) := rfl
theorem gPush_mark (k : Int) (x : Push) : gPush.mark k x = ⟨k, k + 1, k + 1 + 1, mtx (k + 1 + 1 + 1)⟩ := by
  have h : gPush.mark k x = ⟨k, (k + ((1 : Nat) : Int)), ((k + ((1 : Nat) : Int)) + ((1 : Nat) : Int)), mtx ((((k + ((1 : Nat) : Int)) + ((1 : Nat) : Int)) + ((1 : Nat) : Int)))⟩ := rfl
  rw [h] <;> simp
theorem gPush_markV (k : Int) (x : Push) : gPush.markV k x = ⟨x.kind, x.side, x.at', x.text⟩ := by
  have h : gPush.markV k x = ⟨x.kind, x.side, x.at', x.text⟩ := rfl
  rw [h] <;> simp
theorem Push.eq_iff {x y : Push} : x = y ↔ x.kind = y.kind ∧ x.side = y.side ∧ x.at' = y.at' ∧ x.text = y.text := by cases x; cases y; simp
theorem gPush_own {H : Hp} {l : List Value} {x : Push} (h : gPush.rd H l x) : gPush.ow l x [] := by
  obtain ⟨rfl, w0, w1, w2, w3⟩ := gPush_rd.1 h
  exact gPush_ow.2 ⟨rfl, by simp, w0, w1, w2, w3⟩
--@gt impl.Push | gPush | default | obtain ⟨rfl, w0x#, w1x#, w2x#, w3x#⟩ := gPush_rd.1 hl# | 0 1 pr gPush_kind ; 1 1 pr gPush_side ; 2 1 pr gPush_at ; 3 1 pr gPush_text | 4 | gPush_own ‹_›

structure Pair where
  ends : List Link
  net : List ByteArray
  heard : List (List ByteArray)
  codes : List Int
deriving DecidableEq, Inhabited
def gPair : Gt Pair := gIso (SX.gPair (gSl 45 gLink) (SX.gPair (gSl 9 gS) (SX.gPair (gSl 27 (gSl 9 gS)) (gSl 3 gI)))) (fun x => (x.ends, (x.net, (x.heard, x.codes)))) (fun p => ⟨p.1, p.2.1, p.2.2.1, p.2.2.2⟩)
theorem gPair_rd {H : Hp} {l : List Value} {x : Pair} : gPair.rd H l x ↔ ∃ (b0 : Option Addr) (c0 : Nat) (b1 : Option Addr) (c1 : Nat) (b2 : Option Addr) (c2 : Nat) (b3 : Option Addr) (c3 : Nat), l = .slice b0 x.ends.length c0 :: .slice b1 x.net.length c1 :: .slice b2 x.heard.length c2 :: .slice b3 x.codes.length c3 :: [] ∧ (gSl 45 gLink).rd H [.slice b0 x.ends.length c0] x.ends ∧ (gSl 9 gS).rd H [.slice b1 x.net.length c1] x.net ∧ (gSl 27 (gSl 9 gS)).rd H [.slice b2 x.heard.length c2] x.heard ∧ (gSl 3 gI).rd H [.slice b3 x.codes.length c3] x.codes := by
  constructor
  · rintro ⟨m0, q0, rfl, h0, m1, q1, rfl, h1, m2, q2, rfl, h2, h3⟩
    obtain ⟨b0, c0, rfl, h0⟩ := sl_rd h0
    obtain ⟨b1, c1, rfl, h1⟩ := sl_rd h1
    obtain ⟨b2, c2, rfl, h2⟩ := sl_rd h2
    obtain ⟨b3, c3, rfl, h3⟩ := sl_rd h3
    exact ⟨b0, c0, b1, c1, b2, c2, b3, c3, rfl, h0, h1, h2, h3⟩
  · rintro ⟨b0, c0, b1, c1, b2, c2, b3, c3, rfl, h0, h1, h2, h3⟩
    exact ⟨[.slice b0 x.ends.length c0], .slice b1 x.net.length c1 :: .slice b2 x.heard.length c2 :: .slice b3 x.codes.length c3 :: [], rfl, h0, ⟨[.slice b1 x.net.length c1], .slice b2 x.heard.length c2 :: .slice b3 x.codes.length c3 :: [], rfl, h1, ⟨[.slice b2 x.heard.length c2], [.slice b3 x.codes.length c3], rfl, h2, h3⟩⟩⟩
open Classical in
theorem gPair_ow {A : Hp} {l : List Value} {x : Pair} : gPair.ow l x A ↔ ∃ (b0 : Option Addr) (c0 : Nat) (A0 : Hp) (b1 : Option Addr) (c1 : Nat) (A1 : Hp) (b2 : Option Addr) (c2 : Nat) (A2 : Hp) (b3 : Option Addr) (c3 : Nat) (A3 : Hp), l = .slice b0 x.ends.length c0 :: .slice b1 x.net.length c1 :: .slice b2 x.heard.length c2 :: .slice b3 x.codes.length c3 :: [] ∧ A.Perm (A0 ++ (A1 ++ (A2 ++ A3))) ∧ (gSl 45 gLink).ow [.slice b0 x.ends.length c0] x.ends A0 ∧ (gSl 9 gS).ow [.slice b1 x.net.length c1] x.net A1 ∧ (gSl 27 (gSl 9 gS)).ow [.slice b2 x.heard.length c2] x.heard A2 ∧ (gSl 3 gI).ow [.slice b3 x.codes.length c3] x.codes A3 := by
  constructor
  · rintro ⟨m0, q0, D0, E0, rfl, p0, h0, m1, q1, D1, E1, rfl, p1, h1, m2, q2, D2, E2, rfl, p2, h2, h3⟩
    obtain ⟨b0, c0, rfl, h0⟩ := sl_ow h0
    obtain ⟨b1, c1, rfl, h1⟩ := sl_ow h1
    obtain ⟨b2, c2, rfl, h2⟩ := sl_ow h2
    obtain ⟨b3, c3, rfl, h3⟩ := sl_ow h3
    exact ⟨b0, c0, D0, b1, c1, D1, b2, c2, D2, b3, c3, E2, rfl, (perm_cnt fun a => by have e0 := p0.count_eq a; have e1 := p1.count_eq a; have e2 := p2.count_eq a; simp only [List.count_append, List.count_nil] at *; omega), h0, h1, h2, h3⟩
  · rintro ⟨b0, c0, A0, b1, c1, A1, b2, c2, A2, b3, c3, A3, rfl, hp, h0, h1, h2, h3⟩
    exact ⟨[.slice b0 x.ends.length c0], .slice b1 x.net.length c1 :: .slice b2 x.heard.length c2 :: .slice b3 x.codes.length c3 :: [], A0, (A1 ++ (A2 ++ A3)), rfl, (perm_cnt fun a => by have e := hp.count_eq a; simp only [List.count_append, List.count_nil] at *; omega), h0, ⟨[.slice b1 x.net.length c1], .slice b2 x.heard.length c2 :: .slice b3 x.codes.length c3 :: [], A1, (A2 ++ A3), rfl, .refl _, h1, ⟨[.slice b2 x.heard.length c2], [.slice b3 x.codes.length c3], A2, A3, rfl, .refl _, h2, h3⟩⟩⟩
def zPair : Pair := ⟨[], [], [], []⟩
theorem zPair_ow : gPair.ow [.slice none 0 0, .slice none 0 0, .slice none 0 0, .slice none 0 0] zPair [] := gPair_ow.2 ⟨none, 0, [], none, 0, [], none, 0, [], none, 0, [], rfl, by simp, sl_nil _ _ _, sl_nil _ _ _, sl_nil _ _ _, sl_nil _ _ _⟩
theorem gPair_ends : Fld gPair (gSl 45 gLink) (fun x => x.ends) (fun x y => { x with ends := y }) 0 := (Fld.fst _ _).iso (fun _ => rfl) (fun _ _ => rfl)
theorem gPair_net : Fld gPair (gSl 9 gS) (fun x => x.net) (fun x y => { x with net := y }) 1 := ((Fld.snd _ _).comp (Fld.fst _ _)).iso (fun _ => rfl) (fun _ _ => rfl)
theorem gPair_heard : Fld gPair (gSl 27 (gSl 9 gS)) (fun x => x.heard) (fun x y => { x with heard := y }) 2 := ((Fld.snd _ _).comp ((Fld.snd _ _).comp (Fld.fst _ _))).iso (fun _ => rfl) (fun _ _ => rfl)
theorem gPair_codes : Fld gPair (gSl 3 gI) (fun x => x.codes) (fun x y => { x with codes := y }) 3 := ((Fld.snd _ _).comp ((Fld.snd _ _).comp (Fld.snd _ _))).iso (fun _ => rfl) (fun _ _ => rfl)
theorem gPair_sz (x : Pair) : gPair.sz x = szL gLink x.ends + (szL gS x.net + (szL (gSl 9 gS) x.heard + (szL gI x.codes))) := rfl
theorem gPair_cnt (x : Pair) : gPair.cnt x = cntL gLink x.ends + (cntL gS x.net + (cntL (gSl 9 gS) x.heard + (cntL gI x.codes))) := rfl
theorem gPair_cntV (x : Pair) : gPair.cntV x = cntL gLink x.ends + (cntL gS x.net + (cntL (gSl 9 gS) x.heard + (cntL gI x.codes))) := rfl
theorem gPair_mark (k : Int) (x : Pair) : gPair.mark k x = ⟨mkL gLink (k) x.ends, mkL gS (k + cntL gLink x.ends) x.net, mkL (gSl 9 gS) (k + cntL gLink x.ends + cntL gS x.net) x.heard, mkL gI (k + cntL gLink x.ends + cntL gS x.net + cntL (gSl 9 gS) x.heard) x.codes⟩ := by
  have h : gPair.mark k x = ⟨mkL gLink (k) x.ends, mkL gS ((k + ((cntL gLink x.ends : Nat) : Int))) x.net, mkL (gSl 9 gS) (((k + ((cntL gLink x.ends : Nat) : Int)) + ((cntL gS x.net : Nat) : Int))) x.heard, mkL gI ((((k + ((cntL gLink x.ends : Nat) : Int)) + ((cntL gS x.net : Nat) : Int)) + ((cntL (gSl 9 gS) x.heard : Nat) : Int))) x.codes⟩ := rfl
  rw [h] <;> simp
theorem gPair_markV (k : Int) (x : Pair) : gPair.markV k x = ⟨mkL gLink (k) x.ends, mkL gS (k + cntL gLink x.ends) x.net, mkL (gSl 9 gS) (k + cntL gLink x.ends + cntL gS x.net) x.heard, mkL gI (k + cntL gLink x.ends + cntL gS x.net + cntL (gSl 9 gS) x.heard) x.codes⟩ := by
  have h : gPair.markV k x = ⟨mkL gLink (k) x.ends, mkL gS ((k + ((cntL gLink x.ends : Nat) : Int))) x.net, mkL (gSl 9 gS) (((k + ((cntL gLink x.ends : Nat) : Int)) + ((cntL gS x.net : Nat) : Int))) x.heard, mkL gI ((((k + ((cntL gLink x.ends : Nat) : Int)) + ((cntL gS x.net : Nat) : Int)) + ((cntL (gSl 9 gS) x.heard : Nat) : Int))) x.codes⟩ := rfl
  rw [h] <;> simp
theorem Pair.eq_iff {x y : Pair} : x = y ↔ x.ends = y.ends ∧ x.net = y.net ∧ x.heard = y.heard ∧ x.codes = y.codes := by cases x; cases y; simp
--@gt impl.Pair | gPair | default | obtain ⟨b0x#, c0x#, b1x#, c1x#, b2x#, c2x#, b3x#, c3x#, rfl, h0x#, h1x#, h2x#, h3x#⟩ := gPair_rd.1 hl# | 0 1 sl gPair_ends ; 1 1 sl gPair_net ; 2 1 sl gPair_heard ; 3 1 sl gPair_codes | 4 | 

structure Got where
  from' : Int
  atom : Int
  bag : Bag
deriving DecidableEq, Inhabited
def gGot : Gt Got := gIso (SX.gPair gI (SX.gPair gI gBag)) (fun x => (x.from', (x.atom, x.bag))) (fun p => ⟨p.1, p.2.1, p.2.2⟩)
theorem gGot_rd {H : Hp} {l : List Value} {x : Got} : gGot.rd H l x ↔ ∃ (l2 : List Value), l = .int .i64 x.from' :: .int .i64 x.atom :: l2 ++ ([]) ∧ okI x.from' ∧ okI x.atom ∧ gBag.rd H l2 x.bag := by
  constructor
  · rintro ⟨m0, q0, rfl, h0, m1, q1, rfl, h1, h2⟩
    obtain ⟨rfl, w0⟩ := h0
    obtain ⟨rfl, w1⟩ := h1
    exact ⟨q1, (by simp [flInt, flBool, flByte, flStr]), w0, w1, h2⟩
  · rintro ⟨l2, rfl, w0, w1, h2⟩
    exact ⟨[.int .i64 x.from'], .int .i64 x.atom :: l2 ++ ([]), rfl, ⟨rfl, w0⟩, ⟨[.int .i64 x.atom], l2, (by simp [flInt, flBool, flByte, flStr]), ⟨rfl, w1⟩, h2⟩⟩
open Classical in
theorem gGot_ow {A : Hp} {l : List Value} {x : Got} : gGot.ow l x A ↔ ∃ (l2 : List Value) (A2 : Hp), l = .int .i64 x.from' :: .int .i64 x.atom :: l2 ++ ([]) ∧ A.Perm A2 ∧ okI x.from' ∧ okI x.atom ∧ gBag.ow l2 x.bag A2 := by
  constructor
  · rintro ⟨m0, q0, D0, E0, rfl, p0, h0, m1, q1, D1, E1, rfl, p1, h1, h2⟩
    obtain ⟨rfl, w0, e0⟩ := h0
    subst e0
    obtain ⟨rfl, w1, e1⟩ := h1
    subst e1
    exact ⟨q1, E1, (by simp [flInt, flBool, flByte, flStr]), (perm_cnt fun a => by have e0 := p0.count_eq a; have e1 := p1.count_eq a; simp only [List.count_append, List.count_nil] at *; omega), w0, w1, h2⟩
  · rintro ⟨l2, A2, rfl, hp, w0, w1, h2⟩
    exact ⟨[.int .i64 x.from'], .int .i64 x.atom :: l2 ++ ([]), [], ([] ++ A2), rfl, (perm_cnt fun a => by have e := hp.count_eq a; simp only [List.count_append, List.count_nil] at *; omega), ⟨rfl, w0, rfl⟩, ⟨[.int .i64 x.atom], l2, [], A2, (by simp [flInt, flBool, flByte, flStr]), .refl _, ⟨rfl, w1, rfl⟩, h2⟩⟩
theorem opens_Got : Opens Try.prog gGot.toRp 204 := by
  intro H' enc w H sp hd fuel cs d ps hcov ht
  obtain ⟨h1, h2⟩ := trod_fields ty204_ok.1 ht
  obtain ⟨_, _, t0⟩ := h2 0 0 3 rfl
  obtain ⟨x0, r0⟩ := (opens_fi ty3_ok.1) _ _ H _ _ _ _ _ _ hcov t0
  rw [show Try.prog.cellsOf 3 = 1 by kernel_rfl] at r0
  obtain ⟨_, _, t1⟩ := h2 1 1 3 rfl
  obtain ⟨x1, r1⟩ := (opens_fi ty3_ok.1) _ _ H _ _ _ _ _ _ hcov t1
  rw [show Try.prog.cellsOf 3 = 1 by kernel_rfl] at r1
  obtain ⟨_, _, t2⟩ := h2 2 2 77 rfl
  obtain ⟨x2, r2⟩ := opens_Bag _ _ H _ _ _ _ _ _ hcov t2
  rw [show Try.prog.cellsOf 77 = 1 by kernel_rfl] at r2
  rw [show Try.prog.cellsOf 204 = 3 by kernel_rfl] at h1
  have key : gGot.rd H ((cs.drop 0).take 3) ⟨x0, x1, x2⟩ := (pair_at (g := gI) (h := (SX.gPair gI gBag)) (off := 0) r0 (pair_at (g := gI) (h := gBag) (off := 1) r1 r2))
  rw [List.drop_zero, List.take_of_length_le (by omega)] at key
  exact ⟨_, key⟩
def zGot : Got := ⟨0, 0, zBag⟩
theorem zGot_ow : gGot.ow [.int .i64 0, .int .i64 0, .slice none 0 0] zGot [] := gGot_ow.2 ⟨_, [], rfl, by simp, by first | (unfold okI; decide) | decide, by first | (unfold okI; decide) | decide, zBag_ow⟩
theorem gGot_from : Fld gGot gI (fun x => x.from') (fun x y => { x with from' := y }) 0 := (Fld.fst _ _).iso (fun _ => rfl) (fun _ _ => rfl)
theorem gGot_atom : Fld gGot gI (fun x => x.atom) (fun x y => { x with atom := y }) 1 := ((Fld.snd _ _).comp (Fld.fst _ _)).iso (fun _ => rfl) (fun _ _ => rfl)
theorem gGot_bag : Fld gGot gBag (fun x => x.bag) (fun x y => { x with bag := y }) 2 := ((Fld.snd _ _).comp (Fld.snd _ _)).iso (fun _ => rfl) (fun _ _ => rfl)
theorem gGot_bag_items : Fld gGot (gSl 144 gItem) (fun x => x.bag.items) (fun x y => { x with bag.items := y }) 2 := gGot_bag.comp gBag_items
theorem gGot_sz (x : Got) : gGot.sz x = 0 + (0 + (gBag.sz x.bag)) := rfl
theorem gGot_cnt (x : Got) : gGot.cnt x = 1 + (1 + (gBag.cnt x.bag)) := rfl
theorem gGot_cntV (x : Got) : gGot.cntV x = 0 + (0 + (gBag.cntV x.bag)) := rfl
theorem gGot_mark (k : Int) (x : Got) : gGot.mark k x = ⟨k, k + 1, gBag.mark (k + 1 + 1) x.bag⟩ := by
  have h : gGot.mark k x = ⟨k, (k + ((1 : Nat) : Int)), gBag.mark (((k + ((1 : Nat) : Int)) + ((1 : Nat) : Int))) x.bag⟩ := rfl
  rw [h] <;> simp
theorem gGot_markV (k : Int) (x : Got) : gGot.markV k x = ⟨x.from', x.atom, gBag.markV (k) x.bag⟩ := by
  have h : gGot.markV k x = ⟨x.from', x.atom, gBag.markV (((k + ((0 : Nat) : Int)) + ((0 : Nat) : Int))) x.bag⟩ := rfl
  rw [h] <;> simp
theorem Got.eq_iff {x y : Got} : x = y ↔ x.from' = y.from' ∧ x.atom = y.atom ∧ x.bag = y.bag := by cases x; cases y; simp
--@gt impl.Got | gGot | default | obtain ⟨l2x#, rfl, w0x#, w1x#, h2x#⟩ := gGot_rd.1 hl# ; obtain ⟨b0_2x#, c0_2x#, rfl, h0_2x#⟩ := gBag_rd.1 h2x# | 0 1 pr gGot_from ; 1 1 pr gGot_atom ; 2 1 st gGot_bag ; 2 1 sl gGot_bag_items | 3 | 

structure Cell where
  query : Query
  shares : List Int
  at' : Int
  n : Int
  gots : List Got
deriving DecidableEq, Inhabited
def gCell : Gt Cell := gIso (SX.gPair gQuery (SX.gPair (gSl 3 gI) (SX.gPair gI (SX.gPair gI (gSl 142 gGot))))) (fun x => (x.query, (x.shares, (x.at', (x.n, x.gots))))) (fun p => ⟨p.1, p.2.1, p.2.2.1, p.2.2.2.1, p.2.2.2.2⟩)
theorem gCell_rd {H : Hp} {l : List Value} {x : Cell} : gCell.rd H l x ↔ ∃ (l0 : List Value) (b1 : Option Addr) (c1 : Nat) (b4 : Option Addr) (c4 : Nat), l = l0 ++ (.slice b1 x.shares.length c1 :: .int .i64 x.at' :: .int .i64 x.n :: .slice b4 x.gots.length c4 :: []) ∧ gQuery.rd H l0 x.query ∧ (gSl 3 gI).rd H [.slice b1 x.shares.length c1] x.shares ∧ okI x.at' ∧ okI x.n ∧ (gSl 142 gGot).rd H [.slice b4 x.gots.length c4] x.gots := by
  constructor
  · rintro ⟨m0, q0, rfl, h0, m1, q1, rfl, h1, m2, q2, rfl, h2, m3, q3, rfl, h3, h4⟩
    obtain ⟨b1, c1, rfl, h1⟩ := sl_rd h1
    obtain ⟨rfl, w2⟩ := h2
    obtain ⟨rfl, w3⟩ := h3
    obtain ⟨b4, c4, rfl, h4⟩ := sl_rd h4
    exact ⟨m0, b1, c1, b4, c4, rfl, h0, h1, w2, w3, h4⟩
  · rintro ⟨l0, b1, c1, b4, c4, rfl, h0, h1, w2, w3, h4⟩
    exact ⟨l0, .slice b1 x.shares.length c1 :: .int .i64 x.at' :: .int .i64 x.n :: .slice b4 x.gots.length c4 :: [], rfl, h0, ⟨[.slice b1 x.shares.length c1], .int .i64 x.at' :: .int .i64 x.n :: .slice b4 x.gots.length c4 :: [], rfl, h1, ⟨[.int .i64 x.at'], .int .i64 x.n :: .slice b4 x.gots.length c4 :: [], rfl, ⟨rfl, w2⟩, ⟨[.int .i64 x.n], [.slice b4 x.gots.length c4], rfl, ⟨rfl, w3⟩, h4⟩⟩⟩⟩
open Classical in
theorem gCell_ow {A : Hp} {l : List Value} {x : Cell} : gCell.ow l x A ↔ ∃ (l0 : List Value) (A0 : Hp) (b1 : Option Addr) (c1 : Nat) (A1 : Hp) (b4 : Option Addr) (c4 : Nat) (A4 : Hp), l = l0 ++ (.slice b1 x.shares.length c1 :: .int .i64 x.at' :: .int .i64 x.n :: .slice b4 x.gots.length c4 :: []) ∧ A.Perm (A0 ++ (A1 ++ A4)) ∧ gQuery.ow l0 x.query A0 ∧ (gSl 3 gI).ow [.slice b1 x.shares.length c1] x.shares A1 ∧ okI x.at' ∧ okI x.n ∧ (gSl 142 gGot).ow [.slice b4 x.gots.length c4] x.gots A4 := by
  constructor
  · rintro ⟨m0, q0, D0, E0, rfl, p0, h0, m1, q1, D1, E1, rfl, p1, h1, m2, q2, D2, E2, rfl, p2, h2, m3, q3, D3, E3, rfl, p3, h3, h4⟩
    obtain ⟨b1, c1, rfl, h1⟩ := sl_ow h1
    obtain ⟨rfl, w2, e2⟩ := h2
    subst e2
    obtain ⟨rfl, w3, e3⟩ := h3
    subst e3
    obtain ⟨b4, c4, rfl, h4⟩ := sl_ow h4
    exact ⟨m0, D0, b1, c1, D1, b4, c4, E3, rfl, (perm_cnt fun a => by have e0 := p0.count_eq a; have e1 := p1.count_eq a; have e2 := p2.count_eq a; have e3 := p3.count_eq a; simp only [List.count_append, List.count_nil] at *; omega), h0, h1, w2, w3, h4⟩
  · rintro ⟨l0, A0, b1, c1, A1, b4, c4, A4, rfl, hp, h0, h1, w2, w3, h4⟩
    exact ⟨l0, .slice b1 x.shares.length c1 :: .int .i64 x.at' :: .int .i64 x.n :: .slice b4 x.gots.length c4 :: [], A0, (A1 ++ ([] ++ ([] ++ A4))), rfl, (perm_cnt fun a => by have e := hp.count_eq a; simp only [List.count_append, List.count_nil] at *; omega), h0, ⟨[.slice b1 x.shares.length c1], .int .i64 x.at' :: .int .i64 x.n :: .slice b4 x.gots.length c4 :: [], A1, ([] ++ ([] ++ A4)), rfl, .refl _, h1, ⟨[.int .i64 x.at'], .int .i64 x.n :: .slice b4 x.gots.length c4 :: [], [], ([] ++ A4), rfl, .refl _, ⟨rfl, w2, rfl⟩, ⟨[.int .i64 x.n], [.slice b4 x.gots.length c4], [], A4, rfl, .refl _, ⟨rfl, w3, rfl⟩, h4⟩⟩⟩⟩
theorem opens_Cell : Opens Try.prog gCell.toRp 74 := by
  intro H' enc w H sp hd fuel cs d ps hcov ht
  obtain ⟨h1, h2⟩ := trod_fields ty74_ok.1 ht
  obtain ⟨_, _, t0⟩ := h2 0 0 71 rfl
  obtain ⟨x0, r0⟩ := opens_Query _ _ H _ _ _ _ _ _ hcov t0
  rw [show Try.prog.cellsOf 71 = 4 by kernel_rfl] at r0
  obtain ⟨_, _, t1⟩ := h2 1 4 29 rfl
  obtain ⟨x1, r1⟩ := (opens_sl ty29_ok.1 (by kernel_rfl) (by decide) (opens_fi ty3_ok.1)) _ _ H _ _ _ _ _ _ hcov t1
  rw [show Try.prog.cellsOf 29 = 1 by kernel_rfl] at r1
  obtain ⟨_, _, t2⟩ := h2 2 5 3 rfl
  obtain ⟨x2, r2⟩ := (opens_fi ty3_ok.1) _ _ H _ _ _ _ _ _ hcov t2
  rw [show Try.prog.cellsOf 3 = 1 by kernel_rfl] at r2
  obtain ⟨_, _, t3⟩ := h2 3 6 3 rfl
  obtain ⟨x3, r3⟩ := (opens_fi ty3_ok.1) _ _ H _ _ _ _ _ _ hcov t3
  rw [show Try.prog.cellsOf 3 = 1 by kernel_rfl] at r3
  obtain ⟨_, _, t4⟩ := h2 4 7 72 rfl
  obtain ⟨x4, r4⟩ := (opens_sl ty72_ok.1 (by kernel_rfl) (by decide) opens_Got) _ _ H _ _ _ _ _ _ hcov t4
  rw [show Try.prog.cellsOf 72 = 1 by kernel_rfl] at r4
  rw [show Try.prog.cellsOf 74 = 8 by kernel_rfl] at h1
  have key : gCell.rd H ((cs.drop 0).take 8) ⟨x0, x1, x2, x3, x4⟩ := (pair_at (g := gQuery) (h := (SX.gPair (gSl 3 gI) (SX.gPair gI (SX.gPair gI (gSl 142 gGot))))) (off := 0) r0 (pair_at (g := (gSl 3 gI)) (h := (SX.gPair gI (SX.gPair gI (gSl 142 gGot)))) (off := 4) r1 (pair_at (g := gI) (h := (SX.gPair gI (gSl 142 gGot))) (off := 5) r2 (pair_at (g := gI) (h := (gSl 142 gGot)) (off := 6) r3 r4))))
  rw [List.drop_zero, List.take_of_length_le (by omega)] at key
  exact ⟨_, key⟩
def zCell : Cell := ⟨zQuery, [], 0, 0, []⟩
theorem zCell_ow : gCell.ow [.bool false, .slice none 0 0, .slice none 0 0, .slice none 0 0, .slice none 0 0, .int .i64 0, .int .i64 0, .slice none 0 0] zCell [] := gCell_ow.2 ⟨_, [], none, 0, [], none, 0, [], rfl, by simp, zQuery_ow, sl_nil _ _ _, by first | (unfold okI; decide) | decide, by first | (unfold okI; decide) | decide, sl_nil _ _ _⟩
theorem gCell_query : Fld gCell gQuery (fun x => x.query) (fun x y => { x with query := y }) 0 := (Fld.fst _ _).iso (fun _ => rfl) (fun _ _ => rfl)
theorem gCell_query_each : Fld gCell gB (fun x => x.query.each) (fun x y => { x with query.each := y }) 0 := gCell_query.comp gQuery_each
theorem gCell_query_out : Fld gCell (gSl 9 gS) (fun x => x.query.out) (fun x y => { x with query.out := y }) 1 := gCell_query.comp gQuery_out
theorem gCell_query_atoms : Fld gCell (gSl 147 gAtom) (fun x => x.query.atoms) (fun x y => { x with query.atoms := y }) 2 := gCell_query.comp gQuery_atoms
theorem gCell_query_filters : Fld gCell (gSl 258 gFilter) (fun x => x.query.filters) (fun x y => { x with query.filters := y }) 3 := gCell_query.comp gQuery_filters
theorem gCell_shares : Fld gCell (gSl 3 gI) (fun x => x.shares) (fun x y => { x with shares := y }) 4 := ((Fld.snd _ _).comp (Fld.fst _ _)).iso (fun _ => rfl) (fun _ _ => rfl)
theorem gCell_at : Fld gCell gI (fun x => x.at') (fun x y => { x with at' := y }) 5 := ((Fld.snd _ _).comp ((Fld.snd _ _).comp (Fld.fst _ _))).iso (fun _ => rfl) (fun _ _ => rfl)
theorem gCell_n : Fld gCell gI (fun x => x.n) (fun x y => { x with n := y }) 6 := ((Fld.snd _ _).comp ((Fld.snd _ _).comp ((Fld.snd _ _).comp (Fld.fst _ _)))).iso (fun _ => rfl) (fun _ _ => rfl)
theorem gCell_gots : Fld gCell (gSl 142 gGot) (fun x => x.gots) (fun x y => { x with gots := y }) 7 := ((Fld.snd _ _).comp ((Fld.snd _ _).comp ((Fld.snd _ _).comp (Fld.snd _ _)))).iso (fun _ => rfl) (fun _ _ => rfl)
theorem gCell_sz (x : Cell) : gCell.sz x = gQuery.sz x.query + (szL gI x.shares + (0 + (0 + (szL gGot x.gots)))) := rfl
theorem gCell_cnt (x : Cell) : gCell.cnt x = gQuery.cnt x.query + (cntL gI x.shares + (1 + (1 + (cntL gGot x.gots)))) := rfl
theorem gCell_cntV (x : Cell) : gCell.cntV x = gQuery.cntV x.query + (cntL gI x.shares + (0 + (0 + (cntL gGot x.gots)))) := rfl
theorem gCell_mark (k : Int) (x : Cell) : gCell.mark k x = ⟨gQuery.mark (k) x.query, mkL gI (k + gQuery.cnt x.query) x.shares, k + gQuery.cnt x.query + cntL gI x.shares, k + gQuery.cnt x.query + cntL gI x.shares + 1, mkL gGot (k + gQuery.cnt x.query + cntL gI x.shares + 1 + 1) x.gots⟩ := by
  have h : gCell.mark k x = ⟨gQuery.mark (k) x.query, mkL gI ((k + ((gQuery.cnt x.query : Nat) : Int))) x.shares, ((k + ((gQuery.cnt x.query : Nat) : Int)) + ((cntL gI x.shares : Nat) : Int)), (((k + ((gQuery.cnt x.query : Nat) : Int)) + ((cntL gI x.shares : Nat) : Int)) + ((1 : Nat) : Int)), mkL gGot (((((k + ((gQuery.cnt x.query : Nat) : Int)) + ((cntL gI x.shares : Nat) : Int)) + ((1 : Nat) : Int)) + ((1 : Nat) : Int))) x.gots⟩ := rfl
  rw [h] <;> simp
theorem gCell_markV (k : Int) (x : Cell) : gCell.markV k x = ⟨gQuery.markV (k) x.query, mkL gI (k + gQuery.cntV x.query) x.shares, x.at', x.n, mkL gGot (k + gQuery.cntV x.query + cntL gI x.shares) x.gots⟩ := by
  have h : gCell.markV k x = ⟨gQuery.markV (k) x.query, mkL gI ((k + ((gQuery.cntV x.query : Nat) : Int))) x.shares, x.at', x.n, mkL gGot (((((k + ((gQuery.cntV x.query : Nat) : Int)) + ((cntL gI x.shares : Nat) : Int)) + ((0 : Nat) : Int)) + ((0 : Nat) : Int))) x.gots⟩ := rfl
  rw [h] <;> simp
theorem Cell.eq_iff {x y : Cell} : x = y ↔ x.query = y.query ∧ x.shares = y.shares ∧ x.at' = y.at' ∧ x.n = y.n ∧ x.gots = y.gots := by cases x; cases y; simp
--@gt impl.Cell | gCell | default | obtain ⟨l0x#, b1x#, c1x#, b4x#, c4x#, rfl, h0x#, h1x#, w2x#, w3x#, h4x#⟩ := gCell_rd.1 hl# ; obtain ⟨b1_0x#, c1_0x#, b2_0x#, c2_0x#, b3_0x#, c3_0x#, rfl, h1_0x#, h2_0x#, h3_0x#⟩ := gQuery_rd.1 h0x# | 0 4 st gCell_query ; 0 1 pr gCell_query_each ; 1 1 sl gCell_query_out ; 2 1 sl gCell_query_atoms ; 3 1 sl gCell_query_filters ; 4 1 sl gCell_shares ; 5 1 pr gCell_at ; 6 1 pr gCell_n ; 7 1 sl gCell_gots | 8 | 

--@gt []impl.Item | (gSl 144 gItem) | [] | | 0 1 sl fldId | 1
--@gt []impl.Bag | (gSl 91 gBag) | [] | | 0 1 sl fldId | 1
--@gt []impl.Edge | (gSl 192 gEdge) | [] | | 0 1 sl fldId | 1
--@gt []impl.Graph | (gSl 58 gGraph) | [] | | 0 1 sl fldId | 1
--@gt []impl.Atom | (gSl 147 gAtom) | [] | | 0 1 sl fldId | 1
--@gt []impl.Filter | (gSl 258 gFilter) | [] | | 0 1 sl fldId | 1
--@gt []impl.Query | (gSl 83 gQuery) | [] | | 0 1 sl fldId | 1
--@gt []impl.File | (gSl 199 gFile) | [] | | 0 1 sl fldId | 1
--@gt []impl.Disk | (gSl 128 gDisk) | [] | | 0 1 sl fldId | 1
--@gt []impl.Link | (gSl 45 gLink) | [] | | 0 1 sl fldId | 1
--@gt []impl.Packet | (gSl 172 gPacket) | [] | | 0 1 sl fldId | 1
--@gt []impl.Push | (gSl 35 gPush) | [] | | 0 1 sl fldId | 1
--@gt []impl.Pair | (gSl 31 gPair) | [] | | 0 1 sl fldId | 1
--@gt []impl.Got | (gSl 142 gGot) | [] | | 0 1 sl fldId | 1
--@gt []impl.Cell | (gSl 86 gCell) | [] | | 0 1 sl fldId | 1
--@gt []int | (gSl 3 gI) | [] | | 0 1 sl fldId | 1
--@gt []bool | (gSl 4 gB) | [] | | 0 1 sl fldId | 1
--@gt []uint8 | (gSl 5 gY) | [] | | 0 1 sl fldId | 1
--@gt []string | (gSl 9 gS) | [] | | 0 1 sl fldId | 1
--@gt int | gI | 0 | | 0 1 pr fldId | 1 | gI_ow ?_
--@gt bool | gB | false | | 0 1 pr fldId | 1 | gB_ow ?_
--@gt uint8 | gY | 0 | | 0 1 pr fldId | 1 | gY_owM _; gY_ow trivial
--@gt string | gS | ByteArray.empty | | 0 1 pr fldId | 1 | gS_ow ?_
end Go.Proofs.Ytcikookachejfaa
