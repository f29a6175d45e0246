/-
  The types of the laws: how their values lie, and the laws' helpers over them (printed by gent.py). Conditions: none.
-/
import Derived.Test.YtflfohphebmemaaGreatGa
--@dev import Derived.Test.YtflfohphebmemaaGreatSxWalk
namespace Go.Proofs.YtflfohphebmemaaGreat
open Go.SX Go.Proofs
set_option maxHeartbeats 4000000
set_option linter.unusedSimpArgs false
set_option linter.unusedVariables false

structure Item where
  row : List Int
  times : Int
deriving DecidableEq, Inhabited
def gItem : Gt Item := gIso (SX.gPair (gSl 3 gI) gI) (fun x => (x.row, x.times)) (fun p => ⟨p.1, p.2⟩)
theorem gItem_rd {H : Hp} {l : List Value} {x : Item} : gItem.rd H l x ↔ ∃ (b0 : Option Addr) (c0 : Nat), l = .slice b0 x.row.length c0 :: .int .i64 x.times :: [] ∧ (gSl 3 gI).rd H [.slice b0 x.row.length c0] x.row ∧ okI x.times := by
  constructor
  · rintro ⟨m0, q0, rfl, h0, h1⟩
    obtain ⟨b0, c0, rfl, h0⟩ := sl_rd h0
    obtain ⟨rfl, w1⟩ := h1
    exact ⟨b0, c0, rfl, h0, w1⟩
  · rintro ⟨b0, c0, rfl, h0, w1⟩
    exact ⟨[.slice b0 x.row.length c0], [.int .i64 x.times], rfl, h0, ⟨rfl, w1⟩⟩
open Classical in
theorem gItem_ow {A : Hp} {l : List Value} {x : Item} : gItem.ow l x A ↔ ∃ (b0 : Option Addr) (c0 : Nat) (A0 : Hp), l = .slice b0 x.row.length c0 :: .int .i64 x.times :: [] ∧ A.Perm A0 ∧ (gSl 3 gI).ow [.slice b0 x.row.length c0] x.row A0 ∧ okI x.times := by
  constructor
  · rintro ⟨m0, q0, D0, E0, rfl, p0, h0, h1⟩
    obtain ⟨b0, c0, rfl, h0⟩ := sl_ow h0
    obtain ⟨rfl, w1, e1⟩ := h1
    subst e1
    exact ⟨b0, c0, D0, rfl, (perm_cnt fun a => by have e0 := p0.count_eq a; simp only [List.count_append, List.count_nil] at *; omega), h0, w1⟩
  · rintro ⟨b0, c0, A0, rfl, hp, h0, w1⟩
    exact ⟨[.slice b0 x.row.length c0], [.int .i64 x.times], A0, [], rfl, (perm_cnt fun a => by have e := hp.count_eq a; simp only [List.count_append, List.count_nil] at *; omega), h0, ⟨rfl, w1, rfl⟩⟩
theorem opens_Item : Opens Tryz.prog gItem.toRp 295 := by
  intro H' enc w H sp hd fuel cs d ps hcov ht
  obtain ⟨h1, h2⟩ := trod_fields ty295_ok.1 ht
  obtain ⟨_, _, t0⟩ := h2 0 0 31 rfl
  obtain ⟨x0, r0⟩ := (opens_sl ty31_ok.1 (by kernel_rfl) (by decide) (opens_fi ty3_ok.1)) _ _ H _ _ _ _ _ _ hcov t0
  rw [show Tryz.prog.cellsOf 31 = 1 by kernel_rfl] at r0
  obtain ⟨_, _, t1⟩ := h2 1 1 3 rfl
  obtain ⟨x1, r1⟩ := (opens_fi ty3_ok.1) _ _ H _ _ _ _ _ _ hcov t1
  rw [show Tryz.prog.cellsOf 3 = 1 by kernel_rfl] at r1
  rw [show Tryz.prog.cellsOf 295 = 2 by kernel_rfl] at h1
  have key : gItem.rd H ((cs.drop 0).take 2) ⟨x0, x1⟩ := (pair_at (g := (gSl 3 gI)) (h := gI) (off := 0) r0 r1)
  rw [List.drop_zero, List.take_of_length_le (by omega)] at key
  exact ⟨_, key⟩
def zItem : Item := ⟨[], 0⟩
theorem zItem_ow : gItem.ow [.slice none 0 0, .int .i64 0] zItem [] := gItem_ow.2 ⟨none, 0, [], rfl, by simp, sl_nil _ _ _, by first | (unfold okI; decide) | decide⟩
theorem gItem_row : Fld gItem (gSl 3 gI) (fun x => x.row) (fun x y => { x with row := y }) 0 := (Fld.fst _ _).iso (fun _ => rfl) (fun _ _ => rfl)
theorem gItem_times : Fld gItem gI (fun x => x.times) (fun x y => { x with times := y }) 1 := (Fld.snd _ _).iso (fun _ => rfl) (fun _ _ => rfl)
theorem gItem_sz (x : Item) : gItem.sz x = szL gI x.row + (0) := rfl
theorem gItem_cnt (x : Item) : gItem.cnt x = cntL gI x.row + (1) := rfl
theorem gItem_cntV (x : Item) : gItem.cntV x = cntL gI x.row + (0) := rfl
theorem gItem_mark (k : Int) (x : Item) : gItem.mark k x = ⟨mkL gI (k) x.row, k + cntL gI x.row⟩ := by
  have h : gItem.mark k x = ⟨mkL gI (k) x.row, (k + ((cntL gI x.row : Nat) : Int))⟩ := rfl
  rw [h] <;> simp
theorem gItem_markV (k : Int) (x : Item) : gItem.markV k x = ⟨mkL gI (k) x.row, x.times⟩ := by
  have h : gItem.markV k x = ⟨mkL gI (k) x.row, x.times⟩ := rfl
  rw [h] <;> simp
theorem Item.eq_iff {x y : Item} : x = y ↔ x.row = y.row ∧ x.times = y.times := by cases x; cases y; simp
--@gt impl.Item | gItem | default | obtain ⟨b0x#, c0x#, rfl, h0x#, w1x#⟩ := gItem_rd.1 hl# | 0 1 sl gItem_row ; 1 1 pr gItem_times | 2 | 

structure Bag where
  items : List Item
deriving DecidableEq, Inhabited
def gBag : Gt Bag := gIso (gSl 212 gItem) (fun x => x.items) (fun p => ⟨p⟩)
theorem gBag_rd {H : Hp} {l : List Value} {x : Bag} : gBag.rd H l x ↔ ∃ (b0 : Option Addr) (c0 : Nat), l = .slice b0 x.items.length c0 :: [] ∧ (gSl 212 gItem).rd H [.slice b0 x.items.length c0] x.items := by
  constructor
  · rintro h0
    obtain ⟨b0, c0, rfl, h0⟩ := sl_rd h0
    exact ⟨b0, c0, rfl, h0⟩
  · rintro ⟨b0, c0, rfl, h0⟩
    exact h0
open Classical in
theorem gBag_ow {A : Hp} {l : List Value} {x : Bag} : gBag.ow l x A ↔ ∃ (b0 : Option Addr) (c0 : Nat) (A0 : Hp), l = .slice b0 x.items.length c0 :: [] ∧ A.Perm A0 ∧ (gSl 212 gItem).ow [.slice b0 x.items.length c0] x.items A0 := by
  constructor
  · rintro h0
    obtain ⟨b0, c0, rfl, h0⟩ := sl_ow h0
    exact ⟨b0, c0, A, rfl, .refl _, h0⟩
  · rintro ⟨b0, c0, A0, rfl, hp, h0⟩
    exact gBag.owp (l := _) (x := x) h0 hp
theorem opens_Bag : Opens Tryz.prog gBag.toRp 41 := by
  intro H' enc w H sp hd fuel cs d ps hcov ht
  obtain ⟨h1, h2⟩ := trod_fields ty41_ok.1 ht
  obtain ⟨_, _, t0⟩ := h2 0 0 39 rfl
  obtain ⟨x0, r0⟩ := (opens_sl ty39_ok.1 (by kernel_rfl) (by decide) opens_Item) _ _ H _ _ _ _ _ _ hcov t0
  rw [show Tryz.prog.cellsOf 39 = 1 by kernel_rfl] at r0
  rw [show Tryz.prog.cellsOf 41 = 1 by kernel_rfl] at h1
  have key : gBag.rd H ((cs.drop 0).take 1) ⟨x0⟩ := r0
  rw [List.drop_zero, List.take_of_length_le (by omega)] at key
  exact ⟨_, key⟩
def zBag : Bag := ⟨[]⟩
theorem zBag_ow : gBag.ow [.slice none 0 0] zBag [] := gBag_ow.2 ⟨none, 0, [], rfl, by simp, sl_nil _ _ _⟩
theorem gBag_items : Fld gBag (gSl 212 gItem) (fun x => x.items) (fun x y => { x with items := y }) 0 := (Fld.id _).iso (fun _ => rfl) (fun _ _ => rfl)
theorem gBag_sz (x : Bag) : gBag.sz x = szL gItem x.items := rfl
theorem gBag_cnt (x : Bag) : gBag.cnt x = cntL gItem x.items := rfl
theorem gBag_cntV (x : Bag) : gBag.cntV x = cntL gItem x.items := rfl
theorem gBag_mark (k : Int) (x : Bag) : gBag.mark k x = ⟨mkL gItem (k) x.items⟩ := by
  have h : gBag.mark k x = ⟨mkL gItem (k) x.items⟩ := rfl
  rw [h] <;> simp
theorem gBag_markV (k : Int) (x : Bag) : gBag.markV k x = ⟨mkL gItem (k) x.items⟩ := by
  have h : gBag.markV k x = ⟨mkL gItem (k) x.items⟩ := rfl
  rw [h] <;> simp
theorem Bag.eq_iff {x y : Bag} : x = y ↔ x.items = y.items := by cases x; cases y; simp
--@gt impl.Bag | gBag | default | obtain ⟨b0x#, c0x#, rfl, h0x#⟩ := gBag_rd.1 hl# | 0 1 sl gBag_items | 1 | 

structure Piece where
  op : Int
  label : UInt8
  kids : List Int
deriving DecidableEq, Inhabited
def gPiece : Gt Piece := gIso (SX.gPair gI (SX.gPair gY (gSl 3 gI))) (fun x => (x.op, (x.label, x.kids))) (fun p => ⟨p.1, p.2.1, p.2.2⟩)
theorem gPiece_rd {H : Hp} {l : List Value} {x : Piece} : gPiece.rd H l x ↔ ∃ (b2 : Option Addr) (c2 : Nat), l = .int .i64 x.op :: .int .u8 (x.label).toNat :: .slice b2 x.kids.length c2 :: [] ∧ okI x.op ∧ (gSl 3 gI).rd H [.slice b2 x.kids.length c2] x.kids := by
  constructor
  · rintro ⟨m0, q0, rfl, h0, m1, q1, rfl, h1, h2⟩
    obtain ⟨rfl, w0⟩ := h0
    obtain ⟨rfl, w1⟩ := h1
    obtain ⟨b2, c2, rfl, h2⟩ := sl_rd h2
    exact ⟨b2, c2, rfl, w0, h2⟩
  · rintro ⟨b2, c2, rfl, w0, h2⟩
    exact ⟨[.int .i64 x.op], .int .u8 (x.label).toNat :: .slice b2 x.kids.length c2 :: [], rfl, ⟨rfl, w0⟩, ⟨[.int .u8 (x.label).toNat], [.slice b2 x.kids.length c2], rfl, ⟨rfl, trivial⟩, h2⟩⟩
open Classical in
theorem gPiece_ow {A : Hp} {l : List Value} {x : Piece} : gPiece.ow l x A ↔ ∃ (b2 : Option Addr) (c2 : Nat) (A2 : Hp), l = .int .i64 x.op :: .int .u8 (x.label).toNat :: .slice b2 x.kids.length c2 :: [] ∧ A.Perm A2 ∧ okI x.op ∧ (gSl 3 gI).ow [.slice b2 x.kids.length c2] x.kids A2 := by
  constructor
  · rintro ⟨m0, q0, D0, E0, rfl, p0, h0, m1, q1, D1, E1, rfl, p1, h1, h2⟩
    obtain ⟨rfl, w0, e0⟩ := h0
    subst e0
    obtain ⟨rfl, w1, e1⟩ := h1
    subst e1
    obtain ⟨b2, c2, rfl, h2⟩ := sl_ow h2
    exact ⟨b2, c2, E1, rfl, (perm_cnt fun a => by have e0 := p0.count_eq a; have e1 := p1.count_eq a; simp only [List.count_append, List.count_nil] at *; omega), w0, h2⟩
  · rintro ⟨b2, c2, A2, rfl, hp, w0, h2⟩
    exact ⟨[.int .i64 x.op], .int .u8 (x.label).toNat :: .slice b2 x.kids.length c2 :: [], [], ([] ++ A2), rfl, (perm_cnt fun a => by have e := hp.count_eq a; simp only [List.count_append, List.count_nil] at *; omega), ⟨rfl, w0, rfl⟩, ⟨[.int .u8 (x.label).toNat], [.slice b2 x.kids.length c2], [], A2, rfl, .refl _, ⟨rfl, trivial, rfl⟩, h2⟩⟩
def zPiece : Piece := ⟨0, 0, []⟩
theorem zPiece_ow : gPiece.ow [.int .i64 0, .int .u8 0, .slice none 0 0] zPiece [] := gPiece_ow.2 ⟨none, 0, [], rfl, by simp, by first | (unfold okI; decide) | decide, sl_nil _ _ _⟩
theorem gPiece_op : Fld gPiece gI (fun x => x.op) (fun x y => { x with op := y }) 0 := (Fld.fst _ _).iso (fun _ => rfl) (fun _ _ => rfl)
theorem gPiece_label : Fld gPiece gY (fun x => x.label) (fun x y => { x with label := y }) 1 := ((Fld.snd _ _).comp (Fld.fst _ _)).iso (fun _ => rfl) (fun _ _ => rfl)
theorem gPiece_kids : Fld gPiece (gSl 3 gI) (fun x => x.kids) (fun x y => { x with kids := y }) 2 := ((Fld.snd _ _).comp (Fld.snd _ _)).iso (fun _ => rfl) (fun _ _ => rfl)
theorem gPiece_sz (x : Piece) : gPiece.sz x = 0 + (0 + (szL gI x.kids)) := rfl
theorem gPiece_cnt (x : Piece) : gPiece.cnt x = 1 + (1 + (cntL gI x.kids)) := rfl
theorem gPiece_cntV (x : Piece) : gPiece.cntV x = 0 + (0 + (cntL gI x.kids)) := rfl
theorem gPiece_mark (k : Int) (x : Piece) : gPiece.mark k x = ⟨k, UInt8.ofNat ((k + 1) % 256).toNat, mkL gI (k + 1 + 1) x.kids⟩ := by
  have h : gPiece.mark k x = ⟨k, UInt8.ofNat (((k + ((1 : Nat) : Int))) % 256).toNat, mkL gI (((k + ((1 : Nat) : Int)) + ((1 : Nat) : Int))) x.kids⟩ := rfl
  rw [h] <;> simp
theorem gPiece_markV (k : Int) (x : Piece) : gPiece.markV k x = ⟨x.op, x.label, mkL gI (k) x.kids⟩ := by
  have h : gPiece.markV k x = ⟨x.op, x.label, mkL gI (((k + ((0 : Nat) : Int)) + ((0 : Nat) : Int))) x.kids⟩ := rfl
  rw [h] <;> simp
theorem Piece.eq_iff {x y : Piece} : x = y ↔ x.op = y.op ∧ x.label = y.label ∧ x.kids = y.kids := by cases x; cases y; simp
--@gt impl.Piece | gPiece | default | obtain ⟨b2x#, c2x#, rfl, w0x#, h2x#⟩ := gPiece_rd.1 hl# | 0 1 pr gPiece_op ; 1 1 pr gPiece_label ; 2 1 sl gPiece_kids | 3 | 

structure Path where
  pieces : List Piece
deriving DecidableEq, Inhabited
def gPath : Gt Path := gIso (gSl 336 gPiece) (fun x => x.pieces) (fun p => ⟨p⟩)
theorem gPath_rd {H : Hp} {l : List Value} {x : Path} : gPath.rd H l x ↔ ∃ (b0 : Option Addr) (c0 : Nat), l = .slice b0 x.pieces.length c0 :: [] ∧ (gSl 336 gPiece).rd H [.slice b0 x.pieces.length c0] x.pieces := by
  constructor
  · rintro h0
    obtain ⟨b0, c0, rfl, h0⟩ := sl_rd h0
    exact ⟨b0, c0, rfl, h0⟩
  · rintro ⟨b0, c0, rfl, h0⟩
    exact h0
open Classical in
theorem gPath_ow {A : Hp} {l : List Value} {x : Path} : gPath.ow l x A ↔ ∃ (b0 : Option Addr) (c0 : Nat) (A0 : Hp), l = .slice b0 x.pieces.length c0 :: [] ∧ A.Perm A0 ∧ (gSl 336 gPiece).ow [.slice b0 x.pieces.length c0] x.pieces A0 := by
  constructor
  · rintro h0
    obtain ⟨b0, c0, rfl, h0⟩ := sl_ow h0
    exact ⟨b0, c0, A, rfl, .refl _, h0⟩
  · rintro ⟨b0, c0, A0, rfl, hp, h0⟩
    exact gPath.owp (l := _) (x := x) h0 hp
def zPath : Path := ⟨[]⟩
theorem zPath_ow : gPath.ow [.slice none 0 0] zPath [] := gPath_ow.2 ⟨none, 0, [], rfl, by simp, sl_nil _ _ _⟩
theorem gPath_pieces : Fld gPath (gSl 336 gPiece) (fun x => x.pieces) (fun x y => { x with pieces := y }) 0 := (Fld.id _).iso (fun _ => rfl) (fun _ _ => rfl)
theorem gPath_sz (x : Path) : gPath.sz x = szL gPiece x.pieces := rfl
theorem gPath_cnt (x : Path) : gPath.cnt x = cntL gPiece x.pieces := rfl
theorem gPath_cntV (x : Path) : gPath.cntV x = cntL gPiece x.pieces := rfl
theorem gPath_mark (k : Int) (x : Path) : gPath.mark k x = ⟨mkL gPiece (k) x.pieces⟩ := by
  have h : gPath.mark k x = ⟨mkL gPiece (k) x.pieces⟩ := rfl
  rw [h] <;> simp
theorem gPath_markV (k : Int) (x : Path) : gPath.markV k x = ⟨mkL gPiece (k) x.pieces⟩ := by
  have h : gPath.markV k x = ⟨mkL gPiece (k) x.pieces⟩ := rfl
  rw [h] <;> simp
theorem Path.eq_iff {x y : Path} : x = y ↔ x.pieces = y.pieces := by cases x; cases y; simp
--@gt impl.Path | gPath | default | obtain ⟨b0x#, c0x#, rfl, h0x#⟩ := gPath_rd.1 hl# | 0 1 sl gPath_pieces | 1 | 

structure Arc where
  from' : Int
  label : UInt8
  to : Int
deriving DecidableEq, Inhabited
def gArc : Gt Arc := gIso (SX.gPair gI (SX.gPair gY gI)) (fun x => (x.from', (x.label, x.to))) (fun p => ⟨p.1, p.2.1, p.2.2⟩)
theorem gArc_rd {H : Hp} {l : List Value} {x : Arc} : gArc.rd H l x ↔ l = .int .i64 x.from' :: .int .u8 (x.label).toNat :: .int .i64 x.to :: [] ∧ okI x.from' ∧ okI x.to := by
  constructor
  · rintro ⟨m0, q0, rfl, h0, m1, q1, rfl, h1, h2⟩
    obtain ⟨rfl, w0⟩ := h0
    obtain ⟨rfl, w1⟩ := h1
    obtain ⟨rfl, w2⟩ := h2
    exact ⟨rfl, w0, w2⟩
  · rintro ⟨rfl, w0, w2⟩
    exact ⟨[.int .i64 x.from'], .int .u8 (x.label).toNat :: .int .i64 x.to :: [], rfl, ⟨rfl, w0⟩, ⟨[.int .u8 (x.label).toNat], [.int .i64 x.to], rfl, ⟨rfl, trivial⟩, ⟨rfl, w2⟩⟩⟩
open Classical in
theorem gArc_ow {A : Hp} {l : List Value} {x : Arc} : gArc.ow l x A ↔ l = .int .i64 x.from' :: .int .u8 (x.label).toNat :: .int .i64 x.to :: [] ∧ A.Perm [] ∧ okI x.from' ∧ okI x.to := by
  constructor
  · rintro ⟨m0, q0, D0, E0, rfl, p0, h0, m1, q1, D1, E1, rfl, p1, h1, h2⟩
    obtain ⟨rfl, w0, e0⟩ := h0
    subst e0
    obtain ⟨rfl, w1, e1⟩ := h1
    subst e1
    obtain ⟨rfl, w2, e2⟩ := h2
    subst e2
    exact ⟨rfl, (perm_cnt fun a => by have e0 := p0.count_eq a; have e1 := p1.count_eq a; simp only [List.count_append, List.count_nil] at *; omega), w0, w2⟩
  · rintro ⟨rfl, hp, w0, w2⟩
    exact ⟨[.int .i64 x.from'], .int .u8 (x.label).toNat :: .int .i64 x.to :: [], [], ([] ++ []), rfl, (perm_cnt fun a => by have e := hp.count_eq a; simp only [List.count_append, List.count_nil] at *; omega), ⟨rfl, w0, rfl⟩, ⟨[.int .u8 (x.label).toNat], [.int .i64 x.to], [], [], rfl, .refl _, ⟨rfl, trivial, rfl⟩, ⟨rfl, w2, rfl⟩⟩⟩
def zArc : Arc := ⟨0, 0, 0⟩
theorem zArc_ow : gArc.ow [.int .i64 0, .int .u8 0, .int .i64 0] zArc [] := gArc_ow.2 ⟨rfl, by simp, by first | (unfold okI; decide) | decide, by first | (unfold okI; decide) | decide⟩
theorem gArc_from : Fld gArc gI (fun x => x.from') (fun x y => { x with from' := y }) 0 := (Fld.fst _ _).iso (fun _ => rfl) (fun _ _ => rfl)
theorem gArc_label : Fld gArc gY (fun x => x.label) (fun x y => { x with label := y }) 1 := ((Fld.snd _ _).comp (Fld.fst _ _)).iso (fun _ => rfl) (fun _ _ => rfl)
theorem gArc_to : Fld gArc gI (fun x => x.to) (fun x y => { x with to := y }) 2 := ((Fld.snd _ _).comp (Fld.snd _ _)).iso (fun _ => rfl) (fun _ _ => rfl)
theorem gArc_sz (x : Arc) : gArc.sz x = 0 + (0 + (0)) := rfl
theorem gArc_cnt (x : Arc) : gArc.cnt x = 1 + (1 + (1)) := rfl
theorem gArc_cntV (x : Arc) : gArc.cntV x = 0 + (0 + (0)) := rfl
theorem gArc_mark (k : Int) (x : Arc) : gArc.mark k x = ⟨k, UInt8.ofNat ((k + 1) % 256).toNat, k + 1 + 1⟩ := by
  have h : gArc.mark k x = ⟨k, UInt8.ofNat (((k + ((1 : Nat) : Int))) % 256).toNat, ((k + ((1 : Nat) : Int)) + ((1 : Nat) : Int))⟩ := rfl
  rw [h] <;> simp
theorem gArc_markV (k : Int) (x : Arc) : gArc.markV k x = ⟨x.from', x.label, x.to⟩ := by
  have h : gArc.markV k x = ⟨x.from', x.label, x.to⟩ := rfl
  rw [h] <;> simp
theorem Arc.eq_iff {x y : Arc} : x = y ↔ x.from' = y.from' ∧ x.label = y.label ∧ x.to = y.to := by cases x; cases y; simp
theorem gArc_own {H : Hp} {l : List Value} {x : Arc} (h : gArc.rd H l x) : gArc.ow l x [] := by
  obtain ⟨rfl, w0, w2⟩ := gArc_rd.1 h
  exact gArc_ow.2 ⟨rfl, by simp, w0, w2⟩
--@gt impl.Arc | gArc | default | obtain ⟨rfl, w0x#, w2x#⟩ := gArc_rd.1 hl# | 0 1 pr gArc_from ; 1 1 pr gArc_label ; 2 1 pr gArc_to | 3 | gArc_own ‹_›

structure Nfa where
  states : Int
  arcs : List Arc
  ends : List Bool
deriving DecidableEq, Inhabited
def gNfa : Gt Nfa := gIso (SX.gPair gI (SX.gPair (gSl 339 gArc) (gSl 4 gB))) (fun x => (x.states, (x.arcs, x.ends))) (fun p => ⟨p.1, p.2.1, p.2.2⟩)
theorem gNfa_rd {H : Hp} {l : List Value} {x : Nfa} : gNfa.rd H l x ↔ ∃ (b1 : Option Addr) (c1 : Nat) (b2 : Option Addr) (c2 : Nat), l = .int .i64 x.states :: .slice b1 x.arcs.length c1 :: .slice b2 x.ends.length c2 :: [] ∧ okI x.states ∧ (gSl 339 gArc).rd H [.slice b1 x.arcs.length c1] x.arcs ∧ (gSl 4 gB).rd H [.slice b2 x.ends.length c2] x.ends := by
  constructor
  · rintro ⟨m0, q0, rfl, h0, m1, q1, rfl, h1, h2⟩
    obtain ⟨rfl, w0⟩ := h0
    obtain ⟨b1, c1, rfl, h1⟩ := sl_rd h1
    obtain ⟨b2, c2, rfl, h2⟩ := sl_rd h2
    exact ⟨b1, c1, b2, c2, rfl, w0, h1, h2⟩
  · rintro ⟨b1, c1, b2, c2, rfl, w0, h1, h2⟩
    exact ⟨[.int .i64 x.states], .slice b1 x.arcs.length c1 :: .slice b2 x.ends.length c2 :: [], rfl, ⟨rfl, w0⟩, ⟨[.slice b1 x.arcs.length c1], [.slice b2 x.ends.length c2], rfl, h1, h2⟩⟩
open Classical in
theorem gNfa_ow {A : Hp} {l : List Value} {x : Nfa} : gNfa.ow l x A ↔ ∃ (b1 : Option Addr) (c1 : Nat) (A1 : Hp) (b2 : Option Addr) (c2 : Nat) (A2 : Hp), l = .int .i64 x.states :: .slice b1 x.arcs.length c1 :: .slice b2 x.ends.length c2 :: [] ∧ A.Perm (A1 ++ A2) ∧ okI x.states ∧ (gSl 339 gArc).ow [.slice b1 x.arcs.length c1] x.arcs A1 ∧ (gSl 4 gB).ow [.slice b2 x.ends.length c2] x.ends A2 := by
  constructor
  · rintro ⟨m0, q0, D0, E0, rfl, p0, h0, m1, q1, D1, E1, rfl, p1, h1, h2⟩
    obtain ⟨rfl, w0, e0⟩ := h0
    subst e0
    obtain ⟨b1, c1, rfl, h1⟩ := sl_ow h1
    obtain ⟨b2, c2, rfl, h2⟩ := sl_ow h2
    exact ⟨b1, c1, D1, b2, c2, E1, rfl, (perm_cnt fun a => by have e0 := p0.count_eq a; have e1 := p1.count_eq a; simp only [List.count_append, List.count_nil] at *; omega), w0, h1, h2⟩
  · rintro ⟨b1, c1, A1, b2, c2, A2, rfl, hp, w0, h1, h2⟩
    exact ⟨[.int .i64 x.states], .slice b1 x.arcs.length c1 :: .slice b2 x.ends.length c2 :: [], [], (A1 ++ A2), rfl, (perm_cnt fun a => by have e := hp.count_eq a; simp only [List.count_append, List.count_nil] at *; omega), ⟨rfl, w0, rfl⟩, ⟨[.slice b1 x.arcs.length c1], [.slice b2 x.ends.length c2], A1, A2, rfl, .refl _, h1, h2⟩⟩
def zNfa : Nfa := ⟨0, [], []⟩
theorem zNfa_ow : gNfa.ow [.int .i64 0, .slice none 0 0, .slice none 0 0] zNfa [] := gNfa_ow.2 ⟨none, 0, [], none, 0, [], rfl, by simp, by first | (unfold okI; decide) | decide, sl_nil _ _ _, sl_nil _ _ _⟩
theorem gNfa_states : Fld gNfa gI (fun x => x.states) (fun x y => { x with states := y }) 0 := (Fld.fst _ _).iso (fun _ => rfl) (fun _ _ => rfl)
theorem gNfa_arcs : Fld gNfa (gSl 339 gArc) (fun x => x.arcs) (fun x y => { x with arcs := y }) 1 := ((Fld.snd _ _).comp (Fld.fst _ _)).iso (fun _ => rfl) (fun _ _ => rfl)
theorem gNfa_ends : Fld gNfa (gSl 4 gB) (fun x => x.ends) (fun x y => { x with ends := y }) 2 := ((Fld.snd _ _).comp (Fld.snd _ _)).iso (fun _ => rfl) (fun _ _ => rfl)
theorem gNfa_sz (x : Nfa) : gNfa.sz x = 0 + (szL gArc x.arcs + (szL gB x.ends)) := rfl
theorem gNfa_cnt (x : Nfa) : gNfa.cnt x = 1 + (cntL gArc x.arcs + (cntL gB x.ends)) := rfl
theorem gNfa_cntV (x : Nfa) : gNfa.cntV x = 0 + (cntL gArc x.arcs + (cntL gB x.ends)) := rfl
theorem gNfa_mark (k : Int) (x : Nfa) : gNfa.mark k x = ⟨k, mkL gArc (k + 1) x.arcs, mkL gB (k + 1 + cntL gArc x.arcs) x.ends⟩ := by
  have h : gNfa.mark k x = ⟨k, mkL gArc ((k + ((1 : Nat) : Int))) x.arcs, mkL gB (((k + ((1 : Nat) : Int)) + ((cntL gArc x.arcs : Nat) : Int))) x.ends⟩ := rfl
  rw [h] <;> simp
theorem gNfa_markV (k : Int) (x : Nfa) : gNfa.markV k x = ⟨x.states, mkL gArc (k) x.arcs, mkL gB (k + cntL gArc x.arcs) x.ends⟩ := by
  have h : gNfa.markV k x = ⟨x.states, mkL gArc ((k + ((0 : Nat) : Int))) x.arcs, mkL gB (((k + ((0 : Nat) : Int)) + ((cntL gArc x.arcs : Nat) : Int))) x.ends⟩ := rfl
  rw [h] <;> simp
theorem Nfa.eq_iff {x y : Nfa} : x = y ↔ x.states = y.states ∧ x.arcs = y.arcs ∧ x.ends = y.ends := by cases x; cases y; simp
--@gt impl.Nfa | gNfa | default | obtain ⟨b1x#, c1x#, b2x#, c2x#, rfl, w0x#, h1x#, h2x#⟩ := gNfa_rd.1 hl# | 0 1 pr gNfa_states ; 1 1 sl gNfa_arcs ; 2 1 sl gNfa_ends | 3 | 

structure Atom where
  from' : ByteArray
  path : ByteArray
  to : ByteArray
deriving DecidableEq, Inhabited
def gAtom : Gt Atom := gIso (SX.gPair gS (SX.gPair gS gS)) (fun x => (x.from', (x.path, x.to))) (fun p => ⟨p.1, p.2.1, p.2.2⟩)
theorem gAtom_rd {H : Hp} {l : List Value} {x : Atom} : gAtom.rd H l x ↔ l = .string x.from' :: .string x.path :: .string x.to :: [] ∧ x.from'.size ≤ 9223372036854775807 ∧ x.path.size ≤ 9223372036854775807 ∧ x.to.size ≤ 9223372036854775807 := by
  constructor
  · rintro ⟨m0, q0, rfl, h0, m1, q1, rfl, h1, h2⟩
    obtain ⟨rfl, w0⟩ := h0
    obtain ⟨rfl, w1⟩ := h1
    obtain ⟨rfl, w2⟩ := h2
    exact ⟨rfl, w0, w1, w2⟩
  · rintro ⟨rfl, w0, w1, w2⟩
    exact ⟨[.string x.from'], .string x.path :: .string x.to :: [], rfl, ⟨rfl, w0⟩, ⟨[.string x.path], [.string x.to], rfl, ⟨rfl, w1⟩, ⟨rfl, w2⟩⟩⟩
open Classical in
theorem gAtom_ow {A : Hp} {l : List Value} {x : Atom} : gAtom.ow l x A ↔ l = .string x.from' :: .string x.path :: .string x.to :: [] ∧ A.Perm [] ∧ x.from'.size ≤ 9223372036854775807 ∧ x.path.size ≤ 9223372036854775807 ∧ x.to.size ≤ 9223372036854775807 := by
  constructor
  · rintro ⟨m0, q0, D0, E0, rfl, p0, h0, m1, q1, D1, E1, rfl, p1, h1, h2⟩
    obtain ⟨rfl, w0, e0⟩ := h0
    subst e0
    obtain ⟨rfl, w1, e1⟩ := h1
    subst e1
    obtain ⟨rfl, w2, e2⟩ := h2
    subst e2
    exact ⟨rfl, (perm_cnt fun a => by have e0 := p0.count_eq a; have e1 := p1.count_eq a; simp only [List.count_append, List.count_nil] at *; omega), w0, w1, w2⟩
  · rintro ⟨rfl, hp, w0, w1, w2⟩
    exact ⟨[.string x.from'], .string x.path :: .string x.to :: [], [], ([] ++ []), rfl, (perm_cnt fun a => by have e := hp.count_eq a; simp only [List.count_append, List.count_nil] at *; omega), ⟨rfl, w0, rfl⟩, ⟨[.string x.path], [.string x.to], [], [], rfl, .refl _, ⟨rfl, w1, rfl⟩, ⟨rfl, w2, rfl⟩⟩⟩
theorem opens_Atom : Opens Tryz.prog gAtom.toRp 203 := by
  intro H' enc w H sp hd fuel cs d ps hcov ht
  obtain ⟨h1, h2⟩ := trod_fields ty203_ok.1 ht
  obtain ⟨_, _, t0⟩ := h2 0 0 9 rfl
  obtain ⟨x0, r0⟩ := (opens_fs ty9_ok.1) _ _ H _ _ _ _ _ _ hcov t0
  rw [show Tryz.prog.cellsOf 9 = 1 by kernel_rfl] at r0
  obtain ⟨_, _, t1⟩ := h2 1 1 9 rfl
  obtain ⟨x1, r1⟩ := (opens_fs ty9_ok.1) _ _ H _ _ _ _ _ _ hcov t1
  rw [show Tryz.prog.cellsOf 9 = 1 by kernel_rfl] at r1
  obtain ⟨_, _, t2⟩ := h2 2 2 9 rfl
  obtain ⟨x2, r2⟩ := (opens_fs ty9_ok.1) _ _ H _ _ _ _ _ _ hcov t2
  rw [show Tryz.prog.cellsOf 9 = 1 by kernel_rfl] at r2
  rw [show Tryz.prog.cellsOf 203 = 3 by kernel_rfl] at h1
  have key : gAtom.rd H ((cs.drop 0).take 3) ⟨x0, x1, x2⟩ := (pair_at (g := gS) (h := (SX.gPair gS gS)) (off := 0) r0 (pair_at (g := gS) (h := gS) (off := 1) r1 r2))
  rw [List.drop_zero, List.take_of_length_le (by omega)] at key
  exact ⟨_, key⟩
def zAtom : Atom := ⟨ByteArray.empty, ByteArray.empty, ByteArray.empty⟩
theorem zAtom_ow : gAtom.ow [.string .empty, .string .empty, .string .empty] zAtom [] := gAtom_ow.2 ⟨rfl, by simp, by first | (unfold okI; decide) | decide, by first | (unfold okI; decide) | decide, by first | (unfold okI; decide) | decide⟩
theorem gAtom_from : Fld gAtom gS (fun x => x.from') (fun x y => { x with from' := y }) 0 := (Fld.fst _ _).iso (fun _ => rfl) (fun _ _ => rfl)
theorem gAtom_path : Fld gAtom gS (fun x => x.path) (fun x y => { x with path := y }) 1 := ((Fld.snd _ _).comp (Fld.fst _ _)).iso (fun _ => rfl) (fun _ _ => rfl)
theorem gAtom_to : Fld gAtom gS (fun x => x.to) (fun x y => { x with to := y }) 2 := ((Fld.snd _ _).comp (Fld.snd _ _)).iso (fun _ => rfl) (fun _ _ => rfl)
theorem gAtom_sz (x : Atom) : gAtom.sz x = x.from'.size + (x.path.size + (x.to.size)) := rfl
theorem gAtom_cnt (x : Atom) : gAtom.cnt x = 1 + (1 + (1)) := rfl
theorem gAtom_cntV (x : Atom) : gAtom.cntV x = 0 + (0 + (0)) := rfl
theorem gAtom_mark (k : Int) (x : Atom) : gAtom.mark k x = ⟨mtx (k), mtx (k + 1), mtx (k + 1 + 1)⟩ := by
  have h : gAtom.mark k x = ⟨mtx (k), mtx ((k + ((1 : Nat) : Int))), mtx (((k + ((1 : Nat) : Int)) + ((1 : Nat) : Int)))⟩ := rfl
  rw [h] <;> simp
theorem gAtom_markV (k : Int) (x : Atom) : gAtom.markV k x = ⟨x.from', x.path, x.to⟩ := by
  have h : gAtom.markV k x = ⟨x.from', x.path, x.to⟩ := rfl
  rw [h] <;> simp
theorem Atom.eq_iff {x y : Atom} : x = y ↔ x.from' = y.from' ∧ x.path = y.path ∧ x.to = y.to := by cases x; cases y; simp
theorem gAtom_own {H : Hp} {l : List Value} {x : Atom} (h : gAtom.rd H l x) : gAtom.ow l x [] := by
  obtain ⟨rfl, w0, w1, w2⟩ := gAtom_rd.1 h
  exact gAtom_ow.2 ⟨rfl, by simp, w0, w1, w2⟩
--@gt impl.Atom | gAtom | default | obtain ⟨rfl, w0x#, w1x#, w2x#⟩ := gAtom_rd.1 hl# | 0 1 pr gAtom_from ; 1 1 pr gAtom_path ; 2 1 pr gAtom_to | 3 | gAtom_own ‹_›

structure Filter where
  left : ByteArray
  op : Int
  right : ByteArray
  num : Int
deriving DecidableEq, Inhabited
def gFilter : Gt Filter := gIso (SX.gPair gS (SX.gPair gI (SX.gPair gS gI))) (fun x => (x.left, (x.op, (x.right, x.num)))) (fun p => ⟨p.1, p.2.1, p.2.2.1, p.2.2.2⟩)
theorem gFilter_rd {H : Hp} {l : List Value} {x : Filter} : gFilter.rd H l x ↔ l = .string x.left :: .int .i64 x.op :: .string x.right :: .int .i64 x.num :: [] ∧ x.left.size ≤ 9223372036854775807 ∧ okI x.op ∧ x.right.size ≤ 9223372036854775807 ∧ okI x.num := by
  constructor
  · rintro ⟨m0, q0, rfl, h0, m1, q1, rfl, h1, m2, q2, rfl, h2, h3⟩
    obtain ⟨rfl, w0⟩ := h0
    obtain ⟨rfl, w1⟩ := h1
    obtain ⟨rfl, w2⟩ := h2
    obtain ⟨rfl, w3⟩ := h3
    exact ⟨rfl, w0, w1, w2, w3⟩
  · rintro ⟨rfl, w0, w1, w2, w3⟩
    exact ⟨[.string x.left], .int .i64 x.op :: .string x.right :: .int .i64 x.num :: [], rfl, ⟨rfl, w0⟩, ⟨[.int .i64 x.op], .string x.right :: .int .i64 x.num :: [], rfl, ⟨rfl, w1⟩, ⟨[.string x.right], [.int .i64 x.num], rfl, ⟨rfl, w2⟩, ⟨rfl, w3⟩⟩⟩⟩
open Classical in
theorem gFilter_ow {A : Hp} {l : List Value} {x : Filter} : gFilter.ow l x A ↔ l = .string x.left :: .int .i64 x.op :: .string x.right :: .int .i64 x.num :: [] ∧ A.Perm [] ∧ x.left.size ≤ 9223372036854775807 ∧ okI x.op ∧ x.right.size ≤ 9223372036854775807 ∧ okI x.num := by
  constructor
  · rintro ⟨m0, q0, D0, E0, rfl, p0, h0, m1, q1, D1, E1, rfl, p1, h1, m2, q2, D2, E2, rfl, p2, h2, h3⟩
    obtain ⟨rfl, w0, e0⟩ := h0
    subst e0
    obtain ⟨rfl, w1, e1⟩ := h1
    subst e1
    obtain ⟨rfl, w2, e2⟩ := h2
    subst e2
    obtain ⟨rfl, w3, e3⟩ := h3
    subst e3
    exact ⟨rfl, (perm_cnt fun a => by have e0 := p0.count_eq a; have e1 := p1.count_eq a; have e2 := p2.count_eq a; simp only [List.count_append, List.count_nil] at *; omega), w0, w1, w2, w3⟩
  · rintro ⟨rfl, hp, w0, w1, w2, w3⟩
    exact ⟨[.string x.left], .int .i64 x.op :: .string x.right :: .int .i64 x.num :: [], [], ([] ++ ([] ++ [])), rfl, (perm_cnt fun a => by have e := hp.count_eq a; simp only [List.count_append, List.count_nil] at *; omega), ⟨rfl, w0, rfl⟩, ⟨[.int .i64 x.op], .string x.right :: .int .i64 x.num :: [], [], ([] ++ []), rfl, .refl _, ⟨rfl, w1, rfl⟩, ⟨[.string x.right], [.int .i64 x.num], [], [], rfl, .refl _, ⟨rfl, w2, rfl⟩, ⟨rfl, w3, rfl⟩⟩⟩⟩
theorem opens_Filter : Opens Tryz.prog gFilter.toRp 206 := by
  intro H' enc w H sp hd fuel cs d ps hcov ht
  obtain ⟨h1, h2⟩ := trod_fields ty206_ok.1 ht
  obtain ⟨_, _, t0⟩ := h2 0 0 9 rfl
  obtain ⟨x0, r0⟩ := (opens_fs ty9_ok.1) _ _ H _ _ _ _ _ _ hcov t0
  rw [show Tryz.prog.cellsOf 9 = 1 by kernel_rfl] at r0
  obtain ⟨_, _, t1⟩ := h2 1 1 3 rfl
  obtain ⟨x1, r1⟩ := (opens_fi ty3_ok.1) _ _ H _ _ _ _ _ _ hcov t1
  rw [show Tryz.prog.cellsOf 3 = 1 by kernel_rfl] at r1
  obtain ⟨_, _, t2⟩ := h2 2 2 9 rfl
  obtain ⟨x2, r2⟩ := (opens_fs ty9_ok.1) _ _ H _ _ _ _ _ _ hcov t2
  rw [show Tryz.prog.cellsOf 9 = 1 by kernel_rfl] at r2
  obtain ⟨_, _, t3⟩ := h2 3 3 3 rfl
  obtain ⟨x3, r3⟩ := (opens_fi ty3_ok.1) _ _ H _ _ _ _ _ _ hcov t3
  rw [show Tryz.prog.cellsOf 3 = 1 by kernel_rfl] at r3
  rw [show Tryz.prog.cellsOf 206 = 4 by kernel_rfl] at h1
  have key : gFilter.rd H ((cs.drop 0).take 4) ⟨x0, x1, x2, x3⟩ := (pair_at (g := gS) (h := (SX.gPair gI (SX.gPair gS gI))) (off := 0) r0 (pair_at (g := gI) (h := (SX.gPair gS gI)) (off := 1) r1 (pair_at (g := gS) (h := gI) (off := 2) r2 r3)))
  rw [List.drop_zero, List.take_of_length_le (by omega)] at key
  exact ⟨_, key⟩
def zFilter : Filter := ⟨ByteArray.empty, 0, ByteArray.empty, 0⟩
theorem zFilter_ow : gFilter.ow [.string .empty, .int .i64 0, .string .empty, .int .i64 0] zFilter [] := gFilter_ow.2 ⟨rfl, by simp, by first | (unfold okI; decide) | decide, by first | (unfold okI; decide) | decide, by first | (unfold okI; decide) | decide, by first | (unfold okI; decide) | decide⟩
theorem gFilter_left : Fld gFilter gS (fun x => x.left) (fun x y => { x with left := y }) 0 := (Fld.fst _ _).iso (fun _ => rfl) (fun _ _ => rfl)
theorem gFilter_op : Fld gFilter gI (fun x => x.op) (fun x y => { x with op := y }) 1 := ((Fld.snd _ _).comp (Fld.fst _ _)).iso (fun _ => rfl) (fun _ _ => rfl)
theorem gFilter_right : Fld gFilter gS (fun x => x.right) (fun x y => { x with right := y }) 2 := ((Fld.snd _ _).comp ((Fld.snd _ _).comp (Fld.fst _ _))).iso (fun _ => rfl) (fun _ _ => rfl)
theorem gFilter_num : Fld gFilter gI (fun x => x.num) (fun x y => { x with num := y }) 3 := ((Fld.snd _ _).comp ((Fld.snd _ _).comp (Fld.snd _ _))).iso (fun _ => rfl) (fun _ _ => rfl)
theorem gFilter_sz (x : Filter) : gFilter.sz x = x.left.size + (0 + (x.right.size + (0))) := rfl
theorem gFilter_cnt (x : Filter) : gFilter.cnt x = 1 + (1 + (1 + (1))) := rfl
theorem gFilter_cntV (x : Filter) : gFilter.cntV x = 0 + (0 + (0 + (0))) := rfl
theorem gFilter_mark (k : Int) (x : Filter) : gFilter.mark k x = ⟨mtx (k), k + 1, mtx (k + 1 + 1), k + 1 + 1 + 1⟩ := by
  have h : gFilter.mark k x = ⟨mtx (k), (k + ((1 : Nat) : Int)), mtx (((k + ((1 : Nat) : Int)) + ((1 : Nat) : Int))), (((k + ((1 : Nat) : Int)) + ((1 : Nat) : Int)) + ((1 : Nat) : Int))⟩ := rfl
  rw [h] <;> simp
theorem gFilter_markV (k : Int) (x : Filter) : gFilter.markV k x = ⟨x.left, x.op, x.right, x.num⟩ := by
  have h : gFilter.markV k x = ⟨x.left, x.op, x.right, x.num⟩ := rfl
  rw [h] <;> simp
theorem Filter.eq_iff {x y : Filter} : x = y ↔ x.left = y.left ∧ x.op = y.op ∧ x.right = y.right ∧ x.num = y.num := by cases x; cases y; simp
theorem gFilter_own {H : Hp} {l : List Value} {x : Filter} (h : gFilter.rd H l x) : gFilter.ow l x [] := by
  obtain ⟨rfl, w0, w1, w2, w3⟩ := gFilter_rd.1 h
  exact gFilter_ow.2 ⟨rfl, by simp, w0, w1, w2, w3⟩
--@gt impl.Filter | gFilter | default | obtain ⟨rfl, w0x#, w1x#, w2x#, w3x#⟩ := gFilter_rd.1 hl# | 0 1 pr gFilter_left ; 1 1 pr gFilter_op ; 2 1 pr gFilter_right ; 3 1 pr gFilter_num | 4 | gFilter_own ‹_›

structure Query where
  each : Bool
  out : List ByteArray
  atoms : List Atom
  filters : List Filter
deriving DecidableEq, Inhabited
def gQuery : Gt Query := gIso (SX.gPair gB (SX.gPair (gSl 9 gS) (SX.gPair (gSl 143 gAtom) (gSl 214 gFilter)))) (fun x => (x.each, (x.out, (x.atoms, x.filters)))) (fun p => ⟨p.1, p.2.1, p.2.2.1, p.2.2.2⟩)
theorem gQuery_rd {H : Hp} {l : List Value} {x : Query} : gQuery.rd H l x ↔ ∃ (b1 : Option Addr) (c1 : Nat) (b2 : Option Addr) (c2 : Nat) (b3 : Option Addr) (c3 : Nat), l = .bool x.each :: .slice b1 x.out.length c1 :: .slice b2 x.atoms.length c2 :: .slice b3 x.filters.length c3 :: [] ∧ (gSl 9 gS).rd H [.slice b1 x.out.length c1] x.out ∧ (gSl 143 gAtom).rd H [.slice b2 x.atoms.length c2] x.atoms ∧ (gSl 214 gFilter).rd H [.slice b3 x.filters.length c3] x.filters := by
  constructor
  · rintro ⟨m0, q0, rfl, h0, m1, q1, rfl, h1, m2, q2, rfl, h2, h3⟩
    obtain ⟨rfl, w0⟩ := h0
    obtain ⟨b1, c1, rfl, h1⟩ := sl_rd h1
    obtain ⟨b2, c2, rfl, h2⟩ := sl_rd h2
    obtain ⟨b3, c3, rfl, h3⟩ := sl_rd h3
    exact ⟨b1, c1, b2, c2, b3, c3, rfl, h1, h2, h3⟩
  · rintro ⟨b1, c1, b2, c2, b3, c3, rfl, h1, h2, h3⟩
    exact ⟨[.bool x.each], .slice b1 x.out.length c1 :: .slice b2 x.atoms.length c2 :: .slice b3 x.filters.length c3 :: [], rfl, ⟨rfl, trivial⟩, ⟨[.slice b1 x.out.length c1], .slice b2 x.atoms.length c2 :: .slice b3 x.filters.length c3 :: [], rfl, h1, ⟨[.slice b2 x.atoms.length c2], [.slice b3 x.filters.length c3], rfl, h2, h3⟩⟩⟩
open Classical in
theorem gQuery_ow {A : Hp} {l : List Value} {x : Query} : gQuery.ow l x A ↔ ∃ (b1 : Option Addr) (c1 : Nat) (A1 : Hp) (b2 : Option Addr) (c2 : Nat) (A2 : Hp) (b3 : Option Addr) (c3 : Nat) (A3 : Hp), l = .bool x.each :: .slice b1 x.out.length c1 :: .slice b2 x.atoms.length c2 :: .slice b3 x.filters.length c3 :: [] ∧ A.Perm (A1 ++ (A2 ++ A3)) ∧ (gSl 9 gS).ow [.slice b1 x.out.length c1] x.out A1 ∧ (gSl 143 gAtom).ow [.slice b2 x.atoms.length c2] x.atoms A2 ∧ (gSl 214 gFilter).ow [.slice b3 x.filters.length c3] x.filters A3 := by
  constructor
  · rintro ⟨m0, q0, D0, E0, rfl, p0, h0, m1, q1, D1, E1, rfl, p1, h1, m2, q2, D2, E2, rfl, p2, h2, h3⟩
    obtain ⟨rfl, w0, e0⟩ := h0
    subst e0
    obtain ⟨b1, c1, rfl, h1⟩ := sl_ow h1
    obtain ⟨b2, c2, rfl, h2⟩ := sl_ow h2
    obtain ⟨b3, c3, rfl, h3⟩ := sl_ow h3
    exact ⟨b1, c1, D1, b2, c2, D2, b3, c3, E2, rfl, (perm_cnt fun a => by have e0 := p0.count_eq a; have e1 := p1.count_eq a; have e2 := p2.count_eq a; simp only [List.count_append, List.count_nil] at *; omega), h1, h2, h3⟩
  · rintro ⟨b1, c1, A1, b2, c2, A2, b3, c3, A3, rfl, hp, h1, h2, h3⟩
    exact ⟨[.bool x.each], .slice b1 x.out.length c1 :: .slice b2 x.atoms.length c2 :: .slice b3 x.filters.length c3 :: [], [], (A1 ++ (A2 ++ A3)), rfl, (perm_cnt fun a => by have e := hp.count_eq a; simp only [List.count_append, List.count_nil] at *; omega), ⟨rfl, trivial, rfl⟩, ⟨[.slice b1 x.out.length c1], .slice b2 x.atoms.length c2 :: .slice b3 x.filters.length c3 :: [], A1, (A2 ++ A3), rfl, .refl _, h1, ⟨[.slice b2 x.atoms.length c2], [.slice b3 x.filters.length c3], A2, A3, rfl, .refl _, h2, h3⟩⟩⟩
theorem opens_Query : Opens Tryz.prog gQuery.toRp 30 := by
  intro H' enc w H sp hd fuel cs d ps hcov ht
  obtain ⟨h1, h2⟩ := trod_fields ty30_ok.1 ht
  obtain ⟨_, _, t0⟩ := h2 0 0 4 rfl
  obtain ⟨x0, r0⟩ := (opens_fb ty4_ok.1) _ _ H _ _ _ _ _ _ hcov t0
  rw [show Tryz.prog.cellsOf 4 = 1 by kernel_rfl] at r0
  obtain ⟨_, _, t1⟩ := h2 1 1 26 rfl
  obtain ⟨x1, r1⟩ := (opens_sl ty26_ok.1 (by kernel_rfl) (by decide) (opens_fs ty9_ok.1)) _ _ H _ _ _ _ _ _ hcov t1
  rw [show Tryz.prog.cellsOf 26 = 1 by kernel_rfl] at r1
  obtain ⟨_, _, t2⟩ := h2 2 2 27 rfl
  obtain ⟨x2, r2⟩ := (opens_sl ty27_ok.1 (by kernel_rfl) (by decide) opens_Atom) _ _ H _ _ _ _ _ _ hcov t2
  rw [show Tryz.prog.cellsOf 27 = 1 by kernel_rfl] at r2
  obtain ⟨_, _, t3⟩ := h2 3 3 28 rfl
  obtain ⟨x3, r3⟩ := (opens_sl ty28_ok.1 (by kernel_rfl) (by decide) opens_Filter) _ _ H _ _ _ _ _ _ hcov t3
  rw [show Tryz.prog.cellsOf 28 = 1 by kernel_rfl] at r3
  rw [show Tryz.prog.cellsOf 30 = 4 by kernel_rfl] at h1
  have key : gQuery.rd H ((cs.drop 0).take 4) ⟨x0, x1, x2, x3⟩ := (pair_at (g := gB) (h := (SX.gPair (gSl 9 gS) (SX.gPair (gSl 143 gAtom) (gSl 214 gFilter)))) (off := 0) r0 (pair_at (g := (gSl 9 gS)) (h := (SX.gPair (gSl 143 gAtom) (gSl 214 gFilter))) (off := 1) r1 (pair_at (g := (gSl 143 gAtom)) (h := (gSl 214 gFilter)) (off := 2) r2 r3)))
  rw [List.drop_zero, List.take_of_length_le (by omega)] at key
  exact ⟨_, key⟩
def zQuery : Query := ⟨false, [], [], []⟩
theorem zQuery_ow : gQuery.ow [.bool false, .slice none 0 0, .slice none 0 0, .slice none 0 0] zQuery [] := gQuery_ow.2 ⟨none, 0, [], none, 0, [], none, 0, [], rfl, by simp, sl_nil _ _ _, sl_nil _ _ _, sl_nil _ _ _⟩
theorem gQuery_each : Fld gQuery gB (fun x => x.each) (fun x y => { x with each := y }) 0 := (Fld.fst _ _).iso (fun _ => rfl) (fun _ _ => rfl)
theorem gQuery_out : Fld gQuery (gSl 9 gS) (fun x => x.out) (fun x y => { x with out := y }) 1 := ((Fld.snd _ _).comp (Fld.fst _ _)).iso (fun _ => rfl) (fun _ _ => rfl)
theorem gQuery_atoms : Fld gQuery (gSl 143 gAtom) (fun x => x.atoms) (fun x y => { x with atoms := y }) 2 := ((Fld.snd _ _).comp ((Fld.snd _ _).comp (Fld.fst _ _))).iso (fun _ => rfl) (fun _ _ => rfl)
theorem gQuery_filters : Fld gQuery (gSl 214 gFilter) (fun x => x.filters) (fun x y => { x with filters := y }) 3 := ((Fld.snd _ _).comp ((Fld.snd _ _).comp (Fld.snd _ _))).iso (fun _ => rfl) (fun _ _ => rfl)
theorem gQuery_sz (x : Query) : gQuery.sz x = 0 + (szL gS x.out + (szL gAtom x.atoms + (szL gFilter x.filters))) := rfl
theorem gQuery_cnt (x : Query) : gQuery.cnt x = 1 + (cntL gS x.out + (cntL gAtom x.atoms + (cntL gFilter x.filters))) := rfl
theorem gQuery_cntV (x : Query) : gQuery.cntV x = 0 + (cntL gS x.out + (cntL gAtom x.atoms + (cntL gFilter x.filters))) := rfl
theorem gQuery_mark (k : Int) (x : Query) : gQuery.mark k x = ⟨(k).tmod 3 == 0, mkL gS (k + 1) x.out, mkL gAtom (k + 1 + cntL gS x.out) x.atoms, mkL gFilter (k + 1 + cntL gS x.out + cntL gAtom x.atoms) x.filters⟩ := by
  have h : gQuery.mark k x = ⟨(k).tmod 3 == 0, mkL gS ((k + ((1 : Nat) : Int))) x.out, mkL gAtom (((k + ((1 : Nat) : Int)) + ((cntL gS x.out : Nat) : Int))) x.atoms, mkL gFilter ((((k + ((1 : Nat) : Int)) + ((cntL gS x.out : Nat) : Int)) + ((cntL gAtom x.atoms : Nat) : Int))) x.filters⟩ := rfl
  rw [h] <;> simp
theorem gQuery_markV (k : Int) (x : Query) : gQuery.markV k x = ⟨x.each, mkL gS (k) x.out, mkL gAtom (k + cntL gS x.out) x.atoms, mkL gFilter (k + cntL gS x.out + cntL gAtom x.atoms) x.filters⟩ := by
  have h : gQuery.markV k x = ⟨x.each, mkL gS ((k + ((0 : Nat) : Int))) x.out, mkL gAtom (((k + ((0 : Nat) : Int)) + ((cntL gS x.out : Nat) : Int))) x.atoms, mkL gFilter ((((k + ((0 : Nat) : Int)) + ((cntL gS x.out : Nat) : Int)) + ((cntL gAtom x.atoms : Nat) : Int))) x.filters⟩ := rfl
  rw [h] <;> simp
theorem Query.eq_iff {x y : Query} : x = y ↔ x.each = y.each ∧ x.out = y.out ∧ x.atoms = y.atoms ∧ x.filters = y.filters := by cases x; cases y; simp
--@gt impl.Query | gQuery | default | obtain ⟨b1x#, c1x#, b2x#, c2x#, b3x#, c3x#, rfl, h1x#, h2x#, h3x#⟩ := gQuery_rd.1 hl# | 0 1 pr gQuery_each ; 1 1 sl gQuery_out ; 2 1 sl gQuery_atoms ; 3 1 sl gQuery_filters | 4 | 

structure File where
  name : ByteArray
  text : ByteArray
  kept : Int
deriving DecidableEq, Inhabited
def gFile : Gt File := gIso (SX.gPair gS (SX.gPair gS gI)) (fun x => (x.name, (x.text, x.kept))) (fun p => ⟨p.1, p.2.1, p.2.2⟩)
theorem gFile_rd {H : Hp} {l : List Value} {x : File} : gFile.rd H l x ↔ l = .string x.name :: .string x.text :: .int .i64 x.kept :: [] ∧ x.name.size ≤ 9223372036854775807 ∧ x.text.size ≤ 9223372036854775807 ∧ okI x.kept := by
  constructor
  · rintro ⟨m0, q0, rfl, h0, m1, q1, rfl, h1, h2⟩
    obtain ⟨rfl, w0⟩ := h0
    obtain ⟨rfl, w1⟩ := h1
    obtain ⟨rfl, w2⟩ := h2
    exact ⟨rfl, w0, w1, w2⟩
  · rintro ⟨rfl, w0, w1, w2⟩
    exact ⟨[.string x.name], .string x.text :: .int .i64 x.kept :: [], rfl, ⟨rfl, w0⟩, ⟨[.string x.text], [.int .i64 x.kept], rfl, ⟨rfl, w1⟩, ⟨rfl, w2⟩⟩⟩
open Classical in
theorem gFile_ow {A : Hp} {l : List Value} {x : File} : gFile.ow l x A ↔ l = .string x.name :: .string x.text :: .int .i64 x.kept :: [] ∧ A.Perm [] ∧ x.name.size ≤ 9223372036854775807 ∧ x.text.size ≤ 9223372036854775807 ∧ okI x.kept := by
  constructor
  · rintro ⟨m0, q0, D0, E0, rfl, p0, h0, m1, q1, D1, E1, rfl, p1, h1, h2⟩
    obtain ⟨rfl, w0, e0⟩ := h0
    subst e0
    obtain ⟨rfl, w1, e1⟩ := h1
    subst e1
    obtain ⟨rfl, w2, e2⟩ := h2
    subst e2
    exact ⟨rfl, (perm_cnt fun a => by have e0 := p0.count_eq a; have e1 := p1.count_eq a; simp only [List.count_append, List.count_nil] at *; omega), w0, w1, w2⟩
  · rintro ⟨rfl, hp, w0, w1, w2⟩
    exact ⟨[.string x.name], .string x.text :: .int .i64 x.kept :: [], [], ([] ++ []), rfl, (perm_cnt fun a => by have e := hp.count_eq a; simp only [List.count_append, List.count_nil] at *; omega), ⟨rfl, w0, rfl⟩, ⟨[.string x.text], [.int .i64 x.kept], [], [], rfl, .refl _, ⟨rfl, w1, rfl⟩, ⟨rfl, w2, rfl⟩⟩⟩
theorem opens_File : Opens Tryz.prog gFile.toRp 247 := by
  intro H' enc w H sp hd fuel cs d ps hcov ht
  obtain ⟨h1, h2⟩ := trod_fields ty247_ok.1 ht
  obtain ⟨_, _, t0⟩ := h2 0 0 9 rfl
  obtain ⟨x0, r0⟩ := (opens_fs ty9_ok.1) _ _ H _ _ _ _ _ _ hcov t0
  rw [show Tryz.prog.cellsOf 9 = 1 by kernel_rfl] at r0
  obtain ⟨_, _, t1⟩ := h2 1 1 9 rfl
  obtain ⟨x1, r1⟩ := (opens_fs ty9_ok.1) _ _ H _ _ _ _ _ _ hcov t1
  rw [show Tryz.prog.cellsOf 9 = 1 by kernel_rfl] at r1
  obtain ⟨_, _, t2⟩ := h2 2 2 3 rfl
  obtain ⟨x2, r2⟩ := (opens_fi ty3_ok.1) _ _ H _ _ _ _ _ _ hcov t2
  rw [show Tryz.prog.cellsOf 3 = 1 by kernel_rfl] at r2
  rw [show Tryz.prog.cellsOf 247 = 3 by kernel_rfl] at h1
  have key : gFile.rd H ((cs.drop 0).take 3) ⟨x0, x1, x2⟩ := (pair_at (g := gS) (h := (SX.gPair gS gI)) (off := 0) r0 (pair_at (g := gS) (h := gI) (off := 1) r1 r2))
  rw [List.drop_zero, List.take_of_length_le (by omega)] at key
  exact ⟨_, key⟩
def zFile : File := ⟨ByteArray.empty, ByteArray.empty, 0⟩
theorem zFile_ow : gFile.ow [.string .empty, .string .empty, .int .i64 0] zFile [] := gFile_ow.2 ⟨rfl, by simp, by first | (unfold okI; decide) | decide, by first | (unfold okI; decide) | decide, by first | (unfold okI; decide) | decide⟩
theorem gFile_name : Fld gFile gS (fun x => x.name) (fun x y => { x with name := y }) 0 := (Fld.fst _ _).iso (fun _ => rfl) (fun _ _ => rfl)
theorem gFile_text : Fld gFile gS (fun x => x.text) (fun x y => { x with text := y }) 1 := ((Fld.snd _ _).comp (Fld.fst _ _)).iso (fun _ => rfl) (fun _ _ => rfl)
theorem gFile_kept : Fld gFile gI (fun x => x.kept) (fun x y => { x with kept := y }) 2 := ((Fld.snd _ _).comp (Fld.snd _ _)).iso (fun _ => rfl) (fun _ _ => rfl)
theorem gFile_sz (x : File) : gFile.sz x = x.name.size + (x.text.size + (0)) := rfl
theorem gFile_cnt (x : File) : gFile.cnt x = 1 + (1 + (1)) := rfl
theorem gFile_cntV (x : File) : gFile.cntV x = 0 + (0 + (0)) := rfl
theorem gFile_mark (k : Int) (x : File) : gFile.mark k x = ⟨mtx (k), mtx (k + 1), k + 1 + 1⟩ := by
  have h : gFile.mark k x = ⟨mtx (k), mtx ((k + ((1 : Nat) : Int))), ((k + ((1 : Nat) : Int)) + ((1 : Nat) : Int))⟩ := rfl
  rw [h] <;> simp
theorem gFile_markV (k : Int) (x : File) : gFile.markV k x = ⟨x.name, x.text, x.kept⟩ := by
  have h : gFile.markV k x = ⟨x.name, x.text, x.kept⟩ := rfl
  rw [h] <;> simp
theorem File.eq_iff {x y : File} : x = y ↔ x.name = y.name ∧ x.text = y.text ∧ x.kept = y.kept := by cases x; cases y; simp
theorem gFile_own {H : Hp} {l : List Value} {x : File} (h : gFile.rd H l x) : gFile.ow l x [] := by
  obtain ⟨rfl, w0, w1, w2⟩ := gFile_rd.1 h
  exact gFile_ow.2 ⟨rfl, by simp, w0, w1, w2⟩
--@gt impl.File | gFile | default | obtain ⟨rfl, w0x#, w1x#, w2x#⟩ := gFile_rd.1 hl# | 0 1 pr gFile_name ; 1 1 pr gFile_text ; 2 1 pr gFile_kept | 3 | gFile_own ‹_›

structure Disk where
  files : List File
deriving DecidableEq, Inhabited
def gDisk : Gt Disk := gIso (gSl 256 gFile) (fun x => x.files) (fun p => ⟨p⟩)
theorem gDisk_rd {H : Hp} {l : List Value} {x : Disk} : gDisk.rd H l x ↔ ∃ (b0 : Option Addr) (c0 : Nat), l = .slice b0 x.files.length c0 :: [] ∧ (gSl 256 gFile).rd H [.slice b0 x.files.length c0] x.files := by
  constructor
  · rintro h0
    obtain ⟨b0, c0, rfl, h0⟩ := sl_rd h0
    exact ⟨b0, c0, rfl, h0⟩
  · rintro ⟨b0, c0, rfl, h0⟩
    exact h0
open Classical in
theorem gDisk_ow {A : Hp} {l : List Value} {x : Disk} : gDisk.ow l x A ↔ ∃ (b0 : Option Addr) (c0 : Nat) (A0 : Hp), l = .slice b0 x.files.length c0 :: [] ∧ A.Perm A0 ∧ (gSl 256 gFile).ow [.slice b0 x.files.length c0] x.files A0 := by
  constructor
  · rintro h0
    obtain ⟨b0, c0, rfl, h0⟩ := sl_ow h0
    exact ⟨b0, c0, A, rfl, .refl _, h0⟩
  · rintro ⟨b0, c0, A0, rfl, hp, h0⟩
    exact gDisk.owp (l := _) (x := x) h0 hp
theorem opens_Disk : Opens Tryz.prog gDisk.toRp 24 := by
  intro H' enc w H sp hd fuel cs d ps hcov ht
  obtain ⟨h1, h2⟩ := trod_fields ty24_ok.1 ht
  obtain ⟨_, _, t0⟩ := h2 0 0 22 rfl
  obtain ⟨x0, r0⟩ := (opens_sl ty22_ok.1 (by kernel_rfl) (by decide) opens_File) _ _ H _ _ _ _ _ _ hcov t0
  rw [show Tryz.prog.cellsOf 22 = 1 by kernel_rfl] at r0
  rw [show Tryz.prog.cellsOf 24 = 1 by kernel_rfl] at h1
  have key : gDisk.rd H ((cs.drop 0).take 1) ⟨x0⟩ := r0
  rw [List.drop_zero, List.take_of_length_le (by omega)] at key
  exact ⟨_, key⟩
def zDisk : Disk := ⟨[]⟩
theorem zDisk_ow : gDisk.ow [.slice none 0 0] zDisk [] := gDisk_ow.2 ⟨none, 0, [], rfl, by simp, sl_nil _ _ _⟩
theorem gDisk_files : Fld gDisk (gSl 256 gFile) (fun x => x.files) (fun x y => { x with files := y }) 0 := (Fld.id _).iso (fun _ => rfl) (fun _ _ => rfl)
theorem gDisk_sz (x : Disk) : gDisk.sz x = szL gFile x.files := rfl
theorem gDisk_cnt (x : Disk) : gDisk.cnt x = cntL gFile x.files := rfl
theorem gDisk_cntV (x : Disk) : gDisk.cntV x = cntL gFile x.files := rfl
theorem gDisk_mark (k : Int) (x : Disk) : gDisk.mark k x = ⟨mkL gFile (k) x.files⟩ := by
  have h : gDisk.mark k x = ⟨mkL gFile (k) x.files⟩ := rfl
  rw [h] <;> simp
theorem gDisk_markV (k : Int) (x : Disk) : gDisk.markV k x = ⟨mkL gFile (k) x.files⟩ := by
  have h : gDisk.markV k x = ⟨mkL gFile (k) x.files⟩ := rfl
  rw [h] <;> simp
theorem Disk.eq_iff {x y : Disk} : x = y ↔ x.files = y.files := by cases x; cases y; simp
--@gt impl.Disk | gDisk | default | obtain ⟨b0x#, c0x#, rfl, h0x#⟩ := gDisk_rd.1 hl# | 0 1 sl gDisk_files | 1 | 

structure Walk where
  atom : Int
  src : Int
  at' : Int
  state : Int
deriving DecidableEq, Inhabited
def gWalk : Gt Walk := gIso (SX.gPair gI (SX.gPair gI (SX.gPair gI gI))) (fun x => (x.atom, (x.src, (x.at', x.state)))) (fun p => ⟨p.1, p.2.1, p.2.2.1, p.2.2.2⟩)
theorem gWalk_rd {H : Hp} {l : List Value} {x : Walk} : gWalk.rd H l x ↔ l = .int .i64 x.atom :: .int .i64 x.src :: .int .i64 x.at' :: .int .i64 x.state :: [] ∧ okI x.atom ∧ okI x.src ∧ okI x.at' ∧ okI x.state := by
  constructor
  · rintro ⟨m0, q0, rfl, h0, m1, q1, rfl, h1, m2, q2, rfl, h2, h3⟩
    obtain ⟨rfl, w0⟩ := h0
    obtain ⟨rfl, w1⟩ := h1
    obtain ⟨rfl, w2⟩ := h2
    obtain ⟨rfl, w3⟩ := h3
    exact ⟨rfl, w0, w1, w2, w3⟩
  · rintro ⟨rfl, w0, w1, w2, w3⟩
    exact ⟨[.int .i64 x.atom], .int .i64 x.src :: .int .i64 x.at' :: .int .i64 x.state :: [], rfl, ⟨rfl, w0⟩, ⟨[.int .i64 x.src], .int .i64 x.at' :: .int .i64 x.state :: [], rfl, ⟨rfl, w1⟩, ⟨[.int .i64 x.at'], [.int .i64 x.state], rfl, ⟨rfl, w2⟩, ⟨rfl, w3⟩⟩⟩⟩
open Classical in
theorem gWalk_ow {A : Hp} {l : List Value} {x : Walk} : gWalk.ow l x A ↔ l = .int .i64 x.atom :: .int .i64 x.src :: .int .i64 x.at' :: .int .i64 x.state :: [] ∧ A.Perm [] ∧ okI x.atom ∧ okI x.src ∧ okI x.at' ∧ okI x.state := by
  constructor
  · rintro ⟨m0, q0, D0, E0, rfl, p0, h0, m1, q1, D1, E1, rfl, p1, h1, m2, q2, D2, E2, rfl, p2, h2, h3⟩
    obtain ⟨rfl, w0, e0⟩ := h0
    subst e0
    obtain ⟨rfl, w1, e1⟩ := h1
    subst e1
    obtain ⟨rfl, w2, e2⟩ := h2
    subst e2
    obtain ⟨rfl, w3, e3⟩ := h3
    subst e3
    exact ⟨rfl, (perm_cnt fun a => by have e0 := p0.count_eq a; have e1 := p1.count_eq a; have e2 := p2.count_eq a; simp only [List.count_append, List.count_nil] at *; omega), w0, w1, w2, w3⟩
  · rintro ⟨rfl, hp, w0, w1, w2, w3⟩
    exact ⟨[.int .i64 x.atom], .int .i64 x.src :: .int .i64 x.at' :: .int .i64 x.state :: [], [], ([] ++ ([] ++ [])), rfl, (perm_cnt fun a => by have e := hp.count_eq a; simp only [List.count_append, List.count_nil] at *; omega), ⟨rfl, w0, rfl⟩, ⟨[.int .i64 x.src], .int .i64 x.at' :: .int .i64 x.state :: [], [], ([] ++ []), rfl, .refl _, ⟨rfl, w1, rfl⟩, ⟨[.int .i64 x.at'], [.int .i64 x.state], [], [], rfl, .refl _, ⟨rfl, w2, rfl⟩, ⟨rfl, w3, rfl⟩⟩⟩⟩
theorem opens_Walk : Opens Tryz.prog gWalk.toRp 240 := by
  intro H' enc w H sp hd fuel cs d ps hcov ht
  obtain ⟨h1, h2⟩ := trod_fields ty240_ok.1 ht
  obtain ⟨_, _, t0⟩ := h2 0 0 3 rfl
  obtain ⟨x0, r0⟩ := (opens_fi ty3_ok.1) _ _ H _ _ _ _ _ _ hcov t0
  rw [show Tryz.prog.cellsOf 3 = 1 by kernel_rfl] at r0
  obtain ⟨_, _, t1⟩ := h2 1 1 3 rfl
  obtain ⟨x1, r1⟩ := (opens_fi ty3_ok.1) _ _ H _ _ _ _ _ _ hcov t1
  rw [show Tryz.prog.cellsOf 3 = 1 by kernel_rfl] at r1
  obtain ⟨_, _, t2⟩ := h2 2 2 3 rfl
  obtain ⟨x2, r2⟩ := (opens_fi ty3_ok.1) _ _ H _ _ _ _ _ _ hcov t2
  rw [show Tryz.prog.cellsOf 3 = 1 by kernel_rfl] at r2
  obtain ⟨_, _, t3⟩ := h2 3 3 3 rfl
  obtain ⟨x3, r3⟩ := (opens_fi ty3_ok.1) _ _ H _ _ _ _ _ _ hcov t3
  rw [show Tryz.prog.cellsOf 3 = 1 by kernel_rfl] at r3
  rw [show Tryz.prog.cellsOf 240 = 4 by kernel_rfl] at h1
  have key : gWalk.rd H ((cs.drop 0).take 4) ⟨x0, x1, x2, x3⟩ := (pair_at (g := gI) (h := (SX.gPair gI (SX.gPair gI gI))) (off := 0) r0 (pair_at (g := gI) (h := (SX.gPair gI gI)) (off := 1) r1 (pair_at (g := gI) (h := gI) (off := 2) r2 r3)))
  rw [List.drop_zero, List.take_of_length_le (by omega)] at key
  exact ⟨_, key⟩
def zWalk : Walk := ⟨0, 0, 0, 0⟩
theorem zWalk_ow : gWalk.ow [.int .i64 0, .int .i64 0, .int .i64 0, .int .i64 0] zWalk [] := gWalk_ow.2 ⟨rfl, by simp, by first | (unfold okI; decide) | decide, by first | (unfold okI; decide) | decide, by first | (unfold okI; decide) | decide, by first | (unfold okI; decide) | decide⟩
theorem gWalk_atom : Fld gWalk gI (fun x => x.atom) (fun x y => { x with atom := y }) 0 := (Fld.fst _ _).iso (fun _ => rfl) (fun _ _ => rfl)
theorem gWalk_src : Fld gWalk gI (fun x => x.src) (fun x y => { x with src := y }) 1 := ((Fld.snd _ _).comp (Fld.fst _ _)).iso (fun _ => rfl) (fun _ _ => rfl)
theorem gWalk_at : Fld gWalk gI (fun x => x.at') (fun x y => { x with at' := y }) 2 := ((Fld.snd _ _).comp ((Fld.snd _ _).comp (Fld.fst _ _))).iso (fun _ => rfl) (fun _ _ => rfl)
theorem gWalk_state : Fld gWalk gI (fun x => x.state) (fun x y => { x with state := y }) 3 := ((Fld.snd _ _).comp ((Fld.snd _ _).comp (Fld.snd _ _))).iso (fun _ => rfl) (fun _ _ => rfl)
theorem gWalk_sz (x : Walk) : gWalk.sz x = 0 + (0 + (0 + (0))) := rfl
theorem gWalk_cnt (x : Walk) : gWalk.cnt x = 1 + (1 + (1 + (1))) := rfl
theorem gWalk_cntV (x : Walk) : gWalk.cntV x = 0 + (0 + (0 + (0))) := rfl
theorem gWalk_mark (k : Int) (x : Walk) : gWalk.mark k x = ⟨k, k + 1, k + 1 + 1, k + 1 + 1 + 1⟩ := by
  have h : gWalk.mark k x = ⟨k, (k + ((1 : Nat) : Int)), ((k + ((1 : Nat) : Int)) + ((1 : Nat) : Int)), (((k + ((1 : Nat) : Int)) + ((1 : Nat) : Int)) + ((1 : Nat) : Int))⟩ := rfl
  rw [h] <;> simp
theorem gWalk_markV (k : Int) (x : Walk) : gWalk.markV k x = ⟨x.atom, x.src, x.at', x.state⟩ := by
  have h : gWalk.markV k x = ⟨x.atom, x.src, x.at', x.state⟩ := rfl
  rw [h] <;> simp
theorem Walk.eq_iff {x y : Walk} : x = y ↔ x.atom = y.atom ∧ x.src = y.src ∧ x.at' = y.at' ∧ x.state = y.state := by cases x; cases y; simp
theorem gWalk_own {H : Hp} {l : List Value} {x : Walk} (h : gWalk.rd H l x) : gWalk.ow l x [] := by
  obtain ⟨rfl, w0, w1, w2, w3⟩ := gWalk_rd.1 h
  exact gWalk_ow.2 ⟨rfl, by simp, w0, w1, w2, w3⟩
--@gt impl.Walk | gWalk | default | obtain ⟨rfl, w0x#, w1x#, w2x#, w3x#⟩ := gWalk_rd.1 hl# | 0 1 pr gWalk_atom ; 1 1 pr gWalk_src ; 2 1 pr gWalk_at ; 3 1 pr gWalk_state | 4 | gWalk_own ‹_›

structure Letter where
  kind : Int
  atom : Int
  num : Int
  black : Bool
  walks : List Walk
  text : ByteArray
deriving DecidableEq, Inhabited
def gLetter : Gt Letter := gIso (SX.gPair gI (SX.gPair gI (SX.gPair gI (SX.gPair gB (SX.gPair (gSl 200 gWalk) gS))))) (fun x => (x.kind, (x.atom, (x.num, (x.black, (x.walks, x.text)))))) (fun p => ⟨p.1, p.2.1, p.2.2.1, p.2.2.2.1, p.2.2.2.2.1, p.2.2.2.2.2⟩)
theorem gLetter_rd {H : Hp} {l : List Value} {x : Letter} : gLetter.rd H l x ↔ ∃ (b4 : Option Addr) (c4 : Nat), l = .int .i64 x.kind :: .int .i64 x.atom :: .int .i64 x.num :: .bool x.black :: .slice b4 x.walks.length c4 :: .string x.text :: [] ∧ okI x.kind ∧ okI x.atom ∧ okI x.num ∧ (gSl 200 gWalk).rd H [.slice b4 x.walks.length c4] x.walks ∧ x.text.size ≤ 9223372036854775807 := by
  constructor
  · rintro ⟨m0, q0, rfl, h0, m1, q1, rfl, h1, m2, q2, rfl, h2, m3, q3, rfl, h3, m4, q4, rfl, h4, h5⟩
    obtain ⟨rfl, w0⟩ := h0
    obtain ⟨rfl, w1⟩ := h1
    obtain ⟨rfl, w2⟩ := h2
    obtain ⟨rfl, w3⟩ := h3
    obtain ⟨b4, c4, rfl, h4⟩ := sl_rd h4
    obtain ⟨rfl, w5⟩ := h5
    exact ⟨b4, c4, rfl, w0, w1, w2, h4, w5⟩
  · rintro ⟨b4, c4, rfl, w0, w1, w2, h4, w5⟩
    exact ⟨[.int .i64 x.kind], .int .i64 x.atom :: .int .i64 x.num :: .bool x.black :: .slice b4 x.walks.length c4 :: .string x.text :: [], rfl, ⟨rfl, w0⟩, ⟨[.int .i64 x.atom], .int .i64 x.num :: .bool x.black :: .slice b4 x.walks.length c4 :: .string x.text :: [], rfl, ⟨rfl, w1⟩, ⟨[.int .i64 x.num], .bool x.black :: .slice b4 x.walks.length c4 :: .string x.text :: [], rfl, ⟨rfl, w2⟩, ⟨[.bool x.black], .slice b4 x.walks.length c4 :: .string x.text :: [], rfl, ⟨rfl, trivial⟩, ⟨[.slice b4 x.walks.length c4], [.string x.text], rfl, h4, ⟨rfl, w5⟩⟩⟩⟩⟩⟩
open Classical in
theorem gLetter_ow {A : Hp} {l : List Value} {x : Letter} : gLetter.ow l x A ↔ ∃ (b4 : Option Addr) (c4 : Nat) (A4 : Hp), l = .int .i64 x.kind :: .int .i64 x.atom :: .int .i64 x.num :: .bool x.black :: .slice b4 x.walks.length c4 :: .string x.text :: [] ∧ A.Perm A4 ∧ okI x.kind ∧ okI x.atom ∧ okI x.num ∧ (gSl 200 gWalk).ow [.slice b4 x.walks.length c4] x.walks A4 ∧ x.text.size ≤ 9223372036854775807 := by
  constructor
  · rintro ⟨m0, q0, D0, E0, rfl, p0, h0, m1, q1, D1, E1, rfl, p1, h1, m2, q2, D2, E2, rfl, p2, h2, m3, q3, D3, E3, rfl, p3, h3, m4, q4, D4, E4, rfl, p4, h4, h5⟩
    obtain ⟨rfl, w0, e0⟩ := h0
    subst e0
    obtain ⟨rfl, w1, e1⟩ := h1
    subst e1
    obtain ⟨rfl, w2, e2⟩ := h2
    subst e2
    obtain ⟨rfl, w3, e3⟩ := h3
    subst e3
    obtain ⟨b4, c4, rfl, h4⟩ := sl_ow h4
    obtain ⟨rfl, w5, e5⟩ := h5
    subst e5
    exact ⟨b4, c4, D4, rfl, (perm_cnt fun a => by have e0 := p0.count_eq a; have e1 := p1.count_eq a; have e2 := p2.count_eq a; have e3 := p3.count_eq a; have e4 := p4.count_eq a; simp only [List.count_append, List.count_nil] at *; omega), w0, w1, w2, h4, w5⟩
  · rintro ⟨b4, c4, A4, rfl, hp, w0, w1, w2, h4, w5⟩
    exact ⟨[.int .i64 x.kind], .int .i64 x.atom :: .int .i64 x.num :: .bool x.black :: .slice b4 x.walks.length c4 :: .string x.text :: [], [], ([] ++ ([] ++ ([] ++ (A4 ++ [])))), rfl, (perm_cnt fun a => by have e := hp.count_eq a; simp only [List.count_append, List.count_nil] at *; omega), ⟨rfl, w0, rfl⟩, ⟨[.int .i64 x.atom], .int .i64 x.num :: .bool x.black :: .slice b4 x.walks.length c4 :: .string x.text :: [], [], ([] ++ ([] ++ (A4 ++ []))), rfl, .refl _, ⟨rfl, w1, rfl⟩, ⟨[.int .i64 x.num], .bool x.black :: .slice b4 x.walks.length c4 :: .string x.text :: [], [], ([] ++ (A4 ++ [])), rfl, .refl _, ⟨rfl, w2, rfl⟩, ⟨[.bool x.black], .slice b4 x.walks.length c4 :: .string x.text :: [], [], (A4 ++ []), rfl, .refl _, ⟨rfl, trivial, rfl⟩, ⟨[.slice b4 x.walks.length c4], [.string x.text], A4, [], rfl, .refl _, h4, ⟨rfl, w5, rfl⟩⟩⟩⟩⟩⟩
theorem opens_Letter : Opens Tryz.prog gLetter.toRp 110 := by
  intro H' enc w H sp hd fuel cs d ps hcov ht
  obtain ⟨h1, h2⟩ := trod_fields ty110_ok.1 ht
  obtain ⟨_, _, t0⟩ := h2 0 0 3 rfl
  obtain ⟨x0, r0⟩ := (opens_fi ty3_ok.1) _ _ H _ _ _ _ _ _ hcov t0
  rw [show Tryz.prog.cellsOf 3 = 1 by kernel_rfl] at r0
  obtain ⟨_, _, t1⟩ := h2 1 1 3 rfl
  obtain ⟨x1, r1⟩ := (opens_fi ty3_ok.1) _ _ H _ _ _ _ _ _ hcov t1
  rw [show Tryz.prog.cellsOf 3 = 1 by kernel_rfl] at r1
  obtain ⟨_, _, t2⟩ := h2 2 2 3 rfl
  obtain ⟨x2, r2⟩ := (opens_fi ty3_ok.1) _ _ H _ _ _ _ _ _ hcov t2
  rw [show Tryz.prog.cellsOf 3 = 1 by kernel_rfl] at r2
  obtain ⟨_, _, t3⟩ := h2 3 3 4 rfl
  obtain ⟨x3, r3⟩ := (opens_fb ty4_ok.1) _ _ H _ _ _ _ _ _ hcov t3
  rw [show Tryz.prog.cellsOf 4 = 1 by kernel_rfl] at r3
  obtain ⟨_, _, t4⟩ := h2 4 4 32 rfl
  obtain ⟨x4, r4⟩ := (opens_sl ty32_ok.1 (by kernel_rfl) (by decide) opens_Walk) _ _ H _ _ _ _ _ _ hcov t4
  rw [show Tryz.prog.cellsOf 32 = 1 by kernel_rfl] at r4
  obtain ⟨_, _, t5⟩ := h2 5 5 9 rfl
  obtain ⟨x5, r5⟩ := (opens_fs ty9_ok.1) _ _ H _ _ _ _ _ _ hcov t5
  rw [show Tryz.prog.cellsOf 9 = 1 by kernel_rfl] at r5
  rw [show Tryz.prog.cellsOf 110 = 6 by kernel_rfl] at h1
  have key : gLetter.rd H ((cs.drop 0).take 6) ⟨x0, x1, x2, x3, x4, x5⟩ := (pair_at (g := gI) (h := (SX.gPair gI (SX.gPair gI (SX.gPair gB (SX.gPair (gSl 200 gWalk) gS))))) (off := 0) r0 (pair_at (g := gI) (h := (SX.gPair gI (SX.gPair gB (SX.gPair (gSl 200 gWalk) gS)))) (off := 1) r1 (pair_at (g := gI) (h := (SX.gPair gB (SX.gPair (gSl 200 gWalk) gS))) (off := 2) r2 (pair_at (g := gB) (h := (SX.gPair (gSl 200 gWalk) gS)) (off := 3) r3 (pair_at (g := (gSl 200 gWalk)) (h := gS) (off := 4) r4 r5)))))
  rw [List.drop_zero, List.take_of_length_le (by omega)] at key
  exact ⟨_, key⟩
def zLetter : Letter := ⟨0, 0, 0, false, [], ByteArray.empty⟩
theorem zLetter_ow : gLetter.ow [.int .i64 0, .int .i64 0, .int .i64 0, .bool false, .slice none 0 0, .string .empty] zLetter [] := gLetter_ow.2 ⟨none, 0, [], rfl, by simp, by first | (unfold okI; decide) | decide, by first | (unfold okI; decide) | decide, by first | (unfold okI; decide) | decide, sl_nil _ _ _, by first | (unfold okI; decide) | decide⟩
theorem gLetter_kind : Fld gLetter gI (fun x => x.kind) (fun x y => { x with kind := y }) 0 := (Fld.fst _ _).iso (fun _ => rfl) (fun _ _ => rfl)
theorem gLetter_atom : Fld gLetter gI (fun x => x.atom) (fun x y => { x with atom := y }) 1 := ((Fld.snd _ _).comp (Fld.fst _ _)).iso (fun _ => rfl) (fun _ _ => rfl)
theorem gLetter_num : Fld gLetter gI (fun x => x.num) (fun x y => { x with num := y }) 2 := ((Fld.snd _ _).comp ((Fld.snd _ _).comp (Fld.fst _ _))).iso (fun _ => rfl) (fun _ _ => rfl)
theorem gLetter_black : Fld gLetter gB (fun x => x.black) (fun x y => { x with black := y }) 3 := ((Fld.snd _ _).comp ((Fld.snd _ _).comp ((Fld.snd _ _).comp (Fld.fst _ _)))).iso (fun _ => rfl) (fun _ _ => rfl)
theorem gLetter_walks : Fld gLetter (gSl 200 gWalk) (fun x => x.walks) (fun x y => { x with walks := y }) 4 := ((Fld.snd _ _).comp ((Fld.snd _ _).comp ((Fld.snd _ _).comp ((Fld.snd _ _).comp (Fld.fst _ _))))).iso (fun _ => rfl) (fun _ _ => rfl)
theorem gLetter_text : Fld gLetter gS (fun x => x.text) (fun x y => { x with text := y }) 5 := ((Fld.snd _ _).comp ((Fld.snd _ _).comp ((Fld.snd _ _).comp ((Fld.snd _ _).comp (Fld.snd _ _))))).iso (fun _ => rfl) (fun _ _ => rfl)
theorem gLetter_sz (x : Letter) : gLetter.sz x = 0 + (0 + (0 + (0 + (szL gWalk x.walks + (x.text.size))))) := rfl
theorem gLetter_cnt (x : Letter) : gLetter.cnt x = 1 + (1 + (1 + (1 + (cntL gWalk x.walks + (1))))) := rfl
theorem gLetter_cntV (x : Letter) : gLetter.cntV x = 0 + (0 + (0 + (0 + (cntL gWalk x.walks + (0))))) := rfl
theorem gLetter_mark (k : Int) (x : Letter) : gLetter.mark k x = ⟨k, k + 1, k + 1 + 1, (k + 1 + 1 + 1).tmod 3 == 0, mkL gWalk (k + 1 + 1 + 1 + 1) x.walks, mtx (k + 1 + 1 + 1 + 1 + cntL gWalk x.walks)⟩ := by
  have h : gLetter.mark k x = ⟨k, (k + ((1 : Nat) : Int)), ((k + ((1 : Nat) : Int)) + ((1 : Nat) : Int)), ((((k + ((1 : Nat) : Int)) + ((1 : Nat) : Int)) + ((1 : Nat) : Int))).tmod 3 == 0, mkL gWalk (((((k + ((1 : Nat) : Int)) + ((1 : Nat) : Int)) + ((1 : Nat) : Int)) + ((1 : Nat) : Int))) x.walks, mtx ((((((k + ((1 : Nat) : Int)) + ((1 : Nat) : Int)) + ((1 : Nat) : Int)) + ((1 : Nat) : Int)) + ((cntL gWalk x.walks : Nat) : Int)))⟩ := rfl
  rw [h] <;> simp
theorem gLetter_markV (k : Int) (x : Letter) : gLetter.markV k x = ⟨x.kind, x.atom, x.num, x.black, mkL gWalk (k) x.walks, x.text⟩ := by
  have h : gLetter.markV k x = ⟨x.kind, x.atom, x.num, x.black, mkL gWalk (((((k + ((0 : Nat) : Int)) + ((0 : Nat) : Int)) + ((0 : Nat) : Int)) + ((0 : Nat) : Int))) x.walks, x.text⟩ := rfl
  rw [h] <;> simp
theorem Letter.eq_iff {x y : Letter} : x = y ↔ x.kind = y.kind ∧ x.atom = y.atom ∧ x.num = y.num ∧ x.black = y.black ∧ x.walks = y.walks ∧ x.text = y.text := by cases x; cases y; simp
--@gt impl.Letter | gLetter | default | obtain ⟨b4x#, c4x#, rfl, w0x#, w1x#, w2x#, h4x#, w5x#⟩ := gLetter_rd.1 hl# | 0 1 pr gLetter_kind ; 1 1 pr gLetter_atom ; 2 1 pr gLetter_num ; 3 1 pr gLetter_black ; 4 1 sl gLetter_walks ; 5 1 pr gLetter_text | 6 | 

structure Link where
  sent : List ByteArray
  acked : Int
  took : Int
deriving DecidableEq, Inhabited
def gLink : Gt Link := gIso (SX.gPair (gSl 9 gS) (SX.gPair gI gI)) (fun x => (x.sent, (x.acked, x.took))) (fun p => ⟨p.1, p.2.1, p.2.2⟩)
theorem gLink_rd {H : Hp} {l : List Value} {x : Link} : gLink.rd H l x ↔ ∃ (b0 : Option Addr) (c0 : Nat), l = .slice b0 x.sent.length c0 :: .int .i64 x.acked :: .int .i64 x.took :: [] ∧ (gSl 9 gS).rd H [.slice b0 x.sent.length c0] x.sent ∧ okI x.acked ∧ okI x.took := by
  constructor
  · rintro ⟨m0, q0, rfl, h0, m1, q1, rfl, h1, h2⟩
    obtain ⟨b0, c0, rfl, h0⟩ := sl_rd h0
    obtain ⟨rfl, w1⟩ := h1
    obtain ⟨rfl, w2⟩ := h2
    exact ⟨b0, c0, rfl, h0, w1, w2⟩
  · rintro ⟨b0, c0, rfl, h0, w1, w2⟩
    exact ⟨[.slice b0 x.sent.length c0], .int .i64 x.acked :: .int .i64 x.took :: [], rfl, h0, ⟨[.int .i64 x.acked], [.int .i64 x.took], rfl, ⟨rfl, w1⟩, ⟨rfl, w2⟩⟩⟩
open Classical in
theorem gLink_ow {A : Hp} {l : List Value} {x : Link} : gLink.ow l x A ↔ ∃ (b0 : Option Addr) (c0 : Nat) (A0 : Hp), l = .slice b0 x.sent.length c0 :: .int .i64 x.acked :: .int .i64 x.took :: [] ∧ A.Perm A0 ∧ (gSl 9 gS).ow [.slice b0 x.sent.length c0] x.sent A0 ∧ okI x.acked ∧ okI x.took := by
  constructor
  · rintro ⟨m0, q0, D0, E0, rfl, p0, h0, m1, q1, D1, E1, rfl, p1, h1, h2⟩
    obtain ⟨b0, c0, rfl, h0⟩ := sl_ow h0
    obtain ⟨rfl, w1, e1⟩ := h1
    subst e1
    obtain ⟨rfl, w2, e2⟩ := h2
    subst e2
    exact ⟨b0, c0, D0, rfl, (perm_cnt fun a => by have e0 := p0.count_eq a; have e1 := p1.count_eq a; simp only [List.count_append, List.count_nil] at *; omega), h0, w1, w2⟩
  · rintro ⟨b0, c0, A0, rfl, hp, h0, w1, w2⟩
    exact ⟨[.slice b0 x.sent.length c0], .int .i64 x.acked :: .int .i64 x.took :: [], A0, ([] ++ []), rfl, (perm_cnt fun a => by have e := hp.count_eq a; simp only [List.count_append, List.count_nil] at *; omega), h0, ⟨[.int .i64 x.acked], [.int .i64 x.took], [], [], rfl, .refl _, ⟨rfl, w1, rfl⟩, ⟨rfl, w2, rfl⟩⟩⟩
theorem opens_Link : Opens Tryz.prog gLink.toRp 176 := by
  intro H' enc w H sp hd fuel cs d ps hcov ht
  obtain ⟨h1, h2⟩ := trod_fields ty176_ok.1 ht
  obtain ⟨_, _, t0⟩ := h2 0 0 26 rfl
  obtain ⟨x0, r0⟩ := (opens_sl ty26_ok.1 (by kernel_rfl) (by decide) (opens_fs ty9_ok.1)) _ _ H _ _ _ _ _ _ hcov t0
  rw [show Tryz.prog.cellsOf 26 = 1 by kernel_rfl] at r0
  obtain ⟨_, _, t1⟩ := h2 1 1 3 rfl
  obtain ⟨x1, r1⟩ := (opens_fi ty3_ok.1) _ _ H _ _ _ _ _ _ hcov t1
  rw [show Tryz.prog.cellsOf 3 = 1 by kernel_rfl] at r1
  obtain ⟨_, _, t2⟩ := h2 2 2 3 rfl
  obtain ⟨x2, r2⟩ := (opens_fi ty3_ok.1) _ _ H _ _ _ _ _ _ hcov t2
  rw [show Tryz.prog.cellsOf 3 = 1 by kernel_rfl] at r2
  rw [show Tryz.prog.cellsOf 176 = 3 by kernel_rfl] at h1
  have key : gLink.rd H ((cs.drop 0).take 3) ⟨x0, x1, x2⟩ := (pair_at (g := (gSl 9 gS)) (h := (SX.gPair gI gI)) (off := 0) r0 (pair_at (g := gI) (h := gI) (off := 1) r1 r2))
  rw [List.drop_zero, List.take_of_length_le (by omega)] at key
  exact ⟨_, key⟩
def zLink : Link := ⟨[], 0, 0⟩
theorem zLink_ow : gLink.ow [.slice none 0 0, .int .i64 0, .int .i64 0] zLink [] := gLink_ow.2 ⟨none, 0, [], rfl, by simp, sl_nil _ _ _, by first | (unfold okI; decide) | decide, by first | (unfold okI; decide) | decide⟩
theorem gLink_sent : Fld gLink (gSl 9 gS) (fun x => x.sent) (fun x y => { x with sent := y }) 0 := (Fld.fst _ _).iso (fun _ => rfl) (fun _ _ => rfl)
theorem gLink_acked : Fld gLink gI (fun x => x.acked) (fun x y => { x with acked := y }) 1 := ((Fld.snd _ _).comp (Fld.fst _ _)).iso (fun _ => rfl) (fun _ _ => rfl)
theorem gLink_took : Fld gLink gI (fun x => x.took) (fun x y => { x with took := y }) 2 := ((Fld.snd _ _).comp (Fld.snd _ _)).iso (fun _ => rfl) (fun _ _ => rfl)
theorem gLink_sz (x : Link) : gLink.sz x = szL gS x.sent + (0 + (0)) := rfl
theorem gLink_cnt (x : Link) : gLink.cnt x = cntL gS x.sent + (1 + (1)) := rfl
theorem gLink_cntV (x : Link) : gLink.cntV x = cntL gS x.sent + (0 + (0)) := rfl
theorem gLink_mark (k : Int) (x : Link) : gLink.mark k x = ⟨mkL gS (k) x.sent, k + cntL gS x.sent, k + cntL gS x.sent + 1⟩ := by
  have h : gLink.mark k x = ⟨mkL gS (k) x.sent, (k + ((cntL gS x.sent : Nat) : Int)), ((k + ((cntL gS x.sent : Nat) : Int)) + ((1 : Nat) : Int))⟩ := rfl
  rw [h] <;> simp
theorem gLink_markV (k : Int) (x : Link) : gLink.markV k x = ⟨mkL gS (k) x.sent, x.acked, x.took⟩ := by
  have h : gLink.markV k x = ⟨mkL gS (k) x.sent, x.acked, x.took⟩ := rfl
  rw [h] <;> simp
theorem Link.eq_iff {x y : Link} : x = y ↔ x.sent = y.sent ∧ x.acked = y.acked ∧ x.took = y.took := by cases x; cases y; simp
--@gt impl.Link | gLink | default | obtain ⟨b0x#, c0x#, rfl, h0x#, w1x#, w2x#⟩ := gLink_rd.1 hl# | 0 1 sl gLink_sent ; 1 1 pr gLink_acked ; 2 1 pr gLink_took | 3 | 

structure Got where
  from' : Int
  atom : Int
  bag : Bag
deriving DecidableEq, Inhabited
def gGot : Gt Got := gIso (SX.gPair gI (SX.gPair gI gBag)) (fun x => (x.from', (x.atom, x.bag))) (fun p => ⟨p.1, p.2.1, p.2.2⟩)
theorem gGot_rd {H : Hp} {l : List Value} {x : Got} : gGot.rd H l x ↔ ∃ (l2 : List Value), l = .int .i64 x.from' :: .int .i64 x.atom :: l2 ++ ([]) ∧ okI x.from' ∧ okI x.atom ∧ gBag.rd H l2 x.bag := by
  constructor
  · rintro ⟨m0, q0, rfl, h0, m1, q1, rfl, h1, h2⟩
    obtain ⟨rfl, w0⟩ := h0
    obtain ⟨rfl, w1⟩ := h1
    exact ⟨q1, (by simp [flInt, flBool, flByte, flStr]), w0, w1, h2⟩
  · rintro ⟨l2, rfl, w0, w1, h2⟩
    exact ⟨[.int .i64 x.from'], .int .i64 x.atom :: l2 ++ ([]), rfl, ⟨rfl, w0⟩, ⟨[.int .i64 x.atom], l2, (by simp [flInt, flBool, flByte, flStr]), ⟨rfl, w1⟩, h2⟩⟩
open Classical in
theorem gGot_ow {A : Hp} {l : List Value} {x : Got} : gGot.ow l x A ↔ ∃ (l2 : List Value) (A2 : Hp), l = .int .i64 x.from' :: .int .i64 x.atom :: l2 ++ ([]) ∧ A.Perm A2 ∧ okI x.from' ∧ okI x.atom ∧ gBag.ow l2 x.bag A2 := by
  constructor
  · rintro ⟨m0, q0, D0, E0, rfl, p0, h0, m1, q1, D1, E1, rfl, p1, h1, h2⟩
    obtain ⟨rfl, w0, e0⟩ := h0
    subst e0
    obtain ⟨rfl, w1, e1⟩ := h1
    subst e1
    exact ⟨q1, E1, (by simp [flInt, flBool, flByte, flStr]), (perm_cnt fun a => by have e0 := p0.count_eq a; have e1 := p1.count_eq a; simp only [List.count_append, List.count_nil] at *; omega), w0, w1, h2⟩
  · rintro ⟨l2, A2, rfl, hp, w0, w1, h2⟩
    exact ⟨[.int .i64 x.from'], .int .i64 x.atom :: l2 ++ ([]), [], ([] ++ A2), rfl, (perm_cnt fun a => by have e := hp.count_eq a; simp only [List.count_append, List.count_nil] at *; omega), ⟨rfl, w0, rfl⟩, ⟨[.int .i64 x.atom], l2, [], A2, (by simp [flInt, flBool, flByte, flStr]), .refl _, ⟨rfl, w1, rfl⟩, h2⟩⟩
theorem opens_Got : Opens Tryz.prog gGot.toRp 250 := by
  intro H' enc w H sp hd fuel cs d ps hcov ht
  obtain ⟨h1, h2⟩ := trod_fields ty250_ok.1 ht
  obtain ⟨_, _, t0⟩ := h2 0 0 3 rfl
  obtain ⟨x0, r0⟩ := (opens_fi ty3_ok.1) _ _ H _ _ _ _ _ _ hcov t0
  rw [show Tryz.prog.cellsOf 3 = 1 by kernel_rfl] at r0
  obtain ⟨_, _, t1⟩ := h2 1 1 3 rfl
  obtain ⟨x1, r1⟩ := (opens_fi ty3_ok.1) _ _ H _ _ _ _ _ _ hcov t1
  rw [show Tryz.prog.cellsOf 3 = 1 by kernel_rfl] at r1
  obtain ⟨_, _, t2⟩ := h2 2 2 41 rfl
  obtain ⟨x2, r2⟩ := opens_Bag _ _ H _ _ _ _ _ _ hcov t2
  rw [show Tryz.prog.cellsOf 41 = 1 by kernel_rfl] at r2
  rw [show Tryz.prog.cellsOf 250 = 3 by kernel_rfl] at h1
  have key : gGot.rd H ((cs.drop 0).take 3) ⟨x0, x1, x2⟩ := (pair_at (g := gI) (h := (SX.gPair gI gBag)) (off := 0) r0 (pair_at (g := gI) (h := gBag) (off := 1) r1 r2))
  rw [List.drop_zero, List.take_of_length_le (by omega)] at key
  exact ⟨_, key⟩
def zGot : Got := ⟨0, 0, zBag⟩
theorem zGot_ow : gGot.ow [.int .i64 0, .int .i64 0, .slice none 0 0] zGot [] := gGot_ow.2 ⟨_, [], rfl, by simp, by first | (unfold okI; decide) | decide, by first | (unfold okI; decide) | decide, zBag_ow⟩
theorem gGot_from : Fld gGot gI (fun x => x.from') (fun x y => { x with from' := y }) 0 := (Fld.fst _ _).iso (fun _ => rfl) (fun _ _ => rfl)
theorem gGot_atom : Fld gGot gI (fun x => x.atom) (fun x y => { x with atom := y }) 1 := ((Fld.snd _ _).comp (Fld.fst _ _)).iso (fun _ => rfl) (fun _ _ => rfl)
theorem gGot_bag : Fld gGot gBag (fun x => x.bag) (fun x y => { x with bag := y }) 2 := ((Fld.snd _ _).comp (Fld.snd _ _)).iso (fun _ => rfl) (fun _ _ => rfl)
theorem gGot_bag_items : Fld gGot (gSl 212 gItem) (fun x => x.bag.items) (fun x y => { x with bag.items := y }) 2 := gGot_bag.comp gBag_items
theorem gGot_sz (x : Got) : gGot.sz x = 0 + (0 + (gBag.sz x.bag)) := rfl
theorem gGot_cnt (x : Got) : gGot.cnt x = 1 + (1 + (gBag.cnt x.bag)) := rfl
theorem gGot_cntV (x : Got) : gGot.cntV x = 0 + (0 + (gBag.cntV x.bag)) := rfl
theorem gGot_mark (k : Int) (x : Got) : gGot.mark k x = ⟨k, k + 1, gBag.mark (k + 1 + 1) x.bag⟩ := by
  have h : gGot.mark k x = ⟨k, (k + ((1 : Nat) : Int)), gBag.mark (((k + ((1 : Nat) : Int)) + ((1 : Nat) : Int))) x.bag⟩ := rfl
  rw [h] <;> simp
theorem gGot_markV (k : Int) (x : Got) : gGot.markV k x = ⟨x.from', x.atom, gBag.markV (k) x.bag⟩ := by
  have h : gGot.markV k x = ⟨x.from', x.atom, gBag.markV (((k + ((0 : Nat) : Int)) + ((0 : Nat) : Int))) x.bag⟩ := rfl
  rw [h] <;> simp
theorem Got.eq_iff {x y : Got} : x = y ↔ x.from' = y.from' ∧ x.atom = y.atom ∧ x.bag = y.bag := by cases x; cases y; simp
--@gt impl.Got | gGot | default | obtain ⟨l2x#, rfl, w0x#, w1x#, h2x#⟩ := gGot_rd.1 hl# ; obtain ⟨b0_2x#, c0_2x#, rfl, h0_2x#⟩ := gBag_rd.1 h2x# | 0 1 pr gGot_from ; 1 1 pr gGot_atom ; 2 1 st gGot_bag ; 2 1 sl gGot_bag_items | 3 | 

structure Cell where
  query : Query
  shares : List Int
  at' : Int
  n : Int
  gots : List Got
deriving DecidableEq, Inhabited
def gCell : Gt Cell := gIso (SX.gPair gQuery (SX.gPair (gSl 3 gI) (SX.gPair gI (SX.gPair gI (gSl 232 gGot))))) (fun x => (x.query, (x.shares, (x.at', (x.n, x.gots))))) (fun p => ⟨p.1, p.2.1, p.2.2.1, p.2.2.2.1, p.2.2.2.2⟩)
theorem gCell_rd {H : Hp} {l : List Value} {x : Cell} : gCell.rd H l x ↔ ∃ (l0 : List Value) (b1 : Option Addr) (c1 : Nat) (b4 : Option Addr) (c4 : Nat), l = l0 ++ (.slice b1 x.shares.length c1 :: .int .i64 x.at' :: .int .i64 x.n :: .slice b4 x.gots.length c4 :: []) ∧ gQuery.rd H l0 x.query ∧ (gSl 3 gI).rd H [.slice b1 x.shares.length c1] x.shares ∧ okI x.at' ∧ okI x.n ∧ (gSl 232 gGot).rd H [.slice b4 x.gots.length c4] x.gots := by
  constructor
  · rintro ⟨m0, q0, rfl, h0, m1, q1, rfl, h1, m2, q2, rfl, h2, m3, q3, rfl, h3, h4⟩
    obtain ⟨b1, c1, rfl, h1⟩ := sl_rd h1
    obtain ⟨rfl, w2⟩ := h2
    obtain ⟨rfl, w3⟩ := h3
    obtain ⟨b4, c4, rfl, h4⟩ := sl_rd h4
    exact ⟨m0, b1, c1, b4, c4, rfl, h0, h1, w2, w3, h4⟩
  · rintro ⟨l0, b1, c1, b4, c4, rfl, h0, h1, w2, w3, h4⟩
    exact ⟨l0, .slice b1 x.shares.length c1 :: .int .i64 x.at' :: .int .i64 x.n :: .slice b4 x.gots.length c4 :: [], rfl, h0, ⟨[.slice b1 x.shares.length c1], .int .i64 x.at' :: .int .i64 x.n :: .slice b4 x.gots.length c4 :: [], rfl, h1, ⟨[.int .i64 x.at'], .int .i64 x.n :: .slice b4 x.gots.length c4 :: [], rfl, ⟨rfl, w2⟩, ⟨[.int .i64 x.n], [.slice b4 x.gots.length c4], rfl, ⟨rfl, w3⟩, h4⟩⟩⟩⟩
open Classical in
theorem gCell_ow {A : Hp} {l : List Value} {x : Cell} : gCell.ow l x A ↔ ∃ (l0 : List Value) (A0 : Hp) (b1 : Option Addr) (c1 : Nat) (A1 : Hp) (b4 : Option Addr) (c4 : Nat) (A4 : Hp), l = l0 ++ (.slice b1 x.shares.length c1 :: .int .i64 x.at' :: .int .i64 x.n :: .slice b4 x.gots.length c4 :: []) ∧ A.Perm (A0 ++ (A1 ++ A4)) ∧ gQuery.ow l0 x.query A0 ∧ (gSl 3 gI).ow [.slice b1 x.shares.length c1] x.shares A1 ∧ okI x.at' ∧ okI x.n ∧ (gSl 232 gGot).ow [.slice b4 x.gots.length c4] x.gots A4 := by
  constructor
  · rintro ⟨m0, q0, D0, E0, rfl, p0, h0, m1, q1, D1, E1, rfl, p1, h1, m2, q2, D2, E2, rfl, p2, h2, m3, q3, D3, E3, rfl, p3, h3, h4⟩
    obtain ⟨b1, c1, rfl, h1⟩ := sl_ow h1
    obtain ⟨rfl, w2, e2⟩ := h2
    subst e2
    obtain ⟨rfl, w3, e3⟩ := h3
    subst e3
    obtain ⟨b4, c4, rfl, h4⟩ := sl_ow h4
    exact ⟨m0, D0, b1, c1, D1, b4, c4, E3, rfl, (perm_cnt fun a => by have e0 := p0.count_eq a; have e1 := p1.count_eq a; have e2 := p2.count_eq a; have e3 := p3.count_eq a; simp only [List.count_append, List.count_nil] at *; omega), h0, h1, w2, w3, h4⟩
  · rintro ⟨l0, A0, b1, c1, A1, b4, c4, A4, rfl, hp, h0, h1, w2, w3, h4⟩
    exact ⟨l0, .slice b1 x.shares.length c1 :: .int .i64 x.at' :: .int .i64 x.n :: .slice b4 x.gots.length c4 :: [], A0, (A1 ++ ([] ++ ([] ++ A4))), rfl, (perm_cnt fun a => by have e := hp.count_eq a; simp only [List.count_append, List.count_nil] at *; omega), h0, ⟨[.slice b1 x.shares.length c1], .int .i64 x.at' :: .int .i64 x.n :: .slice b4 x.gots.length c4 :: [], A1, ([] ++ ([] ++ A4)), rfl, .refl _, h1, ⟨[.int .i64 x.at'], .int .i64 x.n :: .slice b4 x.gots.length c4 :: [], [], ([] ++ A4), rfl, .refl _, ⟨rfl, w2, rfl⟩, ⟨[.int .i64 x.n], [.slice b4 x.gots.length c4], [], A4, rfl, .refl _, ⟨rfl, w3, rfl⟩, h4⟩⟩⟩⟩
theorem opens_Cell : Opens Tryz.prog gCell.toRp 35 := by
  intro H' enc w H sp hd fuel cs d ps hcov ht
  obtain ⟨h1, h2⟩ := trod_fields ty35_ok.1 ht
  obtain ⟨_, _, t0⟩ := h2 0 0 30 rfl
  obtain ⟨x0, r0⟩ := opens_Query _ _ H _ _ _ _ _ _ hcov t0
  rw [show Tryz.prog.cellsOf 30 = 4 by kernel_rfl] at r0
  obtain ⟨_, _, t1⟩ := h2 1 4 31 rfl
  obtain ⟨x1, r1⟩ := (opens_sl ty31_ok.1 (by kernel_rfl) (by decide) (opens_fi ty3_ok.1)) _ _ H _ _ _ _ _ _ hcov t1
  rw [show Tryz.prog.cellsOf 31 = 1 by kernel_rfl] at r1
  obtain ⟨_, _, t2⟩ := h2 2 5 3 rfl
  obtain ⟨x2, r2⟩ := (opens_fi ty3_ok.1) _ _ H _ _ _ _ _ _ hcov t2
  rw [show Tryz.prog.cellsOf 3 = 1 by kernel_rfl] at r2
  obtain ⟨_, _, t3⟩ := h2 3 6 3 rfl
  obtain ⟨x3, r3⟩ := (opens_fi ty3_ok.1) _ _ H _ _ _ _ _ _ hcov t3
  rw [show Tryz.prog.cellsOf 3 = 1 by kernel_rfl] at r3
  obtain ⟨_, _, t4⟩ := h2 4 7 33 rfl
  obtain ⟨x4, r4⟩ := (opens_sl ty33_ok.1 (by kernel_rfl) (by decide) opens_Got) _ _ H _ _ _ _ _ _ hcov t4
  rw [show Tryz.prog.cellsOf 33 = 1 by kernel_rfl] at r4
  rw [show Tryz.prog.cellsOf 35 = 8 by kernel_rfl] at h1
  have key : gCell.rd H ((cs.drop 0).take 8) ⟨x0, x1, x2, x3, x4⟩ := (pair_at (g := gQuery) (h := (SX.gPair (gSl 3 gI) (SX.gPair gI (SX.gPair gI (gSl 232 gGot))))) (off := 0) r0 (pair_at (g := (gSl 3 gI)) (h := (SX.gPair gI (SX.gPair gI (gSl 232 gGot)))) (off := 4) r1 (pair_at (g := gI) (h := (SX.gPair gI (gSl 232 gGot))) (off := 5) r2 (pair_at (g := gI) (h := (gSl 232 gGot)) (off := 6) r3 r4))))
  rw [List.drop_zero, List.take_of_length_le (by omega)] at key
  exact ⟨_, key⟩
def zCell : Cell := ⟨zQuery, [], 0, 0, []⟩
theorem zCell_ow : gCell.ow [.bool false, .slice none 0 0, .slice none 0 0, .slice none 0 0, .slice none 0 0, .int .i64 0, .int .i64 0, .slice none 0 0] zCell [] := gCell_ow.2 ⟨_, [], none, 0, [], none, 0, [], rfl, by simp, zQuery_ow, sl_nil _ _ _, by first | (unfold okI; decide) | decide, by first | (unfold okI; decide) | decide, sl_nil _ _ _⟩
theorem gCell_query : Fld gCell gQuery (fun x => x.query) (fun x y => { x with query := y }) 0 := (Fld.fst _ _).iso (fun _ => rfl) (fun _ _ => rfl)
theorem gCell_query_each : Fld gCell gB (fun x => x.query.each) (fun x y => { x with query.each := y }) 0 := gCell_query.comp gQuery_each
theorem gCell_query_out : Fld gCell (gSl 9 gS) (fun x => x.query.out) (fun x y => { x with query.out := y }) 1 := gCell_query.comp gQuery_out
theorem gCell_query_atoms : Fld gCell (gSl 143 gAtom) (fun x => x.query.atoms) (fun x y => { x with query.atoms := y }) 2 := gCell_query.comp gQuery_atoms
theorem gCell_query_filters : Fld gCell (gSl 214 gFilter) (fun x => x.query.filters) (fun x y => { x with query.filters := y }) 3 := gCell_query.comp gQuery_filters
theorem gCell_shares : Fld gCell (gSl 3 gI) (fun x => x.shares) (fun x y => { x with shares := y }) 4 := ((Fld.snd _ _).comp (Fld.fst _ _)).iso (fun _ => rfl) (fun _ _ => rfl)
theorem gCell_at : Fld gCell gI (fun x => x.at') (fun x y => { x with at' := y }) 5 := ((Fld.snd _ _).comp ((Fld.snd _ _).comp (Fld.fst _ _))).iso (fun _ => rfl) (fun _ _ => rfl)
theorem gCell_n : Fld gCell gI (fun x => x.n) (fun x y => { x with n := y }) 6 := ((Fld.snd _ _).comp ((Fld.snd _ _).comp ((Fld.snd _ _).comp (Fld.fst _ _)))).iso (fun _ => rfl) (fun _ _ => rfl)
theorem gCell_gots : Fld gCell (gSl 232 gGot) (fun x => x.gots) (fun x y => { x with gots := y }) 7 := ((Fld.snd _ _).comp ((Fld.snd _ _).comp ((Fld.snd _ _).comp (Fld.snd _ _)))).iso (fun _ => rfl) (fun _ _ => rfl)
theorem gCell_sz (x : Cell) : gCell.sz x = gQuery.sz x.query + (szL gI x.shares + (0 + (0 + (szL gGot x.gots)))) := rfl
theorem gCell_cnt (x : Cell) : gCell.cnt x = gQuery.cnt x.query + (cntL gI x.shares + (1 + (1 + (cntL gGot x.gots)))) := rfl
theorem gCell_cntV (x : Cell) : gCell.cntV x = gQuery.cntV x.query + (cntL gI x.shares + (0 + (0 + (cntL gGot x.gots)))) := rfl
theorem gCell_mark (k : Int) (x : Cell) : gCell.mark k x = ⟨gQuery.mark (k) x.query, mkL gI (k + gQuery.cnt x.query) x.shares, k + gQuery.cnt x.query + cntL gI x.shares, k + gQuery.cnt x.query + cntL gI x.shares + 1, mkL gGot (k + gQuery.cnt x.query + cntL gI x.shares + 1 + 1) x.gots⟩ := by
  have h : gCell.mark k x = ⟨gQuery.mark (k) x.query, mkL gI ((k + ((gQuery.cnt x.query : Nat) : Int))) x.shares, ((k + ((gQuery.cnt x.query : Nat) : Int)) + ((cntL gI x.shares : Nat) : Int)), (((k + ((gQuery.cnt x.query : Nat) : Int)) + ((cntL gI x.shares : Nat) : Int)) + ((1 : Nat) : Int)), mkL gGot (((((k + ((gQuery.cnt x.query : Nat) : Int)) + ((cntL gI x.shares : Nat) : Int)) + ((1 : Nat) : Int)) + ((1 : Nat) : Int))) x.gots⟩ := rfl
  rw [h] <;> simp
theorem gCell_markV (k : Int) (x : Cell) : gCell.markV k x = ⟨gQuery.markV (k) x.query, mkL gI (k + gQuery.cntV x.query) x.shares, x.at', x.n, mkL gGot (k + gQuery.cntV x.query + cntL gI x.shares) x.gots⟩ := by
  have h : gCell.markV k x = ⟨gQuery.markV (k) x.query, mkL gI ((k + ((gQuery.cntV x.query : Nat) : Int))) x.shares, x.at', x.n, mkL gGot (((((k + ((gQuery.cntV x.query : Nat) : Int)) + ((cntL gI x.shares : Nat) : Int)) + ((0 : Nat) : Int)) + ((0 : Nat) : Int))) x.gots⟩ := rfl
  rw [h] <;> simp
theorem Cell.eq_iff {x y : Cell} : x = y ↔ x.query = y.query ∧ x.shares = y.shares ∧ x.at' = y.at' ∧ x.n = y.n ∧ x.gots = y.gots := by cases x; cases y; simp
--@gt impl.Cell | gCell | default | obtain ⟨l0x#, b1x#, c1x#, b4x#, c4x#, rfl, h0x#, h1x#, w2x#, w3x#, h4x#⟩ := gCell_rd.1 hl# ; obtain ⟨b1_0x#, c1_0x#, b2_0x#, c2_0x#, b3_0x#, c3_0x#, rfl, h1_0x#, h2_0x#, h3_0x#⟩ := gQuery_rd.1 h0x# | 0 4 st gCell_query ; 0 1 pr gCell_query_each ; 1 1 sl gCell_query_out ; 2 1 sl gCell_query_atoms ; 3 1 sl gCell_query_filters ; 4 1 sl gCell_shares ; 5 1 pr gCell_at ; 6 1 pr gCell_n ; 7 1 sl gCell_gots | 8 | 

structure Mail where
  peer : Int
  letter : Letter
deriving DecidableEq, Inhabited
def gMail : Gt Mail := gIso (SX.gPair gI gLetter) (fun x => (x.peer, x.letter)) (fun p => ⟨p.1, p.2⟩)
theorem gMail_rd {H : Hp} {l : List Value} {x : Mail} : gMail.rd H l x ↔ ∃ (l1 : List Value), l = .int .i64 x.peer :: l1 ++ ([]) ∧ okI x.peer ∧ gLetter.rd H l1 x.letter := by
  constructor
  · rintro ⟨m0, q0, rfl, h0, h1⟩
    obtain ⟨rfl, w0⟩ := h0
    exact ⟨q0, (by simp [flInt, flBool, flByte, flStr]), w0, h1⟩
  · rintro ⟨l1, rfl, w0, h1⟩
    exact ⟨[.int .i64 x.peer], l1, (by simp [flInt, flBool, flByte, flStr]), ⟨rfl, w0⟩, h1⟩
open Classical in
theorem gMail_ow {A : Hp} {l : List Value} {x : Mail} : gMail.ow l x A ↔ ∃ (l1 : List Value) (A1 : Hp), l = .int .i64 x.peer :: l1 ++ ([]) ∧ A.Perm A1 ∧ okI x.peer ∧ gLetter.ow l1 x.letter A1 := by
  constructor
  · rintro ⟨m0, q0, D0, E0, rfl, p0, h0, h1⟩
    obtain ⟨rfl, w0, e0⟩ := h0
    subst e0
    exact ⟨q0, E0, (by simp [flInt, flBool, flByte, flStr]), (perm_cnt fun a => by have e0 := p0.count_eq a; simp only [List.count_append, List.count_nil] at *; omega), w0, h1⟩
  · rintro ⟨l1, A1, rfl, hp, w0, h1⟩
    exact ⟨[.int .i64 x.peer], l1, [], A1, (by simp [flInt, flBool, flByte, flStr]), (perm_cnt fun a => by have e := hp.count_eq a; simp only [List.count_append, List.count_nil] at *; omega), ⟨rfl, w0, rfl⟩, h1⟩
theorem opens_Mail : Opens Tryz.prog gMail.toRp 112 := by
  intro H' enc w H sp hd fuel cs d ps hcov ht
  obtain ⟨h1, h2⟩ := trod_fields ty112_ok.1 ht
  obtain ⟨_, _, t0⟩ := h2 0 0 3 rfl
  obtain ⟨x0, r0⟩ := (opens_fi ty3_ok.1) _ _ H _ _ _ _ _ _ hcov t0
  rw [show Tryz.prog.cellsOf 3 = 1 by kernel_rfl] at r0
  obtain ⟨_, _, t1⟩ := h2 1 1 110 rfl
  obtain ⟨x1, r1⟩ := opens_Letter _ _ H _ _ _ _ _ _ hcov t1
  rw [show Tryz.prog.cellsOf 110 = 6 by kernel_rfl] at r1
  rw [show Tryz.prog.cellsOf 112 = 7 by kernel_rfl] at h1
  have key : gMail.rd H ((cs.drop 0).take 7) ⟨x0, x1⟩ := (pair_at (g := gI) (h := gLetter) (off := 0) r0 r1)
  rw [List.drop_zero, List.take_of_length_le (by omega)] at key
  exact ⟨_, key⟩
def zMail : Mail := ⟨0, zLetter⟩
theorem zMail_ow : gMail.ow [.int .i64 0, .int .i64 0, .int .i64 0, .int .i64 0, .bool false, .slice none 0 0, .string .empty] zMail [] := gMail_ow.2 ⟨_, [], rfl, by simp, by first | (unfold okI; decide) | decide, zLetter_ow⟩
theorem gMail_peer : Fld gMail gI (fun x => x.peer) (fun x y => { x with peer := y }) 0 := (Fld.fst _ _).iso (fun _ => rfl) (fun _ _ => rfl)
theorem gMail_letter : Fld gMail gLetter (fun x => x.letter) (fun x y => { x with letter := y }) 1 := (Fld.snd _ _).iso (fun _ => rfl) (fun _ _ => rfl)
theorem gMail_letter_kind : Fld gMail gI (fun x => x.letter.kind) (fun x y => { x with letter.kind := y }) 1 := gMail_letter.comp gLetter_kind
theorem gMail_letter_atom : Fld gMail gI (fun x => x.letter.atom) (fun x y => { x with letter.atom := y }) 2 := gMail_letter.comp gLetter_atom
theorem gMail_letter_num : Fld gMail gI (fun x => x.letter.num) (fun x y => { x with letter.num := y }) 3 := gMail_letter.comp gLetter_num
theorem gMail_letter_black : Fld gMail gB (fun x => x.letter.black) (fun x y => { x with letter.black := y }) 4 := gMail_letter.comp gLetter_black
theorem gMail_letter_walks : Fld gMail (gSl 200 gWalk) (fun x => x.letter.walks) (fun x y => { x with letter.walks := y }) 5 := gMail_letter.comp gLetter_walks
theorem gMail_letter_text : Fld gMail gS (fun x => x.letter.text) (fun x y => { x with letter.text := y }) 6 := gMail_letter.comp gLetter_text
theorem gMail_sz (x : Mail) : gMail.sz x = 0 + (gLetter.sz x.letter) := rfl
theorem gMail_cnt (x : Mail) : gMail.cnt x = 1 + (gLetter.cnt x.letter) := rfl
theorem gMail_cntV (x : Mail) : gMail.cntV x = 0 + (gLetter.cntV x.letter) := rfl
theorem gMail_mark (k : Int) (x : Mail) : gMail.mark k x = ⟨k, gLetter.mark (k + 1) x.letter⟩ := by
  have h : gMail.mark k x = ⟨k, gLetter.mark ((k + ((1 : Nat) : Int))) x.letter⟩ := rfl
  rw [h] <;> simp
theorem gMail_markV (k : Int) (x : Mail) : gMail.markV k x = ⟨x.peer, gLetter.markV (k) x.letter⟩ := by
  have h : gMail.markV k x = ⟨x.peer, gLetter.markV ((k + ((0 : Nat) : Int))) x.letter⟩ := rfl
  rw [h] <;> simp
theorem Mail.eq_iff {x y : Mail} : x = y ↔ x.peer = y.peer ∧ x.letter = y.letter := by cases x; cases y; simp
--@gt impl.Mail | gMail | default | obtain ⟨l1x#, rfl, w0x#, h1x#⟩ := gMail_rd.1 hl# ; obtain ⟨b4_1x#, c4_1x#, rfl, w0_1x#, w1_1x#, w2_1x#, h4_1x#, w5_1x#⟩ := gLetter_rd.1 h1x# | 0 1 pr gMail_peer ; 1 6 st gMail_letter ; 1 1 pr gMail_letter_kind ; 2 1 pr gMail_letter_atom ; 3 1 pr gMail_letter_num ; 4 1 pr gMail_letter_black ; 5 1 sl gMail_letter_walks ; 6 1 pr gMail_letter_text | 7 | 

structure Work where
  begun : Bool
  query : Query
  shares : List Int
  count : Int
  seen : List Walk
  num : Int
  black : Bool
  holds : Bool
  tokNum : Int
  tokBlack : Bool
  walked : Bool
  cell : Cell
  told : Bool
  waits : List Mail
deriving DecidableEq, Inhabited
def gWork : Gt Work := gIso (SX.gPair gB (SX.gPair gQuery (SX.gPair (gSl 3 gI) (SX.gPair gI (SX.gPair (gSl 200 gWalk) (SX.gPair gI (SX.gPair gB (SX.gPair gB (SX.gPair gI (SX.gPair gB (SX.gPair gB (SX.gPair gCell (SX.gPair gB (gSl 122 gMail)))))))))))))) (fun x => (x.begun, (x.query, (x.shares, (x.count, (x.seen, (x.num, (x.black, (x.holds, (x.tokNum, (x.tokBlack, (x.walked, (x.cell, (x.told, x.waits)))))))))))))) (fun p => ⟨p.1, p.2.1, p.2.2.1, p.2.2.2.1, p.2.2.2.2.1, p.2.2.2.2.2.1, p.2.2.2.2.2.2.1, p.2.2.2.2.2.2.2.1, p.2.2.2.2.2.2.2.2.1, p.2.2.2.2.2.2.2.2.2.1, p.2.2.2.2.2.2.2.2.2.2.1, p.2.2.2.2.2.2.2.2.2.2.2.1, p.2.2.2.2.2.2.2.2.2.2.2.2.1, p.2.2.2.2.2.2.2.2.2.2.2.2.2⟩)
theorem gWork_rd {H : Hp} {l : List Value} {x : Work} : gWork.rd H l x ↔ ∃ (l1 : List Value) (b2 : Option Addr) (c2 : Nat) (b4 : Option Addr) (c4 : Nat) (l11 : List Value) (b13 : Option Addr) (c13 : Nat), l = .bool x.begun :: l1 ++ (.slice b2 x.shares.length c2 :: .int .i64 x.count :: .slice b4 x.seen.length c4 :: .int .i64 x.num :: .bool x.black :: .bool x.holds :: .int .i64 x.tokNum :: .bool x.tokBlack :: .bool x.walked :: l11 ++ (.bool x.told :: .slice b13 x.waits.length c13 :: [])) ∧ gQuery.rd H l1 x.query ∧ (gSl 3 gI).rd H [.slice b2 x.shares.length c2] x.shares ∧ okI x.count ∧ (gSl 200 gWalk).rd H [.slice b4 x.seen.length c4] x.seen ∧ okI x.num ∧ okI x.tokNum ∧ gCell.rd H l11 x.cell ∧ (gSl 122 gMail).rd H [.slice b13 x.waits.length c13] x.waits := by
  constructor
  · rintro ⟨m0, q0, rfl, h0, m1, q1, rfl, h1, m2, q2, rfl, h2, m3, q3, rfl, h3, m4, q4, rfl, h4, m5, q5, rfl, h5, m6, q6, rfl, h6, m7, q7, rfl, h7, m8, q8, rfl, h8, m9, q9, rfl, h9, m10, q10, rfl, h10, m11, q11, rfl, h11, m12, q12, rfl, h12, h13⟩
    obtain ⟨rfl, w0⟩ := h0
    obtain ⟨b2, c2, rfl, h2⟩ := sl_rd h2
    obtain ⟨rfl, w3⟩ := h3
    obtain ⟨b4, c4, rfl, h4⟩ := sl_rd h4
    obtain ⟨rfl, w5⟩ := h5
    obtain ⟨rfl, w6⟩ := h6
    obtain ⟨rfl, w7⟩ := h7
    obtain ⟨rfl, w8⟩ := h8
    obtain ⟨rfl, w9⟩ := h9
    obtain ⟨rfl, w10⟩ := h10
    obtain ⟨rfl, w12⟩ := h12
    obtain ⟨b13, c13, rfl, h13⟩ := sl_rd h13
    exact ⟨m1, b2, c2, b4, c4, m11, b13, c13, rfl, h1, h2, w3, h4, w5, w8, h11, h13⟩
  · rintro ⟨l1, b2, c2, b4, c4, l11, b13, c13, rfl, h1, h2, w3, h4, w5, w8, h11, h13⟩
    exact ⟨[.bool x.begun], l1 ++ (.slice b2 x.shares.length c2 :: .int .i64 x.count :: .slice b4 x.seen.length c4 :: .int .i64 x.num :: .bool x.black :: .bool x.holds :: .int .i64 x.tokNum :: .bool x.tokBlack :: .bool x.walked :: l11 ++ (.bool x.told :: .slice b13 x.waits.length c13 :: [])), rfl, ⟨rfl, trivial⟩, ⟨l1, .slice b2 x.shares.length c2 :: .int .i64 x.count :: .slice b4 x.seen.length c4 :: .int .i64 x.num :: .bool x.black :: .bool x.holds :: .int .i64 x.tokNum :: .bool x.tokBlack :: .bool x.walked :: l11 ++ (.bool x.told :: .slice b13 x.waits.length c13 :: []), rfl, h1, ⟨[.slice b2 x.shares.length c2], .int .i64 x.count :: .slice b4 x.seen.length c4 :: .int .i64 x.num :: .bool x.black :: .bool x.holds :: .int .i64 x.tokNum :: .bool x.tokBlack :: .bool x.walked :: l11 ++ (.bool x.told :: .slice b13 x.waits.length c13 :: []), rfl, h2, ⟨[.int .i64 x.count], .slice b4 x.seen.length c4 :: .int .i64 x.num :: .bool x.black :: .bool x.holds :: .int .i64 x.tokNum :: .bool x.tokBlack :: .bool x.walked :: l11 ++ (.bool x.told :: .slice b13 x.waits.length c13 :: []), rfl, ⟨rfl, w3⟩, ⟨[.slice b4 x.seen.length c4], .int .i64 x.num :: .bool x.black :: .bool x.holds :: .int .i64 x.tokNum :: .bool x.tokBlack :: .bool x.walked :: l11 ++ (.bool x.told :: .slice b13 x.waits.length c13 :: []), rfl, h4, ⟨[.int .i64 x.num], .bool x.black :: .bool x.holds :: .int .i64 x.tokNum :: .bool x.tokBlack :: .bool x.walked :: l11 ++ (.bool x.told :: .slice b13 x.waits.length c13 :: []), rfl, ⟨rfl, w5⟩, ⟨[.bool x.black], .bool x.holds :: .int .i64 x.tokNum :: .bool x.tokBlack :: .bool x.walked :: l11 ++ (.bool x.told :: .slice b13 x.waits.length c13 :: []), rfl, ⟨rfl, trivial⟩, ⟨[.bool x.holds], .int .i64 x.tokNum :: .bool x.tokBlack :: .bool x.walked :: l11 ++ (.bool x.told :: .slice b13 x.waits.length c13 :: []), rfl, ⟨rfl, trivial⟩, ⟨[.int .i64 x.tokNum], .bool x.tokBlack :: .bool x.walked :: l11 ++ (.bool x.told :: .slice b13 x.waits.length c13 :: []), rfl, ⟨rfl, w8⟩, ⟨[.bool x.tokBlack], .bool x.walked :: l11 ++ (.bool x.told :: .slice b13 x.waits.length c13 :: []), rfl, ⟨rfl, trivial⟩, ⟨[.bool x.walked], l11 ++ (.bool x.told :: .slice b13 x.waits.length c13 :: []), rfl, ⟨rfl, trivial⟩, ⟨l11, .bool x.told :: .slice b13 x.waits.length c13 :: [], rfl, h11, ⟨[.bool x.told], [.slice b13 x.waits.length c13], rfl, ⟨rfl, trivial⟩, h13⟩⟩⟩⟩⟩⟩⟩⟩⟩⟩⟩⟩⟩
open Classical in
theorem gWork_ow {A : Hp} {l : List Value} {x : Work} : gWork.ow l x A ↔ ∃ (l1 : List Value) (A1 : Hp) (b2 : Option Addr) (c2 : Nat) (A2 : Hp) (b4 : Option Addr) (c4 : Nat) (A4 : Hp) (l11 : List Value) (A11 : Hp) (b13 : Option Addr) (c13 : Nat) (A13 : Hp), l = .bool x.begun :: l1 ++ (.slice b2 x.shares.length c2 :: .int .i64 x.count :: .slice b4 x.seen.length c4 :: .int .i64 x.num :: .bool x.black :: .bool x.holds :: .int .i64 x.tokNum :: .bool x.tokBlack :: .bool x.walked :: l11 ++ (.bool x.told :: .slice b13 x.waits.length c13 :: [])) ∧ A.Perm (A1 ++ (A2 ++ (A4 ++ (A11 ++ A13)))) ∧ gQuery.ow l1 x.query A1 ∧ (gSl 3 gI).ow [.slice b2 x.shares.length c2] x.shares A2 ∧ okI x.count ∧ (gSl 200 gWalk).ow [.slice b4 x.seen.length c4] x.seen A4 ∧ okI x.num ∧ okI x.tokNum ∧ gCell.ow l11 x.cell A11 ∧ (gSl 122 gMail).ow [.slice b13 x.waits.length c13] x.waits A13 := by
  constructor
  · rintro ⟨m0, q0, D0, E0, rfl, p0, h0, m1, q1, D1, E1, rfl, p1, h1, m2, q2, D2, E2, rfl, p2, h2, m3, q3, D3, E3, rfl, p3, h3, m4, q4, D4, E4, rfl, p4, h4, m5, q5, D5, E5, rfl, p5, h5, m6, q6, D6, E6, rfl, p6, h6, m7, q7, D7, E7, rfl, p7, h7, m8, q8, D8, E8, rfl, p8, h8, m9, q9, D9, E9, rfl, p9, h9, m10, q10, D10, E10, rfl, p10, h10, m11, q11, D11, E11, rfl, p11, h11, m12, q12, D12, E12, rfl, p12, h12, h13⟩
    obtain ⟨rfl, w0, e0⟩ := h0
    subst e0
    obtain ⟨b2, c2, rfl, h2⟩ := sl_ow h2
    obtain ⟨rfl, w3, e3⟩ := h3
    subst e3
    obtain ⟨b4, c4, rfl, h4⟩ := sl_ow h4
    obtain ⟨rfl, w5, e5⟩ := h5
    subst e5
    obtain ⟨rfl, w6, e6⟩ := h6
    subst e6
    obtain ⟨rfl, w7, e7⟩ := h7
    subst e7
    obtain ⟨rfl, w8, e8⟩ := h8
    subst e8
    obtain ⟨rfl, w9, e9⟩ := h9
    subst e9
    obtain ⟨rfl, w10, e10⟩ := h10
    subst e10
    obtain ⟨rfl, w12, e12⟩ := h12
    subst e12
    obtain ⟨b13, c13, rfl, h13⟩ := sl_ow h13
    exact ⟨m1, D1, b2, c2, D2, b4, c4, D4, m11, D11, b13, c13, E12, rfl, (perm_cnt fun a => by have e0 := p0.count_eq a; have e1 := p1.count_eq a; have e2 := p2.count_eq a; have e3 := p3.count_eq a; have e4 := p4.count_eq a; have e5 := p5.count_eq a; have e6 := p6.count_eq a; have e7 := p7.count_eq a; have e8 := p8.count_eq a; have e9 := p9.count_eq a; have e10 := p10.count_eq a; have e11 := p11.count_eq a; have e12 := p12.count_eq a; simp only [List.count_append, List.count_nil] at *; omega), h1, h2, w3, h4, w5, w8, h11, h13⟩
  · rintro ⟨l1, A1, b2, c2, A2, b4, c4, A4, l11, A11, b13, c13, A13, rfl, hp, h1, h2, w3, h4, w5, w8, h11, h13⟩
    exact ⟨[.bool x.begun], l1 ++ (.slice b2 x.shares.length c2 :: .int .i64 x.count :: .slice b4 x.seen.length c4 :: .int .i64 x.num :: .bool x.black :: .bool x.holds :: .int .i64 x.tokNum :: .bool x.tokBlack :: .bool x.walked :: l11 ++ (.bool x.told :: .slice b13 x.waits.length c13 :: [])), [], (A1 ++ (A2 ++ ([] ++ (A4 ++ ([] ++ ([] ++ ([] ++ ([] ++ ([] ++ ([] ++ (A11 ++ ([] ++ A13)))))))))))), rfl, (perm_cnt fun a => by have e := hp.count_eq a; simp only [List.count_append, List.count_nil] at *; omega), ⟨rfl, trivial, rfl⟩, ⟨l1, .slice b2 x.shares.length c2 :: .int .i64 x.count :: .slice b4 x.seen.length c4 :: .int .i64 x.num :: .bool x.black :: .bool x.holds :: .int .i64 x.tokNum :: .bool x.tokBlack :: .bool x.walked :: l11 ++ (.bool x.told :: .slice b13 x.waits.length c13 :: []), A1, (A2 ++ ([] ++ (A4 ++ ([] ++ ([] ++ ([] ++ ([] ++ ([] ++ ([] ++ (A11 ++ ([] ++ A13))))))))))), rfl, .refl _, h1, ⟨[.slice b2 x.shares.length c2], .int .i64 x.count :: .slice b4 x.seen.length c4 :: .int .i64 x.num :: .bool x.black :: .bool x.holds :: .int .i64 x.tokNum :: .bool x.tokBlack :: .bool x.walked :: l11 ++ (.bool x.told :: .slice b13 x.waits.length c13 :: []), A2, ([] ++ (A4 ++ ([] ++ ([] ++ ([] ++ ([] ++ ([] ++ ([] ++ (A11 ++ ([] ++ A13)))))))))), rfl, .refl _, h2, ⟨[.int .i64 x.count], .slice b4 x.seen.length c4 :: .int .i64 x.num :: .bool x.black :: .bool x.holds :: .int .i64 x.tokNum :: .bool x.tokBlack :: .bool x.walked :: l11 ++ (.bool x.told :: .slice b13 x.waits.length c13 :: []), [], (A4 ++ ([] ++ ([] ++ ([] ++ ([] ++ ([] ++ ([] ++ (A11 ++ ([] ++ A13))))))))), rfl, .refl _, ⟨rfl, w3, rfl⟩, ⟨[.slice b4 x.seen.length c4], .int .i64 x.num :: .bool x.black :: .bool x.holds :: .int .i64 x.tokNum :: .bool x.tokBlack :: .bool x.walked :: l11 ++ (.bool x.told :: .slice b13 x.waits.length c13 :: []), A4, ([] ++ ([] ++ ([] ++ ([] ++ ([] ++ ([] ++ (A11 ++ ([] ++ A13)))))))), rfl, .refl _, h4, ⟨[.int .i64 x.num], .bool x.black :: .bool x.holds :: .int .i64 x.tokNum :: .bool x.tokBlack :: .bool x.walked :: l11 ++ (.bool x.told :: .slice b13 x.waits.length c13 :: []), [], ([] ++ ([] ++ ([] ++ ([] ++ ([] ++ (A11 ++ ([] ++ A13))))))), rfl, .refl _, ⟨rfl, w5, rfl⟩, ⟨[.bool x.black], .bool x.holds :: .int .i64 x.tokNum :: .bool x.tokBlack :: .bool x.walked :: l11 ++ (.bool x.told :: .slice b13 x.waits.length c13 :: []), [], ([] ++ ([] ++ ([] ++ ([] ++ (A11 ++ ([] ++ A13)))))), rfl, .refl _, ⟨rfl, trivial, rfl⟩, ⟨[.bool x.holds], .int .i64 x.tokNum :: .bool x.tokBlack :: .bool x.walked :: l11 ++ (.bool x.told :: .slice b13 x.waits.length c13 :: []), [], ([] ++ ([] ++ ([] ++ (A11 ++ ([] ++ A13))))), rfl, .refl _, ⟨rfl, trivial, rfl⟩, ⟨[.int .i64 x.tokNum], .bool x.tokBlack :: .bool x.walked :: l11 ++ (.bool x.told :: .slice b13 x.waits.length c13 :: []), [], ([] ++ ([] ++ (A11 ++ ([] ++ A13)))), rfl, .refl _, ⟨rfl, w8, rfl⟩, ⟨[.bool x.tokBlack], .bool x.walked :: l11 ++ (.bool x.told :: .slice b13 x.waits.length c13 :: []), [], ([] ++ (A11 ++ ([] ++ A13))), rfl, .refl _, ⟨rfl, trivial, rfl⟩, ⟨[.bool x.walked], l11 ++ (.bool x.told :: .slice b13 x.waits.length c13 :: []), [], (A11 ++ ([] ++ A13)), rfl, .refl _, ⟨rfl, trivial, rfl⟩, ⟨l11, .bool x.told :: .slice b13 x.waits.length c13 :: [], A11, ([] ++ A13), rfl, .refl _, h11, ⟨[.bool x.told], [.slice b13 x.waits.length c13], [], A13, rfl, .refl _, ⟨rfl, trivial, rfl⟩, h13⟩⟩⟩⟩⟩⟩⟩⟩⟩⟩⟩⟩⟩
theorem opens_Work : Opens Tryz.prog gWork.toRp 38 := by
  intro H' enc w H sp hd fuel cs d ps hcov ht
  obtain ⟨h1, h2⟩ := trod_fields ty38_ok.1 ht
  obtain ⟨_, _, t0⟩ := h2 0 0 4 rfl
  obtain ⟨x0, r0⟩ := (opens_fb ty4_ok.1) _ _ H _ _ _ _ _ _ hcov t0
  rw [show Tryz.prog.cellsOf 4 = 1 by kernel_rfl] at r0
  obtain ⟨_, _, t1⟩ := h2 1 1 30 rfl
  obtain ⟨x1, r1⟩ := opens_Query _ _ H _ _ _ _ _ _ hcov t1
  rw [show Tryz.prog.cellsOf 30 = 4 by kernel_rfl] at r1
  obtain ⟨_, _, t2⟩ := h2 2 5 31 rfl
  obtain ⟨x2, r2⟩ := (opens_sl ty31_ok.1 (by kernel_rfl) (by decide) (opens_fi ty3_ok.1)) _ _ H _ _ _ _ _ _ hcov t2
  rw [show Tryz.prog.cellsOf 31 = 1 by kernel_rfl] at r2
  obtain ⟨_, _, t3⟩ := h2 3 6 3 rfl
  obtain ⟨x3, r3⟩ := (opens_fi ty3_ok.1) _ _ H _ _ _ _ _ _ hcov t3
  rw [show Tryz.prog.cellsOf 3 = 1 by kernel_rfl] at r3
  obtain ⟨_, _, t4⟩ := h2 4 7 32 rfl
  obtain ⟨x4, r4⟩ := (opens_sl ty32_ok.1 (by kernel_rfl) (by decide) opens_Walk) _ _ H _ _ _ _ _ _ hcov t4
  rw [show Tryz.prog.cellsOf 32 = 1 by kernel_rfl] at r4
  obtain ⟨_, _, t5⟩ := h2 5 8 3 rfl
  obtain ⟨x5, r5⟩ := (opens_fi ty3_ok.1) _ _ H _ _ _ _ _ _ hcov t5
  rw [show Tryz.prog.cellsOf 3 = 1 by kernel_rfl] at r5
  obtain ⟨_, _, t6⟩ := h2 6 9 4 rfl
  obtain ⟨x6, r6⟩ := (opens_fb ty4_ok.1) _ _ H _ _ _ _ _ _ hcov t6
  rw [show Tryz.prog.cellsOf 4 = 1 by kernel_rfl] at r6
  obtain ⟨_, _, t7⟩ := h2 7 10 4 rfl
  obtain ⟨x7, r7⟩ := (opens_fb ty4_ok.1) _ _ H _ _ _ _ _ _ hcov t7
  rw [show Tryz.prog.cellsOf 4 = 1 by kernel_rfl] at r7
  obtain ⟨_, _, t8⟩ := h2 8 11 3 rfl
  obtain ⟨x8, r8⟩ := (opens_fi ty3_ok.1) _ _ H _ _ _ _ _ _ hcov t8
  rw [show Tryz.prog.cellsOf 3 = 1 by kernel_rfl] at r8
  obtain ⟨_, _, t9⟩ := h2 9 12 4 rfl
  obtain ⟨x9, r9⟩ := (opens_fb ty4_ok.1) _ _ H _ _ _ _ _ _ hcov t9
  rw [show Tryz.prog.cellsOf 4 = 1 by kernel_rfl] at r9
  obtain ⟨_, _, t10⟩ := h2 10 13 4 rfl
  obtain ⟨x10, r10⟩ := (opens_fb ty4_ok.1) _ _ H _ _ _ _ _ _ hcov t10
  rw [show Tryz.prog.cellsOf 4 = 1 by kernel_rfl] at r10
  obtain ⟨_, _, t11⟩ := h2 11 14 35 rfl
  obtain ⟨x11, r11⟩ := opens_Cell _ _ H _ _ _ _ _ _ hcov t11
  rw [show Tryz.prog.cellsOf 35 = 8 by kernel_rfl] at r11
  obtain ⟨_, _, t12⟩ := h2 12 22 4 rfl
  obtain ⟨x12, r12⟩ := (opens_fb ty4_ok.1) _ _ H _ _ _ _ _ _ hcov t12
  rw [show Tryz.prog.cellsOf 4 = 1 by kernel_rfl] at r12
  obtain ⟨_, _, t13⟩ := h2 13 23 36 rfl
  obtain ⟨x13, r13⟩ := (opens_sl ty36_ok.1 (by kernel_rfl) (by decide) opens_Mail) _ _ H _ _ _ _ _ _ hcov t13
  rw [show Tryz.prog.cellsOf 36 = 1 by kernel_rfl] at r13
  rw [show Tryz.prog.cellsOf 38 = 24 by kernel_rfl] at h1
  have key : gWork.rd H ((cs.drop 0).take 24) ⟨x0, x1, x2, x3, x4, x5, x6, x7, x8, x9, x10, x11, x12, x13⟩ := (pair_at (g := gB) (h := (SX.gPair gQuery (SX.gPair (gSl 3 gI) (SX.gPair gI (SX.gPair (gSl 200 gWalk) (SX.gPair gI (SX.gPair gB (SX.gPair gB (SX.gPair gI (SX.gPair gB (SX.gPair gB (SX.gPair gCell (SX.gPair gB (gSl 122 gMail)))))))))))))) (off := 0) r0 (pair_at (g := gQuery) (h := (SX.gPair (gSl 3 gI) (SX.gPair gI (SX.gPair (gSl 200 gWalk) (SX.gPair gI (SX.gPair gB (SX.gPair gB (SX.gPair gI (SX.gPair gB (SX.gPair gB (SX.gPair gCell (SX.gPair gB (gSl 122 gMail))))))))))))) (off := 1) r1 (pair_at (g := (gSl 3 gI)) (h := (SX.gPair gI (SX.gPair (gSl 200 gWalk) (SX.gPair gI (SX.gPair gB (SX.gPair gB (SX.gPair gI (SX.gPair gB (SX.gPair gB (SX.gPair gCell (SX.gPair gB (gSl 122 gMail)))))))))))) (off := 5) r2 (pair_at (g := gI) (h := (SX.gPair (gSl 200 gWalk) (SX.gPair gI (SX.gPair gB (SX.gPair gB (SX.gPair gI (SX.gPair gB (SX.gPair gB (SX.gPair gCell (SX.gPair gB (gSl 122 gMail))))))))))) (off := 6) r3 (pair_at (g := (gSl 200 gWalk)) (h := (SX.gPair gI (SX.gPair gB (SX.gPair gB (SX.gPair gI (SX.gPair gB (SX.gPair gB (SX.gPair gCell (SX.gPair gB (gSl 122 gMail)))))))))) (off := 7) r4 (pair_at (g := gI) (h := (SX.gPair gB (SX.gPair gB (SX.gPair gI (SX.gPair gB (SX.gPair gB (SX.gPair gCell (SX.gPair gB (gSl 122 gMail))))))))) (off := 8) r5 (pair_at (g := gB) (h := (SX.gPair gB (SX.gPair gI (SX.gPair gB (SX.gPair gB (SX.gPair gCell (SX.gPair gB (gSl 122 gMail)))))))) (off := 9) r6 (pair_at (g := gB) (h := (SX.gPair gI (SX.gPair gB (SX.gPair gB (SX.gPair gCell (SX.gPair gB (gSl 122 gMail))))))) (off := 10) r7 (pair_at (g := gI) (h := (SX.gPair gB (SX.gPair gB (SX.gPair gCell (SX.gPair gB (gSl 122 gMail)))))) (off := 11) r8 (pair_at (g := gB) (h := (SX.gPair gB (SX.gPair gCell (SX.gPair gB (gSl 122 gMail))))) (off := 12) r9 (pair_at (g := gB) (h := (SX.gPair gCell (SX.gPair gB (gSl 122 gMail)))) (off := 13) r10 (pair_at (g := gCell) (h := (SX.gPair gB (gSl 122 gMail))) (off := 14) r11 (pair_at (g := gB) (h := (gSl 122 gMail)) (off := 22) r12 r13)))))))))))))
  rw [List.drop_zero, List.take_of_length_le (by omega)] at key
  exact ⟨_, key⟩
def zWork : Work := ⟨false, zQuery, [], 0, [], 0, false, false, 0, false, false, zCell, false, []⟩
theorem zWork_ow : gWork.ow [.bool false, .bool false, .slice none 0 0, .slice none 0 0, .slice none 0 0, .slice none 0 0, .int .i64 0, .slice none 0 0, .int .i64 0, .bool false, .bool false, .int .i64 0, .bool false, .bool false, .bool false, .slice none 0 0, .slice none 0 0, .slice none 0 0, .slice none 0 0, .int .i64 0, .int .i64 0, .slice none 0 0, .bool false, .slice none 0 0] zWork [] := gWork_ow.2 ⟨_, [], none, 0, [], none, 0, [], _, [], none, 0, [], rfl, by simp, zQuery_ow, sl_nil _ _ _, by first | (unfold okI; decide) | decide, sl_nil _ _ _, by first | (unfold okI; decide) | decide, by first | (unfold okI; decide) | decide, zCell_ow, sl_nil _ _ _⟩
theorem gWork_begun : Fld gWork gB (fun x => x.begun) (fun x y => { x with begun := y }) 0 := (Fld.fst _ _).iso (fun _ => rfl) (fun _ _ => rfl)
theorem gWork_query : Fld gWork gQuery (fun x => x.query) (fun x y => { x with query := y }) 1 := ((Fld.snd _ _).comp (Fld.fst _ _)).iso (fun _ => rfl) (fun _ _ => rfl)
theorem gWork_query_each : Fld gWork gB (fun x => x.query.each) (fun x y => { x with query.each := y }) 1 := gWork_query.comp gQuery_each
theorem gWork_query_out : Fld gWork (gSl 9 gS) (fun x => x.query.out) (fun x y => { x with query.out := y }) 2 := gWork_query.comp gQuery_out
theorem gWork_query_atoms : Fld gWork (gSl 143 gAtom) (fun x => x.query.atoms) (fun x y => { x with query.atoms := y }) 3 := gWork_query.comp gQuery_atoms
theorem gWork_query_filters : Fld gWork (gSl 214 gFilter) (fun x => x.query.filters) (fun x y => { x with query.filters := y }) 4 := gWork_query.comp gQuery_filters
theorem gWork_shares : Fld gWork (gSl 3 gI) (fun x => x.shares) (fun x y => { x with shares := y }) 5 := ((Fld.snd _ _).comp ((Fld.snd _ _).comp (Fld.fst _ _))).iso (fun _ => rfl) (fun _ _ => rfl)
theorem gWork_count : Fld gWork gI (fun x => x.count) (fun x y => { x with count := y }) 6 := ((Fld.snd _ _).comp ((Fld.snd _ _).comp ((Fld.snd _ _).comp (Fld.fst _ _)))).iso (fun _ => rfl) (fun _ _ => rfl)
theorem gWork_seen : Fld gWork (gSl 200 gWalk) (fun x => x.seen) (fun x y => { x with seen := y }) 7 := ((Fld.snd _ _).comp ((Fld.snd _ _).comp ((Fld.snd _ _).comp ((Fld.snd _ _).comp (Fld.fst _ _))))).iso (fun _ => rfl) (fun _ _ => rfl)
theorem gWork_num : Fld gWork gI (fun x => x.num) (fun x y => { x with num := y }) 8 := ((Fld.snd _ _).comp ((Fld.snd _ _).comp ((Fld.snd _ _).comp ((Fld.snd _ _).comp ((Fld.snd _ _).comp (Fld.fst _ _)))))).iso (fun _ => rfl) (fun _ _ => rfl)
theorem gWork_black : Fld gWork gB (fun x => x.black) (fun x y => { x with black := y }) 9 := ((Fld.snd _ _).comp ((Fld.snd _ _).comp ((Fld.snd _ _).comp ((Fld.snd _ _).comp ((Fld.snd _ _).comp ((Fld.snd _ _).comp (Fld.fst _ _))))))).iso (fun _ => rfl) (fun _ _ => rfl)
theorem gWork_holds : Fld gWork gB (fun x => x.holds) (fun x y => { x with holds := y }) 10 := ((Fld.snd _ _).comp ((Fld.snd _ _).comp ((Fld.snd _ _).comp ((Fld.snd _ _).comp ((Fld.snd _ _).comp ((Fld.snd _ _).comp ((Fld.snd _ _).comp (Fld.fst _ _)))))))).iso (fun _ => rfl) (fun _ _ => rfl)
theorem gWork_tokNum : Fld gWork gI (fun x => x.tokNum) (fun x y => { x with tokNum := y }) 11 := ((Fld.snd _ _).comp ((Fld.snd _ _).comp ((Fld.snd _ _).comp ((Fld.snd _ _).comp ((Fld.snd _ _).comp ((Fld.snd _ _).comp ((Fld.snd _ _).comp ((Fld.snd _ _).comp (Fld.fst _ _))))))))).iso (fun _ => rfl) (fun _ _ => rfl)
theorem gWork_tokBlack : Fld gWork gB (fun x => x.tokBlack) (fun x y => { x with tokBlack := y }) 12 := ((Fld.snd _ _).comp ((Fld.snd _ _).comp ((Fld.snd _ _).comp ((Fld.snd _ _).comp ((Fld.snd _ _).comp ((Fld.snd _ _).comp ((Fld.snd _ _).comp ((Fld.snd _ _).comp ((Fld.snd _ _).comp (Fld.fst _ _)))))))))).iso (fun _ => rfl) (fun _ _ => rfl)
theorem gWork_walked : Fld gWork gB (fun x => x.walked) (fun x y => { x with walked := y }) 13 := ((Fld.snd _ _).comp ((Fld.snd _ _).comp ((Fld.snd _ _).comp ((Fld.snd _ _).comp ((Fld.snd _ _).comp ((Fld.snd _ _).comp ((Fld.snd _ _).comp ((Fld.snd _ _).comp ((Fld.snd _ _).comp ((Fld.snd _ _).comp (Fld.fst _ _))))))))))).iso (fun _ => rfl) (fun _ _ => rfl)
theorem gWork_cell : Fld gWork gCell (fun x => x.cell) (fun x y => { x with cell := y }) 14 := ((Fld.snd _ _).comp ((Fld.snd _ _).comp ((Fld.snd _ _).comp ((Fld.snd _ _).comp ((Fld.snd _ _).comp ((Fld.snd _ _).comp ((Fld.snd _ _).comp ((Fld.snd _ _).comp ((Fld.snd _ _).comp ((Fld.snd _ _).comp ((Fld.snd _ _).comp (Fld.fst _ _)))))))))))).iso (fun _ => rfl) (fun _ _ => rfl)
theorem gWork_cell_query : Fld gWork gQuery (fun x => x.cell.query) (fun x y => { x with cell.query := y }) 14 := gWork_cell.comp gCell_query
theorem gWork_cell_query_each : Fld gWork gB (fun x => x.cell.query.each) (fun x y => { x with cell.query.each := y }) 14 := gWork_cell.comp gCell_query_each
theorem gWork_cell_query_out : Fld gWork (gSl 9 gS) (fun x => x.cell.query.out) (fun x y => { x with cell.query.out := y }) 15 := gWork_cell.comp gCell_query_out
theorem gWork_cell_query_atoms : Fld gWork (gSl 143 gAtom) (fun x => x.cell.query.atoms) (fun x y => { x with cell.query.atoms := y }) 16 := gWork_cell.comp gCell_query_atoms
theorem gWork_cell_query_filters : Fld gWork (gSl 214 gFilter) (fun x => x.cell.query.filters) (fun x y => { x with cell.query.filters := y }) 17 := gWork_cell.comp gCell_query_filters
theorem gWork_cell_shares : Fld gWork (gSl 3 gI) (fun x => x.cell.shares) (fun x y => { x with cell.shares := y }) 18 := gWork_cell.comp gCell_shares
theorem gWork_cell_at : Fld gWork gI (fun x => x.cell.at') (fun x y => { x with cell.at' := y }) 19 := gWork_cell.comp gCell_at
theorem gWork_cell_n : Fld gWork gI (fun x => x.cell.n) (fun x y => { x with cell.n := y }) 20 := gWork_cell.comp gCell_n
theorem gWork_cell_gots : Fld gWork (gSl 232 gGot) (fun x => x.cell.gots) (fun x y => { x with cell.gots := y }) 21 := gWork_cell.comp gCell_gots
theorem gWork_told : Fld gWork gB (fun x => x.told) (fun x y => { x with told := y }) 22 := ((Fld.snd _ _).comp ((Fld.snd _ _).comp ((Fld.snd _ _).comp ((Fld.snd _ _).comp ((Fld.snd _ _).comp ((Fld.snd _ _).comp ((Fld.snd _ _).comp ((Fld.snd _ _).comp ((Fld.snd _ _).comp ((Fld.snd _ _).comp ((Fld.snd _ _).comp ((Fld.snd _ _).comp (Fld.fst _ _))))))))))))).iso (fun _ => rfl) (fun _ _ => rfl)
theorem gWork_waits : Fld gWork (gSl 122 gMail) (fun x => x.waits) (fun x y => { x with waits := y }) 23 := ((Fld.snd _ _).comp ((Fld.snd _ _).comp ((Fld.snd _ _).comp ((Fld.snd _ _).comp ((Fld.snd _ _).comp ((Fld.snd _ _).comp ((Fld.snd _ _).comp ((Fld.snd _ _).comp ((Fld.snd _ _).comp ((Fld.snd _ _).comp ((Fld.snd _ _).comp ((Fld.snd _ _).comp (Fld.snd _ _))))))))))))).iso (fun _ => rfl) (fun _ _ => rfl)
theorem gWork_sz (x : Work) : gWork.sz x = 0 + (gQuery.sz x.query + (szL gI x.shares + (0 + (szL gWalk x.seen + (0 + (0 + (0 + (0 + (0 + (0 + (gCell.sz x.cell + (0 + (szL gMail x.waits))))))))))))) := rfl
theorem gWork_cnt (x : Work) : gWork.cnt x = 1 + (gQuery.cnt x.query + (cntL gI x.shares + (1 + (cntL gWalk x.seen + (1 + (1 + (1 + (1 + (1 + (1 + (gCell.cnt x.cell + (1 + (cntL gMail x.waits))))))))))))) := rfl
theorem gWork_cntV (x : Work) : gWork.cntV x = 0 + (gQuery.cntV x.query + (cntL gI x.shares + (0 + (cntL gWalk x.seen + (0 + (0 + (0 + (0 + (0 + (0 + (gCell.cntV x.cell + (0 + (cntL gMail x.waits))))))))))))) := rfl
theorem gWork_mark (k : Int) (x : Work) : gWork.mark k x = ⟨(k).tmod 3 == 0, gQuery.mark (k + 1) x.query, mkL gI (k + 1 + gQuery.cnt x.query) x.shares, k + 1 + gQuery.cnt x.query + cntL gI x.shares, mkL gWalk (k + 1 + gQuery.cnt x.query + cntL gI x.shares + 1) x.seen, k + 1 + gQuery.cnt x.query + cntL gI x.shares + 1 + cntL gWalk x.seen, (k + 1 + gQuery.cnt x.query + cntL gI x.shares + 1 + cntL gWalk x.seen + 1).tmod 3 == 0, (k + 1 + gQuery.cnt x.query + cntL gI x.shares + 1 + cntL gWalk x.seen + 1 + 1).tmod 3 == 0, k + 1 + gQuery.cnt x.query + cntL gI x.shares + 1 + cntL gWalk x.seen + 1 + 1 + 1, (k + 1 + gQuery.cnt x.query + cntL gI x.shares + 1 + cntL gWalk x.seen + 1 + 1 + 1 + 1).tmod 3 == 0, (k + 1 + gQuery.cnt x.query + cntL gI x.shares + 1 + cntL gWalk x.seen + 1 + 1 + 1 + 1 + 1).tmod 3 == 0, gCell.mark (k + 1 + gQuery.cnt x.query + cntL gI x.shares + 1 + cntL gWalk x.seen + 1 + 1 + 1 + 1 + 1 + 1) x.cell, (k + 1 + gQuery.cnt x.query + cntL gI x.shares + 1 + cntL gWalk x.seen + 1 + 1 + 1 + 1 + 1 + 1 + gCell.cnt x.cell).tmod 3 == 0, mkL gMail (k + 1 + gQuery.cnt x.query + cntL gI x.shares + 1 + cntL gWalk x.seen + 1 + 1 + 1 + 1 + 1 + 1 + gCell.cnt x.cell + 1) x.waits⟩ := by
  have h : gWork.mark k x = ⟨(k).tmod 3 == 0, gQuery.mark ((k + ((1 : Nat) : Int))) x.query, mkL gI (((k + ((1 : Nat) : Int)) + ((gQuery.cnt x.query : Nat) : Int))) x.shares, (((k + ((1 : Nat) : Int)) + ((gQuery.cnt x.query : Nat) : Int)) + ((cntL gI x.shares : Nat) : Int)), mkL gWalk (((((k + ((1 : Nat) : Int)) + ((gQuery.cnt x.query : Nat) : Int)) + ((cntL gI x.shares : Nat) : Int)) + ((1 : Nat) : Int))) x.seen, (((((k + ((1 : Nat) : Int)) + ((gQuery.cnt x.query : Nat) : Int)) + ((cntL gI x.shares : Nat) : Int)) + ((1 : Nat) : Int)) + ((cntL gWalk x.seen : Nat) : Int)), (((((((k + ((1 : Nat) : Int)) + ((gQuery.cnt x.query : Nat) : Int)) + ((cntL gI x.shares : Nat) : Int)) + ((1 : Nat) : Int)) + ((cntL gWalk x.seen : Nat) : Int)) + ((1 : Nat) : Int))).tmod 3 == 0, ((((((((k + ((1 : Nat) : Int)) + ((gQuery.cnt x.query : Nat) : Int)) + ((cntL gI x.shares : Nat) : Int)) + ((1 : Nat) : Int)) + ((cntL gWalk x.seen : Nat) : Int)) + ((1 : Nat) : Int)) + ((1 : Nat) : Int))).tmod 3 == 0, ((((((((k + ((1 : Nat) : Int)) + ((gQuery.cnt x.query : Nat) : Int)) + ((cntL gI x.shares : Nat) : Int)) + ((1 : Nat) : Int)) + ((cntL gWalk x.seen : Nat) : Int)) + ((1 : Nat) : Int)) + ((1 : Nat) : Int)) + ((1 : Nat) : Int)), ((((((((((k + ((1 : Nat) : Int)) + ((gQuery.cnt x.query : Nat) : Int)) + ((cntL gI x.shares : Nat) : Int)) + ((1 : Nat) : Int)) + ((cntL gWalk x.seen : Nat) : Int)) + ((1 : Nat) : Int)) + ((1 : Nat) : Int)) + ((1 : Nat) : Int)) + ((1 : Nat) : Int))).tmod 3 == 0, (((((((((((k + ((1 : Nat) : Int)) + ((gQuery.cnt x.query : Nat) : Int)) + ((cntL gI x.shares : Nat) : Int)) + ((1 : Nat) : Int)) + ((cntL gWalk x.seen : Nat) : Int)) + ((1 : Nat) : Int)) + ((1 : Nat) : Int)) + ((1 : Nat) : Int)) + ((1 : Nat) : Int)) + ((1 : Nat) : Int))).tmod 3 == 0, gCell.mark ((((((((((((k + ((1 : Nat) : Int)) + ((gQuery.cnt x.query : Nat) : Int)) + ((cntL gI x.shares : Nat) : Int)) + ((1 : Nat) : Int)) + ((cntL gWalk x.seen : Nat) : Int)) + ((1 : Nat) : Int)) + ((1 : Nat) : Int)) + ((1 : Nat) : Int)) + ((1 : Nat) : Int)) + ((1 : Nat) : Int)) + ((1 : Nat) : Int))) x.cell, (((((((((((((k + ((1 : Nat) : Int)) + ((gQuery.cnt x.query : Nat) : Int)) + ((cntL gI x.shares : Nat) : Int)) + ((1 : Nat) : Int)) + ((cntL gWalk x.seen : Nat) : Int)) + ((1 : Nat) : Int)) + ((1 : Nat) : Int)) + ((1 : Nat) : Int)) + ((1 : Nat) : Int)) + ((1 : Nat) : Int)) + ((1 : Nat) : Int)) + ((gCell.cnt x.cell : Nat) : Int))).tmod 3 == 0, mkL gMail ((((((((((((((k + ((1 : Nat) : Int)) + ((gQuery.cnt x.query : Nat) : Int)) + ((cntL gI x.shares : Nat) : Int)) + ((1 : Nat) : Int)) + ((cntL gWalk x.seen : Nat) : Int)) + ((1 : Nat) : Int)) + ((1 : Nat) : Int)) + ((1 : Nat) : Int)) + ((1 : Nat) : Int)) + ((1 : Nat) : Int)) + ((1 : Nat) : Int)) + ((gCell.cnt x.cell : Nat) : Int)) + ((1 : Nat) : Int))) x.waits⟩ := rfl
  rw [h] <;> simp
theorem gWork_markV (k : Int) (x : Work) : gWork.markV k x = ⟨x.begun, gQuery.markV (k) x.query, mkL gI (k + gQuery.cntV x.query) x.shares, x.count, mkL gWalk (k + gQuery.cntV x.query + cntL gI x.shares) x.seen, x.num, x.black, x.holds, x.tokNum, x.tokBlack, x.walked, gCell.markV (k + gQuery.cntV x.query + cntL gI x.shares + cntL gWalk x.seen) x.cell, x.told, mkL gMail (k + gQuery.cntV x.query + cntL gI x.shares + cntL gWalk x.seen + gCell.cntV x.cell) x.waits⟩ := by
  have h : gWork.markV k x = ⟨x.begun, gQuery.markV ((k + ((0 : Nat) : Int))) x.query, mkL gI (((k + ((0 : Nat) : Int)) + ((gQuery.cntV x.query : Nat) : Int))) x.shares, x.count, mkL gWalk (((((k + ((0 : Nat) : Int)) + ((gQuery.cntV x.query : Nat) : Int)) + ((cntL gI x.shares : Nat) : Int)) + ((0 : Nat) : Int))) x.seen, x.num, x.black, x.holds, x.tokNum, x.tokBlack, x.walked, gCell.markV ((((((((((((k + ((0 : Nat) : Int)) + ((gQuery.cntV x.query : Nat) : Int)) + ((cntL gI x.shares : Nat) : Int)) + ((0 : Nat) : Int)) + ((cntL gWalk x.seen : Nat) : Int)) + ((0 : Nat) : Int)) + ((0 : Nat) : Int)) + ((0 : Nat) : Int)) + ((0 : Nat) : Int)) + ((0 : Nat) : Int)) + ((0 : Nat) : Int))) x.cell, x.told, mkL gMail ((((((((((((((k + ((0 : Nat) : Int)) + ((gQuery.cntV x.query : Nat) : Int)) + ((cntL gI x.shares : Nat) : Int)) + ((0 : Nat) : Int)) + ((cntL gWalk x.seen : Nat) : Int)) + ((0 : Nat) : Int)) + ((0 : Nat) : Int)) + ((0 : Nat) : Int)) + ((0 : Nat) : Int)) + ((0 : Nat) : Int)) + ((0 : Nat) : Int)) + ((gCell.cntV x.cell : Nat) : Int)) + ((0 : Nat) : Int))) x.waits⟩ := rfl
  rw [h] <;> simp
theorem Work.eq_iff {x y : Work} : x = y ↔ x.begun = y.begun ∧ x.query = y.query ∧ x.shares = y.shares ∧ x.count = y.count ∧ x.seen = y.seen ∧ x.num = y.num ∧ x.black = y.black ∧ x.holds = y.holds ∧ x.tokNum = y.tokNum ∧ x.tokBlack = y.tokBlack ∧ x.walked = y.walked ∧ x.cell = y.cell ∧ x.told = y.told ∧ x.waits = y.waits := by cases x; cases y; simp
--@gt impl.Work | gWork | default | obtain ⟨l1x#, b2x#, c2x#, b4x#, c4x#, l11x#, b13x#, c13x#, rfl, h1x#, h2x#, w3x#, h4x#, w5x#, w8x#, h11x#, h13x#⟩ := gWork_rd.1 hl# ; obtain ⟨b1_1x#, c1_1x#, b2_1x#, c2_1x#, b3_1x#, c3_1x#, rfl, h1_1x#, h2_1x#, h3_1x#⟩ := gQuery_rd.1 h1x# ; obtain ⟨l0_11x#, b1_11x#, c1_11x#, b4_11x#, c4_11x#, rfl, h0_11x#, h1_11x#, w2_11x#, w3_11x#, h4_11x#⟩ := gCell_rd.1 h11x# ; obtain ⟨b1_0_11x#, c1_0_11x#, b2_0_11x#, c2_0_11x#, b3_0_11x#, c3_0_11x#, rfl, h1_0_11x#, h2_0_11x#, h3_0_11x#⟩ := gQuery_rd.1 h0_11x# | 0 1 pr gWork_begun ; 1 4 st gWork_query ; 1 1 pr gWork_query_each ; 2 1 sl gWork_query_out ; 3 1 sl gWork_query_atoms ; 4 1 sl gWork_query_filters ; 5 1 sl gWork_shares ; 6 1 pr gWork_count ; 7 1 sl gWork_seen ; 8 1 pr gWork_num ; 9 1 pr gWork_black ; 10 1 pr gWork_holds ; 11 1 pr gWork_tokNum ; 12 1 pr gWork_tokBlack ; 13 1 pr gWork_walked ; 14 8 st gWork_cell ; 14 4 st gWork_cell_query ; 14 1 pr gWork_cell_query_each ; 15 1 sl gWork_cell_query_out ; 16 1 sl gWork_cell_query_atoms ; 17 1 sl gWork_cell_query_filters ; 18 1 sl gWork_cell_shares ; 19 1 pr gWork_cell_at ; 20 1 pr gWork_cell_n ; 21 1 sl gWork_cell_gots ; 22 1 pr gWork_told ; 23 1 sl gWork_waits | 24 | 

structure Ask where
  on : Bool
  query : Query
  shares : List Int
  count : Int
  results : List Got
  over : Bool
  answer : Bag
deriving DecidableEq, Inhabited
def gAsk : Gt Ask := gIso (SX.gPair gB (SX.gPair gQuery (SX.gPair (gSl 3 gI) (SX.gPair gI (SX.gPair (gSl 232 gGot) (SX.gPair gB gBag)))))) (fun x => (x.on, (x.query, (x.shares, (x.count, (x.results, (x.over, x.answer))))))) (fun p => ⟨p.1, p.2.1, p.2.2.1, p.2.2.2.1, p.2.2.2.2.1, p.2.2.2.2.2.1, p.2.2.2.2.2.2⟩)
theorem gAsk_rd {H : Hp} {l : List Value} {x : Ask} : gAsk.rd H l x ↔ ∃ (l1 : List Value) (b2 : Option Addr) (c2 : Nat) (b4 : Option Addr) (c4 : Nat) (l6 : List Value), l = .bool x.on :: l1 ++ (.slice b2 x.shares.length c2 :: .int .i64 x.count :: .slice b4 x.results.length c4 :: .bool x.over :: l6 ++ ([])) ∧ gQuery.rd H l1 x.query ∧ (gSl 3 gI).rd H [.slice b2 x.shares.length c2] x.shares ∧ okI x.count ∧ (gSl 232 gGot).rd H [.slice b4 x.results.length c4] x.results ∧ gBag.rd H l6 x.answer := by
  constructor
  · rintro ⟨m0, q0, rfl, h0, m1, q1, rfl, h1, m2, q2, rfl, h2, m3, q3, rfl, h3, m4, q4, rfl, h4, m5, q5, rfl, h5, h6⟩
    obtain ⟨rfl, w0⟩ := h0
    obtain ⟨b2, c2, rfl, h2⟩ := sl_rd h2
    obtain ⟨rfl, w3⟩ := h3
    obtain ⟨b4, c4, rfl, h4⟩ := sl_rd h4
    obtain ⟨rfl, w5⟩ := h5
    exact ⟨m1, b2, c2, b4, c4, q5, (by simp [flInt, flBool, flByte, flStr]), h1, h2, w3, h4, h6⟩
  · rintro ⟨l1, b2, c2, b4, c4, l6, rfl, h1, h2, w3, h4, h6⟩
    exact ⟨[.bool x.on], l1 ++ (.slice b2 x.shares.length c2 :: .int .i64 x.count :: .slice b4 x.results.length c4 :: .bool x.over :: l6 ++ ([])), rfl, ⟨rfl, trivial⟩, ⟨l1, .slice b2 x.shares.length c2 :: .int .i64 x.count :: .slice b4 x.results.length c4 :: .bool x.over :: l6 ++ ([]), rfl, h1, ⟨[.slice b2 x.shares.length c2], .int .i64 x.count :: .slice b4 x.results.length c4 :: .bool x.over :: l6 ++ ([]), rfl, h2, ⟨[.int .i64 x.count], .slice b4 x.results.length c4 :: .bool x.over :: l6 ++ ([]), rfl, ⟨rfl, w3⟩, ⟨[.slice b4 x.results.length c4], .bool x.over :: l6 ++ ([]), rfl, h4, ⟨[.bool x.over], l6, (by simp [flInt, flBool, flByte, flStr]), ⟨rfl, trivial⟩, h6⟩⟩⟩⟩⟩⟩
open Classical in
theorem gAsk_ow {A : Hp} {l : List Value} {x : Ask} : gAsk.ow l x A ↔ ∃ (l1 : List Value) (A1 : Hp) (b2 : Option Addr) (c2 : Nat) (A2 : Hp) (b4 : Option Addr) (c4 : Nat) (A4 : Hp) (l6 : List Value) (A6 : Hp), l = .bool x.on :: l1 ++ (.slice b2 x.shares.length c2 :: .int .i64 x.count :: .slice b4 x.results.length c4 :: .bool x.over :: l6 ++ ([])) ∧ A.Perm (A1 ++ (A2 ++ (A4 ++ A6))) ∧ gQuery.ow l1 x.query A1 ∧ (gSl 3 gI).ow [.slice b2 x.shares.length c2] x.shares A2 ∧ okI x.count ∧ (gSl 232 gGot).ow [.slice b4 x.results.length c4] x.results A4 ∧ gBag.ow l6 x.answer A6 := by
  constructor
  · rintro ⟨m0, q0, D0, E0, rfl, p0, h0, m1, q1, D1, E1, rfl, p1, h1, m2, q2, D2, E2, rfl, p2, h2, m3, q3, D3, E3, rfl, p3, h3, m4, q4, D4, E4, rfl, p4, h4, m5, q5, D5, E5, rfl, p5, h5, h6⟩
    obtain ⟨rfl, w0, e0⟩ := h0
    subst e0
    obtain ⟨b2, c2, rfl, h2⟩ := sl_ow h2
    obtain ⟨rfl, w3, e3⟩ := h3
    subst e3
    obtain ⟨b4, c4, rfl, h4⟩ := sl_ow h4
    obtain ⟨rfl, w5, e5⟩ := h5
    subst e5
    exact ⟨m1, D1, b2, c2, D2, b4, c4, D4, q5, E5, (by simp [flInt, flBool, flByte, flStr]), (perm_cnt fun a => by have e0 := p0.count_eq a; have e1 := p1.count_eq a; have e2 := p2.count_eq a; have e3 := p3.count_eq a; have e4 := p4.count_eq a; have e5 := p5.count_eq a; simp only [List.count_append, List.count_nil] at *; omega), h1, h2, w3, h4, h6⟩
  · rintro ⟨l1, A1, b2, c2, A2, b4, c4, A4, l6, A6, rfl, hp, h1, h2, w3, h4, h6⟩
    exact ⟨[.bool x.on], l1 ++ (.slice b2 x.shares.length c2 :: .int .i64 x.count :: .slice b4 x.results.length c4 :: .bool x.over :: l6 ++ ([])), [], (A1 ++ (A2 ++ ([] ++ (A4 ++ ([] ++ A6))))), rfl, (perm_cnt fun a => by have e := hp.count_eq a; simp only [List.count_append, List.count_nil] at *; omega), ⟨rfl, trivial, rfl⟩, ⟨l1, .slice b2 x.shares.length c2 :: .int .i64 x.count :: .slice b4 x.results.length c4 :: .bool x.over :: l6 ++ ([]), A1, (A2 ++ ([] ++ (A4 ++ ([] ++ A6)))), rfl, .refl _, h1, ⟨[.slice b2 x.shares.length c2], .int .i64 x.count :: .slice b4 x.results.length c4 :: .bool x.over :: l6 ++ ([]), A2, ([] ++ (A4 ++ ([] ++ A6))), rfl, .refl _, h2, ⟨[.int .i64 x.count], .slice b4 x.results.length c4 :: .bool x.over :: l6 ++ ([]), [], (A4 ++ ([] ++ A6)), rfl, .refl _, ⟨rfl, w3, rfl⟩, ⟨[.slice b4 x.results.length c4], .bool x.over :: l6 ++ ([]), A4, ([] ++ A6), rfl, .refl _, h4, ⟨[.bool x.over], l6, [], A6, (by simp [flInt, flBool, flByte, flStr]), .refl _, ⟨rfl, trivial, rfl⟩, h6⟩⟩⟩⟩⟩⟩
theorem opens_Ask : Opens Tryz.prog gAsk.toRp 43 := by
  intro H' enc w H sp hd fuel cs d ps hcov ht
  obtain ⟨h1, h2⟩ := trod_fields ty43_ok.1 ht
  obtain ⟨_, _, t0⟩ := h2 0 0 4 rfl
  obtain ⟨x0, r0⟩ := (opens_fb ty4_ok.1) _ _ H _ _ _ _ _ _ hcov t0
  rw [show Tryz.prog.cellsOf 4 = 1 by kernel_rfl] at r0
  obtain ⟨_, _, t1⟩ := h2 1 1 30 rfl
  obtain ⟨x1, r1⟩ := opens_Query _ _ H _ _ _ _ _ _ hcov t1
  rw [show Tryz.prog.cellsOf 30 = 4 by kernel_rfl] at r1
  obtain ⟨_, _, t2⟩ := h2 2 5 31 rfl
  obtain ⟨x2, r2⟩ := (opens_sl ty31_ok.1 (by kernel_rfl) (by decide) (opens_fi ty3_ok.1)) _ _ H _ _ _ _ _ _ hcov t2
  rw [show Tryz.prog.cellsOf 31 = 1 by kernel_rfl] at r2
  obtain ⟨_, _, t3⟩ := h2 3 6 3 rfl
  obtain ⟨x3, r3⟩ := (opens_fi ty3_ok.1) _ _ H _ _ _ _ _ _ hcov t3
  rw [show Tryz.prog.cellsOf 3 = 1 by kernel_rfl] at r3
  obtain ⟨_, _, t4⟩ := h2 4 7 33 rfl
  obtain ⟨x4, r4⟩ := (opens_sl ty33_ok.1 (by kernel_rfl) (by decide) opens_Got) _ _ H _ _ _ _ _ _ hcov t4
  rw [show Tryz.prog.cellsOf 33 = 1 by kernel_rfl] at r4
  obtain ⟨_, _, t5⟩ := h2 5 8 4 rfl
  obtain ⟨x5, r5⟩ := (opens_fb ty4_ok.1) _ _ H _ _ _ _ _ _ hcov t5
  rw [show Tryz.prog.cellsOf 4 = 1 by kernel_rfl] at r5
  obtain ⟨_, _, t6⟩ := h2 6 9 41 rfl
  obtain ⟨x6, r6⟩ := opens_Bag _ _ H _ _ _ _ _ _ hcov t6
  rw [show Tryz.prog.cellsOf 41 = 1 by kernel_rfl] at r6
  rw [show Tryz.prog.cellsOf 43 = 10 by kernel_rfl] at h1
  have key : gAsk.rd H ((cs.drop 0).take 10) ⟨x0, x1, x2, x3, x4, x5, x6⟩ := (pair_at (g := gB) (h := (SX.gPair gQuery (SX.gPair (gSl 3 gI) (SX.gPair gI (SX.gPair (gSl 232 gGot) (SX.gPair gB gBag)))))) (off := 0) r0 (pair_at (g := gQuery) (h := (SX.gPair (gSl 3 gI) (SX.gPair gI (SX.gPair (gSl 232 gGot) (SX.gPair gB gBag))))) (off := 1) r1 (pair_at (g := (gSl 3 gI)) (h := (SX.gPair gI (SX.gPair (gSl 232 gGot) (SX.gPair gB gBag)))) (off := 5) r2 (pair_at (g := gI) (h := (SX.gPair (gSl 232 gGot) (SX.gPair gB gBag))) (off := 6) r3 (pair_at (g := (gSl 232 gGot)) (h := (SX.gPair gB gBag)) (off := 7) r4 (pair_at (g := gB) (h := gBag) (off := 8) r5 r6))))))
  rw [List.drop_zero, List.take_of_length_le (by omega)] at key
  exact ⟨_, key⟩
def zAsk : Ask := ⟨false, zQuery, [], 0, [], false, zBag⟩
theorem zAsk_ow : gAsk.ow [.bool false, .bool false, .slice none 0 0, .slice none 0 0, .slice none 0 0, .slice none 0 0, .int .i64 0, .slice none 0 0, .bool false, .slice none 0 0] zAsk [] := gAsk_ow.2 ⟨_, [], none, 0, [], none, 0, [], _, [], rfl, by simp, zQuery_ow, sl_nil _ _ _, by first | (unfold okI; decide) | decide, sl_nil _ _ _, zBag_ow⟩
theorem gAsk_on : Fld gAsk gB (fun x => x.on) (fun x y => { x with on := y }) 0 := (Fld.fst _ _).iso (fun _ => rfl) (fun _ _ => rfl)
theorem gAsk_query : Fld gAsk gQuery (fun x => x.query) (fun x y => { x with query := y }) 1 := ((Fld.snd _ _).comp (Fld.fst _ _)).iso (fun _ => rfl) (fun _ _ => rfl)
theorem gAsk_query_each : Fld gAsk gB (fun x => x.query.each) (fun x y => { x with query.each := y }) 1 := gAsk_query.comp gQuery_each
theorem gAsk_query_out : Fld gAsk (gSl 9 gS) (fun x => x.query.out) (fun x y => { x with query.out := y }) 2 := gAsk_query.comp gQuery_out
theorem gAsk_query_atoms : Fld gAsk (gSl 143 gAtom) (fun x => x.query.atoms) (fun x y => { x with query.atoms := y }) 3 := gAsk_query.comp gQuery_atoms
theorem gAsk_query_filters : Fld gAsk (gSl 214 gFilter) (fun x => x.query.filters) (fun x y => { x with query.filters := y }) 4 := gAsk_query.comp gQuery_filters
theorem gAsk_shares : Fld gAsk (gSl 3 gI) (fun x => x.shares) (fun x y => { x with shares := y }) 5 := ((Fld.snd _ _).comp ((Fld.snd _ _).comp (Fld.fst _ _))).iso (fun _ => rfl) (fun _ _ => rfl)
theorem gAsk_count : Fld gAsk gI (fun x => x.count) (fun x y => { x with count := y }) 6 := ((Fld.snd _ _).comp ((Fld.snd _ _).comp ((Fld.snd _ _).comp (Fld.fst _ _)))).iso (fun _ => rfl) (fun _ _ => rfl)
theorem gAsk_results : Fld gAsk (gSl 232 gGot) (fun x => x.results) (fun x y => { x with results := y }) 7 := ((Fld.snd _ _).comp ((Fld.snd _ _).comp ((Fld.snd _ _).comp ((Fld.snd _ _).comp (Fld.fst _ _))))).iso (fun _ => rfl) (fun _ _ => rfl)
theorem gAsk_over : Fld gAsk gB (fun x => x.over) (fun x y => { x with over := y }) 8 := ((Fld.snd _ _).comp ((Fld.snd _ _).comp ((Fld.snd _ _).comp ((Fld.snd _ _).comp ((Fld.snd _ _).comp (Fld.fst _ _)))))).iso (fun _ => rfl) (fun _ _ => rfl)
theorem gAsk_answer : Fld gAsk gBag (fun x => x.answer) (fun x y => { x with answer := y }) 9 := ((Fld.snd _ _).comp ((Fld.snd _ _).comp ((Fld.snd _ _).comp ((Fld.snd _ _).comp ((Fld.snd _ _).comp (Fld.snd _ _)))))).iso (fun _ => rfl) (fun _ _ => rfl)
theorem gAsk_answer_items : Fld gAsk (gSl 212 gItem) (fun x => x.answer.items) (fun x y => { x with answer.items := y }) 9 := gAsk_answer.comp gBag_items
theorem gAsk_sz (x : Ask) : gAsk.sz x = 0 + (gQuery.sz x.query + (szL gI x.shares + (0 + (szL gGot x.results + (0 + (gBag.sz x.answer)))))) := rfl
theorem gAsk_cnt (x : Ask) : gAsk.cnt x = 1 + (gQuery.cnt x.query + (cntL gI x.shares + (1 + (cntL gGot x.results + (1 + (gBag.cnt x.answer)))))) := rfl
theorem gAsk_cntV (x : Ask) : gAsk.cntV x = 0 + (gQuery.cntV x.query + (cntL gI x.shares + (0 + (cntL gGot x.results + (0 + (gBag.cntV x.answer)))))) := rfl
theorem gAsk_mark (k : Int) (x : Ask) : gAsk.mark k x = ⟨(k).tmod 3 == 0, gQuery.mark (k + 1) x.query, mkL gI (k + 1 + gQuery.cnt x.query) x.shares, k + 1 + gQuery.cnt x.query + cntL gI x.shares, mkL gGot (k + 1 + gQuery.cnt x.query + cntL gI x.shares + 1) x.results, (k + 1 + gQuery.cnt x.query + cntL gI x.shares + 1 + cntL gGot x.results).tmod 3 == 0, gBag.mark (k + 1 + gQuery.cnt x.query + cntL gI x.shares + 1 + cntL gGot x.results + 1) x.answer⟩ := by
  have h : gAsk.mark k x = ⟨(k).tmod 3 == 0, gQuery.mark ((k + ((1 : Nat) : Int))) x.query, mkL gI (((k + ((1 : Nat) : Int)) + ((gQuery.cnt x.query : Nat) : Int))) x.shares, (((k + ((1 : Nat) : Int)) + ((gQuery.cnt x.query : Nat) : Int)) + ((cntL gI x.shares : Nat) : Int)), mkL gGot (((((k + ((1 : Nat) : Int)) + ((gQuery.cnt x.query : Nat) : Int)) + ((cntL gI x.shares : Nat) : Int)) + ((1 : Nat) : Int))) x.results, ((((((k + ((1 : Nat) : Int)) + ((gQuery.cnt x.query : Nat) : Int)) + ((cntL gI x.shares : Nat) : Int)) + ((1 : Nat) : Int)) + ((cntL gGot x.results : Nat) : Int))).tmod 3 == 0, gBag.mark (((((((k + ((1 : Nat) : Int)) + ((gQuery.cnt x.query : Nat) : Int)) + ((cntL gI x.shares : Nat) : Int)) + ((1 : Nat) : Int)) + ((cntL gGot x.results : Nat) : Int)) + ((1 : Nat) : Int))) x.answer⟩ := rfl
  rw [h] <;> simp
theorem gAsk_markV (k : Int) (x : Ask) : gAsk.markV k x = ⟨x.on, gQuery.markV (k) x.query, mkL gI (k + gQuery.cntV x.query) x.shares, x.count, mkL gGot (k + gQuery.cntV x.query + cntL gI x.shares) x.results, x.over, gBag.markV (k + gQuery.cntV x.query + cntL gI x.shares + cntL gGot x.results) x.answer⟩ := by
  have h : gAsk.markV k x = ⟨x.on, gQuery.markV ((k + ((0 : Nat) : Int))) x.query, mkL gI (((k + ((0 : Nat) : Int)) + ((gQuery.cntV x.query : Nat) : Int))) x.shares, x.count, mkL gGot (((((k + ((0 : Nat) : Int)) + ((gQuery.cntV x.query : Nat) : Int)) + ((cntL gI x.shares : Nat) : Int)) + ((0 : Nat) : Int))) x.results, x.over, gBag.markV (((((((k + ((0 : Nat) : Int)) + ((gQuery.cntV x.query : Nat) : Int)) + ((cntL gI x.shares : Nat) : Int)) + ((0 : Nat) : Int)) + ((cntL gGot x.results : Nat) : Int)) + ((0 : Nat) : Int))) x.answer⟩ := rfl
  rw [h] <;> simp
theorem Ask.eq_iff {x y : Ask} : x = y ↔ x.on = y.on ∧ x.query = y.query ∧ x.shares = y.shares ∧ x.count = y.count ∧ x.results = y.results ∧ x.over = y.over ∧ x.answer = y.answer := by cases x; cases y; simp
--@gt impl.Ask | gAsk | default | obtain ⟨l1x#, b2x#, c2x#, b4x#, c4x#, l6x#, rfl, h1x#, h2x#, w3x#, h4x#, h6x#⟩ := gAsk_rd.1 hl# ; obtain ⟨b1_1x#, c1_1x#, b2_1x#, c2_1x#, b3_1x#, c3_1x#, rfl, h1_1x#, h2_1x#, h3_1x#⟩ := gQuery_rd.1 h1x# ; obtain ⟨b0_6x#, c0_6x#, rfl, h0_6x#⟩ := gBag_rd.1 h6x# | 0 1 pr gAsk_on ; 1 4 st gAsk_query ; 1 1 pr gAsk_query_each ; 2 1 sl gAsk_query_out ; 3 1 sl gAsk_query_atoms ; 4 1 sl gAsk_query_filters ; 5 1 sl gAsk_shares ; 6 1 pr gAsk_count ; 7 1 sl gAsk_results ; 8 1 pr gAsk_over ; 9 1 st gAsk_answer ; 9 1 sl gAsk_answer_items | 10 | 

structure Node where
  id : Int
  up : Bool
  disk : Disk
  epoch : Int
  joined : Bool
  links : List Link
  work : Work
  ask : Ask
deriving DecidableEq, Inhabited
def gNode : Gt Node := gIso (SX.gPair gI (SX.gPair gB (SX.gPair gDisk (SX.gPair gI (SX.gPair gB (SX.gPair (gSl 180 gLink) (SX.gPair gWork gAsk))))))) (fun x => (x.id, (x.up, (x.disk, (x.epoch, (x.joined, (x.links, (x.work, x.ask)))))))) (fun p => ⟨p.1, p.2.1, p.2.2.1, p.2.2.2.1, p.2.2.2.2.1, p.2.2.2.2.2.1, p.2.2.2.2.2.2.1, p.2.2.2.2.2.2.2⟩)
theorem gNode_rd {H : Hp} {l : List Value} {x : Node} : gNode.rd H l x ↔ ∃ (l2 : List Value) (b5 : Option Addr) (c5 : Nat) (l6 : List Value) (l7 : List Value), l = .int .i64 x.id :: .bool x.up :: l2 ++ (.int .i64 x.epoch :: .bool x.joined :: .slice b5 x.links.length c5 :: l6 ++ (l7 ++ ([]))) ∧ okI x.id ∧ gDisk.rd H l2 x.disk ∧ okI x.epoch ∧ (gSl 180 gLink).rd H [.slice b5 x.links.length c5] x.links ∧ gWork.rd H l6 x.work ∧ gAsk.rd H l7 x.ask := by
  constructor
  · rintro ⟨m0, q0, rfl, h0, m1, q1, rfl, h1, m2, q2, rfl, h2, m3, q3, rfl, h3, m4, q4, rfl, h4, m5, q5, rfl, h5, m6, q6, rfl, h6, h7⟩
    obtain ⟨rfl, w0⟩ := h0
    obtain ⟨rfl, w1⟩ := h1
    obtain ⟨rfl, w3⟩ := h3
    obtain ⟨rfl, w4⟩ := h4
    obtain ⟨b5, c5, rfl, h5⟩ := sl_rd h5
    exact ⟨m2, b5, c5, m6, q6, (by simp [flInt, flBool, flByte, flStr]), w0, h2, w3, h5, h6, h7⟩
  · rintro ⟨l2, b5, c5, l6, l7, rfl, w0, h2, w3, h5, h6, h7⟩
    exact ⟨[.int .i64 x.id], .bool x.up :: l2 ++ (.int .i64 x.epoch :: .bool x.joined :: .slice b5 x.links.length c5 :: l6 ++ (l7 ++ ([]))), rfl, ⟨rfl, w0⟩, ⟨[.bool x.up], l2 ++ (.int .i64 x.epoch :: .bool x.joined :: .slice b5 x.links.length c5 :: l6 ++ (l7 ++ ([]))), rfl, ⟨rfl, trivial⟩, ⟨l2, .int .i64 x.epoch :: .bool x.joined :: .slice b5 x.links.length c5 :: l6 ++ (l7 ++ ([])), rfl, h2, ⟨[.int .i64 x.epoch], .bool x.joined :: .slice b5 x.links.length c5 :: l6 ++ (l7 ++ ([])), rfl, ⟨rfl, w3⟩, ⟨[.bool x.joined], .slice b5 x.links.length c5 :: l6 ++ (l7 ++ ([])), rfl, ⟨rfl, trivial⟩, ⟨[.slice b5 x.links.length c5], l6 ++ (l7 ++ ([])), rfl, h5, ⟨l6, l7, (by simp [flInt, flBool, flByte, flStr]), h6, h7⟩⟩⟩⟩⟩⟩⟩
open Classical in
theorem gNode_ow {A : Hp} {l : List Value} {x : Node} : gNode.ow l x A ↔ ∃ (l2 : List Value) (A2 : Hp) (b5 : Option Addr) (c5 : Nat) (A5 : Hp) (l6 : List Value) (A6 : Hp) (l7 : List Value) (A7 : Hp), l = .int .i64 x.id :: .bool x.up :: l2 ++ (.int .i64 x.epoch :: .bool x.joined :: .slice b5 x.links.length c5 :: l6 ++ (l7 ++ ([]))) ∧ A.Perm (A2 ++ (A5 ++ (A6 ++ A7))) ∧ okI x.id ∧ gDisk.ow l2 x.disk A2 ∧ okI x.epoch ∧ (gSl 180 gLink).ow [.slice b5 x.links.length c5] x.links A5 ∧ gWork.ow l6 x.work A6 ∧ gAsk.ow l7 x.ask A7 := by
  constructor
  · rintro ⟨m0, q0, D0, E0, rfl, p0, h0, m1, q1, D1, E1, rfl, p1, h1, m2, q2, D2, E2, rfl, p2, h2, m3, q3, D3, E3, rfl, p3, h3, m4, q4, D4, E4, rfl, p4, h4, m5, q5, D5, E5, rfl, p5, h5, m6, q6, D6, E6, rfl, p6, h6, h7⟩
    obtain ⟨rfl, w0, e0⟩ := h0
    subst e0
    obtain ⟨rfl, w1, e1⟩ := h1
    subst e1
    obtain ⟨rfl, w3, e3⟩ := h3
    subst e3
    obtain ⟨rfl, w4, e4⟩ := h4
    subst e4
    obtain ⟨b5, c5, rfl, h5⟩ := sl_ow h5
    exact ⟨m2, D2, b5, c5, D5, m6, D6, q6, E6, (by simp [flInt, flBool, flByte, flStr]), (perm_cnt fun a => by have e0 := p0.count_eq a; have e1 := p1.count_eq a; have e2 := p2.count_eq a; have e3 := p3.count_eq a; have e4 := p4.count_eq a; have e5 := p5.count_eq a; have e6 := p6.count_eq a; simp only [List.count_append, List.count_nil] at *; omega), w0, h2, w3, h5, h6, h7⟩
  · rintro ⟨l2, A2, b5, c5, A5, l6, A6, l7, A7, rfl, hp, w0, h2, w3, h5, h6, h7⟩
    exact ⟨[.int .i64 x.id], .bool x.up :: l2 ++ (.int .i64 x.epoch :: .bool x.joined :: .slice b5 x.links.length c5 :: l6 ++ (l7 ++ ([]))), [], ([] ++ (A2 ++ ([] ++ ([] ++ (A5 ++ (A6 ++ A7)))))), rfl, (perm_cnt fun a => by have e := hp.count_eq a; simp only [List.count_append, List.count_nil] at *; omega), ⟨rfl, w0, rfl⟩, ⟨[.bool x.up], l2 ++ (.int .i64 x.epoch :: .bool x.joined :: .slice b5 x.links.length c5 :: l6 ++ (l7 ++ ([]))), [], (A2 ++ ([] ++ ([] ++ (A5 ++ (A6 ++ A7))))), rfl, .refl _, ⟨rfl, trivial, rfl⟩, ⟨l2, .int .i64 x.epoch :: .bool x.joined :: .slice b5 x.links.length c5 :: l6 ++ (l7 ++ ([])), A2, ([] ++ ([] ++ (A5 ++ (A6 ++ A7)))), rfl, .refl _, h2, ⟨[.int .i64 x.epoch], .bool x.joined :: .slice b5 x.links.length c5 :: l6 ++ (l7 ++ ([])), [], ([] ++ (A5 ++ (A6 ++ A7))), rfl, .refl _, ⟨rfl, w3, rfl⟩, ⟨[.bool x.joined], .slice b5 x.links.length c5 :: l6 ++ (l7 ++ ([])), [], (A5 ++ (A6 ++ A7)), rfl, .refl _, ⟨rfl, trivial, rfl⟩, ⟨[.slice b5 x.links.length c5], l6 ++ (l7 ++ ([])), A5, (A6 ++ A7), rfl, .refl _, h5, ⟨l6, l7, A6, A7, (by simp [flInt, flBool, flByte, flStr]), .refl _, h6, h7⟩⟩⟩⟩⟩⟩⟩
theorem opens_Node : Opens Tryz.prog gNode.toRp 45 := by
  intro H' enc w H sp hd fuel cs d ps hcov ht
  obtain ⟨h1, h2⟩ := trod_fields ty45_ok.1 ht
  obtain ⟨_, _, t0⟩ := h2 0 0 3 rfl
  obtain ⟨x0, r0⟩ := (opens_fi ty3_ok.1) _ _ H _ _ _ _ _ _ hcov t0
  rw [show Tryz.prog.cellsOf 3 = 1 by kernel_rfl] at r0
  obtain ⟨_, _, t1⟩ := h2 1 1 4 rfl
  obtain ⟨x1, r1⟩ := (opens_fb ty4_ok.1) _ _ H _ _ _ _ _ _ hcov t1
  rw [show Tryz.prog.cellsOf 4 = 1 by kernel_rfl] at r1
  obtain ⟨_, _, t2⟩ := h2 2 2 24 rfl
  obtain ⟨x2, r2⟩ := opens_Disk _ _ H _ _ _ _ _ _ hcov t2
  rw [show Tryz.prog.cellsOf 24 = 1 by kernel_rfl] at r2
  obtain ⟨_, _, t3⟩ := h2 3 3 3 rfl
  obtain ⟨x3, r3⟩ := (opens_fi ty3_ok.1) _ _ H _ _ _ _ _ _ hcov t3
  rw [show Tryz.prog.cellsOf 3 = 1 by kernel_rfl] at r3
  obtain ⟨_, _, t4⟩ := h2 4 4 4 rfl
  obtain ⟨x4, r4⟩ := (opens_fb ty4_ok.1) _ _ H _ _ _ _ _ _ hcov t4
  rw [show Tryz.prog.cellsOf 4 = 1 by kernel_rfl] at r4
  obtain ⟨_, _, t5⟩ := h2 5 5 25 rfl
  obtain ⟨x5, r5⟩ := (opens_sl ty25_ok.1 (by kernel_rfl) (by decide) opens_Link) _ _ H _ _ _ _ _ _ hcov t5
  rw [show Tryz.prog.cellsOf 25 = 1 by kernel_rfl] at r5
  obtain ⟨_, _, t6⟩ := h2 6 6 38 rfl
  obtain ⟨x6, r6⟩ := opens_Work _ _ H _ _ _ _ _ _ hcov t6
  rw [show Tryz.prog.cellsOf 38 = 24 by kernel_rfl] at r6
  obtain ⟨_, _, t7⟩ := h2 7 30 43 rfl
  obtain ⟨x7, r7⟩ := opens_Ask _ _ H _ _ _ _ _ _ hcov t7
  rw [show Tryz.prog.cellsOf 43 = 10 by kernel_rfl] at r7
  rw [show Tryz.prog.cellsOf 45 = 40 by kernel_rfl] at h1
  have key : gNode.rd H ((cs.drop 0).take 40) ⟨x0, x1, x2, x3, x4, x5, x6, x7⟩ := (pair_at (g := gI) (h := (SX.gPair gB (SX.gPair gDisk (SX.gPair gI (SX.gPair gB (SX.gPair (gSl 180 gLink) (SX.gPair gWork gAsk))))))) (off := 0) r0 (pair_at (g := gB) (h := (SX.gPair gDisk (SX.gPair gI (SX.gPair gB (SX.gPair (gSl 180 gLink) (SX.gPair gWork gAsk)))))) (off := 1) r1 (pair_at (g := gDisk) (h := (SX.gPair gI (SX.gPair gB (SX.gPair (gSl 180 gLink) (SX.gPair gWork gAsk))))) (off := 2) r2 (pair_at (g := gI) (h := (SX.gPair gB (SX.gPair (gSl 180 gLink) (SX.gPair gWork gAsk)))) (off := 3) r3 (pair_at (g := gB) (h := (SX.gPair (gSl 180 gLink) (SX.gPair gWork gAsk))) (off := 4) r4 (pair_at (g := (gSl 180 gLink)) (h := (SX.gPair gWork gAsk)) (off := 5) r5 (pair_at (g := gWork) (h := gAsk) (off := 6) r6 r7)))))))
  rw [List.drop_zero, List.take_of_length_le (by omega)] at key
  exact ⟨_, key⟩
def zNode : Node := ⟨0, false, zDisk, 0, false, [], zWork, zAsk⟩
theorem zNode_ow : gNode.ow [.int .i64 0, .bool false, .slice none 0 0, .int .i64 0, .bool false, .slice none 0 0, .bool false, .bool false, .slice none 0 0, .slice none 0 0, .slice none 0 0, .slice none 0 0, .int .i64 0, .slice none 0 0, .int .i64 0, .bool false, .bool false, .int .i64 0, .bool false, .bool false, .bool false, .slice none 0 0, .slice none 0 0, .slice none 0 0, .slice none 0 0, .int .i64 0, .int .i64 0, .slice none 0 0, .bool false, .slice none 0 0, .bool false, .bool false, .slice none 0 0, .slice none 0 0, .slice none 0 0, .slice none 0 0, .int .i64 0, .slice none 0 0, .bool false, .slice none 0 0] zNode [] := gNode_ow.2 ⟨_, [], none, 0, [], _, [], _, [], rfl, by simp, by first | (unfold okI; decide) | decide, zDisk_ow, by first | (unfold okI; decide) | decide, sl_nil _ _ _, zWork_ow, zAsk_ow⟩
theorem gNode_id : Fld gNode gI (fun x => x.id) (fun x y => { x with id := y }) 0 := (Fld.fst _ _).iso (fun _ => rfl) (fun _ _ => rfl)
theorem gNode_up : Fld gNode gB (fun x => x.up) (fun x y => { x with up := y }) 1 := ((Fld.snd _ _).comp (Fld.fst _ _)).iso (fun _ => rfl) (fun _ _ => rfl)
theorem gNode_disk : Fld gNode gDisk (fun x => x.disk) (fun x y => { x with disk := y }) 2 := ((Fld.snd _ _).comp ((Fld.snd _ _).comp (Fld.fst _ _))).iso (fun _ => rfl) (fun _ _ => rfl)
theorem gNode_disk_files : Fld gNode (gSl 256 gFile) (fun x => x.disk.files) (fun x y => { x with disk.files := y }) 2 := gNode_disk.comp gDisk_files
theorem gNode_epoch : Fld gNode gI (fun x => x.epoch) (fun x y => { x with epoch := y }) 3 := ((Fld.snd _ _).comp ((Fld.snd _ _).comp ((Fld.snd _ _).comp (Fld.fst _ _)))).iso (fun _ => rfl) (fun _ _ => rfl)
theorem gNode_joined : Fld gNode gB (fun x => x.joined) (fun x y => { x with joined := y }) 4 := ((Fld.snd _ _).comp ((Fld.snd _ _).comp ((Fld.snd _ _).comp ((Fld.snd _ _).comp (Fld.fst _ _))))).iso (fun _ => rfl) (fun _ _ => rfl)
theorem gNode_links : Fld gNode (gSl 180 gLink) (fun x => x.links) (fun x y => { x with links := y }) 5 := ((Fld.snd _ _).comp ((Fld.snd _ _).comp ((Fld.snd _ _).comp ((Fld.snd _ _).comp ((Fld.snd _ _).comp (Fld.fst _ _)))))).iso (fun _ => rfl) (fun _ _ => rfl)
theorem gNode_work : Fld gNode gWork (fun x => x.work) (fun x y => { x with work := y }) 6 := ((Fld.snd _ _).comp ((Fld.snd _ _).comp ((Fld.snd _ _).comp ((Fld.snd _ _).comp ((Fld.snd _ _).comp ((Fld.snd _ _).comp (Fld.fst _ _))))))).iso (fun _ => rfl) (fun _ _ => rfl)
theorem gNode_work_begun : Fld gNode gB (fun x => x.work.begun) (fun x y => { x with work.begun := y }) 6 := gNode_work.comp gWork_begun
theorem gNode_work_query : Fld gNode gQuery (fun x => x.work.query) (fun x y => { x with work.query := y }) 7 := gNode_work.comp gWork_query
theorem gNode_work_query_each : Fld gNode gB (fun x => x.work.query.each) (fun x y => { x with work.query.each := y }) 7 := gNode_work.comp gWork_query_each
theorem gNode_work_query_out : Fld gNode (gSl 9 gS) (fun x => x.work.query.out) (fun x y => { x with work.query.out := y }) 8 := gNode_work.comp gWork_query_out
theorem gNode_work_query_atoms : Fld gNode (gSl 143 gAtom) (fun x => x.work.query.atoms) (fun x y => { x with work.query.atoms := y }) 9 := gNode_work.comp gWork_query_atoms
theorem gNode_work_query_filters : Fld gNode (gSl 214 gFilter) (fun x => x.work.query.filters) (fun x y => { x with work.query.filters := y }) 10 := gNode_work.comp gWork_query_filters
theorem gNode_work_shares : Fld gNode (gSl 3 gI) (fun x => x.work.shares) (fun x y => { x with work.shares := y }) 11 := gNode_work.comp gWork_shares
theorem gNode_work_count : Fld gNode gI (fun x => x.work.count) (fun x y => { x with work.count := y }) 12 := gNode_work.comp gWork_count
theorem gNode_work_seen : Fld gNode (gSl 200 gWalk) (fun x => x.work.seen) (fun x y => { x with work.seen := y }) 13 := gNode_work.comp gWork_seen
theorem gNode_work_num : Fld gNode gI (fun x => x.work.num) (fun x y => { x with work.num := y }) 14 := gNode_work.comp gWork_num
theorem gNode_work_black : Fld gNode gB (fun x => x.work.black) (fun x y => { x with work.black := y }) 15 := gNode_work.comp gWork_black
theorem gNode_work_holds : Fld gNode gB (fun x => x.work.holds) (fun x y => { x with work.holds := y }) 16 := gNode_work.comp gWork_holds
theorem gNode_work_tokNum : Fld gNode gI (fun x => x.work.tokNum) (fun x y => { x with work.tokNum := y }) 17 := gNode_work.comp gWork_tokNum
theorem gNode_work_tokBlack : Fld gNode gB (fun x => x.work.tokBlack) (fun x y => { x with work.tokBlack := y }) 18 := gNode_work.comp gWork_tokBlack
theorem gNode_work_walked : Fld gNode gB (fun x => x.work.walked) (fun x y => { x with work.walked := y }) 19 := gNode_work.comp gWork_walked
theorem gNode_work_cell : Fld gNode gCell (fun x => x.work.cell) (fun x y => { x with work.cell := y }) 20 := gNode_work.comp gWork_cell
theorem gNode_work_cell_query : Fld gNode gQuery (fun x => x.work.cell.query) (fun x y => { x with work.cell.query := y }) 20 := gNode_work.comp gWork_cell_query
theorem gNode_work_cell_query_each : Fld gNode gB (fun x => x.work.cell.query.each) (fun x y => { x with work.cell.query.each := y }) 20 := gNode_work.comp gWork_cell_query_each
theorem gNode_work_cell_query_out : Fld gNode (gSl 9 gS) (fun x => x.work.cell.query.out) (fun x y => { x with work.cell.query.out := y }) 21 := gNode_work.comp gWork_cell_query_out
theorem gNode_work_cell_query_atoms : Fld gNode (gSl 143 gAtom) (fun x => x.work.cell.query.atoms) (fun x y => { x with work.cell.query.atoms := y }) 22 := gNode_work.comp gWork_cell_query_atoms
theorem gNode_work_cell_query_filters : Fld gNode (gSl 214 gFilter) (fun x => x.work.cell.query.filters) (fun x y => { x with work.cell.query.filters := y }) 23 := gNode_work.comp gWork_cell_query_filters
theorem gNode_work_cell_shares : Fld gNode (gSl 3 gI) (fun x => x.work.cell.shares) (fun x y => { x with work.cell.shares := y }) 24 := gNode_work.comp gWork_cell_shares
theorem gNode_work_cell_at : Fld gNode gI (fun x => x.work.cell.at') (fun x y => { x with work.cell.at' := y }) 25 := gNode_work.comp gWork_cell_at
theorem gNode_work_cell_n : Fld gNode gI (fun x => x.work.cell.n) (fun x y => { x with work.cell.n := y }) 26 := gNode_work.comp gWork_cell_n
theorem gNode_work_cell_gots : Fld gNode (gSl 232 gGot) (fun x => x.work.cell.gots) (fun x y => { x with work.cell.gots := y }) 27 := gNode_work.comp gWork_cell_gots
theorem gNode_work_told : Fld gNode gB (fun x => x.work.told) (fun x y => { x with work.told := y }) 28 := gNode_work.comp gWork_told
theorem gNode_work_waits : Fld gNode (gSl 122 gMail) (fun x => x.work.waits) (fun x y => { x with work.waits := y }) 29 := gNode_work.comp gWork_waits
theorem gNode_ask : Fld gNode gAsk (fun x => x.ask) (fun x y => { x with ask := y }) 30 := ((Fld.snd _ _).comp ((Fld.snd _ _).comp ((Fld.snd _ _).comp ((Fld.snd _ _).comp ((Fld.snd _ _).comp ((Fld.snd _ _).comp (Fld.snd _ _))))))).iso (fun _ => rfl) (fun _ _ => rfl)
theorem gNode_ask_on : Fld gNode gB (fun x => x.ask.on) (fun x y => { x with ask.on := y }) 30 := gNode_ask.comp gAsk_on
theorem gNode_ask_query : Fld gNode gQuery (fun x => x.ask.query) (fun x y => { x with ask.query := y }) 31 := gNode_ask.comp gAsk_query
theorem gNode_ask_query_each : Fld gNode gB (fun x => x.ask.query.each) (fun x y => { x with ask.query.each := y }) 31 := gNode_ask.comp gAsk_query_each
theorem gNode_ask_query_out : Fld gNode (gSl 9 gS) (fun x => x.ask.query.out) (fun x y => { x with ask.query.out := y }) 32 := gNode_ask.comp gAsk_query_out
theorem gNode_ask_query_atoms : Fld gNode (gSl 143 gAtom) (fun x => x.ask.query.atoms) (fun x y => { x with ask.query.atoms := y }) 33 := gNode_ask.comp gAsk_query_atoms
theorem gNode_ask_query_filters : Fld gNode (gSl 214 gFilter) (fun x => x.ask.query.filters) (fun x y => { x with ask.query.filters := y }) 34 := gNode_ask.comp gAsk_query_filters
theorem gNode_ask_shares : Fld gNode (gSl 3 gI) (fun x => x.ask.shares) (fun x y => { x with ask.shares := y }) 35 := gNode_ask.comp gAsk_shares
theorem gNode_ask_count : Fld gNode gI (fun x => x.ask.count) (fun x y => { x with ask.count := y }) 36 := gNode_ask.comp gAsk_count
theorem gNode_ask_results : Fld gNode (gSl 232 gGot) (fun x => x.ask.results) (fun x y => { x with ask.results := y }) 37 := gNode_ask.comp gAsk_results
theorem gNode_ask_over : Fld gNode gB (fun x => x.ask.over) (fun x y => { x with ask.over := y }) 38 := gNode_ask.comp gAsk_over
theorem gNode_ask_answer : Fld gNode gBag (fun x => x.ask.answer) (fun x y => { x with ask.answer := y }) 39 := gNode_ask.comp gAsk_answer
theorem gNode_ask_answer_items : Fld gNode (gSl 212 gItem) (fun x => x.ask.answer.items) (fun x y => { x with ask.answer.items := y }) 39 := gNode_ask.comp gAsk_answer_items
theorem gNode_sz (x : Node) : gNode.sz x = 0 + (0 + (gDisk.sz x.disk + (0 + (0 + (szL gLink x.links + (gWork.sz x.work + (gAsk.sz x.ask))))))) := rfl
theorem gNode_cnt (x : Node) : gNode.cnt x = 1 + (1 + (gDisk.cnt x.disk + (1 + (1 + (cntL gLink x.links + (gWork.cnt x.work + (gAsk.cnt x.ask))))))) := rfl
theorem gNode_cntV (x : Node) : gNode.cntV x = 0 + (0 + (gDisk.cntV x.disk + (0 + (0 + (cntL gLink x.links + (gWork.cntV x.work + (gAsk.cntV x.ask))))))) := rfl
theorem gNode_mark (k : Int) (x : Node) : gNode.mark k x = ⟨k, (k + 1).tmod 3 == 0, gDisk.mark (k + 1 + 1) x.disk, k + 1 + 1 + gDisk.cnt x.disk, (k + 1 + 1 + gDisk.cnt x.disk + 1).tmod 3 == 0, mkL gLink (k + 1 + 1 + gDisk.cnt x.disk + 1 + 1) x.links, gWork.mark (k + 1 + 1 + gDisk.cnt x.disk + 1 + 1 + cntL gLink x.links) x.work, gAsk.mark (k + 1 + 1 + gDisk.cnt x.disk + 1 + 1 + cntL gLink x.links + gWork.cnt x.work) x.ask⟩ := by
  have h : gNode.mark k x = ⟨k, ((k + ((1 : Nat) : Int))).tmod 3 == 0, gDisk.mark (((k + ((1 : Nat) : Int)) + ((1 : Nat) : Int))) x.disk, (((k + ((1 : Nat) : Int)) + ((1 : Nat) : Int)) + ((gDisk.cnt x.disk : Nat) : Int)), (((((k + ((1 : Nat) : Int)) + ((1 : Nat) : Int)) + ((gDisk.cnt x.disk : Nat) : Int)) + ((1 : Nat) : Int))).tmod 3 == 0, mkL gLink ((((((k + ((1 : Nat) : Int)) + ((1 : Nat) : Int)) + ((gDisk.cnt x.disk : Nat) : Int)) + ((1 : Nat) : Int)) + ((1 : Nat) : Int))) x.links, gWork.mark (((((((k + ((1 : Nat) : Int)) + ((1 : Nat) : Int)) + ((gDisk.cnt x.disk : Nat) : Int)) + ((1 : Nat) : Int)) + ((1 : Nat) : Int)) + ((cntL gLink x.links : Nat) : Int))) x.work, gAsk.mark ((((((((k + ((1 : Nat) : Int)) + ((1 : Nat) : Int)) + ((gDisk.cnt x.disk : Nat) : Int)) + ((1 : Nat) : Int)) + ((1 : Nat) : Int)) + ((cntL gLink x.links : Nat) : Int)) + ((gWork.cnt x.work : Nat) : Int))) x.ask⟩ := rfl
  rw [h] <;> simp
theorem gNode_markV (k : Int) (x : Node) : gNode.markV k x = ⟨x.id, x.up, gDisk.markV (k) x.disk, x.epoch, x.joined, mkL gLink (k + gDisk.cntV x.disk) x.links, gWork.markV (k + gDisk.cntV x.disk + cntL gLink x.links) x.work, gAsk.markV (k + gDisk.cntV x.disk + cntL gLink x.links + gWork.cntV x.work) x.ask⟩ := by
  have h : gNode.markV k x = ⟨x.id, x.up, gDisk.markV (((k + ((0 : Nat) : Int)) + ((0 : Nat) : Int))) x.disk, x.epoch, x.joined, mkL gLink ((((((k + ((0 : Nat) : Int)) + ((0 : Nat) : Int)) + ((gDisk.cntV x.disk : Nat) : Int)) + ((0 : Nat) : Int)) + ((0 : Nat) : Int))) x.links, gWork.markV (((((((k + ((0 : Nat) : Int)) + ((0 : Nat) : Int)) + ((gDisk.cntV x.disk : Nat) : Int)) + ((0 : Nat) : Int)) + ((0 : Nat) : Int)) + ((cntL gLink x.links : Nat) : Int))) x.work, gAsk.markV ((((((((k + ((0 : Nat) : Int)) + ((0 : Nat) : Int)) + ((gDisk.cntV x.disk : Nat) : Int)) + ((0 : Nat) : Int)) + ((0 : Nat) : Int)) + ((cntL gLink x.links : Nat) : Int)) + ((gWork.cntV x.work : Nat) : Int))) x.ask⟩ := rfl
  rw [h] <;> simp
theorem Node.eq_iff {x y : Node} : x = y ↔ x.id = y.id ∧ x.up = y.up ∧ x.disk = y.disk ∧ x.epoch = y.epoch ∧ x.joined = y.joined ∧ x.links = y.links ∧ x.work = y.work ∧ x.ask = y.ask := by cases x; cases y; simp
--@gt impl.Node | gNode | default | obtain ⟨l2x#, b5x#, c5x#, l6x#, l7x#, rfl, w0x#, h2x#, w3x#, h5x#, h6x#, h7x#⟩ := gNode_rd.1 hl# ; obtain ⟨b0_2x#, c0_2x#, rfl, h0_2x#⟩ := gDisk_rd.1 h2x# ; obtain ⟨l1_6x#, b2_6x#, c2_6x#, b4_6x#, c4_6x#, l11_6x#, b13_6x#, c13_6x#, rfl, h1_6x#, h2_6x#, w3_6x#, h4_6x#, w5_6x#, w8_6x#, h11_6x#, h13_6x#⟩ := gWork_rd.1 h6x# ; obtain ⟨b1_1_6x#, c1_1_6x#, b2_1_6x#, c2_1_6x#, b3_1_6x#, c3_1_6x#, rfl, h1_1_6x#, h2_1_6x#, h3_1_6x#⟩ := gQuery_rd.1 h1_6x# ; obtain ⟨l0_11_6x#, b1_11_6x#, c1_11_6x#, b4_11_6x#, c4_11_6x#, rfl, h0_11_6x#, h1_11_6x#, w2_11_6x#, w3_11_6x#, h4_11_6x#⟩ := gCell_rd.1 h11_6x# ; obtain ⟨b1_0_11_6x#, c1_0_11_6x#, b2_0_11_6x#, c2_0_11_6x#, b3_0_11_6x#, c3_0_11_6x#, rfl, h1_0_11_6x#, h2_0_11_6x#, h3_0_11_6x#⟩ := gQuery_rd.1 h0_11_6x# ; obtain ⟨l1_7x#, b2_7x#, c2_7x#, b4_7x#, c4_7x#, l6_7x#, rfl, h1_7x#, h2_7x#, w3_7x#, h4_7x#, h6_7x#⟩ := gAsk_rd.1 h7x# ; obtain ⟨b1_1_7x#, c1_1_7x#, b2_1_7x#, c2_1_7x#, b3_1_7x#, c3_1_7x#, rfl, h1_1_7x#, h2_1_7x#, h3_1_7x#⟩ := gQuery_rd.1 h1_7x# ; obtain ⟨b0_6_7x#, c0_6_7x#, rfl, h0_6_7x#⟩ := gBag_rd.1 h6_7x# | 0 1 pr gNode_id ; 1 1 pr gNode_up ; 2 1 st gNode_disk ; 2 1 sl gNode_disk_files ; 3 1 pr gNode_epoch ; 4 1 pr gNode_joined ; 5 1 sl gNode_links ; 6 24 st gNode_work ; 6 1 pr gNode_work_begun ; 7 4 st gNode_work_query ; 7 1 pr gNode_work_query_each ; 8 1 sl gNode_work_query_out ; 9 1 sl gNode_work_query_atoms ; 10 1 sl gNode_work_query_filters ; 11 1 sl gNode_work_shares ; 12 1 pr gNode_work_count ; 13 1 sl gNode_work_seen ; 14 1 pr gNode_work_num ; 15 1 pr gNode_work_black ; 16 1 pr gNode_work_holds ; 17 1 pr gNode_work_tokNum ; 18 1 pr gNode_work_tokBlack ; 19 1 pr gNode_work_walked ; 20 8 st gNode_work_cell ; 20 4 st gNode_work_cell_query ; 20 1 pr gNode_work_cell_query_each ; 21 1 sl gNode_work_cell_query_out ; 22 1 sl gNode_work_cell_query_atoms ; 23 1 sl gNode_work_cell_query_filters ; 24 1 sl gNode_work_cell_shares ; 25 1 pr gNode_work_cell_at ; 26 1 pr gNode_work_cell_n ; 27 1 sl gNode_work_cell_gots ; 28 1 pr gNode_work_told ; 29 1 sl gNode_work_waits ; 30 10 st gNode_ask ; 30 1 pr gNode_ask_on ; 31 4 st gNode_ask_query ; 31 1 pr gNode_ask_query_each ; 32 1 sl gNode_ask_query_out ; 33 1 sl gNode_ask_query_atoms ; 34 1 sl gNode_ask_query_filters ; 35 1 sl gNode_ask_shares ; 36 1 pr gNode_ask_count ; 37 1 sl gNode_ask_results ; 38 1 pr gNode_ask_over ; 39 1 st gNode_ask_answer ; 39 1 sl gNode_ask_answer_items | 40 | 

--@gt []impl.Item | (gSl 212 gItem) | [] | | 0 1 sl fldId | 1
--@gt []impl.Bag | (gSl 65 gBag) | [] | | 0 1 sl fldId | 1
--@gt []impl.Piece | (gSl 336 gPiece) | [] | | 0 1 sl fldId | 1
--@gt []impl.Path | (gSl 285 gPath) | [] | | 0 1 sl fldId | 1
--@gt []impl.Arc | (gSl 339 gArc) | [] | | 0 1 sl fldId | 1
--@gt []impl.Nfa | (gSl 236 gNfa) | [] | | 0 1 sl fldId | 1
--@gt []impl.Atom | (gSl 143 gAtom) | [] | | 0 1 sl fldId | 1
--@gt []impl.Filter | (gSl 214 gFilter) | [] | | 0 1 sl fldId | 1
--@gt []impl.Query | (gSl 55 gQuery) | [] | | 0 1 sl fldId | 1
--@gt []impl.File | (gSl 256 gFile) | [] | | 0 1 sl fldId | 1
--@gt []impl.Disk | (gSl 50 gDisk) | [] | | 0 1 sl fldId | 1
--@gt []impl.Walk | (gSl 200 gWalk) | [] | | 0 1 sl fldId | 1
--@gt []impl.Letter | (gSl 120 gLetter) | [] | | 0 1 sl fldId | 1
--@gt []impl.Link | (gSl 180 gLink) | [] | | 0 1 sl fldId | 1
--@gt []impl.Got | (gSl 232 gGot) | [] | | 0 1 sl fldId | 1
--@gt []impl.Cell | (gSl 59 gCell) | [] | | 0 1 sl fldId | 1
--@gt []impl.Mail | (gSl 122 gMail) | [] | | 0 1 sl fldId | 1
--@gt []impl.Work | (gSl 62 gWork) | [] | | 0 1 sl fldId | 1
--@gt []impl.Ask | (gSl 67 gAsk) | [] | | 0 1 sl fldId | 1
--@gt []impl.Node | (gSl 69 gNode) | [] | | 0 1 sl fldId | 1
--@gt []int | (gSl 3 gI) | [] | | 0 1 sl fldId | 1
--@gt []bool | (gSl 4 gB) | [] | | 0 1 sl fldId | 1
--@gt []uint8 | (gSl 5 gY) | [] | | 0 1 sl fldId | 1
--@gt []string | (gSl 9 gS) | [] | | 0 1 sl fldId | 1
--@gt int | gI | 0 | | 0 1 pr fldId | 1 | gI_ow ?_
--@gt bool | gB | false | | 0 1 pr fldId | 1 | gB_ow ?_
--@gt uint8 | gY | 0 | | 0 1 pr fldId | 1 | gY_owM _; gY_ow trivial
--@gt string | gS | ByteArray.empty | | 0 1 pr fldId | 1 | gS_ow ?_
end Go.Proofs.YtflfohphebmemaaGreat
