/-
  The types of the laws: how their values lie, and the laws' helpers over them (printed by gent.py). Conditions: none.
-/
import Derived.Test.YtcnclhjhnjpeiaaDoorGa
--@dev import Derived.Test.YtcnclhjhnjpeiaaDoorSxWalk
namespace Go.Proofs.YtcnclhjhnjpeiaaDoor
open Go.SX Go.Proofs
set_option maxHeartbeats 4000000
set_option linter.unusedSimpArgs false
set_option linter.unusedVariables false

structure Edge where
  from' : Int
  label : UInt8
  to : Int
deriving DecidableEq, Inhabited
def gEdge : Gt Edge := gIso (SX.gPair gI (SX.gPair gY gI)) (fun x => (x.from', (x.label, x.to))) (fun p => ⟨p.1, p.2.1, p.2.2⟩)
theorem gEdge_rd {H : Hp} {l : List Value} {x : Edge} : gEdge.rd H l x ↔ l = .int .i64 x.from' :: .int .u8 (x.label).toNat :: .int .i64 x.to :: [] ∧ okI x.from' ∧ okI x.to := by
  constructor
  · rintro ⟨m0, q0, rfl, h0, m1, q1, rfl, h1, h2⟩
    obtain ⟨rfl, w0⟩ := h0
    obtain ⟨rfl, w1⟩ := h1
    obtain ⟨rfl, w2⟩ := h2
    exact ⟨rfl, w0, w2⟩
  · rintro ⟨rfl, w0, w2⟩
    exact ⟨[.int .i64 x.from'], .int .u8 (x.label).toNat :: .int .i64 x.to :: [], rfl, ⟨rfl, w0⟩, ⟨[.int .u8 (x.label).toNat], [.int .i64 x.to], rfl, ⟨rfl, trivial⟩, ⟨rfl, w2⟩⟩⟩
open Classical in
theorem gEdge_ow {A : Hp} {l : List Value} {x : Edge} : gEdge.ow l x A ↔ l = .int .i64 x.from' :: .int .u8 (x.label).toNat :: .int .i64 x.to :: [] ∧ A.Perm [] ∧ okI x.from' ∧ okI x.to := by
  constructor
  · rintro ⟨m0, q0, D0, E0, rfl, p0, h0, m1, q1, D1, E1, rfl, p1, h1, h2⟩
    obtain ⟨rfl, w0, e0⟩ := h0
    subst e0
    obtain ⟨rfl, w1, e1⟩ := h1
    subst e1
    obtain ⟨rfl, w2, e2⟩ := h2
    subst e2
    exact ⟨rfl, (perm_cnt fun a => by have e0 := p0.count_eq a; have e1 := p1.count_eq a; simp only [List.count_append, List.count_nil] at *; omega), w0, w2⟩
  · rintro ⟨rfl, hp, w0, w2⟩
    exact ⟨[.int .i64 x.from'], .int .u8 (x.label).toNat :: .int .i64 x.to :: [], [], ([] ++ []), rfl, (perm_cnt fun a => by have e := hp.count_eq a; simp only [List.count_append, List.count_nil] at *; omega), ⟨rfl, w0, rfl⟩, ⟨[.int .u8 (x.label).toNat], [.int .i64 x.to], [], [], rfl, .refl _, ⟨rfl, trivial, rfl⟩, ⟨rfl, w2, rfl⟩⟩⟩
theorem opens_Edge : Opens Tryd.prog gEdge.toRp 72 := by
  intro H' enc w H sp hd fuel cs d ps hcov ht
  obtain ⟨h1, h2⟩ := trod_fields ty72_ok.1 ht
  obtain ⟨_, _, t0⟩ := h2 0 0 3 rfl
  obtain ⟨x0, r0⟩ := (opens_fi ty3_ok.1) _ _ H _ _ _ _ _ _ hcov t0
  rw [show Tryd.prog.cellsOf 3 = 1 by kernel_rfl] at r0
  obtain ⟨_, _, t1⟩ := h2 1 1 5 rfl
  obtain ⟨x1, r1⟩ := (opens_fy ty5_ok.1) _ _ H _ _ _ _ _ _ hcov t1
  rw [show Tryd.prog.cellsOf 5 = 1 by kernel_rfl] at r1
  obtain ⟨_, _, t2⟩ := h2 2 2 3 rfl
  obtain ⟨x2, r2⟩ := (opens_fi ty3_ok.1) _ _ H _ _ _ _ _ _ hcov t2
  rw [show Tryd.prog.cellsOf 3 = 1 by kernel_rfl] at r2
  rw [show Tryd.prog.cellsOf 72 = 3 by kernel_rfl] at h1
  have key : gEdge.rd H ((cs.drop 0).take 3) ⟨x0, x1, x2⟩ := (pair_at (g := gI) (h := (SX.gPair gY gI)) (off := 0) r0 (pair_at (g := gY) (h := gI) (off := 1) r1 r2))
  rw [List.drop_zero, List.take_of_length_le (by omega)] at key
  exact ⟨_, key⟩
def zEdge : Edge := ⟨0, 0, 0⟩
theorem zEdge_ow : gEdge.ow [.int .i64 0, .int .u8 0, .int .i64 0] zEdge [] := gEdge_ow.2 ⟨rfl, by simp, by first | (unfold okI; decide) | decide, by first | (unfold okI; decide) | decide⟩
theorem gEdge_from : Fld gEdge gI (fun x => x.from') (fun x y => { x with from' := y }) 0 := (Fld.fst _ _).iso (fun _ => rfl) (fun _ _ => rfl)
theorem gEdge_label : Fld gEdge gY (fun x => x.label) (fun x y => { x with label := y }) 1 := ((Fld.snd _ _).comp (Fld.fst _ _)).iso (fun _ => rfl) (fun _ _ => rfl)
theorem gEdge_to : Fld gEdge gI (fun x => x.to) (fun x y => { x with to := y }) 2 := ((Fld.snd _ _).comp (Fld.snd _ _)).iso (fun _ => rfl) (fun _ _ => rfl)
theorem gEdge_sz (x : Edge) : gEdge.sz x = 0 + (0 + (0)) := rfl
theorem gEdge_cnt (x : Edge) : gEdge.cnt x = 1 + (1 + (1)) := rfl
theorem gEdge_cntV (x : Edge) : gEdge.cntV x = 0 + (0 + (0)) := rfl
theorem gEdge_mark (k : Int) (x : Edge) : gEdge.mark k x = ⟨k, UInt8.ofNat ((k + 1) % 256).toNat, k + 1 + 1⟩ := by
  have h : gEdge.mark k x = ⟨k, UInt8.ofNat (((k + ((1 : Nat) : Int))) % 256).toNat, ((k + ((1 : Nat) : Int)) + ((1 : Nat) : Int))⟩ := rfl
  rw [h] <;> simp
theorem gEdge_markV (k : Int) (x : Edge) : gEdge.markV k x = ⟨x.from', x.label, x.to⟩ := by
  have h : gEdge.markV k x = ⟨x.from', x.label, x.to⟩ := rfl
  rw [h] <;> simp
theorem Edge.eq_iff {x y : Edge} : x = y ↔ x.from' = y.from' ∧ x.label = y.label ∧ x.to = y.to := by cases x; cases y; simp
theorem gEdge_own {H : Hp} {l : List Value} {x : Edge} (h : gEdge.rd H l x) : gEdge.ow l x [] := by
  obtain ⟨rfl, w0, w2⟩ := gEdge_rd.1 h
  exact gEdge_ow.2 ⟨rfl, by simp, w0, w2⟩
--@gt impl.Edge | gEdge | default | obtain ⟨rfl, w0x#, w2x#⟩ := gEdge_rd.1 hl# | 0 1 pr gEdge_from ; 1 1 pr gEdge_label ; 2 1 pr gEdge_to | 3 | gEdge_own ‹_›

structure Graph where
  size : Int
  edges : List Edge
deriving DecidableEq, Inhabited
def gGraph : Gt Graph := gIso (SX.gPair gI (gSl 42 gEdge)) (fun x => (x.size, x.edges)) (fun p => ⟨p.1, p.2⟩)
theorem gGraph_rd {H : Hp} {l : List Value} {x : Graph} : gGraph.rd H l x ↔ ∃ (b1 : Option Addr) (c1 : Nat), l = .int .i64 x.size :: .slice b1 x.edges.length c1 :: [] ∧ okI x.size ∧ (gSl 42 gEdge).rd H [.slice b1 x.edges.length c1] x.edges := by
  constructor
  · rintro ⟨m0, q0, rfl, h0, h1⟩
    obtain ⟨rfl, w0⟩ := h0
    obtain ⟨b1, c1, rfl, h1⟩ := sl_rd h1
    exact ⟨b1, c1, rfl, w0, h1⟩
  · rintro ⟨b1, c1, rfl, w0, h1⟩
    exact ⟨[.int .i64 x.size], [.slice b1 x.edges.length c1], rfl, ⟨rfl, w0⟩, h1⟩
open Classical in
theorem gGraph_ow {A : Hp} {l : List Value} {x : Graph} : gGraph.ow l x A ↔ ∃ (b1 : Option Addr) (c1 : Nat) (A1 : Hp), l = .int .i64 x.size :: .slice b1 x.edges.length c1 :: [] ∧ A.Perm A1 ∧ okI x.size ∧ (gSl 42 gEdge).ow [.slice b1 x.edges.length c1] x.edges A1 := by
  constructor
  · rintro ⟨m0, q0, D0, E0, rfl, p0, h0, h1⟩
    obtain ⟨rfl, w0, e0⟩ := h0
    subst e0
    obtain ⟨b1, c1, rfl, h1⟩ := sl_ow h1
    exact ⟨b1, c1, E0, rfl, (perm_cnt fun a => by have e0 := p0.count_eq a; simp only [List.count_append, List.count_nil] at *; omega), w0, h1⟩
  · rintro ⟨b1, c1, A1, rfl, hp, w0, h1⟩
    exact ⟨[.int .i64 x.size], [.slice b1 x.edges.length c1], [], A1, rfl, (perm_cnt fun a => by have e := hp.count_eq a; simp only [List.count_append, List.count_nil] at *; omega), ⟨rfl, w0, rfl⟩, h1⟩
theorem opens_Graph : Opens Tryd.prog gGraph.toRp 24 := by
  intro H' enc w H sp hd fuel cs d ps hcov ht
  obtain ⟨h1, h2⟩ := trod_fields ty24_ok.1 ht
  obtain ⟨_, _, t0⟩ := h2 0 0 3 rfl
  obtain ⟨x0, r0⟩ := (opens_fi ty3_ok.1) _ _ H _ _ _ _ _ _ hcov t0
  rw [show Tryd.prog.cellsOf 3 = 1 by kernel_rfl] at r0
  obtain ⟨_, _, t1⟩ := h2 1 1 22 rfl
  obtain ⟨x1, r1⟩ := (opens_sl ty22_ok.1 (by kernel_rfl) (by decide) opens_Edge) _ _ H _ _ _ _ _ _ hcov t1
  rw [show Tryd.prog.cellsOf 22 = 1 by kernel_rfl] at r1
  rw [show Tryd.prog.cellsOf 24 = 2 by kernel_rfl] at h1
  have key : gGraph.rd H ((cs.drop 0).take 2) ⟨x0, x1⟩ := (pair_at (g := gI) (h := (gSl 42 gEdge)) (off := 0) r0 r1)
  rw [List.drop_zero, List.take_of_length_le (by omega)] at key
  exact ⟨_, key⟩
def zGraph : Graph := ⟨0, []⟩
theorem zGraph_ow : gGraph.ow [.int .i64 0, .slice none 0 0] zGraph [] := gGraph_ow.2 ⟨none, 0, [], rfl, by simp, by first | (unfold okI; decide) | decide, sl_nil _ _ _⟩
theorem gGraph_size : Fld gGraph gI (fun x => x.size) (fun x y => { x with size := y }) 0 := (Fld.fst _ _).iso (fun _ => rfl) (fun _ _ => rfl)
theorem gGraph_edges : Fld gGraph (gSl 42 gEdge) (fun x => x.edges) (fun x y => { x with edges := y }) 1 := (Fld.snd _ _).iso (fun _ => rfl) (fun _ _ => rfl)
theorem gGraph_sz (x : Graph) : gGraph.sz x = 0 + (szL gEdge x.edges) := rfl
theorem gGraph_cnt (x : Graph) : gGraph.cnt x = 1 + (cntL gEdge x.edges) := rfl
theorem gGraph_cntV (x : Graph) : gGraph.cntV x = 0 + (cntL gEdge x.edges) := rfl
theorem gGraph_mark (k : Int) (x : Graph) : gGraph.mark k x = ⟨k, mkL gEdge (k + 1) x.edges⟩ := by
  have h : gGraph.mark k x = ⟨k, mkL gEdge ((k + ((1 : Nat) : Int))) x.edges⟩ := rfl
  rw [h] <;> simp
theorem gGraph_markV (k : Int) (x : Graph) : gGraph.markV k x = ⟨x.size, mkL gEdge (k) x.edges⟩ := by
  have h : gGraph.markV k x = ⟨x.size, mkL gEdge ((k + ((0 : Nat) : Int))) x.edges⟩ := rfl
  rw [h] <;> simp
theorem Graph.eq_iff {x y : Graph} : x = y ↔ x.size = y.size ∧ x.edges = y.edges := by cases x; cases y; simp
--@gt impl.Graph | gGraph | default | obtain ⟨b1x#, c1x#, rfl, w0x#, h1x#⟩ := gGraph_rd.1 hl# | 0 1 pr gGraph_size ; 1 1 sl gGraph_edges | 2 | 

--@gt []impl.Edge | (gSl 42 gEdge) | [] | | 0 1 sl fldId | 1
--@gt []impl.Graph | (gSl 29 gGraph) | [] | | 0 1 sl fldId | 1
--@gt []int | (gSl 3 gI) | [] | | 0 1 sl fldId | 1
--@gt []bool | (gSl 4 gB) | [] | | 0 1 sl fldId | 1
--@gt []uint8 | (gSl 5 gY) | [] | | 0 1 sl fldId | 1
--@gt []string | (gSl 9 gS) | [] | | 0 1 sl fldId | 1
--@gt int | gI | 0 | | 0 1 pr fldId | 1 | gI_ow ?_
--@gt bool | gB | false | | 0 1 pr fldId | 1 | gB_ow ?_
--@gt uint8 | gY | 0 | | 0 1 pr fldId | 1 | gY_owM _; gY_ow trivial
--@gt string | gS | ByteArray.empty | | 0 1 pr fldId | 1 | gS_ow ?_
end Go.Proofs.YtcnclhjhnjpeiaaDoor
