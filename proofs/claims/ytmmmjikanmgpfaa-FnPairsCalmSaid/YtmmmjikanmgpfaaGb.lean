/-
  The types of the laws: how their values lie, and the laws' helpers over them (printed by gent.py). Conditions: none.
-/
import Derived.Test.YtmmmjikanmgpfaaGa
--@dev import Derived.Test.YtmmmjikanmgpfaaSxWalk
namespace Go.Proofs.Ytmmmjikanmgpfaa
open Go.SX Go.Proofs
set_option maxHeartbeats 4000000
set_option linter.unusedSimpArgs false
set_option linter.unusedVariables false

structure Link where
  sent : List ByteArray
  acked : Int
  took : Int
deriving DecidableEq, Inhabited
def gLink : Gt Link := gIso (SX.gPair (gSl 9 gS) (SX.gPair gI gI)) (fun x => (x.sent, (x.acked, x.took))) (fun p => ⟨p.1, p.2.1, p.2.2⟩)
theorem gLink_rd {H : Hp} {l : List Value} {x : Link} : gLink.rd H l x ↔ ∃ (b0 : Option Addr) (c0 : Nat), l = .slice b0 x.sent.length c0 :: .int .i64 x.acked :: .int .i64 x.took :: [] ∧ (gSl 9 gS).rd H [.slice b0 x.sent.length c0] x.sent ∧ okI x.acked ∧ okI x.took := by
  constructor
  · rintro ⟨m0, q0, rfl, h0, m1, q1, rfl, h1, h2⟩
    obtain ⟨b0, c0, rfl, h0⟩ := sl_rd h0
    obtain ⟨rfl, w1⟩ := h1
    obtain ⟨rfl, w2⟩ := h2
    exact ⟨b0, c0, rfl, h0, w1, w2⟩
  · rintro ⟨b0, c0, rfl, h0, w1, w2⟩
    exact ⟨[.slice b0 x.sent.length c0], .int .i64 x.acked :: .int .i64 x.took :: [], rfl, h0, ⟨[.int .i64 x.acked], [.int .i64 x.took], rfl, ⟨rfl, w1⟩, ⟨rfl, w2⟩⟩⟩
open Classical in
theorem gLink_ow {A : Hp} {l : List Value} {x : Link} : gLink.ow l x A ↔ ∃ (b0 : Option Addr) (c0 : Nat) (A0 : Hp), l = .slice b0 x.sent.length c0 :: .int .i64 x.acked :: .int .i64 x.took :: [] ∧ A.Perm A0 ∧ (gSl 9 gS).ow [.slice b0 x.sent.length c0] x.sent A0 ∧ okI x.acked ∧ okI x.took := by
  constructor
  · rintro ⟨m0, q0, D0, E0, rfl, p0, h0, m1, q1, D1, E1, rfl, p1, h1, h2⟩
    obtain ⟨b0, c0, rfl, h0⟩ := sl_ow h0
    obtain ⟨rfl, w1, e1⟩ := h1
    subst e1
    obtain ⟨rfl, w2, e2⟩ := h2
    subst e2
    exact ⟨b0, c0, D0, rfl, (perm_cnt fun a => by have e0 := p0.count_eq a; have e1 := p1.count_eq a; simp only [List.count_append, List.count_nil] at *; omega), h0, w1, w2⟩
  · rintro ⟨b0, c0, A0, rfl, hp, h0, w1, w2⟩
    exact ⟨[.slice b0 x.sent.length c0], .int .i64 x.acked :: .int .i64 x.took :: [], A0, ([] ++ []), rfl, (perm_cnt fun a => by have e := hp.count_eq a; simp only [List.count_append, List.count_nil] at *; omega), h0, ⟨[.int .i64 x.acked], [.int .i64 x.took], [], [], rfl, .refl _, ⟨rfl, w1, rfl⟩, ⟨rfl, w2, rfl⟩⟩⟩
def zLink : Link := ⟨[], 0, 0⟩
theorem zLink_ow : gLink.ow [.slice none 0 0, .int .i64 0, .int .i64 0] zLink [] := gLink_ow.2 ⟨none, 0, [], rfl, by simp, sl_nil _ _ _, by first | (unfold okI; decide) | decide, by first | (unfold okI; decide) | decide⟩
theorem gLink_sent : Fld gLink (gSl 9 gS) (fun x => x.sent) (fun x y => { x with sent := y }) 0 := (Fld.fst _ _).iso (fun _ => rfl) (fun _ _ => rfl)
theorem gLink_acked : Fld gLink gI (fun x => x.acked) (fun x y => { x with acked := y }) 1 := ((Fld.snd _ _).comp (Fld.fst _ _)).iso (fun _ => rfl) (fun _ _ => rfl)
theorem gLink_took : Fld gLink gI (fun x => x.took) (fun x y => { x with took := y }) 2 := ((Fld.snd _ _).comp (Fld.snd _ _)).iso (fun _ => rfl) (fun _ _ => rfl)
theorem gLink_sz (x : Link) : gLink.sz x = szL gS x.sent + (0 + (0)) := rfl
theorem gLink_cnt (x : Link) : gLink.cnt x = cntL gS x.sent + (1 + (1)) := rfl
theorem gLink_cntV (x : Link) : gLink.cntV x = cntL gS x.sent + (0 + (0)) := rfl
theorem gLink_mark (k : Int) (x : Link) : gLink.mark k x = ⟨mkL gS (k) x.sent, k + cntL gS x.sent, k + cntL gS x.sent + 1⟩ := by
  have h : gLink.mark k x = ⟨mkL gS (k) x.sent, (k + ((cntL gS x.sent : Nat) : Int)), ((k + ((cntL gS x.sent : Nat) : Int)) + ((1 : Nat) : Int))⟩ := rfl
  rw [h] <;> simp
theorem gLink_markV (k : Int) (x : Link) : gLink.markV k x = ⟨mkL gS (k) x.sent, x.acked, x.took⟩ := by
  have h : gLink.markV k x = ⟨mkL gS (k) x.sent, x.acked, x.took⟩ := rfl
  rw [h] <;> simp
theorem Link.eq_iff {x y : Link} : x = y ↔ x.sent = y.sent ∧ x.acked = y.acked ∧ x.took = y.took := by cases x; cases y; simp
--@gt impl.Link | gLink | default | obtain ⟨b0x#, c0x#, rfl, h0x#, w1x#, w2x#⟩ := gLink_rd.1 hl# | 0 1 sl gLink_sent ; 1 1 pr gLink_acked ; 2 1 pr gLink_took | 3 | 

structure Packet where
  epoch : Int
  from' : Int
  to : Int
  seq : Int
  ack : Int
  body : ByteArray
deriving DecidableEq, Inhabited
def gPacket : Gt Packet := gIso (SX.gPair gI (SX.gPair gI (SX.gPair gI (SX.gPair gI (SX.gPair gI gS))))) (fun x => (x.epoch, (x.from', (x.to, (x.seq, (x.ack, x.body)))))) (fun p => ⟨p.1, p.2.1, p.2.2.1, p.2.2.2.1, p.2.2.2.2.1, p.2.2.2.2.2⟩)
theorem gPacket_rd {H : Hp} {l : List Value} {x : Packet} : gPacket.rd H l x ↔ l = .int .i64 x.epoch :: .int .i64 x.from' :: .int .i64 x.to :: .int .i64 x.seq :: .int .i64 x.ack :: .string x.body :: [] ∧ okI x.epoch ∧ okI x.from' ∧ okI x.to ∧ okI x.seq ∧ okI x.ack ∧ x.body.size ≤ 9223372036854775807 := by
  constructor
  · rintro ⟨m0, q0, rfl, h0, m1, q1, rfl, h1, m2, q2, rfl, h2, m3, q3, rfl, h3, m4, q4, rfl, h4, h5⟩
    obtain ⟨rfl, w0⟩ := h0
    obtain ⟨rfl, w1⟩ := h1
    obtain ⟨rfl, w2⟩ := h2
    obtain ⟨rfl, w3⟩ := h3
    obtain ⟨rfl, w4⟩ := h4
    obtain ⟨rfl, w5⟩ := h5
    exact ⟨rfl, w0, w1, w2, w3, w4, w5⟩
  · rintro ⟨rfl, w0, w1, w2, w3, w4, w5⟩
    exact ⟨[.int .i64 x.epoch], .int .i64 x.from' :: .int .i64 x.to :: .int .i64 x.seq :: .int .i64 x.ack :: .string x.body :: [], rfl, ⟨rfl, w0⟩, ⟨[.int .i64 x.from'], .int .i64 x.to :: .int .i64 x.seq :: .int .i64 x.ack :: .string x.body :: [], rfl, ⟨rfl, w1⟩, ⟨[.int .i64 x.to], .int .i64 x.seq :: .int .i64 x.ack :: .string x.body :: [], rfl, ⟨rfl, w2⟩, ⟨[.int .i64 x.seq], .int .i64 x.ack :: .string x.body :: [], rfl, ⟨rfl, w3⟩, ⟨[.int .i64 x.ack], [.string x.body], rfl, ⟨rfl, w4⟩, ⟨rfl, w5⟩⟩⟩⟩⟩⟩
open Classical in
theorem gPacket_ow {A : Hp} {l : List Value} {x : Packet} : gPacket.ow l x A ↔ l = .int .i64 x.epoch :: .int .i64 x.from' :: .int .i64 x.to :: .int .i64 x.seq :: .int .i64 x.ack :: .string x.body :: [] ∧ A.Perm [] ∧ okI x.epoch ∧ okI x.from' ∧ okI x.to ∧ okI x.seq ∧ okI x.ack ∧ x.body.size ≤ 9223372036854775807 := by
  constructor
  · rintro ⟨m0, q0, D0, E0, rfl, p0, h0, m1, q1, D1, E1, rfl, p1, h1, m2, q2, D2, E2, rfl, p2, h2, m3, q3, D3, E3, rfl, p3, h3, m4, q4, D4, E4, rfl, p4, h4, h5⟩
    obtain ⟨rfl, w0, e0⟩ := h0
    subst e0
    obtain ⟨rfl, w1, e1⟩ := h1
    subst e1
    obtain ⟨rfl, w2, e2⟩ := h2
    subst e2
    obtain ⟨rfl, w3, e3⟩ := h3
    subst e3
    obtain ⟨rfl, w4, e4⟩ := h4
    subst e4
    obtain ⟨rfl, w5, e5⟩ := h5
    subst e5
    exact ⟨rfl, (perm_cnt fun a => by have e0 := p0.count_eq a; have e1 := p1.count_eq a; have e2 := p2.count_eq a; have e3 := p3.count_eq a; have e4 := p4.count_eq a; simp only [List.count_append, List.count_nil] at *; omega), w0, w1, w2, w3, w4, w5⟩
  · rintro ⟨rfl, hp, w0, w1, w2, w3, w4, w5⟩
    exact ⟨[.int .i64 x.epoch], .int .i64 x.from' :: .int .i64 x.to :: .int .i64 x.seq :: .int .i64 x.ack :: .string x.body :: [], [], ([] ++ ([] ++ ([] ++ ([] ++ [])))), rfl, (perm_cnt fun a => by have e := hp.count_eq a; simp only [List.count_append, List.count_nil] at *; omega), ⟨rfl, w0, rfl⟩, ⟨[.int .i64 x.from'], .int .i64 x.to :: .int .i64 x.seq :: .int .i64 x.ack :: .string x.body :: [], [], ([] ++ ([] ++ ([] ++ []))), rfl, .refl _, ⟨rfl, w1, rfl⟩, ⟨[.int .i64 x.to], .int .i64 x.seq :: .int .i64 x.ack :: .string x.body :: [], [], ([] ++ ([] ++ [])), rfl, .refl _, ⟨rfl, w2, rfl⟩, ⟨[.int .i64 x.seq], .int .i64 x.ack :: .string x.body :: [], [], ([] ++ []), rfl, .refl _, ⟨rfl, w3, rfl⟩, ⟨[.int .i64 x.ack], [.string x.body], [], [], rfl, .refl _, ⟨rfl, w4, rfl⟩, ⟨rfl, w5, rfl⟩⟩⟩⟩⟩⟩
def zPacket : Packet := ⟨0, 0, 0, 0, 0, ByteArray.empty⟩
theorem zPacket_ow : gPacket.ow [.int .i64 0, .int .i64 0, .int .i64 0, .int .i64 0, .int .i64 0, .string .empty] zPacket [] := gPacket_ow.2 ⟨rfl, by simp, by first | (unfold okI; decide) | decide, by first | (unfold okI; decide) | decide, by first | (unfold okI; decide) | decide, by first | (unfold okI; decide) | decide, by first | (unfold okI; decide) | decide, by first | (unfold okI; decide) | decide⟩
theorem gPacket_epoch : Fld gPacket gI (fun x => x.epoch) (fun x y => { x with epoch := y }) 0 := (Fld.fst _ _).iso (fun _ => rfl) (fun _ _ => rfl)
theorem gPacket_from : Fld gPacket gI (fun x => x.from') (fun x y => { x with from' := y }) 1 := ((Fld.snd _ _).comp (Fld.fst _ _)).iso (fun _ => rfl) (fun _ _ => rfl)
theorem gPacket_to : Fld gPacket gI (fun x => x.to) (fun x y => { x with to := y }) 2 := ((Fld.snd _ _).comp ((Fld.snd _ _).comp (Fld.fst _ _))).iso (fun _ => rfl) (fun _ _ => rfl)
theorem gPacket_seq : Fld gPacket gI (fun x => x.seq) (fun x y => { x with seq := y }) 3 := ((Fld.snd _ _).comp ((Fld.snd _ _).comp ((Fld.snd _ _).comp (Fld.fst _ _)))).iso (fun _ => rfl) (fun _ _ => rfl)
theorem gPacket_ack : Fld gPacket gI (fun x => x.ack) (fun x y => { x with ack := y }) 4 := ((Fld.snd _ _).comp ((Fld.snd _ _).comp ((Fld.snd _ _).comp ((Fld.snd _ _).comp (Fld.fst _ _))))).iso (fun _ => rfl) (fun _ _ => rfl)
theorem gPacket_body : Fld gPacket gS (fun x => x.body) (fun x y => { x with body := y }) 5 := ((Fld.snd _ _).comp ((Fld.snd _ _).comp ((Fld.snd _ _).comp ((Fld.snd _ _).comp (Fld.snd _ _))))).iso (fun _ => rfl) (fun _ _ => rfl)
theorem gPacket_sz (x : Packet) : gPacket.sz x = 0 + (0 + (0 + (0 + (0 + (x.body.size))))) := rfl
theorem gPacket_cnt (x : Packet) : gPacket.cnt x = 1 + (1 + (1 + (1 + (1 + (1))))) := rfl
theorem gPacket_cntV (x : Packet) : gPacket.cntV x = 0 + (0 + (0 + (0 + (0 + (0))))) := rfl
theorem gPacket_mark (k : Int) (x : Packet) : gPacket.mark k x = ⟨k, k + 1, k + 1 + 1, k + 1 + 1 + 1, k + 1 + 1 + 1 + 1, mtx (k + 1 + 1 + 1 + 1 + 1)⟩ := by
  have h : gPacket.mark k x = ⟨k, (k + ((1 : Nat) : Int)), ((k + ((1 : Nat) : Int)) + ((1 : Nat) : Int)), (((k + ((1 : Nat) : Int)) + ((1 : Nat) : Int)) + ((1 : Nat) : Int)), ((((k + ((1 : Nat) : Int)) + ((1 : Nat) : Int)) + ((1 : Nat) : Int)) + ((1 : Nat) : Int)), mtx ((((((k + ((1 : Nat) : Int)) + ((1 : Nat) : Int)) + ((1 : Nat) : Int)) + ((1 : Nat) : Int)) + ((1 : Nat) : Int)))⟩ := rfl
  rw [h] <;> simp
theorem gPacket_markV (k : Int) (x : Packet) : gPacket.markV k x = ⟨x.epoch, x.from', x.to, x.seq, x.ack, x.body⟩ := by
  have h : gPacket.markV k x = ⟨x.epoch, x.from', x.to, x.seq, x.ack, x.body⟩ := rfl
  rw [h] <;> simp
theorem Packet.eq_iff {x y : Packet} : x = y ↔ x.epoch = y.epoch ∧ x.from' = y.from' ∧ x.to = y.to ∧ x.seq = y.seq ∧ x.ack = y.ack ∧ x.body = y.body := by cases x; cases y; simp
theorem gPacket_own {H : Hp} {l : List Value} {x : Packet} (h : gPacket.rd H l x) : gPacket.ow l x [] := by
  obtain ⟨rfl, w0, w1, w2, w3, w4, w5⟩ := gPacket_rd.1 h
  exact gPacket_ow.2 ⟨rfl, by simp, w0, w1, w2, w3, w4, w5⟩
--@gt impl.Packet | gPacket | default | obtain ⟨rfl, w0x#, w1x#, w2x#, w3x#, w4x#, w5x#⟩ := gPacket_rd.1 hl# | 0 1 pr gPacket_epoch ; 1 1 pr gPacket_from ; 2 1 pr gPacket_to ; 3 1 pr gPacket_seq ; 4 1 pr gPacket_ack ; 5 1 pr gPacket_body | 6 | gPacket_own ‹_›

structure Push where
  kind : Int
  side : Int
  at' : Int
  text : ByteArray
deriving DecidableEq, Inhabited
def gPush : Gt Push := gIso (SX.gPair gI (SX.gPair gI (SX.gPair gI gS))) (fun x => (x.kind, (x.side, (x.at', x.text)))) (fun p => ⟨p.1, p.2.1, p.2.2.1, p.2.2.2⟩)
theorem gPush_rd {H : Hp} {l : List Value} {x : Push} : gPush.rd H l x ↔ l = .int .i64 x.kind :: .int .i64 x.side :: .int .i64 x.at' :: .string x.text :: [] ∧ okI x.kind ∧ okI x.side ∧ okI x.at' ∧ x.text.size ≤ 9223372036854775807 := by
  constructor
  · rintro ⟨m0, q0, rfl, h0, m1, q1, rfl, h1, m2, q2, rfl, h2, h3⟩
    obtain ⟨rfl, w0⟩ := h0
    obtain ⟨rfl, w1⟩ := h1
    obtain ⟨rfl, w2⟩ := h2
    obtain ⟨rfl, w3⟩ := h3
    exact ⟨rfl, w0, w1, w2, w3⟩
  · rintro ⟨rfl, w0, w1, w2, w3⟩
    exact ⟨[.int .i64 x.kind], .int .i64 x.side :: .int .i64 x.at' :: .string x.text :: [], rfl, ⟨rfl, w0⟩, ⟨[.int .i64 x.side], .int .i64 x.at' :: .string x.text :: [], rfl, ⟨rfl, w1⟩, ⟨[.int .i64 x.at'], [.string x.text], rfl, ⟨rfl, w2⟩, ⟨rfl, w3⟩⟩⟩⟩
open Classical in
theorem gPush_ow {A : Hp} {l : List Value} {x : Push} : gPush.ow l x A ↔ l = .int .i64 x.kind :: .int .i64 x.side :: .int .i64 x.at' :: .string x.text :: [] ∧ A.Perm [] ∧ okI x.kind ∧ okI x.side ∧ okI x.at' ∧ x.text.size ≤ 9223372036854775807 := by
  constructor
  · rintro ⟨m0, q0, D0, E0, rfl, p0, h0, m1, q1, D1, E1, rfl, p1, h1, m2, q2, D2, E2, rfl, p2, h2, h3⟩
    obtain ⟨rfl, w0, e0⟩ := h0
    subst e0
    obtain ⟨rfl, w1, e1⟩ := h1
    subst e1
    obtain ⟨rfl, w2, e2⟩ := h2
    subst e2
    obtain ⟨rfl, w3, e3⟩ := h3
    subst e3
    exact ⟨rfl, (perm_cnt fun a => by have e0 := p0.count_eq a; have e1 := p1.count_eq a; have e2 := p2.count_eq a; simp only [List.count_append, List.count_nil] at *; omega), w0, w1, w2, w3⟩
  · rintro ⟨rfl, hp, w0, w1, w2, w3⟩
    exact ⟨[.int .i64 x.kind], .int .i64 x.side :: .int .i64 x.at' :: .string x.text :: [], [], ([] ++ ([] ++ [])), rfl, (perm_cnt fun a => by have e := hp.count_eq a; simp only [List.count_append, List.count_nil] at *; omega), ⟨rfl, w0, rfl⟩, ⟨[.int .i64 x.side], .int .i64 x.at' :: .string x.text :: [], [], ([] ++ []), rfl, .refl _, ⟨rfl, w1, rfl⟩, ⟨[.int .i64 x.at'], [.string x.text], [], [], rfl, .refl _, ⟨rfl, w2, rfl⟩, ⟨rfl, w3, rfl⟩⟩⟩⟩
theorem opens_Push : Opens Try.prog gPush.toRp 66 := by
  intro H' enc w H sp hd fuel cs d ps hcov ht
  obtain ⟨h1, h2⟩ := trod_fields ty66_ok.1 ht
  obtain ⟨_, _, t0⟩ := h2 0 0 3 rfl
  obtain ⟨x0, r0⟩ := (opens_fi ty3_ok.1) _ _ H _ _ _ _ _ _ hcov t0
  rw [show Try.prog.cellsOf 3 = 1 by kernel_rfl] at r0
  obtain ⟨_, _, t1⟩ := h2 1 1 3 rfl
  obtain ⟨x1, r1⟩ := (opens_fi ty3_ok.1) _ _ H _ _ _ _ _ _ hcov t1
  rw [show Try.prog.cellsOf 3 = 1 by kernel_rfl] at r1
  obtain ⟨_, _, t2⟩ := h2 2 2 3 rfl
  obtain ⟨x2, r2⟩ := (opens_fi ty3_ok.1) _ _ H _ _ _ _ _ _ hcov t2
  rw [show Try.prog.cellsOf 3 = 1 by kernel_rfl] at r2
  obtain ⟨_, _, t3⟩ := h2 3 3 9 rfl
  obtain ⟨x3, r3⟩ := (opens_fs ty9_ok.1) _ _ H _ _ _ _ _ _ hcov t3
  rw [show Try.prog.cellsOf 9 = 1 by kernel_rfl] at r3
  rw [show Try.prog.cellsOf 66 = 4 by kernel_rfl] at h1
  have key : gPush.rd H ((cs.drop 0).take 4) ⟨x0, x1, x2, x3⟩ := (pair_at (g := gI) (h := (SX.gPair gI (SX.gPair gI gS))) (off := 0) r0 (pair_at (g := gI) (h := (SX.gPair gI gS)) (off := 1) r1 (pair_at (g := gI) (h := gS) (off := 2) r2 r3)))
  rw [List.drop_zero, List.take_of_length_le (by omega)] at key
  exact ⟨_, key⟩
def zPush : Push := ⟨0, 0, 0, ByteArray.empty⟩
theorem zPush_ow : gPush.ow [.int .i64 0, .int .i64 0, .int .i64 0, .string .empty] zPush [] := gPush_ow.2 ⟨rfl, by simp, by first | (unfold okI; decide) | decide, by first | (unfold okI; decide) | decide, by first | (unfold okI; decide) | decide, by first | (unfold okI; decide) | decide⟩
theorem gPush_kind : Fld gPush gI (fun x => x.kind) (fun x y => { x with kind := y }) 0 := (Fld.fst _ _).iso (fun _ => rfl) (fun _ _ => rfl)
theorem gPush_side : Fld gPush gI (fun x => x.side) (fun x y => { x with side := y }) 1 := ((Fld.snd _ _).comp (Fld.fst _ _)).iso (fun _ => rfl) (fun _ _ => rfl)
theorem gPush_at : Fld gPush gI (fun x => x.at') (fun x y => { x with at' := y }) 2 := ((Fld.snd _ _).comp ((Fld.snd _ _).comp (Fld.fst _ _))).iso (fun _ => rfl) (fun _ _ => rfl)
theorem gPush_text : Fld gPush gS (fun x => x.text) (fun x y => { x with text := y }) 3 := ((Fld.snd _ _).comp ((Fld.snd _ _).comp (Fld.snd _ _))).iso (fun _ => rfl) (fun _ _ => rfl)
theorem gPush_sz (x : Push) : gPush.sz x = 0 + (0 + (0 + (x.text.size))) := rfl
theorem gPush_cnt (x : Push) : gPush.cnt x = 1 + (1 + (1 + (1))) := rfl
theorem gPush_cntV (x : Push) : gPush.cntV x = 0 + (0 + (0 + (0))) := rfl
theorem gPush_mark (k : Int) (x : Push) : gPush.mark k x = ⟨k, k + 1, k + 1 + 1, mtx (k + 1 + 1 + 1)⟩ := by
  have h : gPush.mark k x = ⟨k, (k + ((1 : Nat) : Int)), ((k + ((1 : Nat) : Int)) + ((1 : Nat) : Int)), mtx ((((k + ((1 : Nat) : Int)) + ((1 : Nat) : Int)) + ((1 : Nat) : Int)))⟩ := rfl
  rw [h] <;> simp
theorem gPush_markV (k : Int) (x : Push) : gPush.markV k x = ⟨x.kind, x.side, x.at', x.text⟩ := by
  have h : gPush.markV k x = ⟨x.kind, x.side, x.at', x.text⟩ := rfl
  rw [h] <;> simp
theorem Push.eq_iff {x y : Push} : x = y ↔ x.kind = y.kind ∧ x.side = y.side ∧ x.at' = y.at' ∧ x.text = y.text := by cases x; cases y; simp
theorem gPush_own {H : Hp} {l : List Value} {x : Push} (h : gPush.rd H l x) : gPush.ow l x [] := by
  obtain ⟨rfl, w0, w1, w2, w3⟩ := gPush_rd.1 h
  exact gPush_ow.2 ⟨rfl, by simp, w0, w1, w2, w3⟩
--@gt impl.Push | gPush | default | obtain ⟨rfl, w0x#, w1x#, w2x#, w3x#⟩ := gPush_rd.1 hl# | 0 1 pr gPush_kind ; 1 1 pr gPush_side ; 2 1 pr gPush_at ; 3 1 pr gPush_text | 4 | gPush_own ‹_›

structure Pair where
  ends : List Link
  net : List ByteArray
  heard : List (List ByteArray)
  codes : List Int
deriving DecidableEq, Inhabited
def gPair : Gt Pair := gIso (SX.gPair (gSl 45 gLink) (SX.gPair (gSl 9 gS) (SX.gPair (gSl 27 (gSl 9 gS)) (gSl 3 gI)))) (fun x => (x.ends, (x.net, (x.heard, x.codes)))) (fun p => ⟨p.1, p.2.1, p.2.2.1, p.2.2.2⟩)
theorem gPair_rd {H : Hp} {l : List Value} {x : Pair} : gPair.rd H l x ↔ ∃ (b0 : Option Addr) (c0 : Nat) (b1 : Option Addr) (c1 : Nat) (b2 : Option Addr) (c2 : Nat) (b3 : Option Addr) (c3 : Nat), l = .slice b0 x.ends.length c0 :: .slice b1 x.net.length c1 :: .slice b2 x.heard.length c2 :: .slice b3 x.codes.length c3 :: [] ∧ (gSl 45 gLink).rd H [.slice b0 x.ends.length c0] x.ends ∧ (gSl 9 gS).rd H [.slice b1 x.net.length c1] x.net ∧ (gSl 27 (gSl 9 gS)).rd H [.slice b2 x.heard.length c2] x.heard ∧ (gSl 3 gI).rd H [.slice b3 x.codes.length c3] x.codes := by
  constructor
  · rintro ⟨m0, q0, rfl, h0, m1, q1, rfl, h1, m2, q2, rfl, h2, h3⟩
    obtain ⟨b0, c0, rfl, h0⟩ := sl_rd h0
    obtain ⟨b1, c1, rfl, h1⟩ := sl_rd h1
    obtain ⟨b2, c2, rfl, h2⟩ := sl_rd h2
    obtain ⟨b3, c3, rfl, h3⟩ := sl_rd h3
    exact ⟨b0, c0, b1, c1, b2, c2, b3, c3, rfl, h0, h1, h2, h3⟩
  · rintro ⟨b0, c0, b1, c1, b2, c2, b3, c3, rfl, h0, h1, h2, h3⟩
    exact ⟨[.slice b0 x.ends.length c0], .slice b1 x.net.length c1 :: .slice b2 x.heard.length c2 :: .slice b3 x.codes.length c3 :: [], rfl, h0, ⟨[.slice b1 x.net.length c1], .slice b2 x.heard.length c2 :: .slice b3 x.codes.length c3 :: [], rfl, h1, ⟨[.slice b2 x.heard.length c2], [.slice b3 x.codes.length c3], rfl, h2, h3⟩⟩⟩
open Classical in
theorem gPair_ow {A : Hp} {l : List Value} {x : Pair} : gPair.ow l x A ↔ ∃ (b0 : Option Addr) (c0 : Nat) (A0 : Hp) (b1 : Option Addr) (c1 : Nat) (A1 : Hp) (b2 : Option Addr) (c2 : Nat) (A2 : Hp) (b3 : Option Addr) (c3 : Nat) (A3 : Hp), l = .slice b0 x.ends.length c0 :: .slice b1 x.net.length c1 :: .slice b2 x.heard.length c2 :: .slice b3 x.codes.length c3 :: [] ∧ A.Perm (A0 ++ (A1 ++ (A2 ++ A3))) ∧ (gSl 45 gLink).ow [.slice b0 x.ends.length c0] x.ends A0 ∧ (gSl 9 gS).ow [.slice b1 x.net.length c1] x.net A1 ∧ (gSl 27 (gSl 9 gS)).ow [.slice b2 x.heard.length c2] x.heard A2 ∧ (gSl 3 gI).ow [.slice b3 x.codes.length c3] x.codes A3 := by
  constructor
  · rintro ⟨m0, q0, D0, E0, rfl, p0, h0, m1, q1, D1, E1, rfl, p1, h1, m2, q2, D2, E2, rfl, p2, h2, h3⟩
    obtain ⟨b0, c0, rfl, h0⟩ := sl_ow h0
    obtain ⟨b1, c1, rfl, h1⟩ := sl_ow h1
    obtain ⟨b2, c2, rfl, h2⟩ := sl_ow h2
    obtain ⟨b3, c3, rfl, h3⟩ := sl_ow h3
    exact ⟨b0, c0, D0, b1, c1, D1, b2, c2, D2, b3, c3, E2, rfl, (perm_cnt fun a => by have e0 := p0.count_eq a; have e1 := p1.count_eq a; have e2 := p2.count_eq a; simp only [List.count_append, List.count_nil] at *; omega), h0, h1, h2, h3⟩
  · rintro ⟨b0, c0, A0, b1, c1, A1, b2, c2, A2, b3, c3, A3, rfl, hp, h0, h1, h2, h3⟩
    exact ⟨[.slice b0 x.ends.length c0], .slice b1 x.net.length c1 :: .slice b2 x.heard.length c2 :: .slice b3 x.codes.length c3 :: [], A0, (A1 ++ (A2 ++ A3)), rfl, (perm_cnt fun a => by have e := hp.count_eq a; simp only [List.count_append, List.count_nil] at *; omega), h0, ⟨[.slice b1 x.net.length c1], .slice b2 x.heard.length c2 :: .slice b3 x.codes.length c3 :: [], A1, (A2 ++ A3), rfl, .refl _, h1, ⟨[.slice b2 x.heard.length c2], [.slice b3 x.codes.length c3], A2, A3, rfl, .refl _, h2, h3⟩⟩⟩
def zPair : Pair := ⟨[], [], [], []⟩
theorem zPair_ow : gPair.ow [.slice none 0 0, .slice none 0 0, .slice none 0 0, .slice none 0 0] zPair [] := gPair_ow.2 ⟨none, 0, [], none, 0, [], none, 0, [], none, 0, [], rfl, by simp, sl_nil _ _ _, sl_nil _ _ _, sl_nil _ _ _, sl_nil _ _ _⟩
theorem gPair_ends : Fld gPair (gSl 45 gLink) (fun x => x.ends) (fun x y => { x with ends := y }) 0 := (Fld.fst _ _).iso (fun _ => rfl) (fun _ _ => rfl)
theorem gPair_net : Fld gPair (gSl 9 gS) (fun x => x.net) (fun x y => { x with net := y }) 1 := ((Fld.snd _ _).comp (Fld.fst _ _)).iso (fun _ => rfl) (fun _ _ => rfl)
theorem gPair_heard : Fld gPair (gSl 27 (gSl 9 gS)) (fun x => x.heard) (fun x y => { x with heard := y }) 2 := ((Fld.snd _ _).comp ((Fld.snd _ _).comp (Fld.fst _ _))).iso (fun _ => rfl) (fun _ _ => rfl)
theorem gPair_codes : Fld gPair (gSl 3 gI) (fun x => x.codes) (fun x y => { x with codes := y }) 3 := ((Fld.snd _ _).comp ((Fld.snd _ _).comp (Fld.snd _ _))).iso (fun _ => rfl) (fun _ _ => rfl)
theorem gPair_sz (x : Pair) : gPair.sz x = szL gLink x.ends + (szL gS x.net + (szL (gSl 9 gS) x.heard + (szL gI x.codes))) := rfl
theorem gPair_cnt (x : Pair) : gPair.cnt x = cntL gLink x.ends + (cntL gS x.net + (cntL (gSl 9 gS) x.heard + (cntL gI x.codes))) := rfl
theorem gPair_cntV (x : Pair) : gPair.cntV x = cntL gLink x.ends + (cntL gS x.net + (cntL (gSl 9 gS) x.heard + (cntL gI x.codes))) := rfl
theorem gPair_mark (k : Int) (x : Pair) : gPair.mark k x = ⟨mkL gLink (k) x.ends, mkL gS (k + cntL gLink x.ends) x.net, mkL (gSl 9 gS) (k + cntL gLink x.ends + cntL gS x.net) x.heard, mkL gI (k + cntL gLink x.ends + cntL gS x.net + cntL (gSl 9 gS) x.heard) x.codes⟩ := by
  have h : gPair.mark k x = ⟨mkL gLink (k) x.ends, mkL gS ((k + ((cntL gLink x.ends : Nat) : Int))) x.net, mkL (gSl 9 gS) (((k + ((cntL gLink x.ends : Nat) : Int)) + ((cntL gS x.net : Nat) : Int))) x.heard, mkL gI ((((k + ((cntL gLink x.ends : Nat) : Int)) + ((cntL gS x.net : Nat) : Int)) + ((cntL (gSl 9 gS) x.heard : Nat) : Int))) x.codes⟩ := rfl
  rw [h] <;> simp
theorem gPair_markV (k : Int) (x : Pair) : gPair.markV k x = ⟨mkL gLink (k) x.ends, mkL gS (k + cntL gLink x.ends) x.net, mkL (gSl 9 gS) (k + cntL gLink x.ends + cntL gS x.net) x.heard, mkL gI (k + cntL gLink x.ends + cntL gS x.net + cntL (gSl 9 gS) x.heard) x.codes⟩ := by
  have h : gPair.markV k x = ⟨mkL gLink (k) x.ends, mkL gS ((k + ((cntL gLink x.ends : Nat) : Int))) x.net, mkL (gSl 9 gS) (((k + ((cntL gLink x.ends : Nat) : Int)) + ((cntL gS x.net : Nat) : Int))) x.heard, mkL gI ((((k + ((cntL gLink x.ends : Nat) : Int)) + ((cntL gS x.net : Nat) : Int)) + ((cntL (gSl 9 gS) x.heard : Nat) : Int))) x.codes⟩ := rfl
  rw [h] <;> simp
theorem Pair.eq_iff {x y : Pair} : x = y ↔ x.ends = y.ends ∧ x.net = y.net ∧ x.heard = y.heard ∧ x.codes = y.codes := by cases x; cases y; simp
--@gt impl.Pair | gPair | default | obtain ⟨b0x#, c0x#, b1x#, c1x#, b2x#, c2x#, b3x#, c3x#, rfl, h0x#, h1x#, h2x#, h3x#⟩ := gPair_rd.1 hl# | 0 1 sl gPair_ends ; 1 1 sl gPair_net ; 2 1 sl gPair_heard ; 3 1 sl gPair_codes | 4 | 

--@gt []impl.Link | (gSl 45 gLink) | [] | | 0 1 sl fldId | 1
--@gt []impl.Packet | (gSl 89 gPacket) | [] | | 0 1 sl fldId | 1
--@gt []impl.Push | (gSl 35 gPush) | [] | | 0 1 sl fldId | 1
--@gt []impl.Pair | (gSl 31 gPair) | [] | | 0 1 sl fldId | 1
--@gt []int | (gSl 3 gI) | [] | | 0 1 sl fldId | 1
--@gt []bool | (gSl 4 gB) | [] | | 0 1 sl fldId | 1
--@gt []uint8 | (gSl 5 gY) | [] | | 0 1 sl fldId | 1
--@gt []string | (gSl 9 gS) | [] | | 0 1 sl fldId | 1
--@gt int | gI | 0 | | 0 1 pr fldId | 1 | gI_ow ?_
--@gt bool | gB | false | | 0 1 pr fldId | 1 | gB_ow ?_
--@gt uint8 | gY | 0 | | 0 1 pr fldId | 1 | gY_owM _; gY_ow trivial
--@gt string | gS | ByteArray.empty | | 0 1 pr fldId | 1 | gS_ow ?_
end Go.Proofs.Ytmmmjikanmgpfaa
