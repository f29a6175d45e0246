/-
  A worker handles the token, on both sides. Conditions: none.
-/
import Derived.Test.YtohafcffenoegaaGreatIc
import Derived.Test.YtohafcffenoegaaGreatHa
namespace Go.Proofs.YtohafcffenoegaaGreat
open Go.SX Go.Proofs
set_option linter.unusedSimpArgs false
set_option linter.unusedVariables false
set_option maxHeartbeats 8000000
attribute [local irreducible] IntKind.wrap

theorem perm1 {α : Type} {e : α} {A : List α} : (e :: A).Perm (e :: [A].flatten) := by simp
def lWalked : Letter := ⟨4, 0, 0, false, [], .empty⟩
def lToken (n : Int) (b : Bool) : Letter := ⟨3, 0, n, b, [], .empty⟩
theorem okI_lit {n : Int} (h : -9223372036854775808 ≤ n) (h2 : n ≤ 9223372036854775807) : okI n := ⟨h, h2⟩
theorem lWalked_ow : gLetter.ow [.int .i64 4, .int .i64 0, .int .i64 0, .bool false, .slice none 0 0, .string .empty] lWalked [] :=
  gLetter_ow.2 ⟨none, 0, [], rfl, by simp, okI_lit (by decide) (by decide), okI_lit (by decide) (by decide), okI_lit (by decide) (by decide), sl_nil _ _ _, by decide⟩
theorem lToken_ow {n : Int} {b : Bool} (h : okI n) : gLetter.ow [.int .i64 3, .int .i64 0, .int .i64 n, .bool b, .slice none 0 0, .string .empty] (lToken n b) [] :=
  gLetter_ow.2 ⟨none, 0, [], rfl, by simp, okI_lit (by show (-9223372036854775808 : Int) ≤ 3; decide) (by show (3 : Int) ≤ _; decide), okI_lit (by show (-9223372036854775808 : Int) ≤ 0; decide) (by show (0 : Int) ≤ _; decide), h, sl_nil _ _ _, by show (0 : Nat) ≤ _; decide⟩
theorem mail_ow {l : List Value} {p : Int} {x : Letter} {A : Hp} (hp : okI p) (h : gLetter.ow l x A) : gMail.ow (.int .i64 p :: l) ⟨p, x⟩ A := gMail_ow.2 ⟨l, A, by simp, .refl _, hp, h⟩

def walkMails : Nat → List Mail
  | 0 => []
  | k + 1 => walkMails k ++ [⟨(k + 2 : Nat), lWalked⟩]
theorem walkMails_len : ∀ k, (walkMails k).length = k
  | 0 => rfl
  | k + 1 => by rw [walkMails, List.length_append, walkMails_len k]; rfl
def tickOk (w : Work) (id : Int) : Bool := w.begun && (w.holds && (!w.walked && (inR 1 8 w.count && (inR 1 w.count id && (inR (-50000) 50000 w.tokNum && inR (-50000) 50000 w.num)))))
def tickEnd (w : Work) (id : Int) : Bool := decide (id = 1) && (!w.tokBlack && (!w.black && decide (w.tokNum + w.num = 0)))
def tickW (w : Work) (id : Int) : Work :=
  if !tickOk w id then w else if tickEnd w id then { w with holds := false } else if w.count = 1 then { w with black := false, tokNum := 0, tokBlack := false } else { w with black := false, holds := false }
def tickM (w : Work) (id : Int) : List Mail :=
  if !tickOk w id then [] else if tickEnd w id then walkMails (w.count - 1).toNat else if w.count = 1 then [] else [⟨IntKind.i64.wrap (id.tmod w.count + 1), if id = 1 then lToken 0 false else lToken (IntKind.i64.wrap (w.tokNum + w.num)) (w.tokBlack || w.black)⟩]
theorem tickOk_iff {w : Work} {id : Int} : tickOk w id = true ↔ w.begun = true ∧ w.holds = true ∧ w.walked = false ∧ (1 ≤ w.count ∧ w.count ≤ 8) ∧ (1 ≤ id ∧ id ≤ w.count) ∧ (-50000 ≤ w.tokNum ∧ w.tokNum ≤ 50000) ∧ (-50000 ≤ w.num ∧ w.num ≤ 50000) := by
  unfold tickOk; simp only [Bool.and_eq_true, Bool.not_eq_true', inR_iff]
theorem tickOk_no {w : Work} {id : Int} (h : tickOk w id = true → False) : tickOk w id = false := by
  cases e : tickOk w id with
  | false => rfl
  | true => exact (h e).elim
theorem tick_no {w : Work} {id : Int} (h : tickOk w id = false) : tickW w id = w ∧ tickM w id = [] := by unfold tickW tickM; rw [h]; exact ⟨rfl, rfl⟩
theorem tick_end {w : Work} {id : Int} (h : tickOk w id = true) (h2 : tickEnd w id = true) : tickW w id = { w with holds := false } ∧ tickM w id = walkMails (w.count - 1).toNat := by unfold tickW tickM; rw [h, h2]; exact ⟨rfl, rfl⟩
theorem tick_one {w : Work} {id : Int} (h : tickOk w id = true) (h2 : tickEnd w id = false) (h3 : w.count = 1) : tickW w id = { w with black := false, tokNum := 0, tokBlack := false } ∧ tickM w id = [] := by
  unfold tickW tickM; rw [h, h2, if_pos h3, if_pos h3]; exact ⟨rfl, rfl⟩
theorem tick_go {w : Work} {id : Int} (h : tickOk w id = true) (h2 : tickEnd w id = false) (h3 : ¬ w.count = 1) : tickW w id = { w with black := false, holds := false } ∧ tickM w id = [⟨IntKind.i64.wrap (id.tmod w.count + 1), if id = 1 then lToken 0 false else lToken (IntKind.i64.wrap (w.tokNum + w.num)) (w.tokBlack || w.black)⟩] := by
  unfold tickW tickM; rw [h, h2, if_neg h3, if_neg h3]; exact ⟨rfl, rfl⟩

theorem tick_go1 {w : Work} {id : Int} (h : tickOk w id = true) (h2 : tickEnd w id = false) (h3 : ¬ w.count = 1) (h4 : id = 1) : tickW w id = { w with black := false, holds := false } ∧ tickM w id = [⟨IntKind.i64.wrap (id.tmod w.count + 1), lToken 0 false⟩] := by
  have := tick_go h h2 h3; rw [if_pos h4] at this; exact this
theorem tick_go2 {w : Work} {id : Int} {b : Bool} (h : tickOk w id = true) (h2 : tickEnd w id = false) (h3 : ¬ w.count = 1) (h4 : ¬ id = 1) (h5 : (w.tokBlack || w.black) = b) : tickW w id = { w with black := false, holds := false } ∧ tickM w id = [⟨IntKind.i64.wrap (id.tmod w.count + 1), lToken (IntKind.i64.wrap (w.tokNum + w.num)) b⟩] := by
  have := tick_go h h2 h3; rw [if_neg h4, h5] at this; exact this
theorem tickOk_last {w : Work} {id : Int} (h1 : w.begun = true) (h2 : w.holds = true) (h3 : w.walked = false) (h4 : 1 ≤ w.count ∧ w.count ≤ 8) (h5 : 1 ≤ id ∧ id ≤ w.count) (h6 : -50000 ≤ w.tokNum ∧ w.tokNum ≤ 50000) : tickOk w id = inR (-50000) 50000 w.num := by
  unfold tickOk; rw [h1, h2, h3, inR_iff.2 h4, inR_iff.2 h5, inR_iff.2 h6]; rfl
theorem work_tok {l : List Value} {w : Work} {A : Hp} (o : gWork.ow l w A) (b h t : Bool) (n : Int) (hn : okI n) : gWork.ow ((((l.set 9 (.bool b)).set 10 (.bool h)).set 11 (.int .i64 n)).set 12 (.bool t)) { w with black := b, holds := h, tokNum := n, tokBlack := t } A := by
  obtain ⟨l1, A1, b2, c2, A2, b4, c4, A4, l11, A11, b13, c13, A13, rfl, hp, o1, o2, w3, o4, w5, w8, o11, o13⟩ := gWork_ow.1 o
  have r1 := Gt.owrd _ o1
  have r11 := Gt.owrd _ o11
  obtain ⟨b1u, c1u, b2u, c2u, b3u, c3u, rfl, h1u, h2u, h3u⟩ := gQuery_rd.1 r1
  obtain ⟨l0v, b1v, c1v, b4v, c4v, rfl, h0v, h1v, w2v, w3v, h4v⟩ := gCell_rd.1 r11
  obtain ⟨b1_0v, c1_0v, b2_0v, c2_0v, b3_0v, c3_0v, rfl, h1_0v, h2_0v, h3_0v⟩ := gQuery_rd.1 h0v
  exact gWork_ow.2 ⟨_, A1, b2, c2, A2, b4, c4, A4, _, A11, b13, c13, A13, rfl, hp, o1, o2, w3, o4, w5, hn, o11, o13⟩
theorem work_okT {l : List Value} {w : Work} {A : Hp} (o : gWork.ow l w A) : okI w.tokNum := by
  obtain ⟨l1, A1, b2, c2, A2, b4, c4, A4, l11, A11, b13, c13, A13, rfl, hp, o1, o2, w3, o4, w5, w8, o11, o13⟩ := gWork_ow.1 o
  exact w8
theorem tickW_eq (w : Work) (id : Int) : { w with black := (tickW w id).black, holds := (tickW w id).holds, tokNum := (tickW w id).tokNum, tokBlack := (tickW w id).tokBlack } = tickW w id := by
  unfold tickW; repeat' split
  all_goals rfl
theorem tick_okT (w : Work) (id : Int) (h : okI w.tokNum) : okI (tickW w id).tokNum := by
  unfold tickW; repeat' split
  all_goals first | exact h | exact okI_lit (n := 0) (by decide) (by decide)
theorem work_tick {l : List Value} {w : Work} {A : Hp} (o : gWork.ow l w A) (id : Int) : gWork.ow ((((l.set 9 (.bool (tickW w id).black)).set 10 (.bool (tickW w id).holds)).set 11 (.int .i64 (tickW w id).tokNum)).set 12 (.bool (tickW w id).tokBlack)) (tickW w id) A := by
  have := work_tok o (tickW w id).black (tickW w id).holds (tickW w id).tokBlack (tickW w id).tokNum (tick_okT w id (work_okT o))
  rw [tickW_eq] at this; exact this
--@ct impl.canTick val canTick_ct _ $1 _ | %1
theorem canTick_ct (l : List Value) (w : Work) (id : Int) : Ct Tryz.prog 54 [.agg ⟨l⟩, .int .i64 id] [] (fun H => gWork.rd H l w) (fun v A => v = .bool (tickOk w id) ∧ A = []) := by
  refine Ct.intro0 G_ok Tryz.func54 rfl rfl rfl fun E H hp => ?_
  obtain ⟨l1p, b2p, c2p, b4p, c4p, l11p, b13p, c13p, rfl, h1p, h2p, w3p, h4p, w5p, w8p, h11p, h13p⟩ := gWork_rd.1 hp
  obtain ⟨b1_1p, c1_1p, b2_1p, c2_1p, b3_1p, c3_1p, rfl, h1_1p, h2_1p, h3_1p⟩ := gQuery_rd.1 h1p
  obtain ⟨l0_11p, b1_11p, c1_11p, b4_11p, c4_11p, rfl, h0_11p, h1_11p, w2_11p, w3_11p, h4_11p⟩ := gCell_rd.1 h11p
  obtain ⟨b1_0_11p, c1_0_11p, b2_0_11p, c2_0_11p, b3_0_11p, c3_0_11p, rfl, h1_0_11p, h2_0_11p, h3_0_11p⟩ := gQuery_rd.1 h0_11p
  refine VCnew.intro fun x0 => ?_
  refine VCsplit.intro (fun q1 => ?_) (fun q1 => ?_)
  ·
    simp at q1
    exact ⟨[], ⟨by rw [tickOk_no fun e => by (obtain ⟨e1, e2, e3, e4, e5, e6, e7⟩ := tickOk_iff.1 e; simp_all)], rfl⟩, (.le fun a => by (try simp only [setR, List.cons_append, List.nil_append]); simp only [List.flatten_append, List.flatten_cons, List.flatten_nil, List.count_append, List.count_nil, List.append_nil, List.nil_append]; omega)⟩
  ·
    simp at q1
    refine VCsplit.intro (fun q2 => ?_) (fun q2 => ?_)
    ·
      simp at q2
      exact ⟨[], ⟨by rw [tickOk_no fun e => by (obtain ⟨e1, e2, e3, e4, e5, e6, e7⟩ := tickOk_iff.1 e; simp_all)], rfl⟩, (.le fun a => by (try simp only [setR, List.cons_append, List.nil_append]); simp only [List.flatten_append, List.flatten_cons, List.flatten_nil, List.count_append, List.count_nil, List.append_nil, List.nil_append]; omega)⟩
    ·
      simp at q2
      refine VCsplit.intro (fun q3 => ?_) (fun q3 => ?_)
      ·
        exact ⟨[], ⟨by rw [tickOk_no fun e => by (obtain ⟨e1, e2, e3, e4, e5, e6, e7⟩ := tickOk_iff.1 e; simp_all)], rfl⟩, (.le fun a => by (try simp only [setR, List.cons_append, List.nil_append]); simp only [List.flatten_append, List.flatten_cons, List.flatten_nil, List.count_append, List.count_nil, List.append_nil, List.nil_append]; omega)⟩
      ·
        refine call_val (isWorkers_ct _) trivial ?_
        rintro _ rfl
        refine VCsplit.intro (fun q5 => ?_) (fun q5 => ?_)
        ·
          simp at q5
          have iq5 := mt inR_iff.2 (Bool.eq_false_iff.1 q5)
          exact ⟨[], ⟨by rw [tickOk_no fun e => by (obtain ⟨e1, e2, e3, e4, e5, e6, e7⟩ := tickOk_iff.1 e; simp_all)], rfl⟩, (.le fun a => by (try simp only [setR, List.cons_append, List.nil_append]); simp only [List.flatten_append, List.flatten_cons, List.flatten_nil, List.count_append, List.count_nil, List.append_nil, List.nil_append]; omega)⟩
        ·
          simp at q5
          have iq5 := inR_iff.1 q5
          refine VCsplit.intro (fun q6 => ?_) (fun q6 => ?_)
          ·
            simp at q6
            exact ⟨[], ⟨by rw [tickOk_no fun e => by (obtain ⟨e1, e2, e3, e4, e5, e6, e7⟩ := tickOk_iff.1 e; omega)], rfl⟩, (.le fun a => by (try simp only [setR, List.cons_append, List.nil_append]); simp only [List.flatten_append, List.flatten_cons, List.flatten_nil, List.count_append, List.count_nil, List.append_nil, List.nil_append]; omega)⟩
          ·
            simp at q6
            refine VCsplit.intro (fun q7 => ?_) (fun q7 => ?_)
            ·
              simp at q7
              exact ⟨[], ⟨by rw [tickOk_no fun e => by (obtain ⟨e1, e2, e3, e4, e5, e6, e7⟩ := tickOk_iff.1 e; omega)], rfl⟩, (.le fun a => by (try simp only [setR, List.cons_append, List.nil_append]); simp only [List.flatten_append, List.flatten_cons, List.flatten_nil, List.count_append, List.count_nil, List.append_nil, List.nil_append]; omega)⟩
            ·
              simp at q7
              refine call_val (inRange_ct _ _ _) trivial ?_
              rintro _ rfl
              refine VCsplit.intro (fun q9 => ?_) (fun q9 => ?_)
              ·
                have iq9 := inR_iff.1 q9
                refine call_val (inRange_ct _ _ _) trivial ?_
                rintro _ rfl
                exact ⟨[], ⟨by rw [tickOk_last ‹_› ‹_› ‹_› ‹_› ⟨by omega, by omega⟩ ‹_›], rfl⟩, (.le fun a => by (try simp only [setR, List.cons_append, List.nil_append]); simp only [List.flatten_append, List.flatten_cons, List.flatten_nil, List.count_append, List.count_nil, List.append_nil, List.nil_append]; omega)⟩
              ·
                have iq9 := mt inR_iff.2 (Bool.eq_false_iff.1 q9)
                exact ⟨[], ⟨by rw [tickOk_no fun e => by (obtain ⟨e1, e2, e3, e4, e5, e6, e7⟩ := tickOk_iff.1 e; simp_all)], rfl⟩, (.le fun a => by (try simp only [setR, List.cons_append, List.nil_append]); simp only [List.flatten_append, List.flatten_cons, List.flatten_nil, List.count_append, List.count_nil, List.append_nil, List.nil_append]; omega)⟩

end Go.Proofs.YtohafcffenoegaaGreat
