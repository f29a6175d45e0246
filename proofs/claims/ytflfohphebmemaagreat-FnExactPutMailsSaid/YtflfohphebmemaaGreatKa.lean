/-
  Links and packets, on both sides. Conditions: none.
-/
import Derived.Test.YtflfohphebmemaaGreatIc
import Derived.Test.YtflfohphebmemaaGreatIj
import Derived.Test.YtflfohphebmemaaGreatJl
namespace Go.Proofs.YtflfohphebmemaaGreat
open Go.SX Go.Proofs
set_option linter.unusedSimpArgs false
set_option linter.unusedVariables false
set_option maxHeartbeats 4000000
attribute [local irreducible] IntKind.wrap

def bodyOk (s : ByteArray) : Bool := decide (1 ≤ s.size) && decide (s.size ≤ 6000)
def linkOk (l : Link) : Bool :=
  decide (l.sent.length ≤ 200) && (decide (0 ≤ l.acked) && (decide (l.acked ≤ l.sent.length) && (decide (0 ≤ l.took) && (decide (l.took ≤ 200) && l.sent.all bodyOk))))
theorem bodyOk_iff {s : ByteArray} : bodyOk s = true ↔ 1 ≤ s.size ∧ s.size ≤ 6000 := by unfold bodyOk; simp
theorem linkOk_iff {l : Link} : linkOk l = true ↔ l.sent.length ≤ 200 ∧ 0 ≤ l.acked ∧ l.acked ≤ l.sent.length ∧ 0 ≤ l.took ∧ l.took ≤ 200 ∧ ∀ s ∈ l.sent, bodyOk s = true := by
  unfold linkOk; simp
theorem linkOk_f {l : Link} (h : linkOk l = true → False) : linkOk l = false := by
  cases e : linkOk l with
  | false => rfl
  | true => exact (h e).elim
theorem at_mem {l : List ByteArray} {k : Nat} (h : k < l.length) : (l[k]?.getD ByteArray.empty) ∈ l := by
  rw [List.getElem?_eq_getElem h]; exact List.getElem_mem h
theorem allB_step {p : ByteArray → Bool} {l : List ByteArray} {k : Nat} (h : k < l.length) (ha : (l.take k).all p = true) (hp : p (l[k]?.getD ByteArray.empty) = true) : (l.take (k + 1)).all p = true := by
  rw [List.getElem?_eq_getElem h] at hp
  rw [← List.take_append_getElem h, List.all_append, ha]
  simpa using hp
theorem linkOk_body {l : Link} {k : Nat} (hk : k < l.sent.length) (h : bodyOk (l.sent[k]?.getD ByteArray.empty) = false) : linkOk l = false :=
  linkOk_f fun e => by have := (linkOk_iff.1 e).2.2.2.2.2 _ (at_mem hk); rw [h] at this; cases this
theorem linkOk_yes {l : Link} (h1 : l.sent.length ≤ 200) (h2 : 0 ≤ l.acked) (h3 : l.acked ≤ l.sent.length) (h4 : 0 ≤ l.took) (h5 : l.took ≤ 200) (h6 : (l.sent.take l.sent.length).all bodyOk = true) : linkOk l = true := by
  rw [List.take_length] at h6
  exact linkOk_iff.2 ⟨h1, h2, h3, h4, h5, by simpa using h6⟩

--@ct impl.isBody val isBody_ct _ ?_
theorem isBody_ct (s : ByteArray) (hs : s.size ≤ 9223372036854775807) : Ct Tryz.prog 219 [.string s] [] (fun _ => True) (fun v A => v = .bool (bodyOk s) ∧ A = []) := by
  refine Ct.intro0 G_ok Tryz.func219 rfl rfl rfl fun E H hp => ?_
  refine VCsplit.intro (fun q0 => ?_) (fun q0 => ?_)
  ·
    simp at q0
    exact ⟨[], ⟨by unfold bodyOk; first | (rw [decide_eq_true (by omega : 1 ≤ s.size), Bool.true_and]; congr 1; rw [decide_eq_decide]; omega) | (rw [decide_eq_false (by omega : ¬ 1 ≤ s.size), Bool.false_and]), rfl⟩, (.le fun a => by (try simp only [setR, List.cons_append, List.nil_append]); simp only [List.flatten_append, List.flatten_cons, List.flatten_nil, List.count_append, List.count_nil, List.append_nil, List.nil_append]; omega)⟩
  ·
    simp at q0
    exact ⟨[], ⟨by unfold bodyOk; first | (rw [decide_eq_true (by omega : 1 ≤ s.size), Bool.true_and]; congr 1; rw [decide_eq_decide]; omega) | (rw [decide_eq_false (by omega : ¬ 1 ≤ s.size), Bool.false_and]), rfl⟩, (.le fun a => by (try simp only [setR, List.cons_append, List.nil_append]); simp only [List.flatten_append, List.flatten_cons, List.flatten_nil, List.count_append, List.count_nil, List.append_nil, List.nil_append]; omega)⟩

--@ct impl.LinkOk val implLinkOk_ct _ $1 | %1
theorem implLinkOk_ct (l : List Value) (x : Link) : Ct Tryz.prog 218 [.agg ⟨l⟩] [] (fun H => gLink.rd H l x) (fun v A => v = .bool (linkOk x) ∧ A = []) := by
  refine Ct.intro0 G_ok Tryz.func218 rfl rfl rfl fun E H hp => ?_
  obtain ⟨b0p, c0p, rfl, h0p, w1p, w2p⟩ := gLink_rd.1 hp
  have hl := (rd_len h0p).2
  refine VCnew.intro fun x0 => ?_
  refine VCsplit.intro (fun q1 => ?_) (fun q1 => ?_)
  ·
    simp at q1
    exact ⟨[], ⟨by rw [linkOk_f fun e => by (have := linkOk_iff.1 e; omega)], rfl⟩, (.le fun a => by (try simp only [setR, List.cons_append, List.nil_append]); simp only [List.flatten_append, List.flatten_cons, List.flatten_nil, List.count_append, List.count_nil, List.append_nil, List.nil_append]; omega)⟩
  ·
    simp at q1
    refine VCsplit.intro (fun q2 => ?_) (fun q2 => ?_)
    ·
      simp at q2
      exact ⟨[], ⟨by rw [linkOk_f fun e => by (have := linkOk_iff.1 e; omega)], rfl⟩, (.le fun a => by (try simp only [setR, List.cons_append, List.nil_append]); simp only [List.flatten_append, List.flatten_cons, List.flatten_nil, List.count_append, List.count_nil, List.append_nil, List.nil_append]; omega)⟩
    ·
      simp at q2
      refine VCsplit.intro (fun q3 => ?_) (fun q3 => ?_)
      ·
        simp at q3
        exact ⟨[], ⟨by rw [linkOk_f fun e => by (have := linkOk_iff.1 e; omega)], rfl⟩, (.le fun a => by (try simp only [setR, List.cons_append, List.nil_append]); simp only [List.flatten_append, List.flatten_cons, List.flatten_nil, List.count_append, List.count_nil, List.append_nil, List.nil_append]; omega)⟩
      ·
        simp at q3
        refine VCsplit.intro (fun q4 => ?_) (fun q4 => ?_)
        ·
          simp at q4
          exact ⟨[], ⟨by rw [linkOk_f fun e => by (have := linkOk_iff.1 e; omega)], rfl⟩, (.le fun a => by (try simp only [setR, List.cons_append, List.nil_append]); simp only [List.flatten_append, List.flatten_cons, List.flatten_nil, List.count_append, List.count_nil, List.append_nil, List.nil_append]; omega)⟩
        ·
          simp at q4
          refine VCsplit.intro (fun q5 => ?_) (fun q5 => ?_)
          ·
            simp at q5
            exact ⟨[], ⟨by rw [linkOk_f fun e => by (have := linkOk_iff.1 e; omega)], rfl⟩, (.le fun a => by (try simp only [setR, List.cons_append, List.nil_append]); simp only [List.flatten_append, List.flatten_cons, List.flatten_nil, List.count_append, List.count_nil, List.append_nil, List.nil_append]; omega)⟩
          ·
            simp at q5
            apply loop_mod (α := (Nat)) G_ok [36, 37, 38, 4, 39, 40, 41, 2, 42, 35] (fun z => [(35, .v (.int .i64 z))]) (fun z => [{ id := x0, cs := [Value.slice b0p x.sent.length c0p, Value.int IntKind.i64 x.acked, Value.int IntKind.i64 x.took], ty := (180 : Nat) }]) (fun z => [H]) (fun z => x.sent.length - z) (fun z => z ≤ x.sent.length ∧ (x.sent.take z).all bodyOk = true) (0)
            · repeat' (first | exact trivial | refine ⟨⟨_, rfl, by first | rfl | exact inc_eq _ (by omega) | (refine sl_eq ?_; simp; done), by first | exact trivial | simp [SV.ok]⟩, ?_⟩)
            · exact ⟨rfl, trivial⟩
            · exact ⟨by omega, rfl⟩
            · exact .refl _
            rintro k hI
            obtain ⟨hk, ha⟩ : k ≤ x.sent.length ∧ (x.sent.take k).all bodyOk = true := hI
            try dsimp only
            refine VCsplit.intro (fun q6 => ?_) (fun q6 => ?_)
            ·
              simp at q6
              refine idx_rd h0p ?_ ?_ fun b7 o7 hb7 => ?_
              · omega
              · omega
              refine load_allN ByteArray.empty (k) rfl h0p ?_ ?_ hb7 rfl (mem_at 0 rfl) fun l8 hl8 => ?_
              · omega
              · omega
              obtain ⟨rfl, hw8⟩ := hl8; simp only [flStr, flInt, okI] at hw8
              refine call_val (isBody_ct _ ?_) trivial ?_
              · trivial
              rintro _ rfl
              refine VCsplit.intro (fun q10 => ?_) (fun q10 => ?_)
              ·
                simp at q10
                exact ⟨[], ⟨by rw [linkOk_body (by omega) ‹bodyOk _ = false›], rfl⟩, (.le fun a => by (try simp only [setR, List.cons_append, List.nil_append]); simp only [List.flatten_append, List.flatten_cons, List.flatten_nil, List.count_append, List.count_nil, List.append_nil, List.nil_append]; omega)⟩
              ·
                simp at q10
                apply loop_stepA (k + 1)
                · exact .refl _
                · repeat' (first | exact trivial | refine ⟨⟨_, rfl, by first | rfl | exact inc_eq _ (by omega) | (refine sl_eq ?_; simp; done), by first | exact trivial | simp [SV.ok]⟩, ?_⟩)
                · exact ⟨rfl, trivial⟩
                · exact ⟨by omega, allB_step (by omega) ha ‹_›⟩
                · omega
            ·
              simp at q6
              (have hke : k = x.sent.length := (by omega); subst hke; exact ⟨[], ⟨by rw [linkOk_yes (by omega) (by omega) (by omega) (by omega) (by omega) ha], rfl⟩, (.le fun a => by (try simp only [setR, List.cons_append, List.nil_append]); simp only [List.flatten_append, List.flatten_cons, List.flatten_nil, List.count_append, List.count_nil, List.append_nil, List.nil_append]; omega)⟩)

--@ct spec.LinkOk val specLinkOk_ct _ $1 | %1
theorem specLinkOk_ct (l : List Value) (x : Link) : Ct Tryz.prog 203 [.agg ⟨l⟩] [] (fun H => gLink.rd H l x) (fun v A => v = .bool (linkOk x) ∧ A = []) := by
  refine Ct.intro0 G_ok Tryz.func203 rfl rfl rfl fun E H hp => ?_
  obtain ⟨b0p, c0p, rfl, h0p, w1p, w2p⟩ := gLink_rd.1 hp
  have hl := (rd_len h0p).2
  refine VCnew.intro fun x0 => ?_
  apply loop_mod (α := (Nat)) G_ok [4, 5, 6, 7, 8, 11, 12, 13, 14, 15, 16, 17, 18, 2, 9, 10, 3] (fun z => [(3, .v (.int .i64 z))]) (fun z => [{ id := x0, cs := [Value.slice b0p x.sent.length c0p, Value.int IntKind.i64 x.acked, Value.int IntKind.i64 x.took], ty := (180 : Nat) }]) (fun z => [H]) (fun z => x.sent.length - z) (fun z => z ≤ x.sent.length ∧ (x.sent.take z).all bodyOk = true) (0)
  · repeat' (first | exact trivial | refine ⟨⟨_, rfl, by first | rfl | exact inc_eq _ (by omega) | (refine sl_eq ?_; simp; done), by first | exact trivial | simp [SV.ok]⟩, ?_⟩)
  · exact ⟨rfl, trivial⟩
  · exact ⟨by omega, rfl⟩
  · exact .refl _
  rintro k hI
  obtain ⟨hk, ha⟩ : k ≤ x.sent.length ∧ (x.sent.take k).all bodyOk = true := hI
  try dsimp only
  refine VCsplit.intro (fun q1 => ?_) (fun q1 => ?_)
  ·
    simp at q1
    refine idx_rd h0p ?_ ?_ fun b2 o2 hb2 => ?_
    · omega
    · omega
    refine load_allN ByteArray.empty (k) rfl h0p ?_ ?_ hb2 rfl (mem_at 0 rfl) fun l3 hl3 => ?_
    · omega
    · omega
    obtain ⟨rfl, hw3⟩ := hl3; simp only [flStr, flInt, okI] at hw3
    refine call_val (l01In_ct _ _ _) trivial ?_
    rintro _ rfl
    refine VCsplit.intro (fun q5 => ?_) (fun q5 => ?_)
    ·
      simp at q5
      have iq5 := mt inR_iff.2 (Bool.eq_false_iff.1 q5)
      exact ⟨[], ⟨by rw [linkOk_body (k := k) (by omega) (by rw [← Bool.not_eq_true, bodyOk_iff]; omega)], rfl⟩, (.le fun a => by (try simp only [setR, List.cons_append, List.nil_append]); simp only [List.flatten_append, List.flatten_cons, List.flatten_nil, List.count_append, List.count_nil, List.append_nil, List.nil_append]; omega)⟩
    ·
      simp at q5
      have iq5 := inR_iff.1 q5
      apply loop_stepA (k + 1)
      · exact .refl _
      · repeat' (first | exact trivial | refine ⟨⟨_, rfl, by first | rfl | exact inc_eq _ (by omega) | (refine sl_eq ?_; simp; done), by first | exact trivial | simp [SV.ok]⟩, ?_⟩)
      · exact ⟨rfl, trivial⟩
      · exact ⟨by omega, allB_step (by omega) ha (bodyOk_iff.2 (by omega))⟩
      · omega
  ·
    simp at q1
    have hke : k = x.sent.length := by omega
    subst hke
    refine VCsplit.intro (fun q6 => ?_) (fun q6 => ?_)
    ·
      simp at q6
      refine call_val (l01In_ct _ _ _) trivial ?_
      rintro _ rfl
      refine VCsplit.intro (fun q8 => ?_) (fun q8 => ?_)
      ·
        have iq8 := inR_iff.1 q8
        refine call_val (l01In_ct _ _ _) trivial ?_
        rintro _ rfl
        exact ⟨[], ⟨by (cases hq : inR 0 200 x.took with | true => (have := inR_iff.1 hq; rw [linkOk_yes (by omega) (by omega) (by omega) (by omega) (by omega) ha]) | false => (have := mt inR_iff.2 (Bool.eq_false_iff.1 hq); rw [linkOk_f fun e => by (have := linkOk_iff.1 e; omega)])), rfl⟩, (.le fun a => by (try simp only [setR, List.cons_append, List.nil_append]); simp only [List.flatten_append, List.flatten_cons, List.flatten_nil, List.count_append, List.count_nil, List.append_nil, List.nil_append]; omega)⟩
      ·
        have iq8 := mt inR_iff.2 (Bool.eq_false_iff.1 q8)
        exact ⟨[], ⟨by rw [linkOk_f fun e => by (have := linkOk_iff.1 e; omega)], rfl⟩, (.le fun a => by (try simp only [setR, List.cons_append, List.nil_append]); simp only [List.flatten_append, List.flatten_cons, List.flatten_nil, List.count_append, List.count_nil, List.append_nil, List.nil_append]; omega)⟩
    ·
      simp at q6
      exact ⟨[], ⟨by rw [linkOk_f fun e => by (have := linkOk_iff.1 e; omega)], rfl⟩, (.le fun a => by (try simp only [setR, List.cons_append, List.nil_append]); simp only [List.flatten_append, List.flatten_cons, List.flatten_nil, List.count_append, List.count_nil, List.append_nil, List.nil_append]; omega)⟩

def linkPut (l : Link) (t : ByteArray) : Link × Bool := if linkOk l = true ∧ l.sent.length < 200 ∧ bodyOk t = true then (⟨l.sent ++ [t], l.acked, l.took⟩, true) else (l, false)
theorem linkPut_yes {l : Link} {t : ByteArray} (h1 : linkOk l = true) (h2 : l.sent.length < 200) (h3 : bodyOk t = true) : linkPut l t = (⟨l.sent ++ [t], l.acked, l.took⟩, true) := if_pos ⟨h1, h2, h3⟩
theorem linkPut_no {l : Link} {t : ByteArray} (h : ¬ (linkOk l = true ∧ l.sent.length < 200 ∧ bodyOk t = true)) : linkPut l t = (l, false) := if_neg h
/-- the reference asks the longer link -/
theorem linkOk_put {l : Link} {t : ByteArray} (h : linkOk l = true) : linkOk ⟨l.sent ++ [t], l.acked, l.took⟩ = true ↔ l.sent.length < 200 ∧ bodyOk t = true := by
  have h1 := linkOk_iff.1 h
  rw [linkOk_iff]
  simp only [List.length_append, List.length_cons, List.length_nil, List.mem_append, List.mem_singleton]
  constructor
  · rintro ⟨a, -, -, -, -, b⟩
    exact ⟨by omega, b t (.inr rfl)⟩
  · rintro ⟨a, b⟩
    refine ⟨by omega, h1.2.1, by omega, h1.2.2.2.1, h1.2.2.2.2.1, ?_⟩
    rintro s (hs | rfl)
    · exact h1.2.2.2.2.2 s hs
    · exact b

theorem link_back {b : Option Addr} {c : Nat} {ss : List ByteArray} {a k : Int} {A : Hp} (h : (gSl 9 gS).ow [.slice b ss.length c] ss A) (h1 : okI a) (h2 : okI k) : gLink.ow [.slice b ss.length c, .int .i64 a, .int .i64 k] ⟨ss, a, k⟩ A := gLink_ow.2 ⟨b, c, A, rfl, by simp, h, h1, h2⟩
theorem put_no1 {l : Link} {t : ByteArray} (h : linkOk l = false) : linkPut l t = (l, false) := linkPut_no fun h2 => by rw [h] at h2; cases h2.1
theorem put_no3 {l : Link} {t : ByteArray} (h : bodyOk t = false) : linkPut l t = (l, false) := linkPut_no fun h2 => by rw [h] at h2; cases h2.2.2
--@ct impl.LinkPut new implLinkPut_ct _ $1 _ ?_ ?_ | %1 | obtain ⟨l#, rfl, o#⟩ := o# ;; have r# := Gt.owrd _ o# ;; @open{Link r# x#}
theorem implLinkPut_ct (l : List Value) (x : Link) (t : ByteArray) (hx : gLink.sz x ≤ 1048576) (ht : t.size ≤ 9223372036854775807) : Ct Tryz.prog 143 [.agg ⟨l⟩, .string t] [] (fun H => gLink.rd H l x) (fun v A => ∃ l, v = .tuple #[.agg ⟨l⟩, .bool (linkPut x t).2] ∧ gLink.ow l (linkPut x t).1 A) := by
  refine Ct.intro0 G_ok Tryz.func143 rfl rfl rfl fun E H hp => ?_
  obtain ⟨b0p, c0p, rfl, h0p, w1p, w2p⟩ := gLink_rd.1 hp
  have hl := (rd_len h0p).2
  have hz := gLink_sz x
  have hls := len_szL gS x.sent
  refine VCnew.intro fun x0 => ?_
  refine VCnew.intro fun x1 => ?_
  refine call_newP (copyLink_ct _ (x) ?_) (Rp.mono _ (mem_at 0 rfl) hp) ?_
  · trivial
  rintro v2 A2 o2
  obtain ⟨l2, rfl, o2⟩ := o2
  obtain ⟨bs, cs, As, rfl, hpm, os, w1z, w2z⟩ := gLink_ow.1 o2
  refine ⟨[As], by simpa using hpm, ?_⟩
  refine VCnew.intro fun x3 => ?_
  refine call_val (implLinkOk_ct _ (x)) (Rp.mono _ (mem_at 1 rfl) hp) ?_
  rintro _ rfl
  refine VCsplit.intro (fun q5 => ?_) (fun q5 => ?_)
  ·
    simp at q5
    (rw [put_no1 (by assumption)]; exact ⟨_, ⟨_, rfl, link_back os w1z w2z⟩, (.le fun a => by (try simp only [setR, List.cons_append, List.nil_append]); simp only [List.flatten_append, List.flatten_cons, List.flatten_nil, List.count_append, List.count_nil, List.append_nil, List.nil_append]; omega)⟩)
  ·
    simp at q5
    refine VCsplit.intro (fun q6 => ?_) (fun q6 => ?_)
    ·
      simp at q6
      (rw [linkPut_no (by omega)]; exact ⟨_, ⟨_, rfl, link_back os w1z w2z⟩, (.le fun a => by (try simp only [setR, List.cons_append, List.nil_append]); simp only [List.flatten_append, List.flatten_cons, List.flatten_nil, List.count_append, List.count_nil, List.append_nil, List.nil_append]; omega)⟩)
    ·
      simp at q6
      refine call_val (isBody_ct _ ?_) trivial ?_
      · trivial
      rintro _ rfl
      refine VCsplit.intro (fun q8 => ?_) (fun q8 => ?_)
      ·
        simp at q8
        (rw [put_no3 (by assumption)]; exact ⟨_, ⟨_, rfl, link_back os w1z w2z⟩, (.le fun a => by (try simp only [setR, List.cons_append, List.nil_append]); simp only [List.flatten_append, List.flatten_cons, List.flatten_nil, List.count_append, List.count_nil, List.append_nil, List.nil_append]; omega)⟩)
      ·
        simp at q8
        refine VCnew.intro fun x9 => ?_
        refine gappend1 (g := gS) (T := (9 : TypeId)) G_ok As [] [H] ?_ os (gS_ow ?_) (List.mem_of_getElem? (i := 0) rfl) rfl rfl rfl rfl rfl rfl rfl rfl ?_ fun b10 c10 A10 o10 => ?_
        · exact .tl
        · trivial
        · omega
        (have hk := linkOk_iff.1 ‹linkOk x = true›; rw [linkPut_yes (by assumption) (by omega) (by assumption)]; exact ⟨_, ⟨_, rfl, link_back (by assumption) w1z w2z⟩, (.le fun a => by (try simp only [setR, List.cons_append, List.nil_append]); simp only [List.flatten_append, List.flatten_cons, List.flatten_nil, List.count_append, List.count_nil, List.append_nil, List.nil_append]; omega)⟩)

--@ct spec.LinkPut new specLinkPut_ct _ $1 _ ?_ ?_ | %1 | obtain ⟨l#, rfl, o#⟩ := o# ;; have r# := Gt.owrd _ o# ;; @open{Link r# x#}
theorem specLinkPut_ct (l : List Value) (x : Link) (t : ByteArray) (hx : gLink.sz x ≤ 1048576) (ht : t.size ≤ 9223372036854775807) : Ct Tryz.prog 131 [.agg ⟨l⟩, .string t] [] (fun H => gLink.rd H l x) (fun v A => ∃ l, v = .tuple #[.agg ⟨l⟩, .bool (linkPut x t).2] ∧ gLink.ow l (linkPut x t).1 A) := by
  refine Ct.intro0 G_ok Tryz.func131 rfl rfl rfl fun E H hp => ?_
  obtain ⟨b0p, c0p, rfl, h0p, w1p, w2p⟩ := gLink_rd.1 hp
  have hl := (rd_len h0p).2
  have hz := gLink_sz x
  have hls := len_szL gS x.sent
  refine VCnew.intro fun x0 => ?_
  refine VCnew.intro fun x1 => ?_
  refine call_newP (s_l18Copy_ct _ (x) ?_) (Rp.mono _ (mem_at 0 rfl) hp) ?_
  · trivial
  rintro v2 A2 o2
  obtain ⟨l2, rfl, o2⟩ := o2
  obtain ⟨bs, cs, As, rfl, hpm, os, w1z, w2z⟩ := gLink_ow.1 o2
  refine ⟨[As], by simpa using hpm, ?_⟩
  refine VCnew.intro fun x3 => ?_
  refine VCnew.intro fun x4 => ?_
  refine gappend1 (g := gS) (T := (9 : TypeId)) G_ok As [] [H] ?_ os (gS_ow ?_) (List.mem_of_getElem? (i := 0) rfl) rfl rfl rfl rfl rfl rfl rfl rfl ?_ fun b5 c5 A5 o5 => ?_
  · exact .tl
  · trivial
  · omega
  refine call_val (specLinkOk_ct _ (x)) (Rp.mono _ (mem_at 1 rfl) hp) ?_
  rintro _ rfl
  refine VCsplit.intro (fun q7 => ?_) (fun q7 => ?_)
  ·
    simp at q7
    refine call_newP (s_l18Copy_ct _ (x) ?_) (Rp.mono _ (mem_at 1 rfl) hp) ?_
    · trivial
    rintro v8 A8 o8
    obtain ⟨l8, rfl, o8⟩ := o8
    obtain ⟨bs, cs, As, rfl, hpm, os, w1z, w2z⟩ := gLink_ow.1 o8
    refine ⟨[As], by simpa using hpm, ?_⟩
    (rw [put_no1 (by assumption)]; exact ⟨_, ⟨_, rfl, link_back os w1z w2z⟩, (.le fun a => by (try simp only [setR, List.cons_append, List.nil_append]); simp only [List.flatten_append, List.flatten_cons, List.flatten_nil, List.count_append, List.count_nil, List.append_nil, List.nil_append]; omega)⟩)
  ·
    simp at q7
    have r9 := Gt.owrd _ (link_back (a := x.acked) (k := x.took) o5 w1z w2z)
    refine call_val (specLinkOk_ct _ ({ sent := x.sent ++ [t], acked := x.acked, took := x.took })) (Rp.mono _ (mem_at 0 rfl) r9) ?_
    rintro _ rfl
    refine VCsplit.intro (fun q10 => ?_) (fun q10 => ?_)
    ·
      simp at q10
      refine call_newP (s_l18Copy_ct _ (x) ?_) (Rp.mono _ (mem_at 1 rfl) hp) ?_
      · trivial
      rintro v11 A11 o11
      obtain ⟨l11, rfl, o11⟩ := o11
      obtain ⟨bs, cs, As, rfl, hpm, os, w1z, w2z⟩ := gLink_ow.1 o11
      refine ⟨[As], by simpa using hpm, ?_⟩
      (rw [linkPut_no (fun h2 => by (have h3 := (linkOk_put (t := t) h2.1).2 h2.2; rw [‹linkOk ⟨_, _, _⟩ = false›] at h3; cases h3))]; exact ⟨_, ⟨_, rfl, link_back os w1z w2z⟩, (.le fun a => by (try simp only [setR, List.cons_append, List.nil_append]); simp only [List.flatten_append, List.flatten_cons, List.flatten_nil, List.count_append, List.count_nil, List.append_nil, List.nil_append]; omega)⟩)
    ·
      simp at q10
      (have hk := (linkOk_put (t := t) ‹linkOk x = true›).1 ‹linkOk ⟨_, _, _⟩ = true›; rw [linkPut_yes (by assumption) hk.1 hk.2]; exact ⟨_, ⟨_, rfl, link_back o5 w1z w2z⟩, (.le fun a => by (try simp only [setR, List.cons_append, List.nil_append]); simp only [List.flatten_append, List.flatten_cons, List.flatten_nil, List.count_append, List.count_nil, List.append_nil, List.nil_append]; omega)⟩)

end Go.Proofs.YtflfohphebmemaaGreat
