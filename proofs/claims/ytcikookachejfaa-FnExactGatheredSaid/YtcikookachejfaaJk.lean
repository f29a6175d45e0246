/-
  Graphs read from texts, on both sides. Conditions: none.
-/
import Derived.Test.YtcikookachejfaaJi
namespace Go.Proofs.Ytcikookachejfaa
open Go.SX Go.Proofs
set_option linter.unusedSimpArgs false
set_option linter.unusedVariables false
set_option maxHeartbeats 4000000
attribute [local irreducible] IntKind.wrap

--@ct (*impl.scanner).done blk0 scDone_ct _ _ _ _ _ rfl ?_ ?_ |  | rintro _ A# ⟨rfl, rfl⟩ ;; refine ⟨_, _, [], rfl, perm0, ?_⟩
theorem scDone_ct (q : Nat) (t : ByteArray) (ai : Int) (a : Nat) (bd : Bool) (hai : ai = (a : Int)) (ht : t.size ≤ 1152921504606846976) (ha : a ≤ t.size) :
    CtR Try.prog 215 [.pointer (some ⟨q, 0, none⟩)] [(q, Obj.cells ⟨[.string t, .int .i64 ai, .bool bd]⟩ 227)] (fun _ => True) (fun v A => v = .bool (!bd && decide (a = t.size)) ∧ A = [(q, Obj.cells ⟨[.string t, .int .i64 ai, .bool bd]⟩ 227)]) := by
  subst hai
  refine CtR.introB G_ok [.p 0 0] [⟨q, [.string t, .int .i64 (a : Int), .bool bd], 227⟩] [] Try.func215 rfl rfl rfl rfl (by simp [SV.ok]) (by simp [Blk.ent]) fun E H hp => ?_
  refine draw G_ok mixed none (.q 0 (.q 1 (.q 2 (.q 3 (.q 4 (.q 5 (.q 6 (.q 7 (.q 8 (.q 9 (.q 10 (.q 11 (.q 12 (.q 13 (.q 14 (.q 15 (.q 16 (.q 17 (.nil))))))))))))))))))) (by decide +kernel) ?_
  refine VCsplit.intro (fun q0 => ?_) (fun q0 => ?_)
  ·
    simp at q0
    (have hb0 : bd = false := ‹_›; subst hb0; exact ⟨_, ⟨by (show Value.bool (_ == _) = Value.bool (true && decide (a = t.size)); rw [Bool.true_and]; congr 1; rw [Bool.eq_iff_iff]; simp; omega), rfl⟩, (.le fun a => by (try simp only [setR, List.cons_append, List.nil_append]); simp [List.count_cons, Blk.ent, idOf]; try omega)⟩)
  ·
    simp at q0
    (have hb0 : bd = true := ‹_›; subst hb0; exact ⟨_, ⟨rfl, rfl⟩, (.le fun a => by (try simp only [setR, List.cons_append, List.nil_append]); simp [List.count_cons, Blk.ent, idOf]; try omega)⟩)

def rgR (t : ByteArray) : Graph := (readGraph t).getD ⟨0, []⟩
theorem rg_no {t : ByteArray} (h : rgOk t (rgN t) = false) : readGraph t = none := by unfold readGraph; rw [h]; rfl
theorem rg_yes {t : ByteArray} (h : rgOk t (rgN t) = true) : readGraph t = some (rgG t (rgN t)) := by unfold readGraph; rw [h]; rfl
theorem rgE_more {t : ByteArray} {k : Nat} (h : (rgE t k).2.2 = false) : rgE t (k + 1) = ((rgE t k).1 ++ [(scEdge t (rgE t k).2).1], (scEdge t (rgE t k).2).2) := scEdges_more h
theorem rgE_le (t : ByteArray) (k : Nat) : (rgE t k).2.1 ≤ t.size ∧ (rgE t k).1.length ≤ k := scEdges_le (scNum_le (scNum_le (Nat.zero_le _)).1).1 k
theorem rgE_stop {t : ByteArray} {k n : Nat} (h : (rgE t k).2.2 = true) (hk : k ≤ n) : rgE t n = rgE t k := by
  obtain ⟨m, rfl⟩ := Nat.le.dest hk
  exact scEdges_stop h m
theorem rgC_le (t : ByteArray) : (rgC t).2.1 ≤ t.size ∧ (rgC t).1 ≤ 1000000000 := scNum_le (scNum_le (Nat.zero_le _)).1
theorem rgS_le (t : ByteArray) : (rgS t).2.1 ≤ t.size ∧ (rgS t).1 ≤ 1000000000 := scNum_le (Nat.zero_le _)

theorem rgE_fin {t : ByteArray} {k N : Nat} (hc : k ≤ (rgC t).1) (hN : k ≤ N) (h : (rgC t).1 ≤ k ∨ N ≤ k ∨ (rgE t k).2.2 = true) : rgE t (min (rgC t).1 N) = rgE t k := by
  rcases h with h | h | h
  · rw [show min (rgC t).1 N = k by omega]
  · rw [show min (rgC t).1 N = k by omega]
  · exact rgE_stop h (by omega)
theorem okI_n {n : Nat} (h : n ≤ 1000000000) : okI (n : Int) := by unfold okI; omega
theorem scE_own (t : ByteArray) (k : Nat) : gEdge.ow [.int .i64 (scEdge t (rgE t k).2).1.from', .int .u8 (scEdge t (rgE t k).2).1.label.toNat, .int .i64 (scEdge t (rgE t k).2).1.to] (scEdge t (rgE t k).2).1 [] := by
  have h1 := scNum_le (s := (rgE t k).2) (rgE_le t k).1
  have h2 := scNum_le (s := (scByte t (scNum t (rgE t k).2).2).2) (scByte_le h1.1)
  exact gEdge_ow.2 ⟨rfl, by simp, okI_n h1.2, okI_n h2.2⟩
theorem scE_own2 (t : ByteArray) (k : Nat) : gEdge.ow [.int .i64 (scEdge t (rgE t k).2).1.from', .int .u8 (IntKind.u8.wrap (scEdge t (rgE t k).2).1.label.toNat), .int .i64 (scEdge t (rgE t k).2).1.to] (scEdge t (rgE t k).2).1 [] := by
  have : IntKind.u8.wrap ((scEdge t (rgE t k).2).1.label.toNat : Nat) = ((scEdge t (rgE t k).2).1.label.toNat : Nat) := by
    have := (scEdge t (rgE t k).2).1.label.toNat_lt
    rw [u8_wrap]; omega
  rw [this]; exact scE_own t k
theorem rg_none {t : ByteArray} (h : readGraph t = none) : rgR t = ⟨0, []⟩ ∧ (readGraph t).isSome = false := by unfold rgR; rw [h]; exact ⟨rfl, rfl⟩
theorem rg_some {t : ByteArray} {g : Graph} (h : readGraph t = some g) : rgR t = g ∧ (readGraph t).isSome = true := by unfold rgR; rw [h]; exact ⟨rfl, rfl⟩
theorem rgI_no {t : ByteArray} {k : Nat} (hf : rgE t (rgN t) = rgE t k) (h : ¬ ((rgE t k).2.2 = false ∧ (rgE t k).2.1 = t.size ∧ (rgE t k).1.length = (rgC t).1 ∧ graphOk ⟨((rgS t).1 : Nat), (rgE t k).1⟩ = true)) : readGraph t = none := by
  refine rg_no ?_
  cases e : rgOk t (rgN t) with
  | false => rfl
  | true =>
    exfalso; apply h
    unfold rgOk rgG at e
    rw [hf] at e
    simpa only [Bool.and_eq_true, Bool.not_eq_true', decide_eq_true_iff] using e
theorem rgI_yes {t : ByteArray} {k : Nat} (hf : rgE t (rgN t) = rgE t k) (h : (rgE t k).2.2 = false ∧ (rgE t k).2.1 = t.size ∧ (rgE t k).1.length = (rgC t).1 ∧ graphOk ⟨((rgS t).1 : Nat), (rgE t k).1⟩ = true) : readGraph t = some ⟨((rgS t).1 : Nat), (rgE t k).1⟩ := by
  have e : rgOk t (rgN t) = true := by
    unfold rgOk rgG
    rw [hf]
    simpa only [Bool.and_eq_true, Bool.not_eq_true', decide_eq_true_iff] using h
  rw [rg_yes e]; unfold rgG; rw [hf]
theorem rgS_no {t : ByteArray} {k : Nat} (hf : rgE t (min (rgC t).1 50) = rgE t k) (h : ¬ ((rgE t k).2.2 = false ∧ graphOk ⟨((rgS t).1 : Nat), (rgE t k).1⟩ = true ∧ graphText ⟨((rgS t).1 : Nat), (rgE t k).1⟩ = t)) : readGraph t = none := by
  rw [rg_spec]; unfold rgG; rw [hf, if_neg h]
theorem rgS_yes {t : ByteArray} {k : Nat} (hf : rgE t (min (rgC t).1 50) = rgE t k) (h : (rgE t k).2.2 = false ∧ graphOk ⟨((rgS t).1 : Nat), (rgE t k).1⟩ = true ∧ graphText ⟨((rgS t).1 : Nat), (rgE t k).1⟩ = t) : readGraph t = some ⟨((rgS t).1 : Nat), (rgE t k).1⟩ := by
  rw [rg_spec]; unfold rgG; rw [hf, if_pos h]
--@ct impl.ReadGraph new implReadGraph_ct _ ?_ | trivial | obtain ⟨b#, c#, rfl, o#⟩ := o#
theorem implReadGraph_ct (t : ByteArray) (ht : t.size ≤ 1152921504606846976) :
    Ct Try.prog 152 [.string t] [] (fun _ => True) (fun v A => ∃ b c, v = .tuple #[.agg ⟨[.int .i64 (rgR t).size, .slice b (rgR t).edges.length c]⟩, .bool (readGraph t).isSome] ∧ (gSl 192 gEdge).ow [.slice b (rgR t).edges.length c] (rgR t).edges A) := by
  refine Ct.intro0 G_ok Try.func152 rfl rfl rfl fun E H hp => ?_
  have hS := rgS_le t
  have hC := rgC_le t
  have hcD : (scNum t ((scNum t (0, false)).2.1, (scNum t (0, false)).2.2)).1 = (rgC t).1 := rfl
  refine VCnew.intro fun x0 => ?_
  refine VCnew.intro fun x1 => ?_
  refine callR_blk 1 ([]) [H] rfl ?_ (scNumber_ct _ _ _ _ _ rfl ?_ ?_) trivial ?_
  · exact .refl _
  · trivial
  · (simp only [inU8, u8_wrap]; omega)
  rintro _ A2 ⟨rfl, rfl⟩
  refine ⟨_, _, [], rfl, perm0, ?_⟩
  refine VCnew.intro fun x3 => ?_
  refine callR_blk 1 ([]) [H] rfl ?_ (scNumber_ct _ _ _ _ _ rfl ?_ ?_) trivial ?_
  · exact .refl _
  · trivial
  · exact hS.1
  rintro _ A4 ⟨rfl, rfl⟩
  refine ⟨_, _, [], rfl, perm0, ?_⟩
  apply loop_mod (α := (Nat) × (Hp) × (Option Addr) × (Nat)) G_ok [15, 16, 17, 18, 19, 20, 21, 22, 23, 24, 25, 26, 29, 8, 30, 9, 31, 32, 33, 34, 35, 36, 37, 38, 39, 27, 28, 7] (fun z => [(7, .v (.int .i64 z.1))]) (fun z => [⟨x0, [Value.int IntKind.i64 (0 : Int), Value.slice none (0 : Nat) (0 : Nat)], (58 : Nat)⟩, ⟨x1, [Value.string t, .int .i64 ((rgE t z.1).2.1 : Nat), .bool (rgE t z.1).2.2], (227 : Nat)⟩, ⟨x3, [Value.int IntKind.i64 (↑(scNum t (nat_lit 0, false)).fst : Int), .slice z.2.2.1 (rgE t z.1).1.length z.2.2.2], (58 : Nat)⟩]) (fun z => [z.2.1, H]) (fun z => 41 - z.1) (fun z => z.1 ≤ 41 ∧ z.1 ≤ (rgC t).1 ∧ (gSl 192 gEdge).ow [.slice z.2.2.1 (rgE t z.1).1.length z.2.2.2] (rgE t z.1).1 z.2.1) ((0, [], none, 0))
  · repeat' (first | exact trivial | refine ⟨⟨_, rfl, by first | rfl | exact inc_eq _ (by omega) | (refine sl_eq ?_; simp; done), by first | exact trivial | simp [SV.ok]⟩, ?_⟩)
  · exact ⟨rfl, rfl, rfl, trivial⟩
  · try dsimp only
    exact ⟨by omega, by omega, sl_nil _ _ _⟩
  · exact .refl _
  rintro ⟨k, A, lb, lc⟩ hI
  obtain ⟨hk, hc, oA⟩ : k ≤ 41 ∧ k ≤ (rgC t).1 ∧ (gSl 192 gEdge).ow [.slice lb (rgE t k).1.length lc] (rgE t k).1 A := hI
  try dsimp only
  refine VCsplit.intro (fun q5 => ?_) (fun q5 => ?_)
  ·
    simp at q5
    refine VCsplit.intro (fun q6 => ?_) (fun q6 => ?_)
    ·
      simp at q6
      refine VCsplit.intro (fun q7 => ?_) (fun q7 => ?_)
      ·
        simp at q7
        refine callR_blk 1 ([]) [A, H] rfl ?_ (scNumber_ct _ _ _ _ _ rfl ?_ ?_) trivial ?_
        · exact .refl _
        · trivial
        · exact (rgE_le t k).1
        rintro _ A8 ⟨rfl, rfl⟩
        refine ⟨_, _, [], rfl, perm0, ?_⟩
        refine callR_blk 1 ([]) [A, H] rfl ?_ (scOctet_ct _ _ _ _ _ rfl ?_ ?_) trivial ?_
        · exact .refl _
        · trivial
        · exact (scNum_le (s := ((rgE t k).2.1, (rgE t k).2.2)) (rgE_le t k).1).1
        rintro _ A9 ⟨rfl, rfl⟩
        refine ⟨_, _, [], rfl, perm0, ?_⟩
        refine draw G_ok mixed none (.q 0 (.q 2 (.q 3 (.hd (.alt 1 (.f 4 (.f 5 (.f 6 (.f 7 (.q 8 (.f 9 (.nil))))))) (.alt 4 (.hd (.alt 1 (.f 5 (.f 6 (.f 7 (.q 8 (.f 9 (.nil)))))) (.alt 5 (.hd (.alt 1 (.f 6 (.f 7 (.q 8 (.f 9 (.nil))))) (.alt 6 (.f 1 (.f 7 (.q 8 (.f 9 (.nil))))) (.nil)))) (.nil)))) (.nil))))))) (by decide +kernel) ?_
        refine VC.intro ?_ ?_
        ·
          refine callR_blk 1 ([]) [A, H] rfl ?_ (scNumber_ct _ _ _ _ _ rfl ?_ ?_) trivial ?_
          · exact .refl _
          · trivial
          · exact scByte_le (s := ((scNum t ((rgE t k).2.1, (rgE t k).2.2)).2.1, (scNum t ((rgE t k).2.1, (rgE t k).2.2)).2.2)) (scNum_le (s := ((rgE t k).2.1, (rgE t k).2.2)) (rgE_le t k).1).1
          rintro _ A10 ⟨rfl, rfl⟩
          refine ⟨_, _, [], rfl, perm0, ?_⟩
          refine VCnew.intro fun x11 => ?_
          refine gappend1 (g := gEdge) (T := (192 : TypeId)) G_ok A _ [H] ?_ oA (scE_own t k) (List.mem_of_getElem? (i := 0) rfl) rfl rfl rfl rfl rfl rfl rfl rfl ?_ fun b12 c12 A12 o12 => ?_
          · exact .tl
          · (have := (rgE_le t k).2; omega)
          apply loop_stepA (k + 1, _, _, _)
          · exact .refl _
          · repeat' (first | exact trivial | refine ⟨⟨_, rfl, by first | rfl | exact inc_eq _ (by omega) | (refine sl_eq ?_; simp; done), by first | exact trivial | simp [SV.ok]⟩, ?_⟩)
          · ((rw [rgE_more ‹(rgE t k).2.2 = false›]); repeat' (first | exact trivial | refine ⟨by first | rfl | simp [Blk.ent], ?_⟩))
          · try dsimp only
            exact ⟨by omega, by omega, by (rw [rgE_more ‹(rgE t k).2.2 = false›]; assumption)⟩
          · try dsimp only
            omega
        ·
          refine VC.intro ?_ ?_
          ·
            refine callR_blk 1 ([]) [A, H] rfl ?_ (scNumber_ct _ _ _ _ _ rfl ?_ ?_) trivial ?_
            · exact .refl _
            · trivial
            · exact scByte_le (s := ((scNum t ((rgE t k).2.1, (rgE t k).2.2)).2.1, (scNum t ((rgE t k).2.1, (rgE t k).2.2)).2.2)) (scNum_le (s := ((rgE t k).2.1, (rgE t k).2.2)) (rgE_le t k).1).1
            rintro _ A13 ⟨rfl, rfl⟩
            refine ⟨_, _, [], rfl, perm0, ?_⟩
            refine VC.intro ?_ ?_
            ·
              refine VCnew.intro fun x14 => ?_
              refine gappend1 (g := gEdge) (T := (192 : TypeId)) G_ok A _ [H] ?_ oA (scE_own t k) (List.mem_of_getElem? (i := 0) rfl) rfl rfl rfl rfl rfl rfl rfl rfl ?_ fun b15 c15 A15 o15 => ?_
              · exact .tl
              · (have := (rgE_le t k).2; omega)
              apply loop_stepA (k + 1, _, _, _)
              · exact .refl _
              · repeat' (first | exact trivial | refine ⟨⟨_, rfl, by first | rfl | exact inc_eq _ (by omega) | (refine sl_eq ?_; simp; done), by first | exact trivial | simp [SV.ok]⟩, ?_⟩)
              · ((rw [rgE_more ‹(rgE t k).2.2 = false›]); repeat' (first | exact trivial | refine ⟨by first | rfl | simp [Blk.ent], ?_⟩))
              · try dsimp only
                exact ⟨by omega, by omega, by (rw [rgE_more ‹(rgE t k).2.2 = false›]; assumption)⟩
              · try dsimp only
                omega
            ·
              refine VC.intro ?_ ?_
              ·
                refine VC.intro ?_ ?_
                ·
                  refine VCnew.intro fun x16 => ?_
                  refine gappend1 (g := gEdge) (T := (192 : TypeId)) G_ok A _ [H] ?_ oA (scE_own t k) (List.mem_of_getElem? (i := 0) rfl) rfl rfl rfl rfl rfl rfl rfl rfl ?_ fun b17 c17 A17 o17 => ?_
                  · exact .tl
                  · (have := (rgE_le t k).2; omega)
                  apply loop_stepA (k + 1, _, _, _)
                  · exact .refl _
                  · repeat' (first | exact trivial | refine ⟨⟨_, rfl, by first | rfl | exact inc_eq _ (by omega) | (refine sl_eq ?_; simp; done), by first | exact trivial | simp [SV.ok]⟩, ?_⟩)
                  · ((rw [rgE_more ‹(rgE t k).2.2 = false›]); repeat' (first | exact trivial | refine ⟨by first | rfl | simp [Blk.ent], ?_⟩))
                  · try dsimp only
                    exact ⟨by omega, by omega, by (rw [rgE_more ‹(rgE t k).2.2 = false›]; assumption)⟩
                  · try dsimp only
                    omega
                ·
                  refine VC.intro ?_ ?_
                  ·
                    refine VCnew.intro fun x18 => ?_
                    refine gappend1 (g := gEdge) (T := (192 : TypeId)) G_ok A _ [H] ?_ oA (scE_own t k) (List.mem_of_getElem? (i := 0) rfl) rfl rfl rfl rfl rfl rfl rfl rfl ?_ fun b19 c19 A19 o19 => ?_
                    · exact .tl
                    · (have := (rgE_le t k).2; omega)
                    apply loop_stepA (k + 1, _, _, _)
                    · exact .refl _
                    · repeat' (first | exact trivial | refine ⟨⟨_, rfl, by first | rfl | exact inc_eq _ (by omega) | (refine sl_eq ?_; simp; done), by first | exact trivial | simp [SV.ok]⟩, ?_⟩)
                    · ((rw [rgE_more ‹(rgE t k).2.2 = false›]); repeat' (first | exact trivial | refine ⟨by first | rfl | simp [Blk.ent], ?_⟩))
                    · try dsimp only
                      exact ⟨by omega, by omega, by (rw [rgE_more ‹(rgE t k).2.2 = false›]; assumption)⟩
                    · try dsimp only
                      omega
                  ·
                    exact trivial
              ·
                exact trivial
          ·
            exact trivial
      ·
        simp at q7
        refine callR_blk 1 ([]) [A, H] rfl ?_ (scDone_ct _ _ _ _ _ rfl ?_ ?_) trivial ?_
        · exact .refl _
        · trivial
        · exact (rgE_le t k).1
        rintro _ A20 ⟨rfl, rfl⟩
        refine ⟨_, _, [], rfl, perm0, ?_⟩
        refine VCsplit.intro (fun q21 => ?_) (fun q21 => ?_)
        ·
          simp at q21
          (have hf : rgE t (min (rgC t).1 41) = rgE t k := rgE_fin hc hk (by first | exact .inl (by omega) | exact .inr (.inl (by omega)) | exact .inr (.inr ‹(rgE t k).2.2 = true›)); have hn := rgI_no hf (fun e => by (obtain ⟨a1, a2, a3, a4⟩ := e; first | omega | exact absurd (a1.symm.trans ‹(rgE t k).2.2 = true›) (by decide) | exact absurd (a4.symm.trans ‹graphOk _ = false›) (by decide) | exact absurd a3 ‹_› | simp_all)); obtain ⟨e1, e2⟩ := rg_none hn; rw [e1, e2]; exact ⟨[], ⟨none, 0, rfl, sl_nil _ _ _⟩, (.le fun a => by (try simp only [setR, List.cons_append, List.nil_append]); simp [List.count_cons, Blk.ent, idOf]; try omega)⟩)
        ·
          simp at q21
          refine VCsplit.intro (fun q22 => ?_) (fun q22 => ?_)
          ·
            simp at q22
            (have hf : rgE t (min (rgC t).1 41) = rgE t k := rgE_fin hc hk (by first | exact .inl (by omega) | exact .inr (.inl (by omega)) | exact .inr (.inr ‹(rgE t k).2.2 = true›)); have hn := rgI_no hf (fun e => by (obtain ⟨a1, a2, a3, a4⟩ := e; first | omega | exact absurd (a1.symm.trans ‹(rgE t k).2.2 = true›) (by decide) | exact absurd (a4.symm.trans ‹graphOk _ = false›) (by decide) | exact absurd a3 ‹_› | simp_all)); obtain ⟨e1, e2⟩ := rg_none hn; rw [e1, e2]; exact ⟨[], ⟨none, 0, rfl, sl_nil _ _ _⟩, (.le fun a => by (try simp only [setR, List.cons_append, List.nil_append]); simp [List.count_cons, Blk.ent, idOf]; try omega)⟩)
          ·
            simp at q22
            refine call_val (implGraphOk_ct _ ⟨((rgS t).1 : Nat), (rgE t k).1⟩) (gGraph_rd.2 ⟨_, _, rfl, okI_n hS.2, Rp.mono _ (mem_at 0 rfl) (Gt.owrd _ oA)⟩) ?_
            rintro _ rfl
            refine VCsplit.intro (fun q24 => ?_) (fun q24 => ?_)
            ·
              simp at q24
              (have hf : rgE t (min (rgC t).1 41) = rgE t k := rgE_fin hc hk (by first | exact .inl (by omega) | exact .inr (.inl (by omega)) | exact .inr (.inr ‹(rgE t k).2.2 = true›)); have hn := rgI_no hf (fun e => by (obtain ⟨a1, a2, a3, a4⟩ := e; first | omega | exact absurd (a1.symm.trans ‹(rgE t k).2.2 = true›) (by decide) | exact absurd (a4.symm.trans ‹graphOk _ = false›) (by decide) | exact absurd a3 ‹_› | simp_all)); obtain ⟨e1, e2⟩ := rg_none hn; rw [e1, e2]; exact ⟨[], ⟨none, 0, rfl, sl_nil _ _ _⟩, (.le fun a => by (try simp only [setR, List.cons_append, List.nil_append]); simp [List.count_cons, Blk.ent, idOf]; try omega)⟩)
            ·
              simp at q24
              (have hf : rgE t (min (rgC t).1 41) = rgE t k := rgE_fin hc hk (by first | exact .inl (by omega) | exact .inr (.inl (by omega)) | exact .inr (.inr ‹(rgE t k).2.2 = true›)); have hn := rgI_yes hf ⟨by simp_all, by simp_all, by omega, ‹graphOk _ = true›⟩; obtain ⟨e1, e2⟩ := rg_some hn; rw [e1, e2]; exact ⟨_, ⟨_, _, rfl, oA⟩, (.le fun a => by (try simp only [setR, List.cons_append, List.nil_append]); simp [List.count_cons, Blk.ent, idOf]; try omega)⟩)
    ·
      simp at q6
      refine callR_blk 1 ([]) [A, H] rfl ?_ (scDone_ct _ _ _ _ _ rfl ?_ ?_) trivial ?_
      · exact .refl _
      · trivial
      · exact (rgE_le t k).1
      rintro _ A25 ⟨rfl, rfl⟩
      refine ⟨_, _, [], rfl, perm0, ?_⟩
      refine VCsplit.intro (fun q26 => ?_) (fun q26 => ?_)
      ·
        simp at q26
        (have hf : rgE t (min (rgC t).1 41) = rgE t k := rgE_fin hc hk (by first | exact .inl (by omega) | exact .inr (.inl (by omega)) | exact .inr (.inr ‹(rgE t k).2.2 = true›)); have hn := rgI_no hf (fun e => by (obtain ⟨a1, a2, a3, a4⟩ := e; first | omega | exact absurd (a1.symm.trans ‹(rgE t k).2.2 = true›) (by decide) | exact absurd (a4.symm.trans ‹graphOk _ = false›) (by decide) | exact absurd a3 ‹_› | simp_all)); obtain ⟨e1, e2⟩ := rg_none hn; rw [e1, e2]; exact ⟨[], ⟨none, 0, rfl, sl_nil _ _ _⟩, (.le fun a => by (try simp only [setR, List.cons_append, List.nil_append]); simp [List.count_cons, Blk.ent, idOf]; try omega)⟩)
      ·
        simp at q26
        refine VCsplit.intro (fun q27 => ?_) (fun q27 => ?_)
        ·
          simp at q27
          (have hf : rgE t (min (rgC t).1 41) = rgE t k := rgE_fin hc hk (by first | exact .inl (by omega) | exact .inr (.inl (by omega)) | exact .inr (.inr ‹(rgE t k).2.2 = true›)); have hn := rgI_no hf (fun e => by (obtain ⟨a1, a2, a3, a4⟩ := e; first | omega | exact absurd (a1.symm.trans ‹(rgE t k).2.2 = true›) (by decide) | exact absurd (a4.symm.trans ‹graphOk _ = false›) (by decide) | exact absurd a3 ‹_› | simp_all)); obtain ⟨e1, e2⟩ := rg_none hn; rw [e1, e2]; exact ⟨[], ⟨none, 0, rfl, sl_nil _ _ _⟩, (.le fun a => by (try simp only [setR, List.cons_append, List.nil_append]); simp [List.count_cons, Blk.ent, idOf]; try omega)⟩)
        ·
          simp at q27
          refine call_val (implGraphOk_ct _ ⟨((rgS t).1 : Nat), (rgE t k).1⟩) (gGraph_rd.2 ⟨_, _, rfl, okI_n hS.2, Rp.mono _ (mem_at 0 rfl) (Gt.owrd _ oA)⟩) ?_
          rintro _ rfl
          refine VCsplit.intro (fun q29 => ?_) (fun q29 => ?_)
          ·
            simp at q29
            (have hf : rgE t (min (rgC t).1 41) = rgE t k := rgE_fin hc hk (by first | exact .inl (by omega) | exact .inr (.inl (by omega)) | exact .inr (.inr ‹(rgE t k).2.2 = true›)); have hn := rgI_no hf (fun e => by (obtain ⟨a1, a2, a3, a4⟩ := e; first | omega | exact absurd (a1.symm.trans ‹(rgE t k).2.2 = true›) (by decide) | exact absurd (a4.symm.trans ‹graphOk _ = false›) (by decide) | exact absurd a3 ‹_› | simp_all)); obtain ⟨e1, e2⟩ := rg_none hn; rw [e1, e2]; exact ⟨[], ⟨none, 0, rfl, sl_nil _ _ _⟩, (.le fun a => by (try simp only [setR, List.cons_append, List.nil_append]); simp [List.count_cons, Blk.ent, idOf]; try omega)⟩)
          ·
            simp at q29
            (have hf : rgE t (min (rgC t).1 41) = rgE t k := rgE_fin hc hk (by first | exact .inl (by omega) | exact .inr (.inl (by omega)) | exact .inr (.inr ‹(rgE t k).2.2 = true›)); have hn := rgI_yes hf ⟨by simp_all, by simp_all, by omega, ‹graphOk _ = true›⟩; obtain ⟨e1, e2⟩ := rg_some hn; rw [e1, e2]; exact ⟨_, ⟨_, _, rfl, oA⟩, (.le fun a => by (try simp only [setR, List.cons_append, List.nil_append]); simp [List.count_cons, Blk.ent, idOf]; try omega)⟩)
  ·
    simp at q5
    refine callR_blk 1 ([]) [A, H] rfl ?_ (scDone_ct _ _ _ _ _ rfl ?_ ?_) trivial ?_
    · exact .refl _
    · trivial
    · exact (rgE_le t k).1
    rintro _ A30 ⟨rfl, rfl⟩
    refine ⟨_, _, [], rfl, perm0, ?_⟩
    refine VCsplit.intro (fun q31 => ?_) (fun q31 => ?_)
    ·
      simp at q31
      (have hf : rgE t (min (rgC t).1 41) = rgE t k := rgE_fin hc hk (by first | exact .inl (by omega) | exact .inr (.inl (by omega)) | exact .inr (.inr ‹(rgE t k).2.2 = true›)); have hn := rgI_no hf (fun e => by (obtain ⟨a1, a2, a3, a4⟩ := e; first | omega | exact absurd (a1.symm.trans ‹(rgE t k).2.2 = true›) (by decide) | exact absurd (a4.symm.trans ‹graphOk _ = false›) (by decide) | exact absurd a3 ‹_› | simp_all)); obtain ⟨e1, e2⟩ := rg_none hn; rw [e1, e2]; exact ⟨[], ⟨none, 0, rfl, sl_nil _ _ _⟩, (.le fun a => by (try simp only [setR, List.cons_append, List.nil_append]); simp [List.count_cons, Blk.ent, idOf]; try omega)⟩)
    ·
      simp at q31
      refine VCsplit.intro (fun q32 => ?_) (fun q32 => ?_)
      ·
        simp at q32
        (have hf : rgE t (min (rgC t).1 41) = rgE t k := rgE_fin hc hk (by first | exact .inl (by omega) | exact .inr (.inl (by omega)) | exact .inr (.inr ‹(rgE t k).2.2 = true›)); have hn := rgI_no hf (fun e => by (obtain ⟨a1, a2, a3, a4⟩ := e; first | omega | exact absurd (a1.symm.trans ‹(rgE t k).2.2 = true›) (by decide) | exact absurd (a4.symm.trans ‹graphOk _ = false›) (by decide) | exact absurd a3 ‹_› | simp_all)); obtain ⟨e1, e2⟩ := rg_none hn; rw [e1, e2]; exact ⟨[], ⟨none, 0, rfl, sl_nil _ _ _⟩, (.le fun a => by (try simp only [setR, List.cons_append, List.nil_append]); simp [List.count_cons, Blk.ent, idOf]; try omega)⟩)
      ·
        simp at q32
        refine call_val (implGraphOk_ct _ ⟨((rgS t).1 : Nat), (rgE t k).1⟩) (gGraph_rd.2 ⟨_, _, rfl, okI_n hS.2, Rp.mono _ (mem_at 0 rfl) (Gt.owrd _ oA)⟩) ?_
        rintro _ rfl
        refine VCsplit.intro (fun q34 => ?_) (fun q34 => ?_)
        ·
          simp at q34
          (have hf : rgE t (min (rgC t).1 41) = rgE t k := rgE_fin hc hk (by first | exact .inl (by omega) | exact .inr (.inl (by omega)) | exact .inr (.inr ‹(rgE t k).2.2 = true›)); have hn := rgI_no hf (fun e => by (obtain ⟨a1, a2, a3, a4⟩ := e; first | omega | exact absurd (a1.symm.trans ‹(rgE t k).2.2 = true›) (by decide) | exact absurd (a4.symm.trans ‹graphOk _ = false›) (by decide) | exact absurd a3 ‹_› | simp_all)); obtain ⟨e1, e2⟩ := rg_none hn; rw [e1, e2]; exact ⟨[], ⟨none, 0, rfl, sl_nil _ _ _⟩, (.le fun a => by (try simp only [setR, List.cons_append, List.nil_append]); simp [List.count_cons, Blk.ent, idOf]; try omega)⟩)
        ·
          simp at q34
          (have hf : rgE t (min (rgC t).1 41) = rgE t k := rgE_fin hc hk (by first | exact .inl (by omega) | exact .inr (.inl (by omega)) | exact .inr (.inr ‹(rgE t k).2.2 = true›)); have hn := rgI_yes hf ⟨by simp_all, by simp_all, by omega, ‹graphOk _ = true›⟩; obtain ⟨e1, e2⟩ := rg_some hn; rw [e1, e2]; exact ⟨_, ⟨_, _, rfl, oA⟩, (.le fun a => by (try simp only [setR, List.cons_append, List.nil_append]); simp [List.count_cons, Blk.ent, idOf]; try omega)⟩)

--@ct spec.ReadGraph new specReadGraph_ct _ ?_ | trivial | obtain ⟨b#, c#, rfl, o#⟩ := o#
theorem specReadGraph_ct (t : ByteArray) (ht : t.size ≤ 1152921504606846976) :
    Ct Try.prog 147 [.string t] [] (fun _ => True) (fun v A => ∃ b c, v = .tuple #[.agg ⟨[.int .i64 (rgR t).size, .slice b (rgR t).edges.length c]⟩, .bool (readGraph t).isSome] ∧ (gSl 192 gEdge).ow [.slice b (rgR t).edges.length c] (rgR t).edges A) := by
  refine Ct.intro0 G_ok Try.func147 rfl rfl rfl fun E H hp => ?_
  have hS := rgS_le t
  have hC := rgC_le t
  have hcD : (scNum t ((scNum t (0, false)).2.1, (scNum t (0, false)).2.2)).1 = (rgC t).1 := rfl
  refine VCnew.intro fun x0 => ?_
  refine VCnew.intro fun x1 => ?_
  refine callR_blk 1 ([]) [H] rfl ?_ (l03Var_ct _ _ _ _ _ rfl ?_ ?_) trivial ?_
  · exact .refl _
  · trivial
  · (simp only [inU8, u8_wrap]; omega)
  rintro _ A2 ⟨rfl, rfl⟩
  refine ⟨_, _, [], rfl, perm0, ?_⟩
  refine VCnew.intro fun x3 => ?_
  refine callR_blk 1 ([]) [H] rfl ?_ (l03Var_ct _ _ _ _ _ rfl ?_ ?_) trivial ?_
  · exact .refl _
  · trivial
  · exact hS.1
  rintro _ A4 ⟨rfl, rfl⟩
  refine ⟨_, _, [], rfl, perm0, ?_⟩
  apply loop_mod (α := (Nat) × (Hp) × (Option Addr) × (Nat)) G_ok [19, 20, 21, 22, 23, 24, 25, 26, 27, 28, 29, 30, 31, 32, 35, 36, 37, 8, 38, 39, 40, 41, 42, 43, 44, 45, 46, 47, 48, 49, 50, 33, 34, 7] (fun z => [(7, .v (.int .i64 z.1))]) (fun z => [⟨x0, [Value.int IntKind.i64 (0 : Int), Value.slice none (0 : Nat) (0 : Nat)], (58 : Nat)⟩, ⟨x1, [Value.string t, .int .i64 ((rgE t z.1).2.1 : Nat), .bool (rgE t z.1).2.2], (234 : Nat)⟩, ⟨x3, [Value.int IntKind.i64 (↑(scNum t (nat_lit 0, false)).fst : Int), .slice z.2.2.1 (rgE t z.1).1.length z.2.2.2], (58 : Nat)⟩]) (fun z => [z.2.1, H]) (fun z => 50 - z.1) (fun z => z.1 ≤ 50 ∧ z.1 ≤ (rgC t).1 ∧ (gSl 192 gEdge).ow [.slice z.2.2.1 (rgE t z.1).1.length z.2.2.2] (rgE t z.1).1 z.2.1) ((0, [], none, 0))
  · repeat' (first | exact trivial | refine ⟨⟨_, rfl, by first | rfl | exact inc_eq _ (by omega) | (refine sl_eq ?_; simp; done), by first | exact trivial | simp [SV.ok]⟩, ?_⟩)
  · exact ⟨rfl, rfl, rfl, trivial⟩
  · try dsimp only
    exact ⟨by omega, by omega, sl_nil _ _ _⟩
  · exact .refl _
  rintro ⟨k, A, lb, lc⟩ hI
  obtain ⟨hk, hc, oA⟩ : k ≤ 50 ∧ k ≤ (rgC t).1 ∧ (gSl 192 gEdge).ow [.slice lb (rgE t k).1.length lc] (rgE t k).1 A := hI
  try dsimp only
  refine VCsplit.intro (fun q5 => ?_) (fun q5 => ?_)
  ·
    simp at q5
    refine VCsplit.intro (fun q6 => ?_) (fun q6 => ?_)
    ·
      simp at q6
      refine VCsplit.intro (fun q7 => ?_) (fun q7 => ?_)
      ·
        simp at q7
        refine callR_blk 1 ([]) [A, H] rfl ?_ (l03Var_ct _ _ _ _ _ rfl ?_ ?_) trivial ?_
        · exact .refl _
        · trivial
        · exact (rgE_le t k).1
        rintro _ A8 ⟨rfl, rfl⟩
        refine ⟨_, _, [], rfl, perm0, ?_⟩
        refine VCnew.intro fun x9 => ?_
        refine callR_blk 1 ([]) [A, H] rfl ?_ (l03Byte_ct _ _ _ _ _ rfl ?_ ?_) trivial ?_
        · exact .refl _
        · trivial
        · exact (scNum_le (s := ((rgE t k).2.1, (rgE t k).2.2)) (rgE_le t k).1).1
        rintro _ A10 ⟨rfl, rfl⟩
        refine ⟨_, _, [], rfl, perm0, ?_⟩
        refine callR_blk 1 ([]) [A, H] rfl ?_ (l03Var_ct _ _ _ _ _ rfl ?_ ?_) trivial ?_
        · exact .refl _
        · trivial
        · exact scByte_le (s := ((scNum t ((rgE t k).2.1, (rgE t k).2.2)).2.1, (scNum t ((rgE t k).2.1, (rgE t k).2.2)).2.2)) (scNum_le (s := ((rgE t k).2.1, (rgE t k).2.2)) (rgE_le t k).1).1
        rintro _ A11 ⟨rfl, rfl⟩
        refine ⟨_, _, [], rfl, perm0, ?_⟩
        refine VCnew.intro fun x12 => ?_
        refine gappend1 (g := gEdge) (T := (192 : TypeId)) G_ok A _ [H] ?_ oA (scE_own2 t k) (List.mem_of_getElem? (i := 0) rfl) rfl rfl rfl rfl rfl rfl rfl rfl ?_ fun b13 c13 A13 o13 => ?_
        · exact .tl
        · (have := (rgE_le t k).2; omega)
        apply loop_stepA (k + 1, _, _, _)
        · exact .refl _
        · repeat' (first | exact trivial | refine ⟨⟨_, rfl, by first | rfl | exact inc_eq _ (by omega) | (refine sl_eq ?_; simp; done), by first | exact trivial | simp [SV.ok]⟩, ?_⟩)
        · ((rw [rgE_more ‹(rgE t k).2.2 = false›]); repeat' (first | exact trivial | refine ⟨by first | rfl | simp [Blk.ent], ?_⟩))
        · try dsimp only
          exact ⟨by omega, by omega, by (rw [rgE_more ‹(rgE t k).2.2 = false›]; assumption)⟩
        · try dsimp only
          omega
      ·
        simp at q7
        refine call_val (specGraphText_ct _ ⟨((rgS t).1 : Nat), (rgE t k).1⟩) (gGraph_rd.2 ⟨_, _, rfl, okI_n hS.2, Rp.mono _ (mem_at 0 rfl) (Gt.owrd _ oA)⟩) ?_
        rintro _ rfl
        refine VCsplit.intro (fun q15 => ?_) (fun q15 => ?_)
        ·
          (have hf : rgE t (min (rgC t).1 50) = rgE t k := rgE_fin hc hk (by first | exact .inl (by omega) | exact .inr (.inl (by omega)) | exact .inr (.inr ‹(rgE t k).2.2 = true›)); have hn := rgS_no hf (fun e => by (obtain ⟨a1, a2, a3⟩ := e; first | omega | exact absurd (a1.symm.trans ‹(rgE t k).2.2 = true›) (by decide) | exact absurd (a2.symm.trans ‹graphOk _ = false›) (by decide) | exact absurd a3 ‹_› | simp_all)); obtain ⟨e1, e2⟩ := rg_none hn; rw [e1, e2]; exact ⟨[], ⟨none, 0, rfl, sl_nil _ _ _⟩, (.le fun a => by (try simp only [setR, List.cons_append, List.nil_append]); simp [List.count_cons, Blk.ent, idOf]; try omega)⟩)
        ·
          refine VCsplit.intro (fun q16 => ?_) (fun q16 => ?_)
          ·
            simp at q16
            (have hf : rgE t (min (rgC t).1 50) = rgE t k := rgE_fin hc hk (by first | exact .inl (by omega) | exact .inr (.inl (by omega)) | exact .inr (.inr ‹(rgE t k).2.2 = true›)); have hn := rgS_no hf (fun e => by (obtain ⟨a1, a2, a3⟩ := e; first | omega | exact absurd (a1.symm.trans ‹(rgE t k).2.2 = true›) (by decide) | exact absurd (a2.symm.trans ‹graphOk _ = false›) (by decide) | exact absurd a3 ‹_› | simp_all)); obtain ⟨e1, e2⟩ := rg_none hn; rw [e1, e2]; exact ⟨[], ⟨none, 0, rfl, sl_nil _ _ _⟩, (.le fun a => by (try simp only [setR, List.cons_append, List.nil_append]); simp [List.count_cons, Blk.ent, idOf]; try omega)⟩)
          ·
            simp at q16
            refine VCsplit.intro (fun q17 => ?_) (fun q17 => ?_)
            ·
              simp at q17
              simp only [str_inj, u8_inj, u8_wrap] at q17
              (have hf : rgE t (min (rgC t).1 50) = rgE t k := rgE_fin hc hk (by first | exact .inl (by omega) | exact .inr (.inl (by omega)) | exact .inr (.inr ‹(rgE t k).2.2 = true›)); have hn := rgS_no hf (fun e => by (obtain ⟨a1, a2, a3⟩ := e; first | omega | exact absurd (a1.symm.trans ‹(rgE t k).2.2 = true›) (by decide) | exact absurd (a2.symm.trans ‹graphOk _ = false›) (by decide) | exact absurd a3 ‹_› | simp_all)); obtain ⟨e1, e2⟩ := rg_none hn; rw [e1, e2]; exact ⟨[], ⟨none, 0, rfl, sl_nil _ _ _⟩, (.le fun a => by (try simp only [setR, List.cons_append, List.nil_append]); simp [List.count_cons, Blk.ent, idOf]; try omega)⟩)
            ·
              simp at q17
              simp only [str_inj, u8_inj, u8_wrap] at q17
              (have hf : rgE t (min (rgC t).1 50) = rgE t k := rgE_fin hc hk (by first | exact .inl (by omega) | exact .inr (.inl (by omega)) | exact .inr (.inr ‹(rgE t k).2.2 = true›)); have hn := rgS_yes hf ⟨by simp_all, ‹graphOk _ = true›, by simp_all⟩; obtain ⟨e1, e2⟩ := rg_some hn; rw [e1, e2]; exact ⟨_, ⟨_, _, rfl, oA⟩, (.le fun a => by (try simp only [setR, List.cons_append, List.nil_append]); simp [List.count_cons, Blk.ent, idOf]; try omega)⟩)
    ·
      simp at q6
      refine call_val (specGraphText_ct _ ⟨((rgS t).1 : Nat), (rgE t k).1⟩) (gGraph_rd.2 ⟨_, _, rfl, okI_n hS.2, Rp.mono _ (mem_at 0 rfl) (Gt.owrd _ oA)⟩) ?_
      rintro _ rfl
      refine VCsplit.intro (fun q19 => ?_) (fun q19 => ?_)
      ·
        (have hf : rgE t (min (rgC t).1 50) = rgE t k := rgE_fin hc hk (by first | exact .inl (by omega) | exact .inr (.inl (by omega)) | exact .inr (.inr ‹(rgE t k).2.2 = true›)); have hn := rgS_no hf (fun e => by (obtain ⟨a1, a2, a3⟩ := e; first | omega | exact absurd (a1.symm.trans ‹(rgE t k).2.2 = true›) (by decide) | exact absurd (a2.symm.trans ‹graphOk _ = false›) (by decide) | exact absurd a3 ‹_› | simp_all)); obtain ⟨e1, e2⟩ := rg_none hn; rw [e1, e2]; exact ⟨[], ⟨none, 0, rfl, sl_nil _ _ _⟩, (.le fun a => by (try simp only [setR, List.cons_append, List.nil_append]); simp [List.count_cons, Blk.ent, idOf]; try omega)⟩)
      ·
        refine VCsplit.intro (fun q20 => ?_) (fun q20 => ?_)
        ·
          simp at q20
          (have hf : rgE t (min (rgC t).1 50) = rgE t k := rgE_fin hc hk (by first | exact .inl (by omega) | exact .inr (.inl (by omega)) | exact .inr (.inr ‹(rgE t k).2.2 = true›)); have hn := rgS_no hf (fun e => by (obtain ⟨a1, a2, a3⟩ := e; first | omega | exact absurd (a1.symm.trans ‹(rgE t k).2.2 = true›) (by decide) | exact absurd (a2.symm.trans ‹graphOk _ = false›) (by decide) | exact absurd a3 ‹_› | simp_all)); obtain ⟨e1, e2⟩ := rg_none hn; rw [e1, e2]; exact ⟨[], ⟨none, 0, rfl, sl_nil _ _ _⟩, (.le fun a => by (try simp only [setR, List.cons_append, List.nil_append]); simp [List.count_cons, Blk.ent, idOf]; try omega)⟩)
        ·
          simp at q20
          refine VCsplit.intro (fun q21 => ?_) (fun q21 => ?_)
          ·
            simp at q21
            simp only [str_inj, u8_inj, u8_wrap] at q21
            (have hf : rgE t (min (rgC t).1 50) = rgE t k := rgE_fin hc hk (by first | exact .inl (by omega) | exact .inr (.inl (by omega)) | exact .inr (.inr ‹(rgE t k).2.2 = true›)); have hn := rgS_no hf (fun e => by (obtain ⟨a1, a2, a3⟩ := e; first | omega | exact absurd (a1.symm.trans ‹(rgE t k).2.2 = true›) (by decide) | exact absurd (a2.symm.trans ‹graphOk _ = false›) (by decide) | exact absurd a3 ‹_› | simp_all)); obtain ⟨e1, e2⟩ := rg_none hn; rw [e1, e2]; exact ⟨[], ⟨none, 0, rfl, sl_nil _ _ _⟩, (.le fun a => by (try simp only [setR, List.cons_append, List.nil_append]); simp [List.count_cons, Blk.ent, idOf]; try omega)⟩)
          ·
            simp at q21
            simp only [str_inj, u8_inj, u8_wrap] at q21
            (have hf : rgE t (min (rgC t).1 50) = rgE t k := rgE_fin hc hk (by first | exact .inl (by omega) | exact .inr (.inl (by omega)) | exact .inr (.inr ‹(rgE t k).2.2 = true›)); have hn := rgS_yes hf ⟨by simp_all, ‹graphOk _ = true›, by simp_all⟩; obtain ⟨e1, e2⟩ := rg_some hn; rw [e1, e2]; exact ⟨_, ⟨_, _, rfl, oA⟩, (.le fun a => by (try simp only [setR, List.cons_append, List.nil_append]); simp [List.count_cons, Blk.ent, idOf]; try omega)⟩)
  ·
    simp at q5
    refine call_val (specGraphText_ct _ ⟨((rgS t).1 : Nat), (rgE t k).1⟩) (gGraph_rd.2 ⟨_, _, rfl, okI_n hS.2, Rp.mono _ (mem_at 0 rfl) (Gt.owrd _ oA)⟩) ?_
    rintro _ rfl
    refine VCsplit.intro (fun q23 => ?_) (fun q23 => ?_)
    ·
      (have hf : rgE t (min (rgC t).1 50) = rgE t k := rgE_fin hc hk (by first | exact .inl (by omega) | exact .inr (.inl (by omega)) | exact .inr (.inr ‹(rgE t k).2.2 = true›)); have hn := rgS_no hf (fun e => by (obtain ⟨a1, a2, a3⟩ := e; first | omega | exact absurd (a1.symm.trans ‹(rgE t k).2.2 = true›) (by decide) | exact absurd (a2.symm.trans ‹graphOk _ = false›) (by decide) | exact absurd a3 ‹_› | simp_all)); obtain ⟨e1, e2⟩ := rg_none hn; rw [e1, e2]; exact ⟨[], ⟨none, 0, rfl, sl_nil _ _ _⟩, (.le fun a => by (try simp only [setR, List.cons_append, List.nil_append]); simp [List.count_cons, Blk.ent, idOf]; try omega)⟩)
    ·
      refine VCsplit.intro (fun q24 => ?_) (fun q24 => ?_)
      ·
        simp at q24
        (have hf : rgE t (min (rgC t).1 50) = rgE t k := rgE_fin hc hk (by first | exact .inl (by omega) | exact .inr (.inl (by omega)) | exact .inr (.inr ‹(rgE t k).2.2 = true›)); have hn := rgS_no hf (fun e => by (obtain ⟨a1, a2, a3⟩ := e; first | omega | exact absurd (a1.symm.trans ‹(rgE t k).2.2 = true›) (by decide) | exact absurd (a2.symm.trans ‹graphOk _ = false›) (by decide) | exact absurd a3 ‹_› | simp_all)); obtain ⟨e1, e2⟩ := rg_none hn; rw [e1, e2]; exact ⟨[], ⟨none, 0, rfl, sl_nil _ _ _⟩, (.le fun a => by (try simp only [setR, List.cons_append, List.nil_append]); simp [List.count_cons, Blk.ent, idOf]; try omega)⟩)
      ·
        simp at q24
        refine VCsplit.intro (fun q25 => ?_) (fun q25 => ?_)
        ·
          simp at q25
          simp only [str_inj, u8_inj, u8_wrap] at q25
          (have hf : rgE t (min (rgC t).1 50) = rgE t k := rgE_fin hc hk (by first | exact .inl (by omega) | exact .inr (.inl (by omega)) | exact .inr (.inr ‹(rgE t k).2.2 = true›)); have hn := rgS_no hf (fun e => by (obtain ⟨a1, a2, a3⟩ := e; first | omega | exact absurd (a1.symm.trans ‹(rgE t k).2.2 = true›) (by decide) | exact absurd (a2.symm.trans ‹graphOk _ = false›) (by decide) | exact absurd a3 ‹_› | simp_all)); obtain ⟨e1, e2⟩ := rg_none hn; rw [e1, e2]; exact ⟨[], ⟨none, 0, rfl, sl_nil _ _ _⟩, (.le fun a => by (try simp only [setR, List.cons_append, List.nil_append]); simp [List.count_cons, Blk.ent, idOf]; try omega)⟩)
        ·
          simp at q25
          simp only [str_inj, u8_inj, u8_wrap] at q25
          (have hf : rgE t (min (rgC t).1 50) = rgE t k := rgE_fin hc hk (by first | exact .inl (by omega) | exact .inr (.inl (by omega)) | exact .inr (.inr ‹(rgE t k).2.2 = true›)); have hn := rgS_yes hf ⟨by simp_all, ‹graphOk _ = true›, by simp_all⟩; obtain ⟨e1, e2⟩ := rg_some hn; rw [e1, e2]; exact ⟨_, ⟨_, _, rfl, oA⟩, (.le fun a => by (try simp only [setR, List.cons_append, List.nil_append]); simp [List.count_cons, Blk.ent, idOf]; try omega)⟩)

end Go.Proofs.Ytcikookachejfaa
