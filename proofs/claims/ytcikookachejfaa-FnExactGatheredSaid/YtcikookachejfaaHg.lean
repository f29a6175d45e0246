/-
  Frames, owners, parts of graphs, graphs as texts, on both sides. Conditions: none.
-/
import Derived.Test.YtcikookachejfaaHf
import Derived.Test.YtcikookachejfaaGw
namespace Go.Proofs.Ytcikookachejfaa
open Go.SX Go.Proofs
set_option linter.unusedSimpArgs false
set_option linter.unusedVariables false
set_option maxHeartbeats 4000000
attribute [local irreducible] IntKind.wrap

def ownerOk (v n : Int) : Bool := inR 1 8 n && inR 0 11 v
def ownerOf (v n : Int) : Int := if ownerOk v n then sumOf (varText v) % n else 0
theorem ownerOf_no {v n : Int} (h : ownerOk v n = false) : ownerOf v n = 0 := by unfold ownerOf; rw [h]; rfl
theorem ownerOf_val {v n : Int} (h1 : 1 ≤ n) (h2 : n ≤ 8) (h3 : 0 ≤ v) (h4 : v ≤ 11) : Value.int .i64 (IntKind.i64.wrap ((sumOf (varText v)).tmod (IntKind.u32.wrap n))) = Value.int .i64 (ownerOf v n) := by
  have h5 := sumOf_rng (varText v)
  have h6 : IntKind.u32.wrap n = n := by rw [u32_wrap]; omega
  have h7 : 0 ≤ sumOf (varText v) % n := Int.emod_nonneg _ (by omega)
  have h8 : sumOf (varText v) % n < n := Int.emod_lt_of_pos _ (by omega)
  have h9 : ownerOk v n = true := by unfold ownerOk inR; simp; omega
  unfold ownerOf
  rw [h6, Int.tmod_eq_emod_of_nonneg h5.1, wrap_of (by omega) (by omega), h9]; rfl
def partOf (g : Graph) (w n : Int) : Graph := if graphOk g then ⟨g.size, g.edges.filter fun e => ownerOf e.from' n == w⟩ else ⟨g.size, []⟩
theorem graphOk_rng {g : Graph} (h : graphOk g = true) : 1 ≤ g.size ∧ g.size ≤ 12 ∧ g.edges.length ≤ 40 := by
  unfold graphOk inR at h
  simp at h
  omega
theorem allOk_edge {g : Graph} : ∀ {n : Nat}, allOk g n = true → ∀ k, k < n → edgeOk g k = true
  | 0, _, k, hk => by omega
  | n + 1, h, k, hk => by
    unfold allOk at h
    simp at h
    rcases Nat.lt_or_ge k n with h1 | h1
    · exact allOk_edge h.1 k h1
    · rw [show k = n by omega]; exact h.2
theorem graphOk_edge {g : Graph} (h : graphOk g = true) (k : Nat) (hk : k < g.edges.length) : edgeOk g k = true := by
  have h1 := h
  unfold graphOk at h1
  simp at h1
  exact allOk_edge h1.2.2 k hk
theorem edgeOk_rng {g : Graph} {k : Nat} (h : edgeOk g k = true) : 0 ≤ (g.edges[k]?.getD default).from' ∧ (g.edges[k]?.getD default).from' ≤ g.size - 1 ∧ 0 ≤ (g.edges[k]?.getD default).to ∧ (g.edges[k]?.getD default).to ≤ g.size - 1 := by
  unfold edgeOk at h
  simp only [Bool.and_eq_true] at h
  have h1 := inR_iff.1 h.1
  have h2 := inR_iff.1 h.2.1
  omega
theorem filter_yes {α : Type} {p : α → Bool} {xs : List α} {k : Nat} (z : α) (h : k < xs.length) (hp : p (xs[k]?.getD z) = true) : (xs.take (k + 1)).filter p = (xs.take k).filter p ++ [xs[k]?.getD z] := by
  rw [List.getElem?_eq_getElem h] at hp ⊢
  rw [← List.take_append_getElem h, List.filter_append]
  simp at hp
  simp [hp]
theorem filter_no {α : Type} {p : α → Bool} {xs : List α} {k : Nat} (z : α) (h : k < xs.length) (hp : p (xs[k]?.getD z) = false) : (xs.take (k + 1)).filter p = (xs.take k).filter p := by
  rw [List.getElem?_eq_getElem h] at hp
  rw [← List.take_append_getElem h, List.filter_append]
  simp at hp
  simp [hp]
theorem partOf_yes {g : Graph} {w n : Int} (h : graphOk g = true) : partOf g w n = ⟨g.size, g.edges.filter fun e => ownerOf e.from' n == w⟩ := by unfold partOf; rw [h]; rfl
theorem partOf_no {g : Graph} {w n : Int} (h : graphOk g = false) : partOf g w n = ⟨g.size, []⟩ := by unfold partOf; rw [h]; rfl
def edgeText (e : Edge) : List UInt8 := varT e.from' ++ ([e.label] ++ varT e.to)
def graphBytes (g : Graph) : List UInt8 := varT g.size ++ (varT g.edges.length ++ g.edges.flatMap edgeText)
def graphText (g : Graph) : ByteArray := tx (graphBytes g)
theorem by_var (n : Int) : (varText n).data.toList = varT n := by_tx _
theorem gt_step {g : Graph} {k : Nat} (h : k < g.edges.length) : (g.edges.take (k + 1)).flatMap edgeText = (g.edges.take k).flatMap edgeText ++ edgeText (g.edges[k]?.getD default) := by
  rw [← List.take_append_getElem h, List.flatMap_append, List.getElem?_eq_getElem h]; simp
theorem lbl_tx (x : UInt8) : (⟨(([(x.toNat : Int)] : List Int).map fun v => UInt8.ofNat v.toNat).toArray⟩ : ByteArray) = tx [x] := by
  unfold tx; simp
theorem gt_s {g : Graph} {k : Nat} {s : ByteArray} {P Q : List UInt8} (h : k < g.edges.length) (ho : s = tx (P ++ (Q ++ (g.edges.take k).flatMap edgeText))) :
    s ++ varText (g.edges[k]?.getD default).from' ++ ⟨(([((g.edges[k]?.getD default).label.toNat : Int)] : List Int).map fun v => UInt8.ofNat v.toNat).toArray⟩ ++ varText (g.edges[k]?.getD default).to = tx (P ++ (Q ++ (g.edges.take (k + 1)).flatMap edgeText)) := by
  rw [lbl_tx, gt_step h, ho]
  unfold edgeText varText
  simp only [tx_app, ByteArray.append_assoc]
--@ct spec.GraphText val specGraphText_ct _ $1 | %1
theorem specGraphText_ct (l : List Value) (g : Graph) : Ct Try.prog 209 [.agg ⟨l⟩] [] (fun H => gGraph.rd H l g) (fun v A => v = .tuple #[.string (if graphOk g then graphText g else .empty), .bool (graphOk g)] ∧ A = []) := by
  refine Ct.intro0 G_ok Try.func209 rfl rfl rfl fun E H hp => ?_
  obtain ⟨b1, c1, rfl, w0, h1⟩ := gGraph_rd.1 hp
  refine VCnew.intro fun x0 => ?_
  refine call_val (specGraphOk_ct _ (g)) (Rp.mono _ (mem_at 0 rfl) hp) ?_
  rintro _ rfl
  refine VCsplit.intro (fun q2 => ?_) (fun q2 => ?_)
  ·
    simp at q2
    exact ⟨[], ⟨by rw [show graphOk g = false by assumption]; rfl, rfl⟩, (.le fun a => by (try simp only [setR, List.cons_append, List.nil_append]); simp only [List.flatten_append, List.flatten_cons, List.flatten_nil, List.count_append, List.count_nil, List.append_nil, List.nil_append]; omega)⟩
  ·
    simp at q2
    have iq2 := graphOk_rng q2
    refine draw G_ok mixed none (.q 0 (.q 1 (.q 3 (.q 4 (.q 5 (.f 2 (.f 6 (.q 7 (.q 8 (.nil)))))))))) (by decide +kernel) ?_
    refine call_val (l01Var_ct _ ?_ ?_) trivial ?_
    · omega
    · omega
    rintro _ rfl
    refine VC.intro ?_ ?_
    · exact fun _ h => h
    refine call_val (l01Var_ct _ ?_ ?_) trivial ?_
    · omega
    · omega
    rintro _ rfl
    refine VC.intro ?_ ?_
    · exact fun _ h => h
    refine VC.intro ?_ ?_
    · (have := varText_size g.size; have := varText_size g.edges.length; have : IntKind.i64.max = 9223372036854775807 := rfl; omega)
    apply loop_mod (α := (Nat) × (ByteArray)) G_ok [17, 18, 19, 20, 21, 24, 25, 26, 27, 28, 29, 30, 31, 32, 33, 34, 35, 36, 37, 38, 39, 40, 41, 42, 43, 44, 45, 46, 47, 48, 49, 4, 22, 23, 5] (fun z => [(5, .v (.int .i64 z.1)), (4, .v (.string z.2))]) (fun z => [{ id := x0, cs := [Value.int IntKind.i64 g.size, Value.slice b1 g.edges.length c1], ty := (58 : Nat) }]) (fun z => [H]) (fun z => g.edges.length - z.1) (fun z => z.1 ≤ g.edges.length ∧ z.2 = tx (varT g.size ++ (varT g.edges.length ++ (g.edges.take z.1).flatMap edgeText)) ∧ z.2.size ≤ 20 + 21 * z.1) ((0, _))
    · repeat' (first | exact trivial | refine ⟨⟨_, rfl, by first | rfl | exact inc_eq _ (by omega) | (refine sl_eq ?_; simp; done), by first | exact trivial | simp [SV.ok]⟩, ?_⟩)
    · exact ⟨rfl, trivial⟩
    · try dsimp only
      exact ⟨by omega, by simp [tx_app, varText], by have := varText_size g.size; have := varText_size g.edges.length; rw [ByteArray.size_append]; omega⟩
    · exact .refl _
    rintro ⟨k, s⟩ hI
    obtain ⟨hk, ho, hol⟩ : k ≤ g.edges.length ∧ s = tx (varT g.size ++ (varT g.edges.length ++ (g.edges.take k).flatMap edgeText)) ∧ s.size ≤ 20 + 21 * k := hI
    try dsimp only
    refine VCsplit.intro (fun q5 => ?_) (fun q5 => ?_)
    ·
      simp at q5
      have he := edgeOk_rng (graphOk_edge ‹_› k (by omega))
      have h5 := varText_size (g.edges[k]?.getD default).from'
      have h6 := varText_size (g.edges[k]?.getD default).to
      have h7 : IntKind.i64.max = 9223372036854775807 := rfl
      refine draw G_ok mixed none (.q 0 (.q 1 (.q 2 (.q 3 (.q 4 (.q 5 (.q 6 (.q 9 (.q 10 (.q 11 (.q 12 (.q 13 (.q 14 (.q 18 (.q 19 (.q 20 (.q 21 (.q 22 (.q 23 (.hd (.alt 7 (.q 8 (.hd (.alt 15 (.hd (.alt 16 (.q 17 (.f 24 (.q 25 (.q 26 (.nil))))) (.alt 24 (.f 16 (.q 17 (.q 25 (.q 26 (.nil))))) (.nil)))) (.alt 24 (.f 15 (.f 16 (.q 17 (.q 25 (.q 26 (.nil)))))) (.nil))))) (.alt 15 (.hd (.alt 7 (.q 8 (.hd (.alt 16 (.q 17 (.f 24 (.q 25 (.q 26 (.nil))))) (.alt 24 (.f 16 (.q 17 (.q 25 (.q 26 (.nil))))) (.nil))))) (.alt 16 (.f 7 (.q 8 (.q 17 (.f 24 (.q 25 (.q 26 (.nil))))))) (.nil)))) (.nil))))))))))))))))))))))) (by decide +kernel) ?_
      refine idx_rd h1 ?_ ?_ fun b6 o6 hb6 => ?_
      · omega
      · omega
      refine load_partN default (k) 0 rfl h1 ?_ ?_ hb6 rfl (by decide) (mem_at 0 rfl) fun l7 hl7 => ?_
      · omega
      · omega
      obtain ⟨rfl, w0x7, w2x7⟩ := gEdge_rd.1 hl7
      refine idx_rd h1 ?_ ?_ fun b8 o8 hb8 => ?_
      · omega
      · omega
      refine load_partN default (k) 1 rfl h1 ?_ ?_ hb8 rfl (by decide) (mem_at 0 rfl) fun l9 hl9 => ?_
      · omega
      · omega
      obtain ⟨rfl, w0x9, w2x9⟩ := gEdge_rd.1 hl9
      refine idx_rd h1 ?_ ?_ fun b10 o10 hb10 => ?_
      · omega
      · omega
      refine load_partN default (k) 2 rfl h1 ?_ ?_ hb10 rfl (by decide) (mem_at 0 rfl) fun l11 hl11 => ?_
      · omega
      · omega
      obtain ⟨rfl, w0x11, w2x11⟩ := gEdge_rd.1 hl11
      refine VC.intro ?_ ?_
      ·
        refine call_val (l01Var_ct _ ?_ ?_) trivial ?_
        · omega
        · omega
        rintro _ rfl
        refine VC.intro ?_ ?_
        · exact fun _ h => h
        refine VC.intro ?_ ?_
        · omega
        refine VC.intro ?_ ?_
        ·
          refine VCnew.intro fun x13 => ?_
          refine VC.intro ?_ ?_
          · exact keep_new
          refine VC.intro ?_ ?_
          ·
            refine conv_bs G_ok (([(↑(g.edges[k]?.getD default).label.toNat : Int)] : List Int).map fun v => UInt8.ofNat v.toNat) rfl (lit_bs [(↑(g.edges[k]?.getD default).label.toNat : Int)] (mem_at 0 rfl _ (List.mem_singleton.2 rfl)) rfl ?_ (by simp)) rfl rfl rfl ?_
            · exact inU8_1 _
            refine VC.intro ?_ ?_
            · exact keep_new
            refine VC.intro ?_ ?_
            · (simp only [ByteArray.size_append, bsz, List.length_map, List.length_cons, List.length_nil]; omega)
            refine call_val (l01Var_ct _ ?_ ?_) trivial ?_
            · omega
            · omega
            rintro _ rfl
            refine VC.intro ?_ ?_
            · exact keep_new
            refine VC.intro ?_ ?_
            · (simp only [ByteArray.size_append, bsz, List.length_map, List.length_cons, List.length_nil]; omega)
            apply loop_stepA (k + 1, _)
            · exact .sub (by repeat (first | exact .slnil | apply List.Sublist.cons_cons | apply List.Sublist.cons))
            · repeat' (first | exact trivial | refine ⟨⟨_, rfl, by first | rfl | exact inc_eq _ (by omega) | (refine sl_eq ?_; simp; done), by first | exact trivial | simp [SV.ok]⟩, ?_⟩)
            · exact ⟨rfl, trivial⟩
            · try dsimp only
              exact ⟨by omega, gt_s (by omega) ho, by simp only [ByteArray.size_append, bsz, List.length_map, List.length_cons, List.length_nil]; omega⟩
            · try dsimp only
              omega
          ·
            refine VC.intro ?_ ?_
            ·
              refine call_val (l01Var_ct _ ?_ ?_) trivial ?_
              · omega
              · omega
              rintro _ rfl
              refine VC.intro ?_ ?_
              · exact keep_new
              refine conv_bs G_ok (([(↑(g.edges[k]?.getD default).label.toNat : Int)] : List Int).map fun v => UInt8.ofNat v.toNat) rfl (lit_bs [(↑(g.edges[k]?.getD default).label.toNat : Int)] (mem_at 0 rfl _ (List.mem_singleton.2 rfl)) rfl ?_ (by simp)) rfl rfl rfl ?_
              · exact inU8_1 _
              refine VC.intro ?_ ?_
              · exact keep_new
              refine VC.intro ?_ ?_
              · (simp only [ByteArray.size_append, bsz, List.length_map, List.length_cons, List.length_nil]; omega)
              refine VC.intro ?_ ?_
              · (simp only [ByteArray.size_append, bsz, List.length_map, List.length_cons, List.length_nil]; omega)
              apply loop_stepA (k + 1, _)
              · exact .sub (by repeat (first | exact .slnil | apply List.Sublist.cons_cons | apply List.Sublist.cons))
              · repeat' (first | exact trivial | refine ⟨⟨_, rfl, by first | rfl | exact inc_eq _ (by omega) | (refine sl_eq ?_; simp; done), by first | exact trivial | simp [SV.ok]⟩, ?_⟩)
              · exact ⟨rfl, trivial⟩
              · try dsimp only
                exact ⟨by omega, gt_s (by omega) ho, by simp only [ByteArray.size_append, bsz, List.length_map, List.length_cons, List.length_nil]; omega⟩
              · try dsimp only
                omega
            ·
              exact trivial
        ·
          refine VC.intro ?_ ?_
          ·
            refine call_val (l01Var_ct _ ?_ ?_) trivial ?_
            · omega
            · omega
            rintro _ rfl
            refine VC.intro ?_ ?_
            · exact fun _ h => h
            refine VCnew.intro fun x17 => ?_
            refine VC.intro ?_ ?_
            · exact keep_new
            refine conv_bs G_ok (([(↑(g.edges[k]?.getD default).label.toNat : Int)] : List Int).map fun v => UInt8.ofNat v.toNat) rfl (lit_bs [(↑(g.edges[k]?.getD default).label.toNat : Int)] (mem_at 0 rfl _ (List.mem_singleton.2 rfl)) rfl ?_ (by simp)) rfl rfl rfl ?_
            · exact inU8_1 _
            refine VC.intro ?_ ?_
            · exact keep_new
            refine VC.intro ?_ ?_
            · (simp only [ByteArray.size_append, bsz, List.length_map, List.length_cons, List.length_nil]; omega)
            refine VC.intro ?_ ?_
            · (simp only [ByteArray.size_append, bsz, List.length_map, List.length_cons, List.length_nil]; omega)
            apply loop_stepA (k + 1, _)
            · exact .sub (by repeat (first | exact .slnil | apply List.Sublist.cons_cons | apply List.Sublist.cons))
            · repeat' (first | exact trivial | refine ⟨⟨_, rfl, by first | rfl | exact inc_eq _ (by omega) | (refine sl_eq ?_; simp; done), by first | exact trivial | simp [SV.ok]⟩, ?_⟩)
            · exact ⟨rfl, trivial⟩
            · try dsimp only
              exact ⟨by omega, gt_s (by omega) ho, by simp only [ByteArray.size_append, bsz, List.length_map, List.length_cons, List.length_nil]; omega⟩
            · try dsimp only
              omega
          ·
            exact trivial
      ·
        refine VC.intro ?_ ?_
        ·
          refine VCnew.intro fun x18 => ?_
          refine VC.intro ?_ ?_
          · exact keep_new
          refine VC.intro ?_ ?_
          ·
            refine call_val (l01Var_ct _ ?_ ?_) trivial ?_
            · omega
            · omega
            rintro _ rfl
            refine VC.intro ?_ ?_
            · exact keep_new
            refine VC.intro ?_ ?_
            · omega
            refine VC.intro ?_ ?_
            ·
              refine conv_bs G_ok (([(↑(g.edges[k]?.getD default).label.toNat : Int)] : List Int).map fun v => UInt8.ofNat v.toNat) rfl (lit_bs [(↑(g.edges[k]?.getD default).label.toNat : Int)] (mem_at 0 rfl _ (List.mem_singleton.2 rfl)) rfl ?_ (by simp)) rfl rfl rfl ?_
              · exact inU8_1 _
              refine VC.intro ?_ ?_
              · exact keep_new
              refine VC.intro ?_ ?_
              · (simp only [ByteArray.size_append, bsz, List.length_map, List.length_cons, List.length_nil]; omega)
              refine call_val (l01Var_ct _ ?_ ?_) trivial ?_
              · omega
              · omega
              rintro _ rfl
              refine VC.intro ?_ ?_
              · exact keep_new
              refine VC.intro ?_ ?_
              · (simp only [ByteArray.size_append, bsz, List.length_map, List.length_cons, List.length_nil]; omega)
              apply loop_stepA (k + 1, _)
              · exact .sub (by repeat (first | exact .slnil | apply List.Sublist.cons_cons | apply List.Sublist.cons))
              · repeat' (first | exact trivial | refine ⟨⟨_, rfl, by first | rfl | exact inc_eq _ (by omega) | (refine sl_eq ?_; simp; done), by first | exact trivial | simp [SV.ok]⟩, ?_⟩)
              · exact ⟨rfl, trivial⟩
              · try dsimp only
                exact ⟨by omega, gt_s (by omega) ho, by simp only [ByteArray.size_append, bsz, List.length_map, List.length_cons, List.length_nil]; omega⟩
              · try dsimp only
                omega
            ·
              refine VC.intro ?_ ?_
              ·
                refine call_val (l01Var_ct _ ?_ ?_) trivial ?_
                · omega
                · omega
                rintro _ rfl
                refine VC.intro ?_ ?_
                · exact keep_new
                refine conv_bs G_ok (([(↑(g.edges[k]?.getD default).label.toNat : Int)] : List Int).map fun v => UInt8.ofNat v.toNat) rfl (lit_bs [(↑(g.edges[k]?.getD default).label.toNat : Int)] (mem_at 0 rfl _ (List.mem_singleton.2 rfl)) rfl ?_ (by simp)) rfl rfl rfl ?_
                · exact inU8_1 _
                refine VC.intro ?_ ?_
                · exact keep_new
                refine VC.intro ?_ ?_
                · (simp only [ByteArray.size_append, bsz, List.length_map, List.length_cons, List.length_nil]; omega)
                refine VC.intro ?_ ?_
                · (simp only [ByteArray.size_append, bsz, List.length_map, List.length_cons, List.length_nil]; omega)
                apply loop_stepA (k + 1, _)
                · exact .sub (by repeat (first | exact .slnil | apply List.Sublist.cons_cons | apply List.Sublist.cons))
                · repeat' (first | exact trivial | refine ⟨⟨_, rfl, by first | rfl | exact inc_eq _ (by omega) | (refine sl_eq ?_; simp; done), by first | exact trivial | simp [SV.ok]⟩, ?_⟩)
                · exact ⟨rfl, trivial⟩
                · try dsimp only
                  exact ⟨by omega, gt_s (by omega) ho, by simp only [ByteArray.size_append, bsz, List.length_map, List.length_cons, List.length_nil]; omega⟩
                · try dsimp only
                  omega
              ·
                exact trivial
          ·
            refine VC.intro ?_ ?_
            ·
              refine conv_bs G_ok (([(↑(g.edges[k]?.getD default).label.toNat : Int)] : List Int).map fun v => UInt8.ofNat v.toNat) rfl (lit_bs [(↑(g.edges[k]?.getD default).label.toNat : Int)] (mem_at 0 rfl _ (List.mem_singleton.2 rfl)) rfl ?_ (by simp)) rfl rfl rfl ?_
              · exact inU8_1 _
              refine VC.intro ?_ ?_
              · exact keep_new
              refine call_val (l01Var_ct _ ?_ ?_) trivial ?_
              · omega
              · omega
              rintro _ rfl
              refine VC.intro ?_ ?_
              · exact keep_new
              refine VC.intro ?_ ?_
              · omega
              refine VC.intro ?_ ?_
              · (simp only [ByteArray.size_append, bsz, List.length_map, List.length_cons, List.length_nil]; omega)
              refine call_val (l01Var_ct _ ?_ ?_) trivial ?_
              · omega
              · omega
              rintro _ rfl
              refine VC.intro ?_ ?_
              · exact keep_new
              refine VC.intro ?_ ?_
              · (simp only [ByteArray.size_append, bsz, List.length_map, List.length_cons, List.length_nil]; omega)
              apply loop_stepA (k + 1, _)
              · exact .sub (by repeat (first | exact .slnil | apply List.Sublist.cons_cons | apply List.Sublist.cons))
              · repeat' (first | exact trivial | refine ⟨⟨_, rfl, by first | rfl | exact inc_eq _ (by omega) | (refine sl_eq ?_; simp; done), by first | exact trivial | simp [SV.ok]⟩, ?_⟩)
              · exact ⟨rfl, trivial⟩
              · try dsimp only
                exact ⟨by omega, gt_s (by omega) ho, by simp only [ByteArray.size_append, bsz, List.length_map, List.length_cons, List.length_nil]; omega⟩
              · try dsimp only
                omega
            ·
              exact trivial
        ·
          exact trivial
    ·
      simp at q5
      obtain rfl : k = g.edges.length := by omega
      rw [List.take_length] at ho
      exact ⟨[], ⟨by rw [show graphOk g = true by assumption, ho]; rfl, rfl⟩, (.le fun a => by (try simp only [setR, List.cons_append, List.nil_append]); simp only [List.flatten_append, List.flatten_cons, List.flatten_nil, List.count_append, List.count_nil, List.append_nil, List.nil_append]; omega)⟩
end Go.Proofs.Ytcikookachejfaa
