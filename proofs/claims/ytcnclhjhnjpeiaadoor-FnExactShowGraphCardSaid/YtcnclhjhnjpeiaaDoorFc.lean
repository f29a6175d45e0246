/-
  Graphs shown, on both sides. Conditions: none.
-/
import Derived.Test.YtcnclhjhnjpeiaaDoorFb
import Derived.Test.YtcnclhjhnjpeiaaDoorHf
import Derived.Test.YtcnclhjhnjpeiaaDoorGw
namespace Go.Proofs.YtcnclhjhnjpeiaaDoor
open Go.SX Go.Proofs
set_option linter.unusedSimpArgs false
set_option linter.unusedVariables false
set_option maxHeartbeats 4000000
attribute [local irreducible] IntKind.wrap

theorem sgOk_rng {g : Graph} (h : graphOk g = true) : 1 ≤ g.size ∧ g.size ≤ 12 ∧ g.edges.length ≤ 40 := by
  unfold graphOk inR at h
  simp at h
  omega
theorem sallOk_edge {g : Graph} : ∀ {n : Nat}, allOk g n = true → ∀ k, k < n → edgeOk g k = true
  | 0, _, k, hk => by omega
  | n + 1, h, k, hk => by
    unfold allOk at h
    simp at h
    rcases Nat.lt_or_ge k n with h1 | h1
    · exact sallOk_edge h.1 k h1
    · rw [show k = n by omega]; exact h.2
theorem sgOk_edge {g : Graph} (h : graphOk g = true) (k : Nat) (hk : k < g.edges.length) : edgeOk g k = true := by
  have h1 := h
  unfold graphOk at h1
  simp at h1
  exact sallOk_edge h1.2.2 k hk
theorem sedge_rng {g : Graph} {k : Nat} (h : edgeOk g k = true) : 0 ≤ (g.edges[k]?.getD default).from' ∧ (g.edges[k]?.getD default).from' ≤ g.size - 1 ∧ 0 ≤ (g.edges[k]?.getD default).to ∧ (g.edges[k]?.getD default).to ≤ g.size - 1 := by
  unfold edgeOk at h
  simp only [Bool.and_eq_true] at h
  have h1 := inR_iff.1 h.1
  have h2 := inR_iff.1 h.2.1
  omega
def edgeS (e : Edge) : List UInt8 := [101, 100, 103, 101, 32] ++ (dcT e.from' ++ ([32, e.label, 32] ++ (dcT e.to ++ [10])))
def headS (g : Graph) : List UInt8 := [118, 101, 114, 116, 115, 32] ++ (dcT g.size ++ [10])
def showG (g : Graph) : List UInt8 := headS g ++ g.edges.flatMap edgeS
def showT (g : Graph) : ByteArray := if graphOk g then tx (showG g) else .empty
theorem showT_no {g : Graph} (h : graphOk g = false) : showT g = .empty := by unfold showT; rw [h]; rfl
theorem showT_yes {g : Graph} (h : graphOk g = true) : showT g = tx (showG g) := by unfold showT; rw [h]; rfl
theorem edgeS_len {e : Edge} {n : Int} (hn : n ≤ 12) (h1 : 0 ≤ e.from' ∧ e.from' < n) (h2 : 0 ≤ e.to ∧ e.to < n) : (edgeS e).length ≤ 13 := by
  have h3 := dcT_len (n := e.from') (by omega)
  have h4 := dcT_len (n := e.to) (by omega)
  unfold edgeS
  simp only [List.length_append, List.length_cons, List.length_nil]
  omega
theorem headS_len {g : Graph} (h : 0 ≤ g.size ∧ g.size ≤ 12) : (headS g).length ≤ 9 := by
  have h3 := dcT_len h
  unfold headS
  simp only [List.length_append, List.length_cons, List.length_nil]
  omega
theorem es_step {g : Graph} {k : Nat} (h : k < g.edges.length) : (g.edges.take (k + 1)).flatMap edgeS = (g.edges.take k).flatMap edgeS ++ edgeS (g.edges[k]?.getD default) := by
  rw [← List.take_append_getElem h, List.flatMap_append, List.getElem?_eq_getElem h]; simp
theorem lbl_tx9 (x : UInt8) : (⟨(([(x.toNat : Int)] : List Int).map fun v => UInt8.ofNat v.toNat).toArray⟩ : ByteArray) = tx [x] := by
  unfold tx; simp
theorem tx_list (l : List UInt8) : (tx l).data.toList = l := by_tx l
theorem head_tx (g : Graph) : (⟨#[118, 101, 114, 116, 115, 32]⟩ : ByteArray) ++ tx (dcT g.size) ++ ⟨#[10]⟩ = tx (headS g) := by
  rw [show (⟨#[118, 101, 114, 116, 115, 32]⟩ : ByteArray) = tx [118, 101, 114, 116, 115, 32] from rfl, show (⟨#[10]⟩ : ByteArray) = tx [10] from rfl, ← tx_app, ← tx_app, List.append_assoc]; rfl
theorem edge_tx (e : Edge) : (⟨#[101, 100, 103, 101, 32]⟩ : ByteArray) ++ tx (dcT e.from') ++ ⟨#[32]⟩ ++ ⟨(([(e.label.toNat : Int)] : List Int).map fun v => UInt8.ofNat v.toNat).toArray⟩ ++ ⟨#[32]⟩ ++ tx (dcT e.to) ++ ⟨#[10]⟩ = tx (edgeS e) := by
  rw [lbl_tx9, show (⟨#[101, 100, 103, 101, 32]⟩ : ByteArray) = tx [101, 100, 103, 101, 32] from rfl, show (⟨#[32]⟩ : ByteArray) = tx [32] from rfl, show (⟨#[10]⟩ : ByteArray) = tx [10] from rfl]
  simp only [← tx_app]
  unfold edgeS
  simp only [List.append_assoc]; rfl
theorem edge_tx2 (s : ByteArray) (e : Edge) : s ++ ⟨#[101, 100, 103, 101, 32]⟩ ++ tx (dcT e.from') ++ ⟨#[32]⟩ ++ ⟨(([(e.label.toNat : Int)] : List Int).map fun v => UInt8.ofNat v.toNat).toArray⟩ ++ ⟨#[32]⟩ ++ tx (dcT e.to) ++ ⟨#[10]⟩ = s ++ tx (edgeS e) := by
  rw [← edge_tx]
  simp only [ByteArray.append_assoc]
theorem head_zero (g : Graph) : headS g = headS g ++ (g.edges.take 0).flatMap edgeS := by rw [List.take_zero]; simp
--@ct impl.ShowGraph val implShowGraph_ct _ $1 | %1
theorem implShowGraph_ct (l : List Value) (g : Graph) : Ct Tryd.prog 9 [.agg ⟨l⟩] [] (fun H => gGraph.rd H l g) (fun v A => v = .string (showT g) ∧ A = []) := by
  refine Ct.intro0 G_ok Tryd.func9 rfl rfl rfl fun E H hp => ?_
  obtain ⟨b1, c1, rfl, w0, h1⟩ := gGraph_rd.1 hp
  refine VCnew.intro fun x0 => ?_
  refine call_val (implGraphOk_ct _ (g)) (Rp.mono _ (mem_at 0 rfl) hp) ?_
  rintro _ rfl
  refine VCsplit.intro (fun q2 => ?_) (fun q2 => ?_)
  ·
    simp at q2
    exact ⟨[], ⟨by rw [showT_no (by assumption)]; rfl, rfl⟩, (.le fun a => by (try simp only [setR, List.cons_append, List.nil_append]); simp [List.count_cons, Blk.ent, idOf]; try omega)⟩
  ·
    simp at q2
    (have iq2 := sgOk_rng q2; have id2 := dcT_len (n := g.size) (by omega); have im2 : IntKind.i64.max = 9223372036854775807 := rfl)
    refine VCnew.intro fun x3 => ?_
    refine call_val (decimal12_ct _ ?_) trivial ?_
    · omega
    rintro _ rfl
    refine VC.intro ?_ ?_
    · (simp only [ByteArray.size_append, tx, bsz, List.length_map, List.length_cons, List.length_nil]; omega)
    refine VC.intro ?_ ?_
    · (simp only [ByteArray.size_append, tx, bsz, List.length_map, List.length_cons, List.length_nil]; omega)
    refine callR_blk 1 ([]) [H] rfl ?_ (WriteString_ct _ _ _ _ _ _ _ _ (by first | exact .inl rfl | exact .inr rfl | assumption) (sl_nil _ _ _) (.inl ⟨rfl, rfl⟩) ?_) trivial ?_
    · exact .refl _
    · (simp only [ByteArray.size_append, tx, bsz, List.length_map, List.length_cons, List.length_nil]; omega)
    rintro _ A5 ⟨rfl, bb5, bc5, B5, rfl, o5, z5⟩
    refine ⟨_, _, [B5], rfl, perm1, ?_⟩
    apply loop_mod (α := (Nat) × (List UInt8) × (Hp) × (Option Addr) × (Nat)) G_ok [19, 20, 21, 5, 22, 23, 24, 25, 26, 27, 28, 29, 30, 31, 32, 33, 34, 35, 36, 37, 38, 39, 18] (fun z => [(18, .v (.int .i64 z.1))]) (fun z => [⟨x0, [Value.int IntKind.i64 g.size, Value.slice b1 g.edges.length c1], (29 : Nat)⟩, ⟨x3, [.pointer (some ⟨x3, 0, none⟩), .slice z.2.2.2.1 z.2.1.length z.2.2.2.2], 49⟩]) (fun z => [z.2.2.1, H]) (fun z => g.edges.length - z.1) (fun z => z.1 ≤ g.edges.length ∧ z.2.1 = headS g ++ (g.edges.take z.1).flatMap edgeS ∧ z.2.1.length ≤ 9 + 13 * z.1 ∧ (gSl 5 gY).ow [.slice z.2.2.2.1 z.2.1.length z.2.2.2.2] z.2.1 z.2.2.1 ∧ Bz z.2.2.2.1 z.2.2.2.2) ((0, _, _, _, _))
    · repeat' (first | exact trivial | refine ⟨⟨_, rfl, by first | rfl | exact inc_eq _ (by omega) | (refine sl_eq ?_; simp; done), by first | exact trivial | simp [SV.ok]⟩, ?_⟩)
    · exact ⟨rfl, rfl, trivial⟩
    · try dsimp only
      exact ⟨by omega, by rw [head_tx, tx_list, List.nil_append]; exact head_zero g, by rw [head_tx, tx_list, List.nil_append]; have := headS_len (g := g) (by omega); omega, ‹_›, ‹_›⟩
    · exact .refl _
    rintro ⟨k, o, A, b, c⟩ hI
    obtain ⟨hk, ho, hol, oA, zA⟩ : k ≤ g.edges.length ∧ o = headS g ++ (g.edges.take k).flatMap edgeS ∧ o.length ≤ 9 + 13 * k ∧ (gSl 5 gY).ow [.slice b o.length c] o A ∧ Bz b c := hI
    try dsimp only
    refine VCsplit.intro (fun q6 => ?_) (fun q6 => ?_)
    ·
      simp at q6
      have he := sedge_rng (sgOk_edge ‹_› k (by omega))
      have h5 := dcT_len (n := (g.edges[k]?.getD default).from') (by omega)
      have h6 := dcT_len (n := (g.edges[k]?.getD default).to) (by omega)
      have hel := edgeS_len (e := g.edges[k]?.getD default) (n := g.size) (by omega) (by omega) (by omega)
      refine idx_rd h1 ?_ ?_ fun b7 o7 hb7 => ?_
      · omega
      · omega
      refine load_allN default (k) rfl h1 ?_ ?_ hb7 rfl (mem_at 1 rfl) fun l8 hl8 => ?_
      · omega
      · omega
      obtain ⟨rfl, w0x8, w2x8⟩ := gEdge_rd.1 hl8
      refine VCnew.intro fun x9 => ?_
      refine draw G_ok mixed (some 16) (.q 0 (.q 1 (.q 5 (.q 6 (.q 11 (.q 12 (.hd (.alt 2 (.q 3 (.q 4 (.hd (.alt 7 (.hd (.alt 8 (.q 9 (.q 10 (.f 13 (.q 14 (.q 15 (.tl 16 (.nil))))))) (.alt 13 (.f 8 (.q 9 (.q 10 (.q 14 (.q 15 (.tl 16 (.nil))))))) (.nil)))) (.alt 13 (.f 7 (.f 8 (.q 9 (.q 10 (.q 14 (.q 15 (.tl 16 (.nil)))))))) (.nil)))))) (.alt 7 (.hd (.alt 2 (.q 3 (.q 4 (.hd (.alt 8 (.q 9 (.q 10 (.f 13 (.q 14 (.q 15 (.tl 16 (.nil))))))) (.alt 13 (.f 8 (.q 9 (.q 10 (.q 14 (.q 15 (.tl 16 (.nil))))))) (.nil)))))) (.alt 8 (.f 2 (.q 3 (.q 4 (.q 9 (.q 10 (.f 13 (.q 14 (.q 15 (.tl 16 (.nil)))))))))) (.nil)))) (.nil)))))))))) (by decide +kernel) ?_
      refine VC.intro ?_ ?_
      ·
        refine call_val (decimal12_ct _ ?_) trivial ?_
        · omega
        rintro _ rfl
        refine VC.intro ?_ ?_
        · exact fun _ h => h
        refine VC.intro ?_ ?_
        · (simp only [ByteArray.size_append, tx, bsz, List.length_map, List.length_cons, List.length_nil]; omega)
        refine VC.intro ?_ ?_
        · (simp only [ByteArray.size_append, tx, bsz, List.length_map, List.length_cons, List.length_nil]; omega)
        refine VC.intro ?_ ?_
        ·
          refine VCnew.intro fun x11 => ?_
          refine VC.intro ?_ ?_
          · exact keep_new
          refine VC.intro ?_ ?_
          ·
            refine conv_bs G_ok (([(↑(g.edges[k]?.getD default).label.toNat : Int)] : List Int).map fun v => UInt8.ofNat v.toNat) rfl (lit_bs [(↑(g.edges[k]?.getD default).label.toNat : Int)] (mem_at 0 rfl _ (List.mem_singleton.2 rfl)) rfl ?_ (by simp)) rfl rfl rfl ?_
            · exact inU8_1 _
            refine VC.intro ?_ ?_
            · exact keep_new
            refine VC.intro ?_ ?_
            · (simp only [ByteArray.size_append, tx, bsz, List.length_map, List.length_cons, List.length_nil]; omega)
            refine VC.intro ?_ ?_
            · (simp only [ByteArray.size_append, tx, bsz, List.length_map, List.length_cons, List.length_nil]; omega)
            refine call_val (decimal12_ct _ ?_) trivial ?_
            · omega
            rintro _ rfl
            refine VC.intro ?_ ?_
            · exact keep_new
            refine VC.intro ?_ ?_
            · (simp only [ByteArray.size_append, tx, bsz, List.length_map, List.length_cons, List.length_nil]; omega)
            refine VC.intro ?_ ?_
            · (simp only [ByteArray.size_append, tx, bsz, List.length_map, List.length_cons, List.length_nil]; omega)
            refine callR_blk 1 (A) [[(x11, Obj.cells { toList := Value.int IntKind.u8 (↑(g.edges[k]?.getD default).label.toNat : Int) :: [].append (zeros (nat_lit 0) [Value.int IntKind.u8 (0 : Int)]) } (5 : TypeId))], H] rfl ?_ (WriteString_ct _ _ _ _ _ _ _ _ (by first | exact .inl rfl | exact .inr rfl | assumption) oA zA ?_) trivial ?_
            · exact .le fun a => by (try simp only [setR, List.cons_append, List.nil_append]); simp only [List.flatten_append, List.flatten_cons, List.flatten_nil, List.count_append, List.count_nil, List.append_nil, List.nil_append]; omega
            · (simp only [ByteArray.size_append, tx, bsz, List.length_map, List.length_cons, List.length_nil]; omega)
            rintro _ A13 ⟨rfl, bb13, bc13, B13, rfl, o13, z13⟩
            refine ⟨_, _, [B13], rfl, perm1, ?_⟩
            apply loop_stepA (k + 1, _, _, _, _)
            · exact .sub (by repeat (first | exact .slnil | apply List.Sublist.cons_cons | apply List.Sublist.cons))
            · repeat' (first | exact trivial | refine ⟨⟨_, rfl, by first | rfl | exact inc_eq _ (by omega) | (refine sl_eq ?_; simp; done), by first | exact trivial | simp [SV.ok]⟩, ?_⟩)
            · exact ⟨rfl, rfl, trivial⟩
            · try dsimp only
              exact ⟨by omega, by rw [edge_tx, tx_list, es_step (by omega), ho, List.append_assoc], by rw [edge_tx, tx_list, List.length_append]; omega, ‹_›, ‹_›⟩
            · try dsimp only
              omega
          ·
            refine VC.intro ?_ ?_
            ·
              refine call_val (decimal12_ct _ ?_) trivial ?_
              · omega
              rintro _ rfl
              refine VC.intro ?_ ?_
              · exact keep_new
              refine conv_bs G_ok (([(↑(g.edges[k]?.getD default).label.toNat : Int)] : List Int).map fun v => UInt8.ofNat v.toNat) rfl (lit_bs [(↑(g.edges[k]?.getD default).label.toNat : Int)] (mem_at 0 rfl _ (List.mem_singleton.2 rfl)) rfl ?_ (by simp)) rfl rfl rfl ?_
              · exact inU8_1 _
              refine VC.intro ?_ ?_
              · exact keep_new
              refine VC.intro ?_ ?_
              · (simp only [ByteArray.size_append, tx, bsz, List.length_map, List.length_cons, List.length_nil]; omega)
              refine VC.intro ?_ ?_
              · (simp only [ByteArray.size_append, tx, bsz, List.length_map, List.length_cons, List.length_nil]; omega)
              refine VC.intro ?_ ?_
              · (simp only [ByteArray.size_append, tx, bsz, List.length_map, List.length_cons, List.length_nil]; omega)
              refine VC.intro ?_ ?_
              · (simp only [ByteArray.size_append, tx, bsz, List.length_map, List.length_cons, List.length_nil]; omega)
              refine callR_blk 1 (A) [[(x11, Obj.cells { toList := Value.int IntKind.u8 (↑(g.edges[k]?.getD default).label.toNat : Int) :: [].append (zeros (nat_lit 0) [Value.int IntKind.u8 (0 : Int)]) } (5 : TypeId))], H] rfl ?_ (WriteString_ct _ _ _ _ _ _ _ _ (by first | exact .inl rfl | exact .inr rfl | assumption) oA zA ?_) trivial ?_
              · exact .le fun a => by (try simp only [setR, List.cons_append, List.nil_append]); simp only [List.flatten_append, List.flatten_cons, List.flatten_nil, List.count_append, List.count_nil, List.append_nil, List.nil_append]; omega
              · (simp only [ByteArray.size_append, tx, bsz, List.length_map, List.length_cons, List.length_nil]; omega)
              rintro _ A15 ⟨rfl, bb15, bc15, B15, rfl, o15, z15⟩
              refine ⟨_, _, [B15], rfl, perm1, ?_⟩
              apply loop_stepA (k + 1, _, _, _, _)
              · exact .sub (by repeat (first | exact .slnil | apply List.Sublist.cons_cons | apply List.Sublist.cons))
              · repeat' (first | exact trivial | refine ⟨⟨_, rfl, by first | rfl | exact inc_eq _ (by omega) | (refine sl_eq ?_; simp; done), by first | exact trivial | simp [SV.ok]⟩, ?_⟩)
              · exact ⟨rfl, rfl, trivial⟩
              · try dsimp only
                exact ⟨by omega, by rw [edge_tx, tx_list, es_step (by omega), ho, List.append_assoc], by rw [edge_tx, tx_list, List.length_append]; omega, ‹_›, ‹_›⟩
              · try dsimp only
                omega
            ·
              exact trivial
        ·
          refine VC.intro ?_ ?_
          ·
            refine call_val (decimal12_ct _ ?_) trivial ?_
            · omega
            rintro _ rfl
            refine VC.intro ?_ ?_
            · exact fun _ h => h
            refine VCnew.intro fun x17 => ?_
            refine VC.intro ?_ ?_
            · exact keep_new
            refine conv_bs G_ok (([(↑(g.edges[k]?.getD default).label.toNat : Int)] : List Int).map fun v => UInt8.ofNat v.toNat) rfl (lit_bs [(↑(g.edges[k]?.getD default).label.toNat : Int)] (mem_at 0 rfl _ (List.mem_singleton.2 rfl)) rfl ?_ (by simp)) rfl rfl rfl ?_
            · exact inU8_1 _
            refine VC.intro ?_ ?_
            · exact keep_new
            refine VC.intro ?_ ?_
            · (simp only [ByteArray.size_append, tx, bsz, List.length_map, List.length_cons, List.length_nil]; omega)
            refine VC.intro ?_ ?_
            · (simp only [ByteArray.size_append, tx, bsz, List.length_map, List.length_cons, List.length_nil]; omega)
            refine VC.intro ?_ ?_
            · (simp only [ByteArray.size_append, tx, bsz, List.length_map, List.length_cons, List.length_nil]; omega)
            refine VC.intro ?_ ?_
            · (simp only [ByteArray.size_append, tx, bsz, List.length_map, List.length_cons, List.length_nil]; omega)
            refine callR_blk 1 (A) [[(x17, Obj.cells { toList := Value.int IntKind.u8 (↑(g.edges[k]?.getD default).label.toNat : Int) :: [].append (zeros (nat_lit 0) [Value.int IntKind.u8 (0 : Int)]) } (5 : TypeId))], H] rfl ?_ (WriteString_ct _ _ _ _ _ _ _ _ (by first | exact .inl rfl | exact .inr rfl | assumption) oA zA ?_) trivial ?_
            · exact .le fun a => by (try simp only [setR, List.cons_append, List.nil_append]); simp only [List.flatten_append, List.flatten_cons, List.flatten_nil, List.count_append, List.count_nil, List.append_nil, List.nil_append]; omega
            · (simp only [ByteArray.size_append, tx, bsz, List.length_map, List.length_cons, List.length_nil]; omega)
            rintro _ A18 ⟨rfl, bb18, bc18, B18, rfl, o18, z18⟩
            refine ⟨_, _, [B18], rfl, perm1, ?_⟩
            apply loop_stepA (k + 1, _, _, _, _)
            · exact .sub (by repeat (first | exact .slnil | apply List.Sublist.cons_cons | apply List.Sublist.cons))
            · repeat' (first | exact trivial | refine ⟨⟨_, rfl, by first | rfl | exact inc_eq _ (by omega) | (refine sl_eq ?_; simp; done), by first | exact trivial | simp [SV.ok]⟩, ?_⟩)
            · exact ⟨rfl, rfl, trivial⟩
            · try dsimp only
              exact ⟨by omega, by rw [edge_tx, tx_list, es_step (by omega), ho, List.append_assoc], by rw [edge_tx, tx_list, List.length_append]; omega, ‹_›, ‹_›⟩
            · try dsimp only
              omega
          ·
            exact trivial
      ·
        refine VC.intro ?_ ?_
        ·
          refine VCnew.intro fun x19 => ?_
          refine VC.intro ?_ ?_
          · exact keep_new
          refine VC.intro ?_ ?_
          ·
            refine call_val (decimal12_ct _ ?_) trivial ?_
            · omega
            rintro _ rfl
            refine VC.intro ?_ ?_
            · exact keep_new
            refine VC.intro ?_ ?_
            · (simp only [ByteArray.size_append, tx, bsz, List.length_map, List.length_cons, List.length_nil]; omega)
            refine VC.intro ?_ ?_
            · (simp only [ByteArray.size_append, tx, bsz, List.length_map, List.length_cons, List.length_nil]; omega)
            refine VC.intro ?_ ?_
            ·
              refine conv_bs G_ok (([(↑(g.edges[k]?.getD default).label.toNat : Int)] : List Int).map fun v => UInt8.ofNat v.toNat) rfl (lit_bs [(↑(g.edges[k]?.getD default).label.toNat : Int)] (mem_at 0 rfl _ (List.mem_singleton.2 rfl)) rfl ?_ (by simp)) rfl rfl rfl ?_
              · exact inU8_1 _
              refine VC.intro ?_ ?_
              · exact keep_new
              refine VC.intro ?_ ?_
              · (simp only [ByteArray.size_append, tx, bsz, List.length_map, List.length_cons, List.length_nil]; omega)
              refine VC.intro ?_ ?_
              · (simp only [ByteArray.size_append, tx, bsz, List.length_map, List.length_cons, List.length_nil]; omega)
              refine call_val (decimal12_ct _ ?_) trivial ?_
              · omega
              rintro _ rfl
              refine VC.intro ?_ ?_
              · exact keep_new
              refine VC.intro ?_ ?_
              · (simp only [ByteArray.size_append, tx, bsz, List.length_map, List.length_cons, List.length_nil]; omega)
              refine VC.intro ?_ ?_
              · (simp only [ByteArray.size_append, tx, bsz, List.length_map, List.length_cons, List.length_nil]; omega)
              refine callR_blk 1 (A) [[(x19, Obj.cells { toList := Value.int IntKind.u8 (↑(g.edges[k]?.getD default).label.toNat : Int) :: [].append (zeros (nat_lit 0) [Value.int IntKind.u8 (0 : Int)]) } (5 : TypeId))], H] rfl ?_ (WriteString_ct _ _ _ _ _ _ _ _ (by first | exact .inl rfl | exact .inr rfl | assumption) oA zA ?_) trivial ?_
              · exact .le fun a => by (try simp only [setR, List.cons_append, List.nil_append]); simp only [List.flatten_append, List.flatten_cons, List.flatten_nil, List.count_append, List.count_nil, List.append_nil, List.nil_append]; omega
              · (simp only [ByteArray.size_append, tx, bsz, List.length_map, List.length_cons, List.length_nil]; omega)
              rintro _ A22 ⟨rfl, bb22, bc22, B22, rfl, o22, z22⟩
              refine ⟨_, _, [B22], rfl, perm1, ?_⟩
              apply loop_stepA (k + 1, _, _, _, _)
              · exact .sub (by repeat (first | exact .slnil | apply List.Sublist.cons_cons | apply List.Sublist.cons))
              · repeat' (first | exact trivial | refine ⟨⟨_, rfl, by first | rfl | exact inc_eq _ (by omega) | (refine sl_eq ?_; simp; done), by first | exact trivial | simp [SV.ok]⟩, ?_⟩)
              · exact ⟨rfl, rfl, trivial⟩
              · try dsimp only
                exact ⟨by omega, by rw [edge_tx, tx_list, es_step (by omega), ho, List.append_assoc], by rw [edge_tx, tx_list, List.length_append]; omega, ‹_›, ‹_›⟩
              · try dsimp only
                omega
            ·
              refine VC.intro ?_ ?_
              ·
                refine call_val (decimal12_ct _ ?_) trivial ?_
                · omega
                rintro _ rfl
                refine VC.intro ?_ ?_
                · exact keep_new
                refine conv_bs G_ok (([(↑(g.edges[k]?.getD default).label.toNat : Int)] : List Int).map fun v => UInt8.ofNat v.toNat) rfl (lit_bs [(↑(g.edges[k]?.getD default).label.toNat : Int)] (mem_at 0 rfl _ (List.mem_singleton.2 rfl)) rfl ?_ (by simp)) rfl rfl rfl ?_
                · exact inU8_1 _
                refine VC.intro ?_ ?_
                · exact keep_new
                refine VC.intro ?_ ?_
                · (simp only [ByteArray.size_append, tx, bsz, List.length_map, List.length_cons, List.length_nil]; omega)
                refine VC.intro ?_ ?_
                · (simp only [ByteArray.size_append, tx, bsz, List.length_map, List.length_cons, List.length_nil]; omega)
                refine VC.intro ?_ ?_
                · (simp only [ByteArray.size_append, tx, bsz, List.length_map, List.length_cons, List.length_nil]; omega)
                refine VC.intro ?_ ?_
                · (simp only [ByteArray.size_append, tx, bsz, List.length_map, List.length_cons, List.length_nil]; omega)
                refine callR_blk 1 (A) [[(x19, Obj.cells { toList := Value.int IntKind.u8 (↑(g.edges[k]?.getD default).label.toNat : Int) :: [].append (zeros (nat_lit 0) [Value.int IntKind.u8 (0 : Int)]) } (5 : TypeId))], H] rfl ?_ (WriteString_ct _ _ _ _ _ _ _ _ (by first | exact .inl rfl | exact .inr rfl | assumption) oA zA ?_) trivial ?_
                · exact .le fun a => by (try simp only [setR, List.cons_append, List.nil_append]); simp only [List.flatten_append, List.flatten_cons, List.flatten_nil, List.count_append, List.count_nil, List.append_nil, List.nil_append]; omega
                · (simp only [ByteArray.size_append, tx, bsz, List.length_map, List.length_cons, List.length_nil]; omega)
                rintro _ A24 ⟨rfl, bb24, bc24, B24, rfl, o24, z24⟩
                refine ⟨_, _, [B24], rfl, perm1, ?_⟩
                apply loop_stepA (k + 1, _, _, _, _)
                · exact .sub (by repeat (first | exact .slnil | apply List.Sublist.cons_cons | apply List.Sublist.cons))
                · repeat' (first | exact trivial | refine ⟨⟨_, rfl, by first | rfl | exact inc_eq _ (by omega) | (refine sl_eq ?_; simp; done), by first | exact trivial | simp [SV.ok]⟩, ?_⟩)
                · exact ⟨rfl, rfl, trivial⟩
                · try dsimp only
                  exact ⟨by omega, by rw [edge_tx, tx_list, es_step (by omega), ho, List.append_assoc], by rw [edge_tx, tx_list, List.length_append]; omega, ‹_›, ‹_›⟩
                · try dsimp only
                  omega
              ·
                exact trivial
          ·
            refine VC.intro ?_ ?_
            ·
              refine conv_bs G_ok (([(↑(g.edges[k]?.getD default).label.toNat : Int)] : List Int).map fun v => UInt8.ofNat v.toNat) rfl (lit_bs [(↑(g.edges[k]?.getD default).label.toNat : Int)] (mem_at 0 rfl _ (List.mem_singleton.2 rfl)) rfl ?_ (by simp)) rfl rfl rfl ?_
              · exact inU8_1 _
              refine VC.intro ?_ ?_
              · exact keep_new
              refine call_val (decimal12_ct _ ?_) trivial ?_
              · omega
              rintro _ rfl
              refine VC.intro ?_ ?_
              · exact keep_new
              refine VC.intro ?_ ?_
              · (simp only [ByteArray.size_append, tx, bsz, List.length_map, List.length_cons, List.length_nil]; omega)
              refine VC.intro ?_ ?_
              · (simp only [ByteArray.size_append, tx, bsz, List.length_map, List.length_cons, List.length_nil]; omega)
              refine VC.intro ?_ ?_
              · (simp only [ByteArray.size_append, tx, bsz, List.length_map, List.length_cons, List.length_nil]; omega)
              refine VC.intro ?_ ?_
              · (simp only [ByteArray.size_append, tx, bsz, List.length_map, List.length_cons, List.length_nil]; omega)
              refine call_val (decimal12_ct _ ?_) trivial ?_
              · omega
              rintro _ rfl
              refine VC.intro ?_ ?_
              · exact keep_new
              refine VC.intro ?_ ?_
              · (simp only [ByteArray.size_append, tx, bsz, List.length_map, List.length_cons, List.length_nil]; omega)
              refine VC.intro ?_ ?_
              · (simp only [ByteArray.size_append, tx, bsz, List.length_map, List.length_cons, List.length_nil]; omega)
              refine callR_blk 1 (A) [[(x19, Obj.cells { toList := Value.int IntKind.u8 (↑(g.edges[k]?.getD default).label.toNat : Int) :: [].append (zeros (nat_lit 0) [Value.int IntKind.u8 (0 : Int)]) } (5 : TypeId))], H] rfl ?_ (WriteString_ct _ _ _ _ _ _ _ _ (by first | exact .inl rfl | exact .inr rfl | assumption) oA zA ?_) trivial ?_
              · exact .le fun a => by (try simp only [setR, List.cons_append, List.nil_append]); simp only [List.flatten_append, List.flatten_cons, List.flatten_nil, List.count_append, List.count_nil, List.append_nil, List.nil_append]; omega
              · (simp only [ByteArray.size_append, tx, bsz, List.length_map, List.length_cons, List.length_nil]; omega)
              rintro _ A27 ⟨rfl, bb27, bc27, B27, rfl, o27, z27⟩
              refine ⟨_, _, [B27], rfl, perm1, ?_⟩
              apply loop_stepA (k + 1, _, _, _, _)
              · exact .sub (by repeat (first | exact .slnil | apply List.Sublist.cons_cons | apply List.Sublist.cons))
              · repeat' (first | exact trivial | refine ⟨⟨_, rfl, by first | rfl | exact inc_eq _ (by omega) | (refine sl_eq ?_; simp; done), by first | exact trivial | simp [SV.ok]⟩, ?_⟩)
              · exact ⟨rfl, rfl, trivial⟩
              · try dsimp only
                exact ⟨by omega, by rw [edge_tx, tx_list, es_step (by omega), ho, List.append_assoc], by rw [edge_tx, tx_list, List.length_append]; omega, ‹_›, ‹_›⟩
              · try dsimp only
                omega
            ·
              exact trivial
        ·
          exact trivial
    ·
      simp at q6
      obtain rfl : k = g.edges.length := by omega
      rw [List.take_length] at ho
      refine callR_blk 1 (A) [H] rfl ?_ (String_ct _ _ _ _ _ _ _ oA zA) trivial ?_
      · exact .refl _
      rintro _ A28 ⟨rfl, rfl⟩
      refine ⟨_, _, [], rfl, perm0, ?_⟩
      exact ⟨[], ⟨by rw [showT_yes (by assumption), ho]; rfl, rfl⟩, (.le fun a => by (try simp only [setR, List.cons_append, List.nil_append]); simp only [List.flatten_append, List.flatten_cons, List.flatten_nil, List.count_append, List.count_nil, List.append_nil, List.nil_append]; omega)⟩
--@ct spec.ShowGraph val specShowGraph_ct _ $1 | %1
theorem specShowGraph_ct (l : List Value) (g : Graph) : Ct Tryd.prog 7 [.agg ⟨l⟩] [] (fun H => gGraph.rd H l g) (fun v A => v = .string (showT g) ∧ A = []) := by
  refine Ct.intro0 G_ok Tryd.func7 rfl rfl rfl fun E H hp => ?_
  obtain ⟨b1, c1, rfl, w0, h1⟩ := gGraph_rd.1 hp
  refine VCnew.intro fun x0 => ?_
  refine call_val (specGraphOk_ct _ (g)) (Rp.mono _ (mem_at 0 rfl) hp) ?_
  rintro _ rfl
  refine VCsplit.intro (fun q2 => ?_) (fun q2 => ?_)
  ·
    simp at q2
    exact ⟨[], ⟨by rw [showT_no (by assumption)]; rfl, rfl⟩, (.le fun a => by (try simp only [setR, List.cons_append, List.nil_append]); simp [List.count_cons, Blk.ent, idOf]; try omega)⟩
  ·
    simp at q2
    (have iq2 := sgOk_rng q2; have id2 := dcT_len (n := g.size) (by omega); have im2 : IntKind.i64.max = 9223372036854775807 := rfl)
    refine call_val (specDecimal_ct _ ?_) trivial ?_
    · omega
    rintro _ rfl
    refine VC.intro ?_ ?_
    · (simp only [ByteArray.size_append, tx, bsz, List.length_map, List.length_cons, List.length_nil]; omega)
    refine VC.intro ?_ ?_
    · (simp only [ByteArray.size_append, tx, bsz, List.length_map, List.length_cons, List.length_nil]; omega)
    apply loop_mod (α := (Nat) × (ByteArray)) G_ok [14, 15, 16, 17, 18, 21, 22, 23, 24, 25, 5, 26, 27, 28, 29, 30, 31, 32, 33, 34, 35, 36, 37, 38, 39, 40, 41, 42, 43, 3, 19, 20, 4] (fun z => [(4, .v (.int .i64 z.1)), (3, .v (.string z.2))]) (fun z => [{ id := x0, cs := [Value.int IntKind.i64 g.size, Value.slice b1 g.edges.length c1], ty := (29 : Nat) }]) (fun z => [H]) (fun z => g.edges.length - z.1) (fun z => z.1 ≤ g.edges.length ∧ z.2 = tx (headS g ++ (g.edges.take z.1).flatMap edgeS) ∧ z.2.size ≤ 9 + 13 * z.1) ((0, _))
    · repeat' (first | exact trivial | refine ⟨⟨_, rfl, by first | rfl | exact inc_eq _ (by omega) | (refine sl_eq ?_; simp; done), by first | exact trivial | simp [SV.ok]⟩, ?_⟩)
    · exact ⟨rfl, trivial⟩
    · try dsimp only
      exact ⟨by omega, by rw [head_tx]; exact congrArg tx (head_zero g), by rw [head_tx]; have := headS_len (g := g) (by omega); show (headS g).length ≤ _; omega⟩
    · exact .refl _
    rintro ⟨k, s⟩ hI
    obtain ⟨hk, ho, hol⟩ : k ≤ g.edges.length ∧ s = tx (headS g ++ (g.edges.take k).flatMap edgeS) ∧ s.size ≤ 9 + 13 * k := hI
    try dsimp only
    refine VCsplit.intro (fun q4 => ?_) (fun q4 => ?_)
    ·
      simp at q4
      have he := sedge_rng (sgOk_edge ‹_› k (by omega))
      have h5 := dcT_len (n := (g.edges[k]?.getD default).from') (by omega)
      have h6 := dcT_len (n := (g.edges[k]?.getD default).to) (by omega)
      have h7 : IntKind.i64.max = 9223372036854775807 := rfl
      refine idx_rd h1 ?_ ?_ fun b5 o5 hb5 => ?_
      · omega
      · omega
      refine load_allN default (k) rfl h1 ?_ ?_ hb5 rfl (mem_at 0 rfl) fun l6 hl6 => ?_
      · omega
      · omega
      obtain ⟨rfl, w0x6, w2x6⟩ := gEdge_rd.1 hl6
      refine VCnew.intro fun x7 => ?_
      refine draw G_ok mixed none (.q 0 (.q 1 (.q 2 (.q 3 (.q 7 (.q 8 (.q 13 (.q 14 (.hd (.alt 4 (.q 5 (.q 6 (.hd (.alt 9 (.hd (.alt 10 (.q 11 (.q 12 (.f 15 (.q 16 (.q 17 (.q 18 (.nil))))))) (.alt 15 (.f 10 (.q 11 (.q 12 (.q 16 (.q 17 (.q 18 (.nil))))))) (.nil)))) (.alt 15 (.f 9 (.f 10 (.q 11 (.q 12 (.q 16 (.q 17 (.q 18 (.nil)))))))) (.nil)))))) (.alt 9 (.hd (.alt 4 (.q 5 (.q 6 (.hd (.alt 10 (.q 11 (.q 12 (.f 15 (.q 16 (.q 17 (.q 18 (.nil))))))) (.alt 15 (.f 10 (.q 11 (.q 12 (.q 16 (.q 17 (.q 18 (.nil))))))) (.nil)))))) (.alt 10 (.f 4 (.q 5 (.q 6 (.q 11 (.q 12 (.f 15 (.q 16 (.q 17 (.q 18 (.nil)))))))))) (.nil)))) (.nil)))))))))))) (by decide +kernel) ?_
      refine VC.intro ?_ ?_
      · (simp only [ByteArray.size_append, tx, bsz, List.length_map, List.length_cons, List.length_nil]; omega)
      refine VC.intro ?_ ?_
      ·
        refine call_val (specDecimal_ct _ ?_) trivial ?_
        · omega
        rintro _ rfl
        refine VC.intro ?_ ?_
        · exact fun _ h => h
        refine VC.intro ?_ ?_
        · (simp only [ByteArray.size_append, tx, bsz, List.length_map, List.length_cons, List.length_nil]; omega)
        refine VC.intro ?_ ?_
        · (simp only [ByteArray.size_append, tx, bsz, List.length_map, List.length_cons, List.length_nil]; omega)
        refine VC.intro ?_ ?_
        ·
          refine VCnew.intro fun x9 => ?_
          refine VC.intro ?_ ?_
          · exact keep_new
          refine VC.intro ?_ ?_
          ·
            refine conv_bs G_ok (([(↑(g.edges[k]?.getD default).label.toNat : Int)] : List Int).map fun v => UInt8.ofNat v.toNat) rfl (lit_bs [(↑(g.edges[k]?.getD default).label.toNat : Int)] (mem_at 0 rfl _ (List.mem_singleton.2 rfl)) rfl ?_ (by simp)) rfl rfl rfl ?_
            · exact inU8_1 _
            refine VC.intro ?_ ?_
            · exact keep_new
            refine VC.intro ?_ ?_
            · (simp only [ByteArray.size_append, tx, bsz, List.length_map, List.length_cons, List.length_nil]; omega)
            refine VC.intro ?_ ?_
            · (simp only [ByteArray.size_append, tx, bsz, List.length_map, List.length_cons, List.length_nil]; omega)
            refine call_val (specDecimal_ct _ ?_) trivial ?_
            · omega
            rintro _ rfl
            refine VC.intro ?_ ?_
            · exact keep_new
            refine VC.intro ?_ ?_
            · (simp only [ByteArray.size_append, tx, bsz, List.length_map, List.length_cons, List.length_nil]; omega)
            refine VC.intro ?_ ?_
            · (simp only [ByteArray.size_append, tx, bsz, List.length_map, List.length_cons, List.length_nil]; omega)
            apply loop_stepA (k + 1, _)
            · exact .sub (by repeat (first | exact .slnil | apply List.Sublist.cons_cons | apply List.Sublist.cons))
            · repeat' (first | exact trivial | refine ⟨⟨_, rfl, by first | rfl | exact inc_eq _ (by omega) | (refine sl_eq ?_; simp; done), by first | exact trivial | simp [SV.ok]⟩, ?_⟩)
            · exact ⟨rfl, trivial⟩
            · try dsimp only
              exact ⟨by omega, by rw [edge_tx2, ho, ← tx_app, es_step (by omega), List.append_assoc], by rw [edge_tx2, ByteArray.size_append]; have := edgeS_len (e := g.edges[k]?.getD default) (n := g.size) (by omega) (by omega) (by omega); show _ + (edgeS _).length ≤ _; omega⟩
            · try dsimp only
              omega
          ·
            refine VC.intro ?_ ?_
            ·
              refine call_val (specDecimal_ct _ ?_) trivial ?_
              · omega
              rintro _ rfl
              refine VC.intro ?_ ?_
              · exact keep_new
              refine conv_bs G_ok (([(↑(g.edges[k]?.getD default).label.toNat : Int)] : List Int).map fun v => UInt8.ofNat v.toNat) rfl (lit_bs [(↑(g.edges[k]?.getD default).label.toNat : Int)] (mem_at 0 rfl _ (List.mem_singleton.2 rfl)) rfl ?_ (by simp)) rfl rfl rfl ?_
              · exact inU8_1 _
              refine VC.intro ?_ ?_
              · exact keep_new
              refine VC.intro ?_ ?_
              · (simp only [ByteArray.size_append, tx, bsz, List.length_map, List.length_cons, List.length_nil]; omega)
              refine VC.intro ?_ ?_
              · (simp only [ByteArray.size_append, tx, bsz, List.length_map, List.length_cons, List.length_nil]; omega)
              refine VC.intro ?_ ?_
              · (simp only [ByteArray.size_append, tx, bsz, List.length_map, List.length_cons, List.length_nil]; omega)
              refine VC.intro ?_ ?_
              · (simp only [ByteArray.size_append, tx, bsz, List.length_map, List.length_cons, List.length_nil]; omega)
              apply loop_stepA (k + 1, _)
              · exact .sub (by repeat (first | exact .slnil | apply List.Sublist.cons_cons | apply List.Sublist.cons))
              · repeat' (first | exact trivial | refine ⟨⟨_, rfl, by first | rfl | exact inc_eq _ (by omega) | (refine sl_eq ?_; simp; done), by first | exact trivial | simp [SV.ok]⟩, ?_⟩)
              · exact ⟨rfl, trivial⟩
              · try dsimp only
                exact ⟨by omega, by rw [edge_tx2, ho, ← tx_app, es_step (by omega), List.append_assoc], by rw [edge_tx2, ByteArray.size_append]; have := edgeS_len (e := g.edges[k]?.getD default) (n := g.size) (by omega) (by omega) (by omega); show _ + (edgeS _).length ≤ _; omega⟩
              · try dsimp only
                omega
            ·
              exact trivial
        ·
          refine VC.intro ?_ ?_
          ·
            refine call_val (specDecimal_ct _ ?_) trivial ?_
            · omega
            rintro _ rfl
            refine VC.intro ?_ ?_
            · exact fun _ h => h
            refine VCnew.intro fun x13 => ?_
            refine VC.intro ?_ ?_
            · exact keep_new
            refine conv_bs G_ok (([(↑(g.edges[k]?.getD default).label.toNat : Int)] : List Int).map fun v => UInt8.ofNat v.toNat) rfl (lit_bs [(↑(g.edges[k]?.getD default).label.toNat : Int)] (mem_at 0 rfl _ (List.mem_singleton.2 rfl)) rfl ?_ (by simp)) rfl rfl rfl ?_
            · exact inU8_1 _
            refine VC.intro ?_ ?_
            · exact keep_new
            refine VC.intro ?_ ?_
            · (simp only [ByteArray.size_append, tx, bsz, List.length_map, List.length_cons, List.length_nil]; omega)
            refine VC.intro ?_ ?_
            · (simp only [ByteArray.size_append, tx, bsz, List.length_map, List.length_cons, List.length_nil]; omega)
            refine VC.intro ?_ ?_
            · (simp only [ByteArray.size_append, tx, bsz, List.length_map, List.length_cons, List.length_nil]; omega)
            refine VC.intro ?_ ?_
            · (simp only [ByteArray.size_append, tx, bsz, List.length_map, List.length_cons, List.length_nil]; omega)
            apply loop_stepA (k + 1, _)
            · exact .sub (by repeat (first | exact .slnil | apply List.Sublist.cons_cons | apply List.Sublist.cons))
            · repeat' (first | exact trivial | refine ⟨⟨_, rfl, by first | rfl | exact inc_eq _ (by omega) | (refine sl_eq ?_; simp; done), by first | exact trivial | simp [SV.ok]⟩, ?_⟩)
            · exact ⟨rfl, trivial⟩
            · try dsimp only
              exact ⟨by omega, by rw [edge_tx2, ho, ← tx_app, es_step (by omega), List.append_assoc], by rw [edge_tx2, ByteArray.size_append]; have := edgeS_len (e := g.edges[k]?.getD default) (n := g.size) (by omega) (by omega) (by omega); show _ + (edgeS _).length ≤ _; omega⟩
            · try dsimp only
              omega
          ·
            exact trivial
      ·
        refine VC.intro ?_ ?_
        ·
          refine VCnew.intro fun x14 => ?_
          refine VC.intro ?_ ?_
          · exact keep_new
          refine VC.intro ?_ ?_
          ·
            refine call_val (specDecimal_ct _ ?_) trivial ?_
            · omega
            rintro _ rfl
            refine VC.intro ?_ ?_
            · exact keep_new
            refine VC.intro ?_ ?_
            · (simp only [ByteArray.size_append, tx, bsz, List.length_map, List.length_cons, List.length_nil]; omega)
            refine VC.intro ?_ ?_
            · (simp only [ByteArray.size_append, tx, bsz, List.length_map, List.length_cons, List.length_nil]; omega)
            refine VC.intro ?_ ?_
            ·
              refine conv_bs G_ok (([(↑(g.edges[k]?.getD default).label.toNat : Int)] : List Int).map fun v => UInt8.ofNat v.toNat) rfl (lit_bs [(↑(g.edges[k]?.getD default).label.toNat : Int)] (mem_at 0 rfl _ (List.mem_singleton.2 rfl)) rfl ?_ (by simp)) rfl rfl rfl ?_
              · exact inU8_1 _
              refine VC.intro ?_ ?_
              · exact keep_new
              refine VC.intro ?_ ?_
              · (simp only [ByteArray.size_append, tx, bsz, List.length_map, List.length_cons, List.length_nil]; omega)
              refine VC.intro ?_ ?_
              · (simp only [ByteArray.size_append, tx, bsz, List.length_map, List.length_cons, List.length_nil]; omega)
              refine call_val (specDecimal_ct _ ?_) trivial ?_
              · omega
              rintro _ rfl
              refine VC.intro ?_ ?_
              · exact keep_new
              refine VC.intro ?_ ?_
              · (simp only [ByteArray.size_append, tx, bsz, List.length_map, List.length_cons, List.length_nil]; omega)
              refine VC.intro ?_ ?_
              · (simp only [ByteArray.size_append, tx, bsz, List.length_map, List.length_cons, List.length_nil]; omega)
              apply loop_stepA (k + 1, _)
              · exact .sub (by repeat (first | exact .slnil | apply List.Sublist.cons_cons | apply List.Sublist.cons))
              · repeat' (first | exact trivial | refine ⟨⟨_, rfl, by first | rfl | exact inc_eq _ (by omega) | (refine sl_eq ?_; simp; done), by first | exact trivial | simp [SV.ok]⟩, ?_⟩)
              · exact ⟨rfl, trivial⟩
              · try dsimp only
                exact ⟨by omega, by rw [edge_tx2, ho, ← tx_app, es_step (by omega), List.append_assoc], by rw [edge_tx2, ByteArray.size_append]; have := edgeS_len (e := g.edges[k]?.getD default) (n := g.size) (by omega) (by omega) (by omega); show _ + (edgeS _).length ≤ _; omega⟩
              · try dsimp only
                omega
            ·
              refine VC.intro ?_ ?_
              ·
                refine call_val (specDecimal_ct _ ?_) trivial ?_
                · omega
                rintro _ rfl
                refine VC.intro ?_ ?_
                · exact keep_new
                refine conv_bs G_ok (([(↑(g.edges[k]?.getD default).label.toNat : Int)] : List Int).map fun v => UInt8.ofNat v.toNat) rfl (lit_bs [(↑(g.edges[k]?.getD default).label.toNat : Int)] (mem_at 0 rfl _ (List.mem_singleton.2 rfl)) rfl ?_ (by simp)) rfl rfl rfl ?_
                · exact inU8_1 _
                refine VC.intro ?_ ?_
                · exact keep_new
                refine VC.intro ?_ ?_
                · (simp only [ByteArray.size_append, tx, bsz, List.length_map, List.length_cons, List.length_nil]; omega)
                refine VC.intro ?_ ?_
                · (simp only [ByteArray.size_append, tx, bsz, List.length_map, List.length_cons, List.length_nil]; omega)
                refine VC.intro ?_ ?_
                · (simp only [ByteArray.size_append, tx, bsz, List.length_map, List.length_cons, List.length_nil]; omega)
                refine VC.intro ?_ ?_
                · (simp only [ByteArray.size_append, tx, bsz, List.length_map, List.length_cons, List.length_nil]; omega)
                apply loop_stepA (k + 1, _)
                · exact .sub (by repeat (first | exact .slnil | apply List.Sublist.cons_cons | apply List.Sublist.cons))
                · repeat' (first | exact trivial | refine ⟨⟨_, rfl, by first | rfl | exact inc_eq _ (by omega) | (refine sl_eq ?_; simp; done), by first | exact trivial | simp [SV.ok]⟩, ?_⟩)
                · exact ⟨rfl, trivial⟩
                · try dsimp only
                  exact ⟨by omega, by rw [edge_tx2, ho, ← tx_app, es_step (by omega), List.append_assoc], by rw [edge_tx2, ByteArray.size_append]; have := edgeS_len (e := g.edges[k]?.getD default) (n := g.size) (by omega) (by omega) (by omega); show _ + (edgeS _).length ≤ _; omega⟩
                · try dsimp only
                  omega
              ·
                exact trivial
          ·
            refine VC.intro ?_ ?_
            ·
              refine conv_bs G_ok (([(↑(g.edges[k]?.getD default).label.toNat : Int)] : List Int).map fun v => UInt8.ofNat v.toNat) rfl (lit_bs [(↑(g.edges[k]?.getD default).label.toNat : Int)] (mem_at 0 rfl _ (List.mem_singleton.2 rfl)) rfl ?_ (by simp)) rfl rfl rfl ?_
              · exact inU8_1 _
              refine VC.intro ?_ ?_
              · exact keep_new
              refine call_val (specDecimal_ct _ ?_) trivial ?_
              · omega
              rintro _ rfl
              refine VC.intro ?_ ?_
              · exact keep_new
              refine VC.intro ?_ ?_
              · (simp only [ByteArray.size_append, tx, bsz, List.length_map, List.length_cons, List.length_nil]; omega)
              refine VC.intro ?_ ?_
              · (simp only [ByteArray.size_append, tx, bsz, List.length_map, List.length_cons, List.length_nil]; omega)
              refine VC.intro ?_ ?_
              · (simp only [ByteArray.size_append, tx, bsz, List.length_map, List.length_cons, List.length_nil]; omega)
              refine VC.intro ?_ ?_
              · (simp only [ByteArray.size_append, tx, bsz, List.length_map, List.length_cons, List.length_nil]; omega)
              refine call_val (specDecimal_ct _ ?_) trivial ?_
              · omega
              rintro _ rfl
              refine VC.intro ?_ ?_
              · exact keep_new
              refine VC.intro ?_ ?_
              · (simp only [ByteArray.size_append, tx, bsz, List.length_map, List.length_cons, List.length_nil]; omega)
              refine VC.intro ?_ ?_
              · (simp only [ByteArray.size_append, tx, bsz, List.length_map, List.length_cons, List.length_nil]; omega)
              apply loop_stepA (k + 1, _)
              · exact .sub (by repeat (first | exact .slnil | apply List.Sublist.cons_cons | apply List.Sublist.cons))
              · repeat' (first | exact trivial | refine ⟨⟨_, rfl, by first | rfl | exact inc_eq _ (by omega) | (refine sl_eq ?_; simp; done), by first | exact trivial | simp [SV.ok]⟩, ?_⟩)
              · exact ⟨rfl, trivial⟩
              · try dsimp only
                exact ⟨by omega, by rw [edge_tx2, ho, ← tx_app, es_step (by omega), List.append_assoc], by rw [edge_tx2, ByteArray.size_append]; have := edgeS_len (e := g.edges[k]?.getD default) (n := g.size) (by omega) (by omega) (by omega); show _ + (edgeS _).length ≤ _; omega⟩
              · try dsimp only
                omega
            ·
              exact trivial
        ·
          exact trivial
    ·
      simp at q4
      obtain rfl : k = g.edges.length := by omega
      rw [List.take_length] at ho
      exact ⟨[], ⟨by rw [showT_yes (by assumption), ho]; rfl, rfl⟩, (.le fun a => by (try simp only [setR, List.cons_append, List.nil_append]); simp only [List.flatten_append, List.flatten_cons, List.flatten_nil, List.count_append, List.count_nil, List.append_nil, List.nil_append]; omega)⟩

end Go.Proofs.YtcnclhjhnjpeiaaDoor
