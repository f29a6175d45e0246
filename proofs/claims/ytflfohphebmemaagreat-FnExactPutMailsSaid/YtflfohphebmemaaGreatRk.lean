/-
  Letters as texts, on the reference's side. Conditions: none.
-/
import Derived.Test.YtflfohphebmemaaGreatRh
namespace Go.Proofs.YtflfohphebmemaaGreat
open Go.SX Go.Proofs
set_option linter.unusedSimpArgs false
set_option linter.unusedVariables false
set_option maxHeartbeats 4000000
attribute [local irreducible] IntKind.wrap

theorem one_tx (v : Int) : (⟨(([v] : List Int).map fun v => UInt8.ofNat v.toNat).toArray⟩ : ByteArray) = tx [UInt8.ofNat v.toNat] := rfl
theorem tx_cons (a : UInt8) (l : List UInt8) : tx (a :: l) = tx [a] ++ tx l := tx_app [a] l
theorem tx_cons2 (a b : UInt8) (l : List UInt8) : tx (a :: b :: l) = tx [a] ++ (tx [b] ++ tx l) := by rw [← tx_app, ← tx_app]; rfl
theorem ltx_txt {x : Letter} {v : Int} (h : letterM x = true) (hv : v = IntKind.u8.wrap x.kind) (hk : x.kind ≠ 2 ∧ x.kind ≠ 3 ∧ x.kind ≠ 5) : (⟨(([v] : List Int).map fun v => UInt8.ofNat v.toNat).toArray⟩ : ByteArray) ++ x.text = ltR x := by
  rw [lt_txt h hk, tx_cons, tx_by, hv]; rfl
theorem ltx_rows {x : Letter} {v w : Int} (h : letterM x = true) (hv : v = IntKind.u8.wrap x.kind) (hw : w = IntKind.u8.wrap x.atom) (hk : x.kind = 5) : (⟨(([v] : List Int).map fun v => UInt8.ofNat v.toNat).toArray⟩ : ByteArray) ++ ⟨(([w] : List Int).map fun v => UInt8.ofNat v.toNat).toArray⟩ ++ x.text = ltR x := by
  rw [lt_rows h hk, tx_cons2, tx_by, hv, hw, ByteArray.append_assoc]; rfl
theorem ltx_tok {x : Letter} {v w n : Int} (h : letterM x = true) (hv : v = IntKind.u8.wrap x.kind) (hn : n = IntKind.i64.wrap (x.num + 100000)) (hw : UInt8.ofNat w.toNat = if x.black = true then 1 else 0) (hk : x.kind = 3) : (⟨(([v] : List Int).map fun v => UInt8.ofNat v.toNat).toArray⟩ : ByteArray) ++ varText n ++ ⟨(([w] : List Int).map fun v => UInt8.ofNat v.toNat).toArray⟩ = ltR x := by
  rw [lt_tok h hk, tx_cons, tx_app, hv, ← hw, ← hn, ByteArray.append_assoc]; rfl

theorem ltx_first {x : Letter} {v : Int} (hv : v = IntKind.u8.wrap x.kind) : (⟨(([v] : List Int).map fun v => UInt8.ofNat v.toNat).toArray⟩ : ByteArray) ++ varText x.walks.length = tx ((UInt8.ofNat (IntKind.u8.wrap x.kind).toNat :: varT x.walks.length) ++ (x.walks.take 0).flatMap walkBytes) := by
  rw [List.take_zero, List.flatMap_nil, List.append_nil, tx_cons, hv]; rfl
theorem ltx_next {x : Letter} {k : Nat} {s : ByteArray} (hk : k < x.walks.length) (hr : 0 ≤ (x.walks[k]?.getD default).atom ∧ (x.walks[k]?.getD default).atom ≤ 3 ∧ 0 ≤ (x.walks[k]?.getD default).src ∧ (x.walks[k]?.getD default).src ≤ 11 ∧ 0 ≤ (x.walks[k]?.getD default).at' ∧ (x.walks[k]?.getD default).at' ≤ 11 ∧ 0 ≤ (x.walks[k]?.getD default).state ∧ (x.walks[k]?.getD default).state ≤ 23) {P : List UInt8} (ho : s = tx (P ++ (x.walks.take k).flatMap walkBytes)) :
    s ++ ⟨(([IntKind.u8.wrap (x.walks[k]?.getD default).atom, IntKind.u8.wrap (x.walks[k]?.getD default).src, IntKind.u8.wrap (x.walks[k]?.getD default).at', IntKind.u8.wrap (x.walks[k]?.getD default).state] : List Int).map fun v => UInt8.ofNat v.toNat).toArray⟩ = tx (P ++ (x.walks.take (k + 1)).flatMap walkBytes) := by
  rw [← wf_next (o := P ++ (x.walks.take k).flatMap walkBytes) hk hr rfl, tx_app, ← ho]; rfl
--@ct spec.LetterText val specLetterText_ct _ $1 ?_ | %1
theorem specLetterText_ct (l : List Value) (x : Letter) (hx : x.text.size ≤ 4194304) : Ct Tryz.prog 130 [.agg ⟨l⟩] [] (fun H => gLetter.rd H l x) (fun v A => v = .tuple #[.string (ltR x), .bool (letterM x)] ∧ A = []) := by
  refine Ct.intro0 G_ok Tryz.func130 rfl rfl rfl fun E H hp => ?_
  obtain ⟨b4p, c4p, rfl, w0p, w1p, w2p, h4p, w5p⟩ := gLetter_rd.1 hp
  have hl := (sl_len h4p).2.2
  have z1 := varText_size x.walks.length
  have z2 := varText_size (IntKind.i64.wrap (x.num + 100000))
  refine VCnew.intro fun x0 => ?_
  refine call_val (specLetterOk_ct _ (x) ?_) (Rp.mono _ (mem_at 0 rfl) hp) ?_
  · trivial
  rintro _ rfl
  refine VCsplit.intro (fun q2 => ?_) (fun q2 => ?_)
  ·
    simp at q2
    (rw [ltR_no (by assumption), ‹letterM x = false›]; exact ⟨[], ⟨rfl, rfl⟩, (.le fun a => by (try simp only [setR, List.cons_append, List.nil_append]); simp [List.count_cons, Blk.ent, idOf]; try omega)⟩)
  ·
    simp at q2
    have hk2 := lt_all q2
    refine VCnew.intro fun x3 => ?_
    refine conv_bs G_ok (([IntKind.u8.wrap x.kind] : List Int).map fun v => UInt8.ofNat v.toNat) rfl (lit_bs [IntKind.u8.wrap x.kind] (mem_at 0 rfl _ (List.mem_singleton.2 rfl)) rfl ?_ (by simp)) rfl rfl rfl ?_
    · (simp only [inU8, u8_wrap, and_true]; omega)
    refine VCsplit.intro (fun q4 => ?_) (fun q4 => ?_)
    ·
      simp at q4
      obtain ⟨hw1, hw2, hw3⟩ := walks_rng (hk2.2.2.2.1 ‹x.kind = 2›).1
      refine call_val (l01Var_ct _ ?_ ?_) trivial ?_
      · omega
      · omega
      rintro _ rfl
      refine VC.intro ?_ ?_
      · (simp only [ByteArray.size_append, bsz, List.length_map, List.length_cons, List.length_nil]; have : IntKind.i64.max = 9223372036854775807 := rfl; omega)
      apply loop_mod (α := (Nat) × (ByteArray)) G_ok [30, 31, 32, 33, 34, 37, 38, 39, 40, 41, 6, 42, 43, 44, 45, 46, 47, 48, 49, 50, 51, 52, 53, 54, 55, 56, 57, 4, 35, 36, 5] (fun z => [(5, .v (.int .i64 z.1)), (4, .v (.string z.2))]) (fun z => [{ id := x0, cs := [Value.int IntKind.i64 x.kind, Value.int IntKind.i64 x.atom, Value.int IntKind.i64 x.num, Value.bool x.black, Value.slice b4p x.walks.length c4p, Value.string x.text], ty := (120 : Nat) }]) (fun z => [[(x3, Obj.cells { toList := Value.int IntKind.u8 (IntKind.u8.wrap x.kind) :: [].append (zeros (nat_lit 0) [Value.int IntKind.u8 (0 : Int)]) } (5 : TypeId))], H]) (fun z => x.walks.length - z.1) (fun z => z.1 ≤ x.walks.length ∧ z.2 = tx ((UInt8.ofNat (IntKind.u8.wrap x.kind).toNat :: varT x.walks.length) ++ (x.walks.take z.1).flatMap walkBytes) ∧ z.2.size ≤ 20 + 4 * z.1) ((0, _))
      · repeat' (first | exact trivial | refine ⟨⟨_, rfl, by first | rfl | exact inc_eq _ (by omega) | (refine sl_eq ?_; simp; done), by first | exact trivial | simp [SV.ok]⟩, ?_⟩)
      · exact ⟨rfl, trivial⟩
      · try dsimp only
        exact ⟨Nat.zero_le _, ltx_first (by first | rfl | assumption), by simp only [ByteArray.size_append, bsz, List.length_map, List.length_cons, List.length_nil]; omega⟩
      · exact .refl _
      rintro ⟨k, s⟩ hI
      obtain ⟨hk, ho, hol⟩ : k ≤ x.walks.length ∧ s = tx ((UInt8.ofNat (IntKind.u8.wrap x.kind).toNat :: varT x.walks.length) ++ (x.walks.take k).flatMap walkBytes) ∧ s.size ≤ 20 + 4 * k := hI
      try dsimp only
      refine VCsplit.intro (fun q6 => ?_) (fun q6 => ?_)
      ·
        simp at q6
        refine idx_rd h4p ?_ ?_ fun b7 o7 hb7 => ?_
        · omega
        · omega
        refine load_allN default (k) rfl h4p ?_ ?_ hb7 rfl (mem_at 1 rfl) fun l8 hl8 => ?_
        · omega
        · omega
        obtain ⟨rfl, w0x8, w1x8, w2x8, w3x8⟩ := gWalk_rd.1 hl8
        refine VCnew.intro fun x9 => ?_
        refine VCnew.intro fun x10 => ?_
        refine conv_bs G_ok (([IntKind.u8.wrap (x.walks[k]?.getD default).atom, IntKind.u8.wrap (x.walks[k]?.getD default).src, IntKind.u8.wrap (x.walks[k]?.getD default).at', IntKind.u8.wrap (x.walks[k]?.getD default).state] : List Int).map fun v => UInt8.ofNat v.toNat) rfl (lit_bs [IntKind.u8.wrap (x.walks[k]?.getD default).atom, IntKind.u8.wrap (x.walks[k]?.getD default).src, IntKind.u8.wrap (x.walks[k]?.getD default).at', IntKind.u8.wrap (x.walks[k]?.getD default).state] (mem_at 0 rfl _ (List.mem_singleton.2 rfl)) rfl ?_ (by simp)) rfl rfl rfl ?_
        · (simp only [inU8, u8_wrap, and_true]; omega)
        refine VC.intro ?_ ?_
        · (simp only [ByteArray.size_append, bsz, List.length_map, List.length_cons, List.length_nil]; have : IntKind.i64.max = 9223372036854775807 := rfl; omega)
        apply loop_stepA (k + 1, _)
        · exact .sub (by repeat (first | exact .slnil | apply List.Sublist.cons_cons | apply List.Sublist.cons))
        · repeat' (first | exact trivial | refine ⟨⟨_, rfl, by first | rfl | exact inc_eq _ (by omega) | (refine sl_eq ?_; simp; done), by first | exact trivial | simp [SV.ok]⟩, ?_⟩)
        · exact ⟨rfl, trivial⟩
        · try dsimp only
          exact ⟨by omega, ltx_next (by omega) (hw3 k (by omega)) ho, by simp only [ByteArray.size_append, bsz, List.length_map, List.length_cons, List.length_nil]; omega⟩
        · try dsimp only
          omega
      ·
        simp at q6
        (have hke : k = x.walks.length := (by omega); rw [lt_items2 (by assumption) (by omega), ‹letterM x = true›, ho, hke, List.take_length]; exact ⟨[], ⟨rfl, rfl⟩, (.le fun a => by (try simp only [setR, List.cons_append, List.nil_append]); simp [List.count_cons, Blk.ent, idOf]; try omega)⟩)
    ·
      simp at q4
      refine VCsplit.intro (fun q11 => ?_) (fun q11 => ?_)
      ·
        simp at q11
        refine VCsplit.intro (fun q12 => ?_) (fun q12 => ?_)
        ·
          refine draw G_ok mixed none (.q 0 (.q 1 (.q 2 (.q 3 (.q 6 (.hd (.alt 4 (.q 5 (.f 7 (.f 8 (.q 9 (.q 10 (.nil)))))) (.alt 7 (.hd (.alt 4 (.q 5 (.f 8 (.q 9 (.q 10 (.nil))))) (.alt 8 (.f 4 (.q 5 (.q 9 (.q 10 (.nil))))) (.nil)))) (.nil))))))))) (by decide +kernel) ?_
          refine VC.intro ?_ ?_
          ·
            refine call_val (l01Var_ct _ ?_ ?_) trivial ?_
            · (simp (disch := omega) only [wrap_of]; omega)
            · (simp (disch := omega) only [wrap_of]; omega)
            rintro _ rfl
            refine VC.intro ?_ ?_
            · exact fun _ h => h
            refine VC.intro ?_ ?_
            · (simp only [ByteArray.size_append, bsz, List.length_map, List.length_cons, List.length_nil]; have : IntKind.i64.max = 9223372036854775807 := rfl; omega)
            refine VCnew.intro fun x14 => ?_
            refine VC.intro ?_ ?_
            · exact keep_new
            refine conv_bs G_ok (([(1 : Int)] : List Int).map fun v => UInt8.ofNat v.toNat) rfl (lit_bs [(1 : Int)] (mem_at 0 rfl _ (List.mem_singleton.2 rfl)) rfl ?_ (by simp)) rfl rfl rfl ?_
            · trivial
            refine VC.intro ?_ ?_
            · exact keep_new
            refine VC.intro ?_ ?_
            · (simp only [ByteArray.size_append, bsz, List.length_map, List.length_cons, List.length_nil]; have : IntKind.i64.max = 9223372036854775807 := rfl; omega)
            try dsimp only
            (rw [‹letterM x = true›]; exact ⟨[], ⟨by rw [ltx_tok (by assumption) (by first | rfl | assumption) (by first | rfl | assumption) (by first | (rw [if_pos ‹x.black = true›]; rfl) | (rw [if_neg (Bool.eq_false_iff.1 ‹x.black = false›)]; rfl)) (by omega)], rfl⟩, (.le fun a => by (try simp only [setR, List.cons_append, List.nil_append]); simp [List.count_cons, Blk.ent, idOf]; try omega)⟩)
          ·
            refine VC.intro ?_ ?_
            ·
              refine VCnew.intro fun x15 => ?_
              refine VC.intro ?_ ?_
              · exact keep_new
              refine VC.intro ?_ ?_
              ·
                refine call_val (l01Var_ct _ ?_ ?_) trivial ?_
                · (simp (disch := omega) only [wrap_of]; omega)
                · (simp (disch := omega) only [wrap_of]; omega)
                rintro _ rfl
                refine VC.intro ?_ ?_
                · exact keep_new
                refine VC.intro ?_ ?_
                · (simp only [ByteArray.size_append, bsz, List.length_map, List.length_cons, List.length_nil]; have : IntKind.i64.max = 9223372036854775807 := rfl; omega)
                refine conv_bs G_ok (([(1 : Int)] : List Int).map fun v => UInt8.ofNat v.toNat) rfl (lit_bs [(1 : Int)] (mem_at 0 rfl _ (List.mem_singleton.2 rfl)) rfl ?_ (by simp)) rfl rfl rfl ?_
                · trivial
                refine VC.intro ?_ ?_
                · exact keep_new
                refine VC.intro ?_ ?_
                · (simp only [ByteArray.size_append, bsz, List.length_map, List.length_cons, List.length_nil]; have : IntKind.i64.max = 9223372036854775807 := rfl; omega)
                try dsimp only
                (rw [‹letterM x = true›]; exact ⟨[], ⟨by rw [ltx_tok (by assumption) (by first | rfl | assumption) (by first | rfl | assumption) (by first | (rw [if_pos ‹x.black = true›]; rfl) | (rw [if_neg (Bool.eq_false_iff.1 ‹x.black = false›)]; rfl)) (by omega)], rfl⟩, (.le fun a => by (try simp only [setR, List.cons_append, List.nil_append]); simp [List.count_cons, Blk.ent, idOf]; try omega)⟩)
              ·
                refine VC.intro ?_ ?_
                ·
                  refine conv_bs G_ok (([(1 : Int)] : List Int).map fun v => UInt8.ofNat v.toNat) rfl (lit_bs [(1 : Int)] (mem_at 0 rfl _ (List.mem_singleton.2 rfl)) rfl ?_ (by simp)) rfl rfl rfl ?_
                  · trivial
                  refine VC.intro ?_ ?_
                  · exact keep_new
                  refine call_val (l01Var_ct _ ?_ ?_) trivial ?_
                  · (simp (disch := omega) only [wrap_of]; omega)
                  · (simp (disch := omega) only [wrap_of]; omega)
                  rintro _ rfl
                  refine VC.intro ?_ ?_
                  · exact keep_new
                  refine VC.intro ?_ ?_
                  · (simp only [ByteArray.size_append, bsz, List.length_map, List.length_cons, List.length_nil]; have : IntKind.i64.max = 9223372036854775807 := rfl; omega)
                  refine VC.intro ?_ ?_
                  · (simp only [ByteArray.size_append, bsz, List.length_map, List.length_cons, List.length_nil]; have : IntKind.i64.max = 9223372036854775807 := rfl; omega)
                  try dsimp only
                  (rw [‹letterM x = true›]; exact ⟨[], ⟨by rw [ltx_tok (by assumption) (by first | rfl | assumption) (by first | rfl | assumption) (by first | (rw [if_pos ‹x.black = true›]; rfl) | (rw [if_neg (Bool.eq_false_iff.1 ‹x.black = false›)]; rfl)) (by omega)], rfl⟩, (.le fun a => by (try simp only [setR, List.cons_append, List.nil_append]); simp [List.count_cons, Blk.ent, idOf]; try omega)⟩)
                ·
                  exact trivial
            ·
              exact trivial
        ·
          refine draw G_ok mixed none (.q 0 (.q 1 (.q 2 (.q 3 (.q 6 (.hd (.alt 4 (.q 5 (.f 7 (.f 8 (.q 9 (.q 10 (.nil)))))) (.alt 7 (.hd (.alt 4 (.q 5 (.f 8 (.q 9 (.q 10 (.nil))))) (.alt 8 (.f 4 (.q 5 (.q 9 (.q 10 (.nil))))) (.nil)))) (.nil))))))))) (by decide +kernel) ?_
          refine VC.intro ?_ ?_
          ·
            refine call_val (l01Var_ct _ ?_ ?_) trivial ?_
            · (simp (disch := omega) only [wrap_of]; omega)
            · (simp (disch := omega) only [wrap_of]; omega)
            rintro _ rfl
            refine VC.intro ?_ ?_
            · exact fun _ h => h
            refine VC.intro ?_ ?_
            · (simp only [ByteArray.size_append, bsz, List.length_map, List.length_cons, List.length_nil]; have : IntKind.i64.max = 9223372036854775807 := rfl; omega)
            refine VCnew.intro fun x19 => ?_
            refine VC.intro ?_ ?_
            · exact keep_new
            refine conv_bs G_ok (([(0 : Int)] : List Int).map fun v => UInt8.ofNat v.toNat) rfl (lit_bs [(0 : Int)] (mem_at 0 rfl _ (List.mem_singleton.2 rfl)) rfl ?_ (by simp)) rfl rfl rfl ?_
            · trivial
            refine VC.intro ?_ ?_
            · exact keep_new
            refine VC.intro ?_ ?_
            · (simp only [ByteArray.size_append, bsz, List.length_map, List.length_cons, List.length_nil]; have : IntKind.i64.max = 9223372036854775807 := rfl; omega)
            try dsimp only
            (rw [‹letterM x = true›]; exact ⟨[], ⟨by rw [ltx_tok (by assumption) (by first | rfl | assumption) (by first | rfl | assumption) (by first | (rw [if_pos ‹x.black = true›]; rfl) | (rw [if_neg (Bool.eq_false_iff.1 ‹x.black = false›)]; rfl)) (by omega)], rfl⟩, (.le fun a => by (try simp only [setR, List.cons_append, List.nil_append]); simp [List.count_cons, Blk.ent, idOf]; try omega)⟩)
          ·
            refine VC.intro ?_ ?_
            ·
              refine VCnew.intro fun x20 => ?_
              refine VC.intro ?_ ?_
              · exact keep_new
              refine VC.intro ?_ ?_
              ·
                refine call_val (l01Var_ct _ ?_ ?_) trivial ?_
                · (simp (disch := omega) only [wrap_of]; omega)
                · (simp (disch := omega) only [wrap_of]; omega)
                rintro _ rfl
                refine VC.intro ?_ ?_
                · exact keep_new
                refine VC.intro ?_ ?_
                · (simp only [ByteArray.size_append, bsz, List.length_map, List.length_cons, List.length_nil]; have : IntKind.i64.max = 9223372036854775807 := rfl; omega)
                refine conv_bs G_ok (([(0 : Int)] : List Int).map fun v => UInt8.ofNat v.toNat) rfl (lit_bs [(0 : Int)] (mem_at 0 rfl _ (List.mem_singleton.2 rfl)) rfl ?_ (by simp)) rfl rfl rfl ?_
                · trivial
                refine VC.intro ?_ ?_
                · exact keep_new
                refine VC.intro ?_ ?_
                · (simp only [ByteArray.size_append, bsz, List.length_map, List.length_cons, List.length_nil]; have : IntKind.i64.max = 9223372036854775807 := rfl; omega)
                try dsimp only
                (rw [‹letterM x = true›]; exact ⟨[], ⟨by rw [ltx_tok (by assumption) (by first | rfl | assumption) (by first | rfl | assumption) (by first | (rw [if_pos ‹x.black = true›]; rfl) | (rw [if_neg (Bool.eq_false_iff.1 ‹x.black = false›)]; rfl)) (by omega)], rfl⟩, (.le fun a => by (try simp only [setR, List.cons_append, List.nil_append]); simp [List.count_cons, Blk.ent, idOf]; try omega)⟩)
              ·
                refine VC.intro ?_ ?_
                ·
                  refine conv_bs G_ok (([(0 : Int)] : List Int).map fun v => UInt8.ofNat v.toNat) rfl (lit_bs [(0 : Int)] (mem_at 0 rfl _ (List.mem_singleton.2 rfl)) rfl ?_ (by simp)) rfl rfl rfl ?_
                  · trivial
                  refine VC.intro ?_ ?_
                  · exact keep_new
                  refine call_val (l01Var_ct _ ?_ ?_) trivial ?_
                  · (simp (disch := omega) only [wrap_of]; omega)
                  · (simp (disch := omega) only [wrap_of]; omega)
                  rintro _ rfl
                  refine VC.intro ?_ ?_
                  · exact keep_new
                  refine VC.intro ?_ ?_
                  · (simp only [ByteArray.size_append, bsz, List.length_map, List.length_cons, List.length_nil]; have : IntKind.i64.max = 9223372036854775807 := rfl; omega)
                  refine VC.intro ?_ ?_
                  · (simp only [ByteArray.size_append, bsz, List.length_map, List.length_cons, List.length_nil]; have : IntKind.i64.max = 9223372036854775807 := rfl; omega)
                  try dsimp only
                  (rw [‹letterM x = true›]; exact ⟨[], ⟨by rw [ltx_tok (by assumption) (by first | rfl | assumption) (by first | rfl | assumption) (by first | (rw [if_pos ‹x.black = true›]; rfl) | (rw [if_neg (Bool.eq_false_iff.1 ‹x.black = false›)]; rfl)) (by omega)], rfl⟩, (.le fun a => by (try simp only [setR, List.cons_append, List.nil_append]); simp [List.count_cons, Blk.ent, idOf]; try omega)⟩)
                ·
                  exact trivial
            ·
              exact trivial
      ·
        simp at q11
        refine VCsplit.intro (fun q23 => ?_) (fun q23 => ?_)
        ·
          simp at q23
          refine VCnew.intro fun x24 => ?_
          refine conv_bs G_ok (([IntKind.u8.wrap x.atom] : List Int).map fun v => UInt8.ofNat v.toNat) rfl (lit_bs [IntKind.u8.wrap x.atom] (mem_at 0 rfl _ (List.mem_singleton.2 rfl)) rfl ?_ (by simp)) rfl rfl rfl ?_
          · (simp only [inU8, u8_wrap, and_true]; omega)
          refine VC.intro ?_ ?_
          · (simp only [ByteArray.size_append, bsz, List.length_map, List.length_cons, List.length_nil]; have : IntKind.i64.max = 9223372036854775807 := rfl; omega)
          refine VC.intro ?_ ?_
          · (simp only [ByteArray.size_append, bsz, List.length_map, List.length_cons, List.length_nil]; have : IntKind.i64.max = 9223372036854775807 := rfl; omega)
          try dsimp only
          (rw [‹letterM x = true›]; exact ⟨[], ⟨by rw [ltx_rows (by assumption) (by first | rfl | assumption) (by first | rfl | assumption) (by omega)], rfl⟩, (.le fun a => by (try simp only [setR, List.cons_append, List.nil_append]); simp [List.count_cons, Blk.ent, idOf]; try omega)⟩)
        ·
          simp at q23
          refine VC.intro ?_ ?_
          · (simp only [ByteArray.size_append, bsz, List.length_map, List.length_cons, List.length_nil]; have : IntKind.i64.max = 9223372036854775807 := rfl; omega)
          try dsimp only
          (rw [‹letterM x = true›]; exact ⟨[], ⟨by rw [ltx_txt (by assumption) (by first | rfl | assumption) (by omega)], rfl⟩, (.le fun a => by (try simp only [setR, List.cons_append, List.nil_append]); simp [List.count_cons, Blk.ent, idOf]; try omega)⟩)

end Go.Proofs.YtflfohphebmemaaGreat
