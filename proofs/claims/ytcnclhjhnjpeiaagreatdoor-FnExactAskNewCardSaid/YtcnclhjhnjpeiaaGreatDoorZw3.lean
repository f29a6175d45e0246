/-
 Parts of the law, put together. Conditions: none.
-/
import Derived.Test.YtcnclhjhnjpeiaaGreatDoorZw2
set_option maxHeartbeats 4000000
set_option linter.unusedSimpArgs false
set_option linter.unusedVariables false
namespace Go.Proofs.YtcnclhjhnjpeiaaGreatDoor
open Go.SX Go.Proofs
open Tryz
section
attribute [local irreducible] IntKind.wrap
theorem implPieceOk_ct (l : List Value) (x : Piece) (i : Nat) (hi : i ≤ 1000000) : Ct prog 226 [.agg ⟨l⟩, .int .i64 (i : Int)] [] (fun H => gPiece.rd H l x) (fun v A => v = .bool (pieceOk x i) ∧ A = []) := by
 refine Ct.intro0 G_ok func226 rfl rfl rfl fun E H hp => ?_
 obtain ⟨b2p, c2p, rfl, w0p, h2p⟩ := gPiece_rd.1 hp
 have hl := (rd_len h2p).2
 refine ⟨fun x0 => ?_⟩
 refine ⟨fun q1 => ?_, fun q1 => ?_⟩
 ·simp at q1
  refine call_val (isLabel_ct _) trivial ?_
  rintro _ rfl
  refine ⟨fun q3 => ?_, fun q3 => ?_⟩
  ·exact ⟨[], ⟨by rw [piece_step ‹x.op = 1› ‹labelOk x.label = true›], rfl⟩, .mem (by simp)⟩
  ·exact ⟨[], ⟨by rw [piece1 ‹x.op = 1›, ‹labelOk x.label = false›]; rfl, rfl⟩, .mem (by simp)⟩
 ·simp at q1
  refine ⟨fun q4 => ?_, fun q4 => ?_⟩
  ·simp at q4
   refine ⟨fun q5 => ?_, fun q5 => ?_⟩
   ·simp at q5
    exact ⟨[], ⟨by rw [piece_f fun e => by (have := piece_iff.1 e; omega)], rfl⟩, .mem (by simp)⟩
   ·simp at q5
    apply loop_mod (α := (Nat)) G_ok [39, 40, 41, 6, 42, 43, 44, 45, 46, 47, 48, 4, 49, 38] (fun z => [(38, .v (.int .i64 z))]) (fun z => [{ id := x0, cs := [Value.int IntKind.i64 x.op, Value.int IntKind.u8 (↑x.label.toNat : Int), Value.slice b2p x.kids.length c2p], ty := (279 : Nat) }]) (fun z => [H]) (fun z => x.kids.length - z) (fun z => z ≤ x.kids.length ∧ kidsOk (x.kids.take z) i = true) (0)
    ·exact frI
    ·exact ⟨rfl, trivial⟩
    ·exact ⟨by omega, rfl⟩
    ·exact .refl _
    rintro k hI
    obtain ⟨hk, ha⟩ : k ≤ x.kids.length ∧ kidsOk (x.kids.take k) i = true := hI
    try dsimp only
    refine ⟨fun q6 => ?_, fun q6 => ?_⟩
    ·simp at q6
     refine idx_rd h2p ?_ ?_ fun b7 o7 hb7 => ?_
     ·omega
     ·omega
     refine load_allN 0 (k) rfl h2p ?_ ?_ hb7 rfl (mem_at 0 rfl) fun l8 hl8 => ?_
     ·omega
     ·omega
     obtain ⟨rfl, hw8⟩ := hl8; simp only [flStr, flInt, okI] at hw8
     refine ⟨fun q9 => ?_, fun q9 => ?_⟩
     ·simp at q9
      exact ⟨[], ⟨by rw [piece_badkid (k := k) (by omega) (by omega) (by omega)], rfl⟩, .mem (by simp)⟩
     ·simp at q9
      refine ⟨fun q10 => ?_, fun q10 => ?_⟩
      ·simp at q10
       exact ⟨[], ⟨by rw [piece_badkid (k := k) (by omega) (by omega) (by omega)], rfl⟩, .mem (by simp)⟩
      ·simp at q10
       apply loop_stepA (k + 1)
       ·exact .refl _
       ·exact frI
       ·exact ⟨rfl, trivial⟩
       ·exact ⟨by omega, kidsOk_step (by omega) ha (by omega)⟩
       omega
    ·simp at q6
     (have hke : k = x.kids.length := (by omega); subst hke; rw [List.take_length] at ha; exact ⟨[], ⟨by rw [piece_end (by omega) ha], rfl⟩, .mem (by simp)⟩)
  ·simp at q4
   refine ⟨fun q11 => ?_, fun q11 => ?_⟩
   ·simp at q11
    refine ⟨fun q12 => ?_, fun q12 => ?_⟩
    ·simp at q12
     exact ⟨[], ⟨by rw [piece_f fun e => by (have := piece_iff.1 e; omega)], rfl⟩, .mem (by simp)⟩
    ·simp at q12
     apply loop_mod (α := (Nat)) G_ok [39, 40, 41, 6, 42, 43, 44, 45, 46, 47, 48, 4, 49, 38] (fun z => [(38, .v (.int .i64 z))]) (fun z => [{ id := x0, cs := [Value.int IntKind.i64 x.op, Value.int IntKind.u8 (↑x.label.toNat : Int), Value.slice b2p x.kids.length c2p], ty := (279 : Nat) }]) (fun z => [H]) (fun z => x.kids.length - z) (fun z => z ≤ x.kids.length ∧ kidsOk (x.kids.take z) i = true) (0)
     ·exact frI
     ·exact ⟨rfl, trivial⟩
     ·exact ⟨by omega, rfl⟩
     ·exact .refl _
     rintro k hI
     obtain ⟨hk, ha⟩ : k ≤ x.kids.length ∧ kidsOk (x.kids.take k) i = true := hI
     try dsimp only
     refine ⟨fun q13 => ?_, fun q13 => ?_⟩
     ·simp at q13
      refine idx_rd h2p ?_ ?_ fun b14 o14 hb14 => ?_
      ·omega
      ·omega
      refine load_allN 0 (k) rfl h2p ?_ ?_ hb14 rfl (mem_at 0 rfl) fun l15 hl15 => ?_
      ·omega
      ·omega
      obtain ⟨rfl, hw15⟩ := hl15; simp only [flStr, flInt, okI] at hw15
      refine ⟨fun q16 => ?_, fun q16 => ?_⟩
      ·simp at q16
       exact ⟨[], ⟨by rw [piece_badkid (k := k) (by omega) (by omega) (by omega)], rfl⟩, .mem (by simp)⟩
      ·simp at q16
       refine ⟨fun q17 => ?_, fun q17 => ?_⟩
       ·simp at q17
        exact ⟨[], ⟨by rw [piece_badkid (k := k) (by omega) (by omega) (by omega)], rfl⟩, .mem (by simp)⟩
       ·simp at q17
        apply loop_stepA (k + 1)
        ·exact .refl _
        ·exact frI
        ·exact ⟨rfl, trivial⟩
        ·exact ⟨by omega, kidsOk_step (by omega) ha (by omega)⟩
        omega
     ·simp at q13
      (have hke : k = x.kids.length := (by omega); subst hke; rw [List.take_length] at ha; exact ⟨[], ⟨by rw [piece_end (by omega) ha], rfl⟩, .mem (by simp)⟩)
   ·simp at q11
    refine ⟨fun q18 => ?_, fun q18 => ?_⟩
    ·simp at q18
     refine ⟨fun q19 => ?_, fun q19 => ?_⟩
     ·simp at q19
      exact ⟨[], ⟨by rw [piece_f fun e => by (have := piece_iff.1 e; omega)], rfl⟩, .mem (by simp)⟩
     ·simp at q19
      apply loop_mod (α := (Nat)) G_ok [39, 40, 41, 6, 42, 43, 44, 45, 46, 47, 48, 4, 49, 38] (fun z => [(38, .v (.int .i64 z))]) (fun z => [{ id := x0, cs := [Value.int IntKind.i64 x.op, Value.int IntKind.u8 (↑x.label.toNat : Int), Value.slice b2p x.kids.length c2p], ty := (279 : Nat) }]) (fun z => [H]) (fun z => x.kids.length - z) (fun z => z ≤ x.kids.length ∧ kidsOk (x.kids.take z) i = true) (0)
      ·exact frI
      ·exact ⟨rfl, trivial⟩
      ·exact ⟨by omega, rfl⟩
      ·exact .refl _
      rintro k hI
      obtain ⟨hk, ha⟩ : k ≤ x.kids.length ∧ kidsOk (x.kids.take k) i = true := hI
      try dsimp only
      refine ⟨fun q20 => ?_, fun q20 => ?_⟩
      ·simp at q20
       refine idx_rd h2p ?_ ?_ fun b21 o21 hb21 => ?_
       ·omega
       ·omega
       refine load_allN 0 (k) rfl h2p ?_ ?_ hb21 rfl (mem_at 0 rfl) fun l22 hl22 => ?_
       ·omega
       ·omega
       obtain ⟨rfl, hw22⟩ := hl22; simp only [flStr, flInt, okI] at hw22
       refine ⟨fun q23 => ?_, fun q23 => ?_⟩
       ·simp at q23
        exact ⟨[], ⟨by rw [piece_badkid (k := k) (by omega) (by omega) (by omega)], rfl⟩, .mem (by simp)⟩
       ·simp at q23
        refine ⟨fun q24 => ?_, fun q24 => ?_⟩
        ·simp at q24
         exact ⟨[], ⟨by rw [piece_badkid (k := k) (by omega) (by omega) (by omega)], rfl⟩, .mem (by simp)⟩
        ·simp at q24
         apply loop_stepA (k + 1)
         ·exact .refl _
         ·exact frI
         ·exact ⟨rfl, trivial⟩
         ·exact ⟨by omega, kidsOk_step (by omega) ha (by omega)⟩
         omega
      ·simp at q20
       (have hke : k = x.kids.length := (by omega); subst hke; rw [List.take_length] at ha; exact ⟨[], ⟨by rw [piece_end (by omega) ha], rfl⟩, .mem (by simp)⟩)
    ·simp at q18
     refine ⟨fun q25 => ?_, fun q25 => ?_⟩
     ·simp at q25
      refine ⟨fun q26 => ?_, fun q26 => ?_⟩
      ·simp at q26
       exact ⟨[], ⟨by rw [piece_f fun e => by (have := piece_iff.1 e; omega)], rfl⟩, .mem (by simp)⟩
      ·simp at q26
       apply loop_mod (α := (Nat)) G_ok [39, 40, 41, 6, 42, 43, 44, 45, 46, 47, 48, 4, 49, 38] (fun z => [(38, .v (.int .i64 z))]) (fun z => [{ id := x0, cs := [Value.int IntKind.i64 x.op, Value.int IntKind.u8 (↑x.label.toNat : Int), Value.slice b2p x.kids.length c2p], ty := (279 : Nat) }]) (fun z => [H]) (fun z => x.kids.length - z) (fun z => z ≤ x.kids.length ∧ kidsOk (x.kids.take z) i = true) (0)
       ·exact frI
       ·exact ⟨rfl, trivial⟩
       ·exact ⟨by omega, rfl⟩
       ·exact .refl _
       rintro k hI
       obtain ⟨hk, ha⟩ : k ≤ x.kids.length ∧ kidsOk (x.kids.take k) i = true := hI
       try dsimp only
       refine ⟨fun q27 => ?_, fun q27 => ?_⟩
       ·simp at q27
        refine idx_rd h2p ?_ ?_ fun b28 o28 hb28 => ?_
        ·omega
        ·omega
        refine load_allN 0 (k) rfl h2p ?_ ?_ hb28 rfl (mem_at 0 rfl) fun l29 hl29 => ?_
        ·omega
        ·omega
        obtain ⟨rfl, hw29⟩ := hl29; simp only [flStr, flInt, okI] at hw29
        refine ⟨fun q30 => ?_, fun q30 => ?_⟩
        ·simp at q30
         exact ⟨[], ⟨by rw [piece_badkid (k := k) (by omega) (by omega) (by omega)], rfl⟩, .mem (by simp)⟩
        ·simp at q30
         refine ⟨fun q31 => ?_, fun q31 => ?_⟩
         ·simp at q31
          exact ⟨[], ⟨by rw [piece_badkid (k := k) (by omega) (by omega) (by omega)], rfl⟩, .mem (by simp)⟩
         ·simp at q31
          apply loop_stepA (k + 1)
          ·exact .refl _
          ·exact frI
          ·exact ⟨rfl, trivial⟩
          ·exact ⟨by omega, kidsOk_step (by omega) ha (by omega)⟩
          omega
       ·simp at q27
        (have hke : k = x.kids.length := (by omega); subst hke; rw [List.take_length] at ha; exact ⟨[], ⟨by rw [piece_end (by omega) ha], rfl⟩, .mem (by simp)⟩)
     ·simp at q25
      refine ⟨fun q32 => ?_, fun q32 => ?_⟩
      ·simp at q32
       refine ⟨fun q33 => ?_, fun q33 => ?_⟩
       ·simp at q33
        exact ⟨[], ⟨by rw [piece_f fun e => by (have := piece_iff.1 e; omega)], rfl⟩, .mem (by simp)⟩
       ·simp at q33
        apply loop_mod (α := (Nat)) G_ok [39, 40, 41, 6, 42, 43, 44, 45, 46, 47, 48, 4, 49, 38] (fun z => [(38, .v (.int .i64 z))]) (fun z => [{ id := x0, cs := [Value.int IntKind.i64 x.op, Value.int IntKind.u8 (↑x.label.toNat : Int), Value.slice b2p x.kids.length c2p], ty := (279 : Nat) }]) (fun z => [H]) (fun z => x.kids.length - z) (fun z => z ≤ x.kids.length ∧ kidsOk (x.kids.take z) i = true) (0)
        ·exact frI
        ·exact ⟨rfl, trivial⟩
        ·exact ⟨by omega, rfl⟩
        ·exact .refl _
        rintro k hI
        obtain ⟨hk, ha⟩ : k ≤ x.kids.length ∧ kidsOk (x.kids.take k) i = true := hI
        try dsimp only
        refine ⟨fun q34 => ?_, fun q34 => ?_⟩
        ·simp at q34
         refine idx_rd h2p ?_ ?_ fun b35 o35 hb35 => ?_
         ·omega
         ·omega
         refine load_allN 0 (k) rfl h2p ?_ ?_ hb35 rfl (mem_at 0 rfl) fun l36 hl36 => ?_
         ·omega
         ·omega
         obtain ⟨rfl, hw36⟩ := hl36; simp only [flStr, flInt, okI] at hw36
         refine ⟨fun q37 => ?_, fun q37 => ?_⟩
         ·simp at q37
          exact ⟨[], ⟨by rw [piece_badkid (k := k) (by omega) (by omega) (by omega)], rfl⟩, .mem (by simp)⟩
         ·simp at q37
          refine ⟨fun q38 => ?_, fun q38 => ?_⟩
          ·simp at q38
           exact ⟨[], ⟨by rw [piece_badkid (k := k) (by omega) (by omega) (by omega)], rfl⟩, .mem (by simp)⟩
          ·simp at q38
           apply loop_stepA (k + 1)
           ·exact .refl _
           ·exact frI
           ·exact ⟨rfl, trivial⟩
           ·exact ⟨by omega, kidsOk_step (by omega) ha (by omega)⟩
           omega
        ·simp at q34
         (have hke : k = x.kids.length := (by omega); subst hke; rw [List.take_length] at ha; exact ⟨[], ⟨by rw [piece_end (by omega) ha], rfl⟩, .mem (by simp)⟩)
      ·simp at q32
       exact ⟨[], ⟨by rw [piece_f fun e => by (have := piece_iff.1 e; omega)], rfl⟩, .mem (by simp)⟩
theorem implPathOk_ct (l : List Value) (x : Path) : Ct prog 209 [.agg ⟨l⟩] [] (fun H => gPath.rd H l x) (fun v A => v = .bool (pathOk x) ∧ A = []) := by
 refine Ct.intro0 G_ok func209 rfl rfl rfl fun E H hp => ?_
 obtain ⟨b0p, c0p, rfl, h0p⟩ := gPath_rd.1 hp
 have hl := (rd_len h0p).2
 refine ⟨fun x0 => ?_⟩
 refine ⟨fun q1 => ?_, fun q1 => ?_⟩
 ·simp at q1
  exact ⟨[], ⟨by rw [pathOk_out (by omega)], rfl⟩, .mem (by simp)⟩
 ·simp at q1
  refine ⟨fun q2 => ?_, fun q2 => ?_⟩
  ·simp at q2
   exact ⟨[], ⟨by rw [pathOk_out (by omega)], rfl⟩, .mem (by simp)⟩
  ·simp at q2
   apply loop_mod (α := (Nat)) G_ok [19, 20, 21, 22, 4, 3, 23, 24, 25, 26, 2, 27, 18] (fun z => [(18, .v (.int .i64 z))]) (fun z => [{ id := x0, cs := [Value.slice b0p x.pieces.length c0p], ty := (205 : Nat) }]) (fun z => [H]) (fun z => x.pieces.length - z) (fun z => z ≤ x.pieces.length ∧ allK (fun i => pieceOk (x.pieces[i]?.getD default) i) z = true) (0)
   ·exact frI
   ·exact ⟨rfl, trivial⟩
   ·exact ⟨by omega, rfl⟩
   ·exact .refl _
   rintro k hI
   try dsimp only at hI
   obtain ⟨hk, ha⟩ := hI
   try dsimp only
   refine ⟨fun q3 => ?_, fun q3 => ?_⟩
   ·simp at q3
    refine idx_rd h0p ?_ ?_ fun b4 o4 hb4 => ?_
    ·omega
    ·omega
    refine load_allN default (k) rfl h0p ?_ ?_ hb4 rfl (mem_at 0 rfl) fun l5 hl5 => ?_
    ·omega
    ·omega
    obtain ⟨b2x5, c2x5, rfl, w0x5, h2x5⟩ := gPiece_rd.1 hl5
    refine ⟨fun x6 => ?_⟩
    refine call_val (implPieceOk_ct _ (x.pieces[k]?.getD default) _ ?_) (Rp.mono _ (mem_at 0 rfl) hl5) ?_
    ·omega
    rintro _ rfl
    refine ⟨fun q8 => ?_, fun q8 => ?_⟩
    ·simp at q8
     exact ⟨[], ⟨by rw [pathOk_no (k := k) (by omega) (by assumption)], rfl⟩, .mem (by simp)⟩
    ·simp at q8
     apply loop_stepA (k + 1)
     ·exact .refl _
     ·exact frI
     ·exact ⟨rfl, trivial⟩
     ·exact ⟨by omega, allK_step ha (by assumption)⟩
     omega
   ·simp at q3
    (have hke : k = x.pieces.length := (by omega); subst hke; exact ⟨[], ⟨by rw [pathOk_yes (by omega) ha], rfl⟩, .mem (by simp)⟩)
theorem pathOk_end {p : Path} (h2 : allK (fun i => pieceOk (p.pieces[i]?.getD default) i) p.pieces.length = true) : pathOk p = inR 1 60 (p.pieces.length : Nat) := by
 rw [Bool.eq_iff_iff, inR_iff]
 unfold pathOk; rw [h2]; simp; omega
theorem specPathOk_ct (l : List Value) (x : Path) : Ct prog 174 [.agg ⟨l⟩] [] (fun H => gPath.rd H l x) (fun v A => v = .bool (pathOk x) ∧ A = []) := by
 refine Ct.intro0 G_ok func174 rfl rfl rfl fun E H hp => ?_
 obtain ⟨b0p, c0p, rfl, h0p⟩ := gPath_rd.1 hp
 have hl := (rd_len h0p).2
 refine ⟨fun x0 => ?_⟩
 apply loop_mod (α := (Nat)) G_ok [7, 8, 9, 10, 11, 14, 15, 16, 17, 18, 4, 19, 20, 21, 5, 22, 23, 25, 24, 26, 27, 28, 29, 30, 31, 32, 33, 34, 35, 36, 37, 2, 39, 38, 40, 41, 42, 43, 44, 45, 46, 47, 49, 48, 50, 51, 52, 53, 54, 55, 56, 57, 58, 6, 59, 60, 61, 64, 65, 66, 67, 68, 69, 70, 71, 72, 62, 63, 12, 13, 3] (fun z => [(3, .v (.int .i64 z))]) (fun z => [{ id := x0, cs := [Value.slice b0p x.pieces.length c0p], ty := (205 : Nat) }]) (fun z => [H]) (fun z => x.pieces.length - z) (fun z => z ≤ x.pieces.length ∧ allK (fun i => pieceOk (x.pieces[i]?.getD default) i) z = true) (0)
 ·repeat' (first | exact trivial | refine ⟨⟨_, rfl, by first | rfl | exact inc_eq _ (by omega) | (refine sl_eq ?_; simp; done) | exact inc_eq _ (by have h9 := (rd_len (xs := (x.pieces[k]?.getD default).kids) (by assumption)).2; omega), by first | exact trivial | simp [SV.ok]⟩, ?_⟩)
 ·exact ⟨rfl, trivial⟩
 ·exact ⟨by omega, rfl⟩
 ·exact .refl _
 rintro k hI
 try dsimp only at hI
 obtain ⟨hk, ha⟩ := hI
 try dsimp only
 refine ⟨fun q1 => ?_, fun q1 => ?_⟩
 ·simp at q1
  refine idx_rd h0p ?_ ?_ fun b2 o2 hb2 => ?_
  ·omega
  ·omega
  refine load_allN default (k) rfl h0p ?_ ?_ hb2 rfl (mem_at 0 rfl) fun l3 hl3 => ?_
  ·omega
  ·omega
  obtain ⟨b2x3, c2x3, rfl, w0x3, h2x3⟩ := gPiece_rd.1 hl3
  refine ⟨fun x4 => ?_⟩
  refine ⟨fun q5 => ?_, fun q5 => ?_⟩
  ·simp at q5
   refine ⟨fun q6 => ?_, fun q6 => ?_⟩
   ·simp at q6
    exact ⟨[], ⟨by rw [pathOk_no (k := k) (by omega) (piece_f fun e => by (have := piece_iff.1 e; omega))], rfl⟩, .mem (by simp)⟩
   ·simp at q6
    refine ⟨fun q7 => ?_, fun q7 => ?_⟩
    ·simp at q7
     exact ⟨[], ⟨by rw [pathOk_no (k := k) (by omega) (piece_f fun e => by (have := piece_iff.1 e; omega))], rfl⟩, .mem (by simp)⟩
    ·simp at q7
     refine ⟨fun q8 => ?_, fun q8 => ?_⟩
     ·simp at q8
      (have e9 : (x.pieces[k]?.getD default).kids.length ≠ 0 := (by simpa using ‹¬ _ = []›); exact ⟨[], ⟨by rw [pathOk_no (k := k) (by omega) (piece_f fun e => by (have := piece_iff.1 e; omega))], rfl⟩, .mem (by simp)⟩)
     ·simp at q8
      apply loop_mod (α := (Nat)) G_ok [59, 60, 61, 64, 65, 66, 67, 68, 69, 70, 71, 72, 2, 62, 63, 6] (fun z => [(6, .v (.int .i64 z))]) (fun z => [{ id := x0, cs := [Value.slice b0p x.pieces.length c0p], ty := (205 : Nat) }, { id := x4, cs := [Value.int IntKind.i64 (x.pieces[k]?.getD default).op, Value.int IntKind.u8 (↑(x.pieces[k]?.getD default).label.toNat : Int), Value.slice b2x3 (x.pieces[k]?.getD default).kids.length c2x3], ty := (279 : Nat) }]) (fun z => [H]) (fun z => (x.pieces[k]?.getD default).kids.length - z) (fun z => z ≤ (x.pieces[k]?.getD default).kids.length ∧ kidsOk ((x.pieces[k]?.getD default).kids.take z) k = true) (0)
      ·repeat' (first | exact trivial | refine ⟨⟨_, rfl, by first | rfl | exact inc_eq _ (by omega) | (refine sl_eq ?_; simp; done) | exact inc_eq _ (by have h9 := (rd_len (xs := (x.pieces[k]?.getD default).kids) (by assumption)).2; omega), by first | exact trivial | simp [SV.ok]⟩, ?_⟩)
      ·exact ⟨rfl, rfl, trivial⟩
      ·exact ⟨by omega, rfl⟩
      ·exact .refl _
      rintro j hI
      try dsimp only at hI
      obtain ⟨hj, hb⟩ := hI
      try dsimp only
      refine ⟨fun q9 => ?_, fun q9 => ?_⟩
      ·simp at q9
       refine idx_rd h2x3 ?_ ?_ fun b10 o10 hb10 => ?_
       ·omega
       ·omega
       refine load_allN 0 (j) rfl h2x3 ?_ ?_ hb10 rfl (mem_at 0 rfl) fun l11 hl11 => ?_
       ·omega
       ·omega
       obtain ⟨rfl, hw11⟩ := hl11; simp only [flStr, flInt, okI] at hw11
       refine call_val (l01In_ct _ _ _) trivial ?_
       rintro _ rfl
       refine ⟨fun q13 => ?_, fun q13 => ?_⟩
       ·simp at q13
        simp (disch := omega) only [wrap_of] at q13
        have iq13 := mt inR_iff.2 (Bool.eq_false_iff.1 q13)
        exact ⟨[], ⟨by rw [pathOk_no (k := k) (by omega) (piece_f fun e => by (have := piece_iff.1 e; omega))], rfl⟩, .mem (by simp)⟩
       ·simp at q13
        simp (disch := omega) only [wrap_of] at q13
        have iq13 := inR_iff.1 q13
        apply loop_stepA (j + 1)
        ·exact .refl _
        ·repeat' (first | exact trivial | refine ⟨⟨_, rfl, by first | rfl | exact inc_eq _ (by omega) | (refine sl_eq ?_; simp; done) | exact inc_eq _ (by have h9 := (rd_len (xs := (x.pieces[k]?.getD default).kids) (by assumption)).2; omega), by first | exact trivial | simp [SV.ok]⟩, ?_⟩)
        ·exact ⟨rfl, rfl, trivial⟩
        ·exact ⟨by omega, kidsOk_step (by omega) hb (by omega)⟩
        omega
      ·simp at q9
       apply loop_stepA (k + 1)
       ·exact .refl _
       ·repeat' (first | exact trivial | refine ⟨⟨_, rfl, by first | rfl | exact inc_eq _ (by omega) | (refine sl_eq ?_; simp; done) | exact inc_eq _ (by have h9 := (rd_len (xs := (x.pieces[k]?.getD default).kids) (by assumption)).2; omega), by first | exact trivial | simp [SV.ok]⟩, ?_⟩)
       ·exact ⟨rfl, trivial⟩
       ·(have e9 : (x.pieces[k]?.getD default).kids.length = 0 := (by rw [‹(x.pieces[k]?.getD default).kids = []›]; rfl); exact ⟨by omega, allK_step ha (piece_iff.2 (by omega))⟩)
       omega
  ·simp at q5
   refine ⟨fun q14 => ?_, fun q14 => ?_⟩
   ·simp at q14
    refine ⟨fun q15 => ?_, fun q15 => ?_⟩
    ·simp at q15
     exact ⟨[], ⟨by rw [pathOk_no (k := k) (by omega) (piece_f fun e => by (have := piece_iff.1 e; omega))], rfl⟩, .mem (by simp)⟩
    ·simp at q15
     refine ⟨fun q16 => ?_, fun q16 => ?_⟩
     ·simp at q16
      exact ⟨[], ⟨by rw [pathOk_no (k := k) (by omega) (piece_f fun e => by (have := piece_iff.1 e; omega))], rfl⟩, .mem (by simp)⟩
     ·simp at q16
      apply loop_mod (α := (Nat)) G_ok [59, 60, 61, 64, 65, 66, 67, 68, 69, 70, 71, 72, 2, 62, 63, 6] (fun z => [(6, .v (.int .i64 z))]) (fun z => [{ id := x0, cs := [Value.slice b0p x.pieces.length c0p], ty := (205 : Nat) }, { id := x4, cs := [Value.int IntKind.i64 (x.pieces[k]?.getD default).op, Value.int IntKind.u8 (↑(x.pieces[k]?.getD default).label.toNat : Int), Value.slice b2x3 (x.pieces[k]?.getD default).kids.length c2x3], ty := (279 : Nat) }]) (fun z => [H]) (fun z => (x.pieces[k]?.getD default).kids.length - z) (fun z => z ≤ (x.pieces[k]?.getD default).kids.length ∧ kidsOk ((x.pieces[k]?.getD default).kids.take z) k = true) (0)
      ·repeat' (first | exact trivial | refine ⟨⟨_, rfl, by first | rfl | exact inc_eq _ (by omega) | (refine sl_eq ?_; simp; done) | exact inc_eq _ (by have h9 := (rd_len (xs := (x.pieces[k]?.getD default).kids) (by assumption)).2; omega), by first | exact trivial | simp [SV.ok]⟩, ?_⟩)
      ·exact ⟨rfl, rfl, trivial⟩
      ·exact ⟨by omega, rfl⟩
      ·exact .refl _
      rintro j hI
      try dsimp only at hI
      obtain ⟨hj, hb⟩ := hI
      try dsimp only
      refine ⟨fun q17 => ?_, fun q17 => ?_⟩
      ·simp at q17
       refine idx_rd h2x3 ?_ ?_ fun b18 o18 hb18 => ?_
       ·omega
       ·omega
       refine load_allN 0 (j) rfl h2x3 ?_ ?_ hb18 rfl (mem_at 0 rfl) fun l19 hl19 => ?_
       ·omega
       ·omega
       obtain ⟨rfl, hw19⟩ := hl19; simp only [flStr, flInt, okI] at hw19
       refine call_val (l01In_ct _ _ _) trivial ?_
       rintro _ rfl
       refine ⟨fun q21 => ?_, fun q21 => ?_⟩
       ·simp at q21
        simp (disch := omega) only [wrap_of] at q21
        have iq21 := mt inR_iff.2 (Bool.eq_false_iff.1 q21)
        exact ⟨[], ⟨by rw [pathOk_no (k := k) (by omega) (piece_badkid (k := j) (by omega) (by omega) (by omega))], rfl⟩, .mem (by simp)⟩
       ·simp at q21
        simp (disch := omega) only [wrap_of] at q21
        have iq21 := inR_iff.1 q21
        apply loop_stepA (j + 1)
        ·exact .refl _
        ·repeat' (first | exact trivial | refine ⟨⟨_, rfl, by first | rfl | exact inc_eq _ (by omega) | (refine sl_eq ?_; simp; done) | exact inc_eq _ (by have h9 := (rd_len (xs := (x.pieces[k]?.getD default).kids) (by assumption)).2; omega), by first | exact trivial | simp [SV.ok]⟩, ?_⟩)
        ·exact ⟨rfl, rfl, trivial⟩
        ·exact ⟨by omega, kidsOk_step (by omega) hb (by omega)⟩
        omega
      ·simp at q17
       apply loop_stepA (k + 1)
       ·exact .refl _
       ·repeat' (first | exact trivial | refine ⟨⟨_, rfl, by first | rfl | exact inc_eq _ (by omega) | (refine sl_eq ?_; simp; done) | exact inc_eq _ (by have h9 := (rd_len (xs := (x.pieces[k]?.getD default).kids) (by assumption)).2; omega), by first | exact trivial | simp [SV.ok]⟩, ?_⟩)
       ·exact ⟨rfl, trivial⟩
       ·(have hje : j = (x.pieces[k]?.getD default).kids.length := (by omega); subst hje; rw [List.take_length] at hb; exact ⟨by omega, allK_step ha (piece_yes (by omega) (by omega) hb)⟩)
       omega
   ·simp at q14
    refine ⟨fun q22 => ?_, fun q22 => ?_⟩
    ·simp at q22
     refine ⟨fun q23 => ?_, fun q23 => ?_⟩
     ·simp at q23
      exact ⟨[], ⟨by rw [pathOk_no (k := k) (by omega) (piece_f fun e => by (have := piece_iff.1 e; omega))], rfl⟩, .mem (by simp)⟩
     ·simp at q23
      refine ⟨fun q24 => ?_, fun q24 => ?_⟩
      ·simp at q24
       exact ⟨[], ⟨by rw [pathOk_no (k := k) (by omega) (piece_f fun e => by (have := piece_iff.1 e; omega))], rfl⟩, .mem (by simp)⟩
      ·simp at q24
       apply loop_mod (α := (Nat)) G_ok [59, 60, 61, 64, 65, 66, 67, 68, 69, 70, 71, 72, 2, 62, 63, 6] (fun z => [(6, .v (.int .i64 z))]) (fun z => [{ id := x0, cs := [Value.slice b0p x.pieces.length c0p], ty := (205 : Nat) }, { id := x4, cs := [Value.int IntKind.i64 (x.pieces[k]?.getD default).op, Value.int IntKind.u8 (↑(x.pieces[k]?.getD default).label.toNat : Int), Value.slice b2x3 (x.pieces[k]?.getD default).kids.length c2x3], ty := (279 : Nat) }]) (fun z => [H]) (fun z => (x.pieces[k]?.getD default).kids.length - z) (fun z => z ≤ (x.pieces[k]?.getD default).kids.length ∧ kidsOk ((x.pieces[k]?.getD default).kids.take z) k = true) (0)
       ·repeat' (first | exact trivial | refine ⟨⟨_, rfl, by first | rfl | exact inc_eq _ (by omega) | (refine sl_eq ?_; simp; done) | exact inc_eq _ (by have h9 := (rd_len (xs := (x.pieces[k]?.getD default).kids) (by assumption)).2; omega), by first | exact trivial | simp [SV.ok]⟩, ?_⟩)
       ·exact ⟨rfl, rfl, trivial⟩
       ·exact ⟨by omega, rfl⟩
       ·exact .refl _
       rintro j hI
       try dsimp only at hI
       obtain ⟨hj, hb⟩ := hI
       try dsimp only
       refine ⟨fun q25 => ?_, fun q25 => ?_⟩
       ·simp at q25
        refine idx_rd h2x3 ?_ ?_ fun b26 o26 hb26 => ?_
        ·omega
        ·omega
        refine load_allN 0 (j) rfl h2x3 ?_ ?_ hb26 rfl (mem_at 0 rfl) fun l27 hl27 => ?_
        ·omega
        ·omega
        obtain ⟨rfl, hw27⟩ := hl27; simp only [flStr, flInt, okI] at hw27
        refine call_val (l01In_ct _ _ _) trivial ?_
        rintro _ rfl
        refine ⟨fun q29 => ?_, fun q29 => ?_⟩
        ·simp at q29
         simp (disch := omega) only [wrap_of] at q29
         have iq29 := mt inR_iff.2 (Bool.eq_false_iff.1 q29)
         exact ⟨[], ⟨by rw [pathOk_no (k := k) (by omega) (piece_badkid (k := j) (by omega) (by omega) (by omega))], rfl⟩, .mem (by simp)⟩
        ·simp at q29
         simp (disch := omega) only [wrap_of] at q29
         have iq29 := inR_iff.1 q29
         apply loop_stepA (j + 1)
         ·exact .refl _
         ·repeat' (first | exact trivial | refine ⟨⟨_, rfl, by first | rfl | exact inc_eq _ (by omega) | (refine sl_eq ?_; simp; done) | exact inc_eq _ (by have h9 := (rd_len (xs := (x.pieces[k]?.getD default).kids) (by assumption)).2; omega), by first | exact trivial | simp [SV.ok]⟩, ?_⟩)
         ·exact ⟨rfl, rfl, trivial⟩
         ·exact ⟨by omega, kidsOk_step (by omega) hb (by omega)⟩
         omega
       ·simp at q25
        apply loop_stepA (k + 1)
        ·exact .refl _
        ·repeat' (first | exact trivial | refine ⟨⟨_, rfl, by first | rfl | exact inc_eq _ (by omega) | (refine sl_eq ?_; simp; done) | exact inc_eq _ (by have h9 := (rd_len (xs := (x.pieces[k]?.getD default).kids) (by assumption)).2; omega), by first | exact trivial | simp [SV.ok]⟩, ?_⟩)
        ·exact ⟨rfl, trivial⟩
        ·(have hje : j = (x.pieces[k]?.getD default).kids.length := (by omega); subst hje; rw [List.take_length] at hb; exact ⟨by omega, allK_step ha (piece_yes (by omega) (by omega) hb)⟩)
        omega
    ·simp at q22
     refine ⟨fun q30 => ?_, fun q30 => ?_⟩
     ·simp at q30
      refine ⟨fun q31 => ?_, fun q31 => ?_⟩
      ·simp at q31
       exact ⟨[], ⟨by rw [pathOk_no (k := k) (by omega) (piece_f fun e => by (have := piece_iff.1 e; omega))], rfl⟩, .mem (by simp)⟩
      ·simp at q31
       refine ⟨fun q32 => ?_, fun q32 => ?_⟩
       ·simp at q32
        exact ⟨[], ⟨by rw [pathOk_no (k := k) (by omega) (piece_f fun e => by (have := piece_iff.1 e; omega))], rfl⟩, .mem (by simp)⟩
       ·simp at q32
        apply loop_mod (α := (Nat)) G_ok [59, 60, 61, 64, 65, 66, 67, 68, 69, 70, 71, 72, 2, 62, 63, 6] (fun z => [(6, .v (.int .i64 z))]) (fun z => [{ id := x0, cs := [Value.slice b0p x.pieces.length c0p], ty := (205 : Nat) }, { id := x4, cs := [Value.int IntKind.i64 (x.pieces[k]?.getD default).op, Value.int IntKind.u8 (↑(x.pieces[k]?.getD default).label.toNat : Int), Value.slice b2x3 (x.pieces[k]?.getD default).kids.length c2x3], ty := (279 : Nat) }]) (fun z => [H]) (fun z => (x.pieces[k]?.getD default).kids.length - z) (fun z => z ≤ (x.pieces[k]?.getD default).kids.length ∧ kidsOk ((x.pieces[k]?.getD default).kids.take z) k = true) (0)
        ·repeat' (first | exact trivial | refine ⟨⟨_, rfl, by first | rfl | exact inc_eq _ (by omega) | (refine sl_eq ?_; simp; done) | exact inc_eq _ (by have h9 := (rd_len (xs := (x.pieces[k]?.getD default).kids) (by assumption)).2; omega), by first | exact trivial | simp [SV.ok]⟩, ?_⟩)
        ·exact ⟨rfl, rfl, trivial⟩
        ·exact ⟨by omega, rfl⟩
        ·exact .refl _
        rintro j hI
        try dsimp only at hI
        obtain ⟨hj, hb⟩ := hI
        try dsimp only
        refine ⟨fun q33 => ?_, fun q33 => ?_⟩
        ·simp at q33
         refine idx_rd h2x3 ?_ ?_ fun b34 o34 hb34 => ?_
         ·omega
         ·omega
         refine load_allN 0 (j) rfl h2x3 ?_ ?_ hb34 rfl (mem_at 0 rfl) fun l35 hl35 => ?_
         ·omega
         ·omega
         obtain ⟨rfl, hw35⟩ := hl35; simp only [flStr, flInt, okI] at hw35
         refine call_val (l01In_ct _ _ _) trivial ?_
         rintro _ rfl
         refine ⟨fun q37 => ?_, fun q37 => ?_⟩
         ·simp at q37
          simp (disch := omega) only [wrap_of] at q37
          have iq37 := mt inR_iff.2 (Bool.eq_false_iff.1 q37)
          exact ⟨[], ⟨by rw [pathOk_no (k := k) (by omega) (piece_badkid (k := j) (by omega) (by omega) (by omega))], rfl⟩, .mem (by simp)⟩
         ·simp at q37
          simp (disch := omega) only [wrap_of] at q37
          have iq37 := inR_iff.1 q37
          apply loop_stepA (j + 1)
          ·exact .refl _
          ·repeat' (first | exact trivial | refine ⟨⟨_, rfl, by first | rfl | exact inc_eq _ (by omega) | (refine sl_eq ?_; simp; done) | exact inc_eq _ (by have h9 := (rd_len (xs := (x.pieces[k]?.getD default).kids) (by assumption)).2; omega), by first | exact trivial | simp [SV.ok]⟩, ?_⟩)
          ·exact ⟨rfl, rfl, trivial⟩
          ·exact ⟨by omega, kidsOk_step (by omega) hb (by omega)⟩
          omega
        ·simp at q33
         apply loop_stepA (k + 1)
         ·exact .refl _
         ·repeat' (first | exact trivial | refine ⟨⟨_, rfl, by first | rfl | exact inc_eq _ (by omega) | (refine sl_eq ?_; simp; done) | exact inc_eq _ (by have h9 := (rd_len (xs := (x.pieces[k]?.getD default).kids) (by assumption)).2; omega), by first | exact trivial | simp [SV.ok]⟩, ?_⟩)
         ·exact ⟨rfl, trivial⟩
         ·(have hje : j = (x.pieces[k]?.getD default).kids.length := (by omega); subst hje; rw [List.take_length] at hb; exact ⟨by omega, allK_step ha (piece_yes (by omega) (by omega) hb)⟩)
         omega
     ·simp at q30
      refine ⟨fun q38 => ?_, fun q38 => ?_⟩
      ·simp at q38
       refine ⟨fun q39 => ?_, fun q39 => ?_⟩
       ·simp at q39
        exact ⟨[], ⟨by rw [pathOk_no (k := k) (by omega) (piece_f fun e => by (have := piece_iff.1 e; omega))], rfl⟩, .mem (by simp)⟩
       ·simp at q39
        refine ⟨fun q40 => ?_, fun q40 => ?_⟩
        ·simp at q40
         exact ⟨[], ⟨by rw [pathOk_no (k := k) (by omega) (piece_f fun e => by (have := piece_iff.1 e; omega))], rfl⟩, .mem (by simp)⟩
        ·simp at q40
         apply loop_mod (α := (Nat)) G_ok [59, 60, 61, 64, 65, 66, 67, 68, 69, 70, 71, 72, 2, 62, 63, 6] (fun z => [(6, .v (.int .i64 z))]) (fun z => [{ id := x0, cs := [Value.slice b0p x.pieces.length c0p], ty := (205 : Nat) }, { id := x4, cs := [Value.int IntKind.i64 (x.pieces[k]?.getD default).op, Value.int IntKind.u8 (↑(x.pieces[k]?.getD default).label.toNat : Int), Value.slice b2x3 (x.pieces[k]?.getD default).kids.length c2x3], ty := (279 : Nat) }]) (fun z => [H]) (fun z => (x.pieces[k]?.getD default).kids.length - z) (fun z => z ≤ (x.pieces[k]?.getD default).kids.length ∧ kidsOk ((x.pieces[k]?.getD default).kids.take z) k = true) (0)
         ·repeat' (first | exact trivial | refine ⟨⟨_, rfl, by first | rfl | exact inc_eq _ (by omega) | (refine sl_eq ?_; simp; done) | exact inc_eq _ (by have h9 := (rd_len (xs := (x.pieces[k]?.getD default).kids) (by assumption)).2; omega), by first | exact trivial | simp [SV.ok]⟩, ?_⟩)
         ·exact ⟨rfl, rfl, trivial⟩
         ·exact ⟨by omega, rfl⟩
         ·exact .refl _
         rintro j hI
         try dsimp only at hI
         obtain ⟨hj, hb⟩ := hI
         try dsimp only
         refine ⟨fun q41 => ?_, fun q41 => ?_⟩
         ·simp at q41
          refine idx_rd h2x3 ?_ ?_ fun b42 o42 hb42 => ?_
          ·omega
          ·omega
          refine load_allN 0 (j) rfl h2x3 ?_ ?_ hb42 rfl (mem_at 0 rfl) fun l43 hl43 => ?_
          ·omega
          ·omega
          obtain ⟨rfl, hw43⟩ := hl43; simp only [flStr, flInt, okI] at hw43
          refine call_val (l01In_ct _ _ _) trivial ?_
          rintro _ rfl
          refine ⟨fun q45 => ?_, fun q45 => ?_⟩
          ·simp at q45
           simp (disch := omega) only [wrap_of] at q45
           have iq45 := mt inR_iff.2 (Bool.eq_false_iff.1 q45)
           exact ⟨[], ⟨by rw [pathOk_no (k := k) (by omega) (piece_badkid (k := j) (by omega) (by omega) (by omega))], rfl⟩, .mem (by simp)⟩
          ·simp at q45
           simp (disch := omega) only [wrap_of] at q45
           have iq45 := inR_iff.1 q45
           apply loop_stepA (j + 1)
           ·exact .refl _
           ·repeat' (first | exact trivial | refine ⟨⟨_, rfl, by first | rfl | exact inc_eq _ (by omega) | (refine sl_eq ?_; simp; done) | exact inc_eq _ (by have h9 := (rd_len (xs := (x.pieces[k]?.getD default).kids) (by assumption)).2; omega), by first | exact trivial | simp [SV.ok]⟩, ?_⟩)
           ·exact ⟨rfl, rfl, trivial⟩
           ·exact ⟨by omega, kidsOk_step (by omega) hb (by omega)⟩
           omega
         ·simp at q41
          apply loop_stepA (k + 1)
          ·exact .refl _
          ·repeat' (first | exact trivial | refine ⟨⟨_, rfl, by first | rfl | exact inc_eq _ (by omega) | (refine sl_eq ?_; simp; done) | exact inc_eq _ (by have h9 := (rd_len (xs := (x.pieces[k]?.getD default).kids) (by assumption)).2; omega), by first | exact trivial | simp [SV.ok]⟩, ?_⟩)
          ·exact ⟨rfl, trivial⟩
          ·(have hje : j = (x.pieces[k]?.getD default).kids.length := (by omega); subst hje; rw [List.take_length] at hb; exact ⟨by omega, allK_step ha (piece_yes (by omega) (by omega) hb)⟩)
          omega
      ·simp at q38
       refine ⟨fun q46 => ?_, fun q46 => ?_⟩
       ·simp at q46
        refine ⟨fun q47 => ?_, fun q47 => ?_⟩
        ·simp at q47
         exact ⟨[], ⟨by rw [pathOk_no (k := k) (by omega) (piece_f fun e => by (have := piece_iff.1 e; omega))], rfl⟩, .mem (by simp)⟩
        ·simp at q47
         refine ⟨fun q48 => ?_, fun q48 => ?_⟩
         ·simp at q48
          exact ⟨[], ⟨by rw [pathOk_no (k := k) (by omega) (piece_f fun e => by (have := piece_iff.1 e; omega))], rfl⟩, .mem (by simp)⟩
         ·simp at q48
          apply loop_mod (α := (Nat)) G_ok [59, 60, 61, 64, 65, 66, 67, 68, 69, 70, 71, 72, 2, 62, 63, 6] (fun z => [(6, .v (.int .i64 z))]) (fun z => [{ id := x0, cs := [Value.slice b0p x.pieces.length c0p], ty := (205 : Nat) }, { id := x4, cs := [Value.int IntKind.i64 (x.pieces[k]?.getD default).op, Value.int IntKind.u8 (↑(x.pieces[k]?.getD default).label.toNat : Int), Value.slice b2x3 (x.pieces[k]?.getD default).kids.length c2x3], ty := (279 : Nat) }]) (fun z => [H]) (fun z => (x.pieces[k]?.getD default).kids.length - z) (fun z => z ≤ (x.pieces[k]?.getD default).kids.length ∧ kidsOk ((x.pieces[k]?.getD default).kids.take z) k = true) (0)
          ·repeat' (first | exact trivial | refine ⟨⟨_, rfl, by first | rfl | exact inc_eq _ (by omega) | (refine sl_eq ?_; simp; done) | exact inc_eq _ (by have h9 := (rd_len (xs := (x.pieces[k]?.getD default).kids) (by assumption)).2; omega), by first | exact trivial | simp [SV.ok]⟩, ?_⟩)
          ·exact ⟨rfl, rfl, trivial⟩
          ·exact ⟨by omega, rfl⟩
          ·exact .refl _
          rintro j hI
          try dsimp only at hI
          obtain ⟨hj, hb⟩ := hI
          try dsimp only
          refine ⟨fun q49 => ?_, fun q49 => ?_⟩
          ·simp at q49
           refine idx_rd h2x3 ?_ ?_ fun b50 o50 hb50 => ?_
           ·omega
           ·omega
           refine load_allN 0 (j) rfl h2x3 ?_ ?_ hb50 rfl (mem_at 0 rfl) fun l51 hl51 => ?_
           ·omega
           ·omega
           obtain ⟨rfl, hw51⟩ := hl51; simp only [flStr, flInt, okI] at hw51
           refine call_val (l01In_ct _ _ _) trivial ?_
           rintro _ rfl
           refine ⟨fun q53 => ?_, fun q53 => ?_⟩
           ·simp at q53
            simp (disch := omega) only [wrap_of] at q53
            have iq53 := mt inR_iff.2 (Bool.eq_false_iff.1 q53)
            exact ⟨[], ⟨by rw [pathOk_no (k := k) (by omega) (piece_badkid (k := j) (by omega) (by omega) (by omega))], rfl⟩, .mem (by simp)⟩
           ·simp at q53
            simp (disch := omega) only [wrap_of] at q53
            have iq53 := inR_iff.1 q53
            apply loop_stepA (j + 1)
            ·exact .refl _
            ·repeat' (first | exact trivial | refine ⟨⟨_, rfl, by first | rfl | exact inc_eq _ (by omega) | (refine sl_eq ?_; simp; done) | exact inc_eq _ (by have h9 := (rd_len (xs := (x.pieces[k]?.getD default).kids) (by assumption)).2; omega), by first | exact trivial | simp [SV.ok]⟩, ?_⟩)
            ·exact ⟨rfl, rfl, trivial⟩
            ·exact ⟨by omega, kidsOk_step (by omega) hb (by omega)⟩
            omega
          ·simp at q49
           apply loop_stepA (k + 1)
           ·exact .refl _
           ·repeat' (first | exact trivial | refine ⟨⟨_, rfl, by first | rfl | exact inc_eq _ (by omega) | (refine sl_eq ?_; simp; done) | exact inc_eq _ (by have h9 := (rd_len (xs := (x.pieces[k]?.getD default).kids) (by assumption)).2; omega), by first | exact trivial | simp [SV.ok]⟩, ?_⟩)
           ·exact ⟨rfl, trivial⟩
           ·(have hje : j = (x.pieces[k]?.getD default).kids.length := (by omega); subst hje; rw [List.take_length] at hb; exact ⟨by omega, allK_step ha (piece_yes (by omega) (by omega) hb)⟩)
           omega
       ·simp at q46
        exact ⟨[], ⟨by rw [pathOk_no (k := k) (by omega) (piece_f fun e => by (have := piece_iff.1 e; omega))], rfl⟩, .mem (by simp)⟩
 ·simp at q1
  refine call_val (l01In_ct _ _ _) trivial ?_
  rintro _ rfl
  (have hke : k = x.pieces.length := (by omega); subst hke; exact ⟨[], ⟨by rw [pathOk_end ha], rfl⟩, .mem (by simp)⟩)
end
end Go.Proofs.YtcnclhjhnjpeiaaGreatDoor
namespace Go.SX
section
variable {P : Program} {E : World} {Γ : Ty} {n : Nat}
theorem run_firstS (w : World) (str : ByteArray) : (Builtin.firstCells flByte.size str.data.toList.length (.string str)).run P w = .ok ⟨str.data.toList.flatMap flByte.enc⟩ w := by
 have e1 : str.data.toList.length = str.size := by simp
 rw [e1]
 have e2 : str.extract 0 str.size = str := by simp
 simp only [Builtin.firstCells, e2, Sem.run_pure]
 congr 1
 apply Array.ext'
 simp only [Array.toList_map]
 induction str.data.toList with
 | nil => rfl
 | cons x r ih => simp only [List.map_cons, List.flatMap_cons, ih]; rfl
theorem run_appendS (hΓ : TyOk P Γ) {sT xT e ty : TypeId} {ti : TI} (hsT : P.underlying sT = some (.slice e)) (hxT : P.underlying xT = some .string) (ht : tyOf Γ e = some ti) (hsz : ti.size = flByte.size)
  (hz : ti.zero.cells.toList.length = flByte.size)
  {A B : Hp} {w : World} {base : Option Addr} {m cap : Nat} {xs : List UInt8} {str : ByteArray} (hs : Sat E (A ++ B) w) (ho : Ow flByte e (.slice base m cap) xs A) 
  (hlen : xs.length + str.data.toList.length ≤ 9223372036854775807) (hbd : (xs.length + str.data.toList.length) * ti.bytes ≤ 140737488355328) :
  ∃ base' cap' A' w', (Builtin.append_ #[sT, xT] ty #[.slice base m cap, .string str]).run P w = .ok (.slice base' (xs.length + str.data.toList.length) cap') w' ∧ (Ow flByte e (.slice base' (xs.length + str.data.toList.length) cap') (xs ++ str.data.toList) A' ∧ (xs.length + str.data.toList.length ≤ cap → base' = base ∧ cap' = cap)) ∧ Sat E (A' ++ B) w' := by
 have hrowS := fun w => run_firstS (P := P) w str
 have hsz2 : str.size = str.data.toList.length := by simp
 have hwf0 : ∀ x, flByte.wf x := fun _ => trivial
 generalize hf : flByte = f at *
 generalize hys : str.data.toList = ys at *
 obtain ⟨hw, hl, base0, cap0, e0, h2⟩ := ho
 cases e0
 have hrow := hrowS w
 have hwf : ∀ x ∈ xs ++ ys, f.wf x := fun x _ => hwf0 x
 have hlen' : (xs ++ ys).length ≤ 9223372036854775807 := by rw [List.length_append]; exact hlen
 unfold Builtin.append_
 simp only [List.getElem?_toArray, List.getElem?_cons_zero, List.getElem?_cons_succ, Sem.run_bind, run_underlying hsT, run_underlying hxT, Result.andThen_ok, ty_size hΓ ht, hsz, Sem.run_pure, Builtin.lenOf, Bool.false_eq_true, if_false, Bool.not_false, if_true]
 rw [hsz2]
 by_cases hfit : xs.length + ys.length ≤ cap
 ·rw [if_pos hfit]
  simp only [Sem.run_bind, hrow, Result.andThen_ok]
  rcases h2 with ⟨rfl, rfl, rfl⟩ | ⟨b, sp, rfl, rfl, h3, h4⟩
  ·have hys : ys = [] := by cases ys with
    | nil => rfl
    | cons _ _ => simp at hfit
   subst hys
   refine ⟨base, 0, [], w, ?_, ⟨Ow.nil e base, fun _ => ⟨rfl, rfl⟩⟩, hs⟩
   cases base with
   | none => rfl
   | some a => rfl
  have hsl : ys.length * f.size ≤ sp.length := by
   exact Nat.le_trans (Nat.mul_le_mul_right _ (by omega)) h4
  have hfl := flat_length f xs
  have hfly := flat_length f ys
  obtain ⟨w', h5, h6⟩ := run_storeCells_wr (P := P) (A := []) (o := xs.length * f.size) (l := ys.flatMap f.enc) hs (by
   show xs.length * f.size + (ys.flatMap f.enc).length ≤ (xs.flatMap f.enc ++ sp).length
   rw [List.length_append]; omega) (by
    have : ∀ l : List UInt8, allOne (l.flatMap f.enc) = true := by
     intro l
     induction l with
     | nil => rfl
     | cons x r ih =>
      rw [List.flatMap_cons]
      have h1 := f.one x
      revert h1
      generalize f.enc x = c
      intro h1
      induction c with
      | nil => exact ih
      | cons v c ihc => cases v <;> simp_all [allOne]
    exact this ys)
  refine ⟨some ⟨b, 0, none⟩, cap, [(b, Obj.cells ⟨setAt (xs.flatMap f.enc ++ sp) (xs.length * f.size) (ys.flatMap f.enc)⟩ e)], w', ?_, ?_, h6⟩
  ·simp only [addr_add, Nat.zero_add, h5, Sem.run_bind, Result.andThen_ok, Sem.run_pure]
  refine ⟨?_, fun _ => ⟨rfl, rfl⟩⟩
  refine ⟨hwf, hlen', some ⟨b, 0, none⟩, cap, by rw [List.length_append], .inr ⟨b, sp.drop (ys.length * f.size), rfl, ?_, by rw [List.length_append]; exact hfit, ?_⟩⟩
  ·show [(b, Obj.cells ⟨setAt (xs.flatMap f.enc ++ sp) (xs.length * f.size) (ys.flatMap f.enc)⟩ e)] = _
   have key : setAt (xs.flatMap f.enc ++ sp) (xs.length * f.size) (ys.flatMap f.enc) = xs.flatMap f.enc ++ ys.flatMap f.enc ++ sp.drop (ys.length * f.size) := by
    rw [setAt_eq _ _ _ (by rw [List.length_append]; omega), ← hfl, List.take_left, hfl, hfly, List.drop_append, List.drop_eq_nil_of_le (by omega), List.nil_append, hfl]
    rw [show xs.length * f.size + ys.length * f.size - xs.length * f.size = ys.length * f.size by omega]
   rw [key, List.flatMap_append]
  rw [List.length_drop, List.length_append]
  have e9 : (cap - (xs.length + ys.length)) * f.size = (cap - xs.length) * f.size - ys.length * f.size := by rw [← Nat.sub_mul]; congr 1; omega
  omega
 rw [if_neg hfit]
 obtain ⟨i, hi, hib, _, _⟩ := ty_bytes hΓ ht
 have hcap : Builtin.nextslicecap (xs.length + ys.length) cap * ti.bytes ≤ 281474976710656 := by
  have h7 := nextcap_le (xs.length + ys.length) cap (by omega)
  have h8 := Nat.mul_le_mul_right ti.bytes h7
  rw [Nat.mul_assoc] at h8
  omega
 have hold : (Builtin.firstCells f.size xs.length (.slice base xs.length cap)).run P w = .ok ⟨xs.flatMap f.enc⟩ w := by
  have h9 : (rpSl f.rp).rd A [.slice base xs.length cap] xs := Ow.rd ⟨hw, hl, base, cap, rfl, h2⟩
  exact (rd_row (f := f) h9 (P := P) hs.drop).2
 have hdrew : ∀ {H : Hp}, Sat E H w → Sat E H { w with drawn := w.drawn + 1 } := fun h => ⟨h.os, h.out, h.tape, h.mem, h.nodup, Nat.le_trans h.dr (Nat.le_succ _)⟩
 have hold' : (Builtin.firstCells f.size xs.length (.slice base xs.length cap)).run P { w with drawn := w.drawn + 1 } = .ok ⟨xs.flatMap f.enc⟩ { w with drawn := w.drawn + 1 } := by
  have h9 : (rpSl f.rp).rd A [.slice base xs.length cap] xs := Ow.rd ⟨hw, hl, base, cap, rfl, h2⟩
  exact (rd_row (f := f) h9 (P := P) (hdrew hs).drop).2
 have hrow' := hrowS { w with drawn := w.drawn + 1 }
 have hmax : IntKind.i64.max = 9223372036854775807 := rfl
 simp only [Sem.run_bind, typeInfo, run_program, Result.andThen_ok, hi, Sem.run_pure]
 rw [if_neg (by
  rw [hmax]
  rintro ⟨h10, _⟩
  omega)]
 have hif : ¬ (Builtin.nextslicecap (xs.length + ys.length) cap * ti.bytes > 2 ^ 48) := by omega
 simp only [Sem.run_bind, run_program, Result.andThen_ok, hi, Sem.run_pure, hib]
 rw [if_neg hif]
 simp only [Sem.run_bind, run_choose, Question.forced, Bool.false_eq_true, if_false, Result.andThen_ok, run_askRoom, hold', hrow', ty_zero hΓ ht, Sem.run_pure, newRow, run_newObj, run_program, hi]
 have hq : xs.length + ys.length ≤ (Question.appendCap (xs.length + ys.length) cap e).cut (w.tape w.drawn (.appendCap (xs.length + ys.length) cap e)) := by
  simp only [Question.cut]; omega
 generalize (Question.appendCap (xs.length + ys.length) cap e).cut (w.tape w.drawn (.appendCap (xs.length + ys.length) cap e)) = c at hq
 rw [zeroCells_eq]
 refine ⟨some ⟨w.heap.size, 0, none⟩, c, [(w.heap.size, Obj.cells ⟨(xs ++ ys).flatMap f.enc ++ zeros (c - (xs.length + ys.length)) ti.zero.cells.toList⟩ e)], _, rfl, ?_, ?_⟩
 ·refine ⟨?_, fun h => absurd h hfit⟩
  refine ⟨hwf, hlen', some ⟨w.heap.size, 0, none⟩, c, by rw [List.length_append], .inr ⟨w.heap.size, _, rfl, rfl, by rw [List.length_append]; exact hq, ?_⟩⟩
  rw [zeros_length, hz, List.length_append]
  exact Nat.le_refl _
 have h11 := (hdrew hs).push (Obj.cells ⟨(xs ++ ys).flatMap f.enc ++ zeros (c - (xs.length + ys.length)) ti.zero.cells.toList⟩ e)
 have h12 : Sat E ((w.heap.size, Obj.cells ⟨(xs ++ ys).flatMap f.enc ++ zeros (c - (xs.length + ys.length)) ti.zero.cells.toList⟩ e) :: B ++ A) (World.alloc { w with drawn := w.drawn + 1 } (Obj.cells ⟨(xs ++ ys).flatMap f.enc ++ zeros (c - (xs.length + ys.length)) ti.zero.cells.toList⟩ e)) := by
  refine h11.perm ?_
  simp only [List.cons_append]
  exact List.Perm.cons _ List.perm_append_comm
 have h13 := h12.drop
 have e1 : ((⟨xs.flatMap f.enc⟩ : Array Value) ++ (⟨ys.flatMap f.enc⟩ : Array Value) ++ (⟨zeros (c - (xs.length + ys.length)) ti.zero.cells.toList⟩ : Array Value)) = ⟨(xs ++ ys).flatMap f.enc ++ zeros (c - (xs.length + ys.length)) ti.zero.cells.toList⟩ := by
  apply Array.ext'
  simp
 rw [e1]
 exact h13
theorem perm0 {α : Type} {x : α} : List.Perm [x] (x :: List.flatten []) := .refl _
theorem perm1 {α : Type} {x : α} {B : List α} : List.Perm (x :: B) (x :: List.flatten [B]) := by simp
def Bz (base : Option Addr) (cap : Nat) : Prop := (base = none ∧ cap = 0) ∨ cap ≠ 0
theorem ow_room {α : Type} {f : Fl α} {T : TypeId} {base : Option Addr} {k cap : Nat} {xs : List α} {A : Hp} (h : Ow f T (.slice base k cap) xs A) (hne : 0 < xs.length) : cap ≠ 0 := by
 obtain ⟨_, _, b0, c0, e, h5⟩ := h
 simp only [Value.slice.injEq] at e
 obtain ⟨_, _, e3⟩ := e
 rcases h5 with ⟨_, h7, _⟩ | ⟨_, _, _, _, h8, _⟩
 ·rw [h7] at hne; simp at hne
 omega
theorem append_str (hΓ : TyOk P Γ) {dst : Option Nat} {s x : Operand} {sT xT T ty : TypeId} {pos : String} {after : Array Edge} {guard : Option (Nat × Bool)} {fr : Fr} {bl : List Blk} {R : List Hp} {K : St → Prop} {ti : TI}
  (i : Nat) {A : Hp} {base : Option Addr} {m cap : Nat} {xs : List UInt8} {str : ByteArray} (hi : nthR R i = some A) (ho : (gSl T gY).ow [.slice base m cap] xs A) (hz0 : Bz base cap)
  (hs1 : getK fr s fun sv => sv = .v (.slice base m cap)) (hx1 : getK fr x fun sv => sv = .v (.string str))
  (hsT : undOf Γ sT = some (.slice T)) (hxT : undOf Γ xT = some .string) (ht : tyOf Γ T = some ti) (hsz : ti.size = flByte.size) (hz : lenIs ti.zero.cells.toList flByte.size = true)
  (hby : Nat.ble ti.bytes 65536 = true) (hlen : xs.length + str.data.toList.length ≤ 1073741824)
  (hk : ∀ base' cap' A', (gSl T gY).ow [.slice base' (xs ++ str.data.toList).length cap'] (xs ++ str.data.toList) A' → Bz base' cap' → putK n fr dst (.v (.slice base' (xs ++ str.data.toList).length cap')) fun fr => K ⟨fr, bl, setR R i A'⟩) :
  VCraw P E n ⟨dst, .call ⟨.builtin .append, #[s, x], #[sT, xT]⟩, ty, pos, after, guard⟩ ⟨fr, bl, R⟩ K := by
 have ho' := fl_ow ho
 have hm : m = xs.length := (by obtain ⟨_, _, _, _, e, _⟩ := ho'; cases e; rfl)
 subst hm
 have hbd : (xs.length + str.data.toList.length) * ti.bytes ≤ 140737488355328 := by
  have h1 := Nat.le_of_ble_eq_true hby
  have h2 := Nat.mul_le_mul hlen h1
  omega
 refine ⟨fun a w hr Q => ?_⟩
 obtain ⟨sv, g1, _, rfl⟩ := getK_sound hr hs1
 obtain ⟨xv, g2, _, rfl⟩ := getK_sound hr hx1
 obtain ⟨pre, post, e1, e2'⟩ := nthR_split hi
 have perm : ∀ C : Hp, (St.hall ⟨[], bl, pre ++ C :: post⟩).Perm (C ++ St.hall ⟨[], bl, pre ++ post⟩) := by
  intro C
  simp only [St.hall, List.flatten_append, List.flatten_cons]
  have := List.perm_append_comm (l₁ := List.map Blk.ent bl ++ pre.flatten) (l₂ := C)
  have := this.append_right post.flatten
  simpa only [List.append_assoc] using this
 subst e1
 have hsat : Sat E (A ++ St.hall ⟨[], bl, pre ++ post⟩) w := hr.sat.perm (perm A)
 obtain ⟨base', cap', A', w', h1, h2, h3⟩ := run_appendS (ty := ty) hΓ (undOf_ok hΓ hsT) (undOf_ok hΓ hxT) ht hsz (lenIs_spec hz) hsat ho' (by omega) hbd
 have hr' : Rel E n ⟨fr, bl, setR (pre ++ A :: post) i A'⟩ a w' := by
  rw [e2']
  exact hr.ids rfl (h3.perm (perm A').symm)
 have hBz : Bz base' cap' := by
  by_cases hf : xs.length + str.data.toList.length ≤ cap
  ·obtain ⟨rfl, rfl⟩ := h2.2 hf; exact hz0
  exact .inr (ow_room h2.1 (by rw [List.length_append]; omega))
 have e3 : (xs ++ str.data.toList).length = xs.length + str.data.toList.length := List.length_append
 rw [e3] at hk
 refine wp_value (s := .v _) (v := .slice base' (xs.length + str.data.toList.length) cap') ?_ hr' rfl trivial (hk base' cap' A' (by have := ow_fl (mk := fun k => UInt8.ofNat (k % 256).toNat) (sz := fun _ => 0) h2.1; exact this) hBz)
 simp only [execOp, resolve, invoke, builtin, Sem.run_bind, Sem.run_pure, Result.andThen_ok]
 rw [show (#[s, x] : Array Operand).map a.eval = #[a.eval s, a.eval x] from by simp, g1, g2]
 simp only [SV.den]
 rw [h1]; rfl
theorem sliceData {dst : Option Nat} {x : Operand} {tys : Array TypeId} {ty : TypeId} {pos : String} {after : Array Edge} {guard : Option (Nat × Bool)} {fr : Fr} {bl : List Blk} {R : List Hp} {K : St → Prop}
  {base : Option Addr} {m cap : Nat} (hx1 : getK fr x fun sv => sv = .v (.slice base m cap)) (hz : Bz base cap)
  (hk : putK n fr dst (.v (.pointer base)) fun fr => K ⟨fr, bl, R⟩) : VCraw P E n ⟨dst, .call ⟨.builtin .unsafeSliceData, #[x], tys⟩, ty, pos, after, guard⟩ ⟨fr, bl, R⟩ K := by
 refine ⟨fun a w hr Q => ?_⟩
 obtain ⟨sv, g1, _, rfl⟩ := getK_sound hr hx1
 have key : (Builtin.unsafeSliceData_ tys ty #[.slice base m cap]).run P w = .ok (.pointer base) w := by
  cases base with
  | none => rfl
  | some ad =>
   rcases hz with ⟨h, _⟩ | h
   ·cases h
   exact Lib.run_unsafeSliceData_row w tys ty ad m cap h
 refine wp_value (s := .v _) (v := .pointer base) ?_ hr rfl trivial hk
 simp only [execOp, resolve, invoke, builtin, Sem.run_bind, Sem.run_pure, Result.andThen_ok]
 rw [show (#[x] : Array Operand).map a.eval = #[a.eval x] from by simp, g1]
 simp only [SV.den]
 rw [key]; rfl
theorem Sat.dropAt {A B : Hp} {w w' : World} {g : Nat} (h : Sat E (A ++ B) w) (hg : ∀ x, (g, x) ∉ B) (ho : w'.os = w.os) (hu : w'.output = w.output) (ht : w'.tape = w.tape) (hn : ∀ i, i ≠ g → w'.heap[i]? = w.heap[i]?) (hd : w.drawn ≤ w'.drawn) : Sat E B w' := by
 refine ⟨ho.trans h.os, hu.trans h.out, ht.trans h.tape, fun b o hm => ?_, ?_, Nat.le_trans h.dr hd⟩
 ·rw [hn b (fun e => hg o (e ▸ hm))]; exact h.mem b o (List.mem_append_right _ hm)
 have := h.nodup; rw [List.map_append, List.nodup_append] at this; exact this.2.1
theorem unsafeStr (hΓ : TyOk P Γ) {dst : Option Nat} {x l : Operand} {pt it T ty : TypeId} {pos : String} {after : Array Edge} {guard : Option (Nat × Bool)} {fr : Fr} {bl : List Blk} {R : List Hp} {K : St → Prop}
  (i : Nat) {A : Hp} {base : Option Addr} {m cap : Nat} {xs : List UInt8} (hi : nthR R i = some A) (ho : (gSl T gY).ow [.slice base m cap] xs A)
  (hx1 : getK fr x fun sv => sv = .v (.pointer base)) (hl1 : getK fr l fun sv => sv = .v (.int .i64 m))
  (hp : undOf Γ pt = some (.pointer T)) (hc : P.cellsOf T = 1)
  (hk : putK n fr dst (.v (.string ⟨xs.toArray⟩)) fun fr => K ⟨fr, bl, setR R i []⟩) : VCraw P E n ⟨dst, .call ⟨.builtin .unsafeString, #[x, l], #[pt, it]⟩, ty, pos, after, guard⟩ ⟨fr, bl, R⟩ K := by
 have ho' := fl_ow ho
 refine ⟨fun a w hr Q => ?_⟩
 obtain ⟨sv, g1, _, rfl⟩ := getK_sound hr hx1
 obtain ⟨lv, g2, _, rfl⟩ := getK_sound hr hl1
 obtain ⟨pre, post, e1, e2'⟩ := nthR_split hi
 have perm : ∀ C : Hp, (St.hall ⟨[], bl, pre ++ C :: post⟩).Perm (C ++ St.hall ⟨[], bl, pre ++ post⟩) := by
  intro C
  simp only [St.hall, List.flatten_append, List.flatten_cons]
  have := List.perm_append_comm (l₁ := List.map Blk.ent bl ++ pre.flatten) (l₂ := C)
  have := this.append_right post.flatten
  simpa only [List.append_assoc] using this
 subst e1
 have hsat : Sat E (A ++ St.hall ⟨[], bl, pre ++ post⟩) w := hr.sat.perm (perm A)
 have key : ∃ w', (Builtin.unsafeString_ #[pt, it] ty #[.pointer base, .int .i64 m]).run P w = .ok (.string ⟨xs.toArray⟩) w' ∧ Sat E (St.hall ⟨[], bl, pre ++ post⟩) w' := by
  obtain ⟨_, hlen, base0, cap0, e0, h2⟩ := ho'
  cases e0
  cases xs with
  | nil =>
   refine ⟨w, Lib.run_unsafeString_none w pt it ty base, ?_⟩
   exact (hsat.perm List.perm_append_comm).drop
  | cons x0 r =>
   rcases h2 with ⟨_, h7, _⟩ | ⟨b, sp, rfl, rfl, h3, h4⟩
   ·cases h7
   have hmem : (b, Obj.cells ⟨(x0 :: r).flatMap flByte.enc ++ sp⟩ T) ∈ ([(b, Obj.cells ⟨(x0 :: r).flatMap flByte.enc ++ sp⟩ T)] : Hp) ++ St.hall ⟨[], bl, pre ++ post⟩ := List.mem_append_left _ (List.mem_singleton.2 rfl)
   have hheap := hsat.mem _ _ hmem
   have hfl := flat_length flByte (x0 :: r)
   have e5 : flByte.size = 1 := rfl
   rw [e5, Nat.mul_one] at hfl
   refine ⟨w.freeze ⟨b, 0, none⟩ (x0 :: r).length, ?_, ?_⟩
   ·refine Lib.run_unsafeString_row w pt it ty T (undOf_ok hΓ hp) hc b ((x0 :: r).flatMap flByte.enc ++ sp).length ?_ (x0 :: r) (by simp) ?_ hlen ?_
    ·simp [World.shape?, hheap]
    ·rw [List.length_append, hfl]; omega
    intro j x hx
    rw [addr_add, Nat.zero_add, hsat.cell hmem]
    have hj : j < (x0 :: r).length := by
     rcases Nat.lt_or_ge j (x0 :: r).length with h | h
     ·exact h
     rw [List.getElem?_eq_none h] at hx; cases hx
    rw [List.getElem?_eq_getElem hj] at hx
    cases hx
    have := flat_get flByte (x0 :: r) j 0 hj (by show 0 < 1; omega)
    rw [e5, Nat.mul_one, Nat.add_zero] at this
    simp only [List.getElem?_toArray]
    rw [List.getElem?_append_left (by rw [hfl]; exact hj), this]
    rfl
   have hnd := hsat.nodup
   refine Sat.dropAt (g := b) hsat ?_ ?_ ?_ ?_ ?_ (by unfold World.freeze; split <;> exact Nat.le_refl _)
   ·intro x hx
    rw [List.map_append, List.nodup_append] at hnd
    exact hnd.2.2 b (by simp) b (List.mem_map.2 ⟨_, hx, rfl⟩) rfl
   ·unfold World.freeze; split <;> rfl
   ·unfold World.freeze; split <;> rfl
   ·unfold World.freeze; split <;> rfl
   intro i hne
   unfold World.freeze
   split
   ·rfl
   simp only [Array.getElem?_modify]
   rw [if_neg (fun e => hne e.symm)]
 obtain ⟨w', h1, h2⟩ := key
 have hr' : Rel E n ⟨fr, bl, setR (pre ++ A :: post) i []⟩ a w' := by
  rw [e2']
  exact hr.ids rfl (h2.perm (perm []).symm)
 refine wp_value (s := .v _) (v := .string ⟨xs.toArray⟩) ?_ hr' rfl trivial hk
 simp only [execOp, resolve, invoke, builtin, Sem.run_bind, Sem.run_pure, Result.andThen_ok]
 rw [show (#[x, l] : Array Operand).map a.eval = #[a.eval x, a.eval l] from by simp, g1, g2]
 simp only [SV.den]
 rw [h1]; rfl
theorem chooseL {β : Type} {P : Nat → β → Prop} : ∀ (n : Nat), (∀ i, i < n → ∃ r, P i r) → ∃ rs : List β, rs.length = n ∧ ∀ i (h : i < rs.length), P i rs[i]
 | 0, _ => ⟨[], rfl, fun i h => by simp at h⟩
 | n + 1, h => by
  obtain ⟨rs, h1, h2⟩ := chooseL n (fun i hi => h i (by omega))
  obtain ⟨r, hr⟩ := h n (by omega)
  refine ⟨rs ++ [r], by simp [h1], fun i hi => ?_⟩
  by_cases hlt : i < rs.length
  ·rw [List.getElem_append_left hlt]; exact h2 i hlt
  have : i = n := by simp at hi; omega
  subst this
  rw [List.getElem_append_right (by omega)]
  simp [h1, hr]
def Plain {α : Type} (g : Gt α) : Prop := ∀ {H : Hp} {l : List Value} {x : α}, g.rd H l x → g.ow l x []
theorem fl_plain {α : Type} {f : Fl α} {mk : Int → α} {sz : α → Nat} : Plain (f.gt mk sz) := fun h => ⟨h.1, h.2, rfl⟩
theorem OwL.of {α : Type} {g : Gt α} : ∀ (ls : List (RawC g.size)) (xs : List α), ls.length = xs.length → (∀ i (h1 : i < ls.length) (h2 : i < xs.length), g.ow (ls[i]).1 xs[i] []) → OwL g ls xs (List.replicate xs.length [])
 | [], [], _, _ => .nil
 | l :: ls, x :: xs, h, hp => by
  refine .cons (hp 0 (by simp) (by simp)) (OwL.of ls xs (by simpa using h) fun i h1 h2 => ?_)
  exact hp (i + 1) (by simpa using h1) (by simpa using h2)
 | [], _ :: _, h, _ => by simp at h
 | _ :: _, [], h, _ => by simp at h
theorem rd_raws {α : Type} {g : Gt α} (hpl : Plain g) {H : Hp} {xb : Option Addr} {mx xc : Nat} {ys : List α} (hx : (rpSl g.toRp).rd H [.slice xb mx xc] ys) :
  ∃ rs : List (RawC g.size), (rpSl (flRaw g.size g.pos).rp).rd H [.slice xb mx xc] rs ∧ OwL g rs ys (List.replicate ys.length []) ∧ rs.length = ys.length := by
 obtain ⟨base, cap, e, h1, h2⟩ := hx
 cases e
 have h3 : ∀ i, i < ys.length → ∃ r : RawC g.size, (∃ b o, xb = some ⟨b, o, none⟩ ∧ RdCells H b (o + i * g.size) g.size r.1) ∧ ∃ h : i < ys.length, g.ow r.1 ys[i] [] := by
  intro i hi
  obtain ⟨b, o, l', h4, h5, h6⟩ := h2 i hi
  exact ⟨⟨l', raw_of h6⟩, ⟨b, o, h4, h5⟩, hi, hpl h6⟩
 obtain ⟨rs, h7, h8⟩ := chooseL ys.length h3
 refine ⟨rs, ⟨xb, xc, by rw [h7], ⟨by rw [h7]; exact h1.1, by rw [h7]; exact h1.2⟩, fun i hi => ?_⟩, OwL.of rs ys h7 fun i hi1 hi2 => ?_, h7⟩
 ·obtain ⟨⟨b, o, h9, h10⟩, _⟩ := h8 i hi
  exact ⟨b, o, (rs[i]).1, h9, h10, rfl, trivial⟩
 obtain ⟨_, _, h11⟩ := h8 i hi1
 exact h11
theorem append_all (hΓ : TyOk P Γ) {α : Type} {g : Gt α} (hpl : Plain g) {dst : Option Nat} {s x : Operand} {sT xT e2 T ty : TypeId} {pos : String} {after : Array Edge} {guard : Option (Nat × Bool)} {fr : Fr} {bl : List Blk} {R : List Hp} {K : St → Prop} {ti : TI}
  (A : Hp) (Rr : List Hp) {base xb : Option Addr} {m cap mx xc : Nat} {xs ys : List α} (hR : RLe R (A :: Rr)) (ho : (gSl T g).ow [.slice base m cap] xs A) (hx : (rpSl g.toRp).rd (St.hall ⟨[], bl, A :: Rr⟩) [.slice xb mx xc] ys)
  (hs1 : getK fr s fun sv => sv = .v (.slice base m cap)) (hx1 : getK fr x fun sv => sv = .v (.slice xb mx xc))
  (hsT : undOf Γ sT = some (.slice T)) (hxT : undOf Γ xT = some (.slice e2)) (ht : tyOf Γ T = some ti) (hsz : ti.size = g.size) (hz : lenIs ti.zero.cells.toList g.size = true)
  (hby : Nat.ble ti.bytes 65536 = true) (hlen : xs.length + ys.length ≤ 1073741824)
  (hk : ∀ base' cap' A', (gSl T g).ow [.slice base' (xs ++ ys).length cap'] (xs ++ ys) A' → putK n fr dst (.v (.slice base' (xs ++ ys).length cap')) fun fr => K ⟨fr, bl, A' :: Rr⟩) :
  VCraw P E n ⟨dst, .call ⟨.builtin .append, #[s, x], #[sT, xT]⟩, ty, pos, after, guard⟩ ⟨fr, bl, R⟩ K := by
 have e0 : (xs ++ ys).length = xs.length + ys.length := List.length_append
 simp only [e0] at hk
 obtain ⟨v, ls, A0, As, e, ho, hp, hl⟩ := ho
 cases e
 obtain ⟨e1, e2'⟩ := hl.len
 have hm : m = ls.length := (by obtain ⟨_, _, _, _, e, _⟩ := ho; cases e; rfl)
 subst hm
 obtain ⟨rs, hrs, hol, hrl⟩ := rd_raws hpl hx
 obtain ⟨L, hL⟩ := hR
 have hperm : R.flatten.Perm (A0 ++ (As.flatten ++ (Rr.flatten ++ L))) := by
  refine hL.trans ?_
  simp only [List.flatten_cons]
  have := hp.append_right (Rr.flatten ++ L)
  simpa only [List.append_assoc] using this
 refine VCraw.conv (R2 := [A0, As.flatten ++ (Rr.flatten ++ L)]) ⟨[], by simpa using hperm⟩ ?_
 have hsub : ∀ p ∈ St.hall ⟨[], bl, A :: Rr⟩, p ∈ St.hall ⟨[], bl, [A0, As.flatten ++ (Rr.flatten ++ L)]⟩ := by
  intro p hp'
  simp only [St.hall, List.flatten_cons, List.flatten_nil, List.append_nil] at hp' ⊢
  rcases List.mem_append.1 hp' with h | h
  ·exact List.mem_append_left _ h
  refine List.mem_append_right _ ?_
  rcases List.mem_append.1 h with h | h
  ·have := hp.mem_iff.1 h
   rcases List.mem_append.1 this with h2 | h2
   ·exact List.mem_append_left _ h2
   exact List.mem_append_right _ (List.mem_append_left _ h2)
  exact List.mem_append_right _ (List.mem_append_right _ (List.mem_append_left _ h))
 refine append_ow (f := flRaw g.size g.pos) hΓ 0 rfl ho ((rpSl (flRaw g.size g.pos).rp).mono hsub hrs) (fun _ _ => trivial) hs1 hx1 hsT hxT ht hsz hz hby (by rw [e1, hrl]; exact hlen) ?_
 intro base' cap' A' ho' _
 have h3 : (gSl T g).ow [.slice base' (xs.length + ys.length) cap'] (xs ++ ys) (A' ++ (As ++ List.replicate ys.length []).flatten) := by
  refine ⟨_, ls ++ rs, A', As ++ List.replicate ys.length [], rfl, ?_, .refl _, hl.append hol⟩
  rw [← e1, ← hrl]; exact ho'
 have h4 := hk base' cap' _ h3
 rw [e1, hrl]
 refine putK_mono h4 fun fr' hK => ⟨_, ?_, hK⟩
 refine ⟨L, ?_⟩
 simp only [setR, List.flatten_cons, List.flatten_nil, List.append_nil, List.flatten_append]
 have : (List.replicate ys.length ([] : Hp)).flatten = [] := by simp
 rw [this]
 simp only [List.append_assoc, List.append_nil]
 exact .refl _
theorem plain_pair {α β : Type} {g : Gt α} {h : Gt β} (hg : Plain g) (hh : Plain h) : Plain (SX.gPair g h) := by
 rintro H l x ⟨l1, l2, rfl, h1, h2⟩
 exact ⟨l1, l2, [], [], rfl, .refl _, hg h1, hh h2⟩
theorem plain_iso {α β : Type} {g : Gt α} {f : β → α} {f' : α → β} (hg : Plain g) : Plain (gIso g f f') := fun h => hg h
theorem nthR_mem : ∀ {R : List Hp} {i : Nat} {A : Hp}, nthR R i = some A → ∀ p ∈ A, p ∈ R.flatten := by
 intro R i A h p hp
 obtain ⟨pre, post, rfl, -⟩ := nthR_split h
 simp only [List.flatten_append, List.flatten_cons, List.mem_append]
 exact .inr (.inl hp)
theorem append_allN (hΓ : TyOk P Γ) {α : Type} {g : Gt α} (hpl : Plain g) {dst : Option Nat} {s x : Operand} {sT xT e2 T ty : TypeId} {pos : String} {after : Array Edge} {guard : Option (Nat × Bool)} {fr : Fr} {bl : List Blk} {R : List Hp} {K : St → Prop} {ti : TI}
  (A : Hp) (Rr : List Hp) (i : Nat) {H : Hp} {base xb : Option Addr} {m cap mx xc : Nat} {xs ys : List α} (hR : RLe R (A :: Rr)) (ho : (gSl T g).ow [.slice base m cap] xs A) (hi : nthR Rr i = some H) (hx : (gSl T g).rd H [.slice xb mx xc] ys)
  (hs1 : getK fr s fun sv => sv = .v (.slice base m cap)) (hx1 : getK fr x fun sv => sv = .v (.slice xb mx xc))
  (hsT : undOf Γ sT = some (.slice T)) (hxT : undOf Γ xT = some (.slice e2)) (ht : tyOf Γ T = some ti) (hsz : ti.size = g.size) (hz : lenIs ti.zero.cells.toList g.size = true)
  (hby : Nat.ble ti.bytes 65536 = true) (hlen : xs.length + ys.length ≤ 1073741824)
  (hk : ∀ base' cap' A', (gSl T g).ow [.slice base' (xs ++ ys).length cap'] (xs ++ ys) A' → putK n fr dst (.v (.slice base' (xs ++ ys).length cap')) fun fr => K ⟨fr, bl, A' :: Rr⟩) :
  VCraw P E n ⟨dst, .call ⟨.builtin .append, #[s, x], #[sT, xT]⟩, ty, pos, after, guard⟩ ⟨fr, bl, R⟩ K :=
 append_all hΓ hpl A Rr hR ho ((gSl T g).mono (fun p hp => by
  simp only [St.hall, List.flatten_cons, List.mem_append]
  have := nthR_mem hi p hp
  simp only [this, or_true]) hx) hs1 hx1 hsT hxT ht hsz hz hby hlen hk
end
end Go.SX
namespace Go.Proofs.YtcnclhjhnjpeiaaGreatDoor
open Go.SX Go.Proofs
open Tryz
section
attribute [local irreducible] IntKind.wrap
theorem sl_none {α : Type} {T : TypeId} {g : Gt α} {H : Hp} {xs : List α} {b : Option Addr} {n c : Nat} (h : (gSl T g).rd H [.slice b n c] xs) (hb : b = none) : xs = [] := by
 obtain ⟨base, cap, e, -, h3⟩ := h
 cases xs with
 | nil => rfl
 | cons x xs =>
  obtain ⟨b', o, l', h4, -⟩ := h3 0 (by simp)
  injection e with e; injection e with e
  rw [hb, h4] at e; cases e
theorem cloneS_ct (b : Option Addr) (m c : Nat) (xs : List ByteArray) (hx : szL gS xs ≤ 1048576) :
  Ct prog 109 [.slice b m c] [] (fun H => (gSl 9 gS).rd H [.slice b m c] xs) (fun v A => ∃ b c, v = .slice b xs.length c ∧ (gSl 9 gS).ow [.slice b xs.length c] xs A) := by
 refine Ct.intro0 G_ok func109 rfl rfl rfl fun E H hp => ?_
 obtain ⟨rfl, hcl, hl⟩ := sl_len hp
 have hls := len_szL gS xs
 refine ⟨fun q0 => ?_, fun q0 => ?_⟩
 ·simp at q0
  (obtain rfl := sl_none hp ‹_ = none›; exact ⟨[], ⟨none, 0, rfl, sl_nil _ _ _⟩, .mem (by simp)⟩)
 ·simp at q0
  refine ⟨fun x1 => ?_⟩
  refine append_allN (g := gS) (T := (9 : TypeId)) G_ok (by repeat (first | exact fl_plain | apply plain_iso | apply plain_pair)) [] [[(x1, Obj.cells { toList := zeros (0 : Nat) [Value.string ByteArray.empty] } (9 : TypeId))], H] 1 ?_ (sl_nil _ _ _) rfl hp rfl rfl rfl rfl rfl rfl rfl rfl ?_ fun b2 c2 A2 o2 => ?_
  ·exact .refl _
  ·simp; omega
  exact ⟨_, ⟨_, _, rfl, by assumption⟩, rlA⟩
theorem cloneAtom_ct (b : Option Addr) (m c : Nat) (xs : List Atom) (hx : szL gAtom xs ≤ 1048576) :
  Ct prog 110 [.slice b m c] [] (fun H => (gSl 154 gAtom).rd H [.slice b m c] xs) (fun v A => ∃ b c, v = .slice b xs.length c ∧ (gSl 154 gAtom).ow [.slice b xs.length c] xs A) := by
 refine Ct.intro0 G_ok func110 rfl rfl rfl fun E H hp => ?_
 obtain ⟨rfl, hcl, hl⟩ := sl_len hp
 have hls := len_szL gAtom xs
 refine ⟨fun q0 => ?_, fun q0 => ?_⟩
 ·simp at q0
  (obtain rfl := sl_none hp ‹_ = none›; exact ⟨[], ⟨none, 0, rfl, sl_nil _ _ _⟩, .mem (by simp)⟩)
 ·simp at q0
  refine ⟨fun x1 => ?_⟩
  refine append_allN (g := gAtom) (T := (154 : TypeId)) G_ok (by repeat (first | exact fl_plain | apply plain_iso | apply plain_pair)) [] [[(x1, Obj.cells { toList := zeros (0 : Nat) [Value.string ByteArray.empty, Value.string ByteArray.empty, Value.string ByteArray.empty] } (154 : TypeId))], H] 1 ?_ (sl_nil _ _ _) rfl hp rfl rfl rfl rfl rfl rfl rfl rfl ?_ fun b2 c2 A2 o2 => ?_
  ·exact .refl _
  ·simp; omega
  exact ⟨_, ⟨_, _, rfl, by assumption⟩, rlA⟩
theorem cloneFilter_ct (b : Option Addr) (m c : Nat) (xs : List Filter) (hx : szL gFilter xs ≤ 1048576) :
  Ct prog 111 [.slice b m c] [] (fun H => (gSl 157 gFilter).rd H [.slice b m c] xs) (fun v A => ∃ b c, v = .slice b xs.length c ∧ (gSl 157 gFilter).ow [.slice b xs.length c] xs A) := by
 refine Ct.intro0 G_ok func111 rfl rfl rfl fun E H hp => ?_
 obtain ⟨rfl, hcl, hl⟩ := sl_len hp
 have hls := len_szL gFilter xs
 refine ⟨fun q0 => ?_, fun q0 => ?_⟩
 ·simp at q0
  (obtain rfl := sl_none hp ‹_ = none›; exact ⟨[], ⟨none, 0, rfl, sl_nil _ _ _⟩, .mem (by simp)⟩)
 ·simp at q0
  refine ⟨fun x1 => ?_⟩
  refine append_allN (g := gFilter) (T := (157 : TypeId)) G_ok (by repeat (first | exact fl_plain | apply plain_iso | apply plain_pair)) [] [[(x1, Obj.cells { toList := zeros (0 : Nat) [Value.string ByteArray.empty, Value.int IntKind.i64 (0 : Int), Value.string ByteArray.empty, Value.int IntKind.i64 (0 : Int)] } (157 : TypeId))], H] 1 ?_ (sl_nil _ _ _) rfl hp rfl rfl rfl rfl rfl rfl rfl rfl ?_ fun b2 c2 A2 o2 => ?_
  ·exact .refl _
  ·simp; omega
  exact ⟨_, ⟨_, _, rfl, by assumption⟩, rlA⟩
theorem cloneI_ct (b : Option Addr) (m c : Nat) (xs : List Int) (hx : szL gI xs ≤ 1048576) :
  Ct prog 101 [.slice b m c] [] (fun H => (gSl 3 gI).rd H [.slice b m c] xs) (fun v A => ∃ b c, v = .slice b xs.length c ∧ (gSl 3 gI).ow [.slice b xs.length c] xs A) := by
 refine Ct.intro0 G_ok func101 rfl rfl rfl fun E H hp => ?_
 obtain ⟨rfl, hcl, hl⟩ := sl_len hp
 have hls := len_szL gI xs
 refine ⟨fun q0 => ?_, fun q0 => ?_⟩
 ·simp at q0
  (obtain rfl := sl_none hp ‹_ = none›; exact ⟨[], ⟨none, 0, rfl, sl_nil _ _ _⟩, .mem (by simp)⟩)
 ·simp at q0
  refine ⟨fun x1 => ?_⟩
  refine append_allN (g := gI) (T := (3 : TypeId)) G_ok (by repeat (first | exact fl_plain | apply plain_iso | apply plain_pair)) [] [[(x1, Obj.cells { toList := zeros (0 : Nat) [Value.int IntKind.i64 (0 : Int)] } (3 : TypeId))], H] 1 ?_ (sl_nil _ _ _) rfl hp rfl rfl rfl rfl rfl rfl rfl rfl ?_ fun b2 c2 A2 o2 => ?_
  ·exact .refl _
  ·simp; omega
  exact ⟨_, ⟨_, _, rfl, by assumption⟩, rlA⟩
theorem copyQuery_ct (l : List Value) (x : Query) (hx : gQuery.sz x ≤ 1048576) :
  Ct prog 54 [.agg ⟨l⟩] [] (fun H => gQuery.rd H l x) (fun v A => ∃ l, v = .agg ⟨l⟩ ∧ gQuery.ow l x A) := by
 refine Ct.intro0 G_ok func54 rfl rfl rfl fun E H hp => ?_
 obtain ⟨b1p, c1p, b2p, c2p, b3p, c3p, rfl, h1p, h2p, h3p⟩ := gQuery_rd.1 hp
 have ez := gQuery_sz (x)
 have en1 := len_szL gS (x.out)
 have en2 := len_szL gAtom (x.atoms)
 have en3 := len_szL gFilter (x.filters)
 refine ⟨fun x0 => ?_⟩
 refine ⟨fun x1 => ?_⟩
 refine draw G_ok mixed (some 12) (.q 0 (.q 1 (.q 2 (.q 3 (.q 5 (.q 6 (.q 8 (.q 9 (.f 4 (.f 7 (.f 10 (.q 11 (.tl 12 (.nil)))))))))))))) (by decide +kernel) ?_
 refine call_new (cloneS_ct _ _ _ (x.out) ?_) (Rp.mono _ (mem_at 0 rfl) h1p) ?_
 ·omega
 rintro v2 A2 o2
 obtain ⟨b2, c2, rfl, o2⟩ := o2
 refine VC.intro ?_ ?_
 ·exact keep_new
 refine call_new (cloneAtom_ct _ _ _ (x.atoms) ?_) (Rp.mono _ (mem_at 1 rfl) h2p) ?_
 ·omega
 rintro v3 A3 o3
 obtain ⟨b3, c3, rfl, o3⟩ := o3
 refine VC.intro ?_ ?_
 ·exact keep_sub (by simp) (by simp)
 refine call_new (cloneFilter_ct _ _ _ (x.filters) ?_) (Rp.mono _ (mem_at 2 rfl) h3p) ?_
 ·omega
 rintro v4 A4 o4
 obtain ⟨b4, c4, rfl, o4⟩ := o4
 refine VC.intro ?_ ?_
 ·exact keep_sub (by simp) (by simp)
 exact ⟨_, ⟨_, rfl, gQuery_ow.2 ⟨_, _, _, _, _, _, _, _, _, rfl, .refl _, by assumption, by assumption, by assumption⟩⟩, rlA⟩
theorem s_l08Copy_ct (l : List Value) (x : Query) (hx : gQuery.sz x ≤ 1048576) :
  Ct prog 47 [.agg ⟨l⟩] [] (fun H => gQuery.rd H l x) (fun v A => ∃ l, v = .agg ⟨l⟩ ∧ gQuery.ow l x A) := by
 refine Ct.intro0 G_ok func47 rfl rfl rfl fun E H hp => ?_
 obtain ⟨b1p, c1p, b2p, c2p, b3p, c3p, rfl, h1p, h2p, h3p⟩ := gQuery_rd.1 hp
 have ez := gQuery_sz (x)
 have en1 := len_szL gS (x.out)
 have en2 := len_szL gAtom (x.atoms)
 have en3 := len_szL gFilter (x.filters)
 refine ⟨fun x0 => ?_⟩
 refine ⟨fun x1 => ?_⟩
 refine draw G_ok mixed (some 15) (.q 0 (.q 1 (.q 3 (.q 4 (.q 7 (.q 8 (.q 11 (.q 12 (.hd (.alt 2 (.hd (.alt 5 (.hd (.alt 6 (.hd (.alt 9 (.f 10 (.f 13 (.q 14 (.tl 15 (.nil))))) (.alt 10 (.f 9 (.f 13 (.q 14 (.tl 15 (.nil))))) (.nil)))) (.alt 10 (.f 6 (.f 9 (.f 13 (.q 14 (.tl 15 (.nil)))))) (.nil)))) (.alt 6 (.hd (.alt 5 (.hd (.alt 9 (.f 10 (.f 13 (.q 14 (.tl 15 (.nil))))) (.alt 10 (.f 9 (.f 13 (.q 14 (.tl 15 (.nil))))) (.nil)))) (.alt 10 (.f 5 (.f 9 (.f 13 (.q 14 (.tl 15 (.nil)))))) (.nil)))) (.alt 10 (.hd (.alt 5 (.f 6 (.f 9 (.f 13 (.q 14 (.tl 15 (.nil)))))) (.alt 6 (.f 5 (.f 9 (.f 13 (.q 14 (.tl 15 (.nil)))))) (.nil)))) (.nil))))) (.alt 6 (.hd (.alt 2 (.hd (.alt 5 (.hd (.alt 9 (.f 10 (.f 13 (.q 14 (.tl 15 (.nil))))) (.alt 10 (.f 9 (.f 13 (.q 14 (.tl 15 (.nil))))) (.nil)))) (.alt 10 (.f 5 (.f 9 (.f 13 (.q 14 (.tl 15 (.nil)))))) (.nil)))) (.alt 10 (.f 2 (.f 5 (.f 9 (.f 13 (.q 14 (.tl 15 (.nil))))))) (.nil)))) (.alt 10 (.hd (.alt 2 (.hd (.alt 5 (.f 6 (.f 9 (.f 13 (.q 14 (.tl 15 (.nil)))))) (.alt 6 (.f 5 (.f 9 (.f 13 (.q 14 (.tl 15 (.nil)))))) (.nil)))) (.alt 6 (.f 2 (.f 5 (.f 9 (.f 13 (.q 14 (.tl 15 (.nil))))))) (.nil)))) (.nil))))))))))))) (by decide +kernel) ?_
 refine VC.intro ?_ ?_
 ·refine ⟨fun x2 => ?_⟩
  refine VC.intro ?_ ?_
  ·exact keep_new
  refine VC.intro ?_ ?_
  ·refine append_allN (g := gS) (T := (9 : TypeId)) G_ok (by repeat (first | exact fl_plain | apply plain_iso | apply plain_pair)) [] [[(x2, Obj.cells { toList := zeros (0 : Nat) [Value.string ByteArray.empty] } (9 : TypeId))], H] 1 ?_ (sl_nil _ _ _) rfl h1p rfl rfl rfl rfl rfl rfl rfl rfl ?_ fun b3 c3 A3 o3 => ?_
   ·exact .refl _
   ·simp; omega
   refine VC.intro ?_ ?_
   ·exact keep_sub (by simp) (by simp)
   refine VC.intro ?_ ?_
   ·refine ⟨fun x4 => ?_⟩
    refine VC.intro ?_ ?_
    ·exact keep_sub (by simp) (by simp)
    refine VC.intro ?_ ?_
    ·refine append_allN (g := gAtom) (T := (154 : TypeId)) G_ok (by repeat (first | exact fl_plain | apply plain_iso | apply plain_pair)) [] [[(x4, Obj.cells { toList := zeros (0 : Nat) [Value.string ByteArray.empty, Value.string ByteArray.empty, Value.string ByteArray.empty] } (154 : TypeId))], A3, [(x2, Obj.cells { toList := zeros (0 : Nat) [Value.string ByteArray.empty] } (9 : TypeId))], H] 3 ?_ (sl_nil _ _ _) rfl h2p rfl rfl rfl rfl rfl rfl rfl rfl ?_ fun b5 c5 A5 o5 => ?_
     ·exact .refl _
     ·simp; omega
     refine VC.intro ?_ ?_
     ·exact keep_sub (by simp) (by simp)
     refine ⟨fun x6 => ?_⟩
     refine VC.intro ?_ ?_
     ·exact keep_sub (by simp) (by simp)
     refine append_allN (g := gFilter) (T := (157 : TypeId)) G_ok (by repeat (first | exact fl_plain | apply plain_iso | apply plain_pair)) [] [[(x6, Obj.cells { toList := zeros (0 : Nat) [Value.string ByteArray.empty, Value.int IntKind.i64 (0 : Int), Value.string ByteArray.empty, Value.int IntKind.i64 (0 : Int)] } (157 : TypeId))], A5, [(x4, Obj.cells { toList := zeros (0 : Nat) [Value.string ByteArray.empty, Value.string ByteArray.empty, Value.string ByteArray.empty] } (154 : TypeId))], A3, [(x2, Obj.cells { toList := zeros (0 : Nat) [Value.string ByteArray.empty] } (9 : TypeId))], H] 5 ?_ (sl_nil _ _ _) rfl h3p rfl rfl rfl rfl rfl rfl rfl rfl ?_ fun b7 c7 A7 o7 => ?_
     ·exact .refl _
     ·simp; omega
     refine VC.intro ?_ ?_
     ·exact keep_sub (by simp) (by simp)
     exact ⟨_, ⟨_, rfl, gQuery_ow.2 ⟨_, _, _, _, _, _, _, _, _, rfl, .refl _, by assumption, by assumption, by assumption⟩⟩, rlA⟩
    ·refine VC.intro ?_ ?_
     ·refine ⟨fun x8 => ?_⟩
      refine VC.intro ?_ ?_
      ·exact keep_sub (by simp) (by simp)
      refine append_allN (g := gAtom) (T := (154 : TypeId)) G_ok (by repeat (first | exact fl_plain | apply plain_iso | apply plain_pair)) [] [[(x8, Obj.cells { toList := zeros (0 : Nat) [Value.string ByteArray.empty, Value.int IntKind.i64 (0 : Int), Value.string ByteArray.empty, Value.int IntKind.i64 (0 : Int)] } (157 : TypeId))], [(x4, Obj.cells { toList := zeros (0 : Nat) [Value.string ByteArray.empty, Value.string ByteArray.empty, Value.string ByteArray.empty] } (154 : TypeId))], A3, [(x2, Obj.cells { toList := zeros (0 : Nat) [Value.string ByteArray.empty] } (9 : TypeId))], H] 4 ?_ (sl_nil _ _ _) rfl h2p rfl rfl rfl rfl rfl rfl rfl rfl ?_ fun b9 c9 A9 o9 => ?_
      ·exact .refl _
      ·simp; omega
      refine VC.intro ?_ ?_
      ·exact keep_sub (by simp) (by simp)
      refine append_allN (g := gFilter) (T := (157 : TypeId)) G_ok (by repeat (first | exact fl_plain | apply plain_iso | apply plain_pair)) [] [A9, [(x8, Obj.cells { toList := zeros (0 : Nat) [Value.string ByteArray.empty, Value.int IntKind.i64 (0 : Int), Value.string ByteArray.empty, Value.int IntKind.i64 (0 : Int)] } (157 : TypeId))], [(x4, Obj.cells { toList := zeros (0 : Nat) [Value.string ByteArray.empty, Value.string ByteArray.empty, Value.string ByteArray.empty] } (154 : TypeId))], A3, [(x2, Obj.cells { toList := zeros (0 : Nat) [Value.string ByteArray.empty] } (9 : TypeId))], H] 5 ?_ (sl_nil _ _ _) rfl h3p rfl rfl rfl rfl rfl rfl rfl rfl ?_ fun b10 c10 A10 o10 => ?_
      ·exact .refl _
      ·simp; omega
      refine VC.intro ?_ ?_
      ·exact keep_sub (by simp) (by simp)
      exact ⟨_, ⟨_, rfl, gQuery_ow.2 ⟨_, _, _, _, _, _, _, _, _, rfl, .refl _, by assumption, by assumption, by assumption⟩⟩, rlA⟩
     ·exact trivial
   ·refine VC.intro ?_ ?_
    ·refine ⟨fun x11 => ?_⟩
     refine VC.intro ?_ ?_
     ·exact keep_sub (by simp) (by simp)
     refine ⟨fun x12 => ?_⟩
     refine VC.intro ?_ ?_
     ·exact keep_sub (by simp) (by simp)
     refine append_allN (g := gAtom) (T := (154 : TypeId)) G_ok (by repeat (first | exact fl_plain | apply plain_iso | apply plain_pair)) [] [[(x12, Obj.cells { toList := zeros (0 : Nat) [Value.string ByteArray.empty, Value.string ByteArray.empty, Value.string ByteArray.empty] } (154 : TypeId))], [(x11, Obj.cells { toList := zeros (0 : Nat) [Value.string ByteArray.empty, Value.int IntKind.i64 (0 : Int), Value.string ByteArray.empty, Value.int IntKind.i64 (0 : Int)] } (157 : TypeId))], A3, [(x2, Obj.cells { toList := zeros (0 : Nat) [Value.string ByteArray.empty] } (9 : TypeId))], H] 4 ?_ (sl_nil _ _ _) rfl h2p rfl rfl rfl rfl rfl rfl rfl rfl ?_ fun b13 c13 A13 o13 => ?_
     ·exact .refl _
     ·simp; omega
     refine VC.intro ?_ ?_
     ·exact keep_sub (by simp) (by simp)
     refine append_allN (g := gFilter) (T := (157 : TypeId)) G_ok (by repeat (first | exact fl_plain | apply plain_iso | apply plain_pair)) [] [A13, [(x12, Obj.cells { toList := zeros (0 : Nat) [Value.string ByteArray.empty, Value.string ByteArray.empty, Value.string ByteArray.empty] } (154 : TypeId))], [(x11, Obj.cells { toList := zeros (0 : Nat) [Value.string ByteArray.empty, Value.int IntKind.i64 (0 : Int), Value.string ByteArray.empty, Value.int IntKind.i64 (0 : Int)] } (157 : TypeId))], A3, [(x2, Obj.cells { toList := zeros (0 : Nat) [Value.string ByteArray.empty] } (9 : TypeId))], H] 5 ?_ (sl_nil _ _ _) rfl h3p rfl rfl rfl rfl rfl rfl rfl rfl ?_ fun b14 c14 A14 o14 => ?_
     ·exact .refl _
     ·simp; omega
     refine VC.intro ?_ ?_
     ·exact keep_sub (by simp) (by simp)
     exact ⟨_, ⟨_, rfl, gQuery_ow.2 ⟨_, _, _, _, _, _, _, _, _, rfl, .refl _, by assumption, by assumption, by assumption⟩⟩, rlA⟩
    ·exact trivial
  ·refine VC.intro ?_ ?_
   ·refine ⟨fun x15 => ?_⟩
    refine VC.intro ?_ ?_
    ·exact keep_sub (by simp) (by simp)
    refine VC.intro ?_ ?_
    ·refine append_allN (g := gS) (T := (9 : TypeId)) G_ok (by repeat (first | exact fl_plain | apply plain_iso | apply plain_pair)) [] [[(x15, Obj.cells { toList := zeros (0 : Nat) [Value.string ByteArray.empty, Value.string ByteArray.empty, Value.string ByteArray.empty] } (154 : TypeId))], [(x2, Obj.cells { toList := zeros (0 : Nat) [Value.string ByteArray.empty] } (9 : TypeId))], H] 2 ?_ (sl_nil _ _ _) rfl h1p rfl rfl rfl rfl rfl rfl rfl rfl ?_ fun b16 c16 A16 o16 => ?_
     ·exact .refl _
     ·simp; omega
     refine VC.intro ?_ ?_
     ·exact keep_sub (by simp) (by simp)
     refine VC.intro ?_ ?_
     ·refine append_allN (g := gAtom) (T := (154 : TypeId)) G_ok (by repeat (first | exact fl_plain | apply plain_iso | apply plain_pair)) [] [A16, [(x15, Obj.cells { toList := zeros (0 : Nat) [Value.string ByteArray.empty, Value.string ByteArray.empty, Value.string ByteArray.empty] } (154 : TypeId))], [(x2, Obj.cells { toList := zeros (0 : Nat) [Value.string ByteArray.empty] } (9 : TypeId))], H] 3 ?_ (sl_nil _ _ _) rfl h2p rfl rfl rfl rfl rfl rfl rfl rfl ?_ fun b17 c17 A17 o17 => ?_
      ·exact .refl _
      ·simp; omega
      refine VC.intro ?_ ?_
      ·exact keep_sub (by simp) (by simp)
      refine ⟨fun x18 => ?_⟩
      refine VC.intro ?_ ?_
      ·exact keep_sub (by simp) (by simp)
      refine append_allN (g := gFilter) (T := (157 : TypeId)) G_ok (by repeat (first | exact fl_plain | apply plain_iso | apply plain_pair)) [] [[(x18, Obj.cells { toList := zeros (0 : Nat) [Value.string ByteArray.empty, Value.int IntKind.i64 (0 : Int), Value.string ByteArray.empty, Value.int IntKind.i64 (0 : Int)] } (157 : TypeId))], A17, A16, [(x15, Obj.cells { toList := zeros (0 : Nat) [Value.string ByteArray.empty, Value.string ByteArray.empty, Value.string ByteArray.empty] } (154 : TypeId))], [(x2, Obj.cells { toList := zeros (0 : Nat) [Value.string ByteArray.empty] } (9 : TypeId))], H] 5 ?_ (sl_nil _ _ _) rfl h3p rfl rfl rfl rfl rfl rfl rfl rfl ?_ fun b19 c19 A19 o19 => ?_
      ·exact .refl _
      ·simp; omega
      refine VC.intro ?_ ?_
      ·exact keep_sub (by simp) (by simp)
      exact ⟨_, ⟨_, rfl, gQuery_ow.2 ⟨_, _, _, _, _, _, _, _, _, rfl, .refl _, by assumption, by assumption, by assumption⟩⟩, rlA⟩
     ·refine VC.intro ?_ ?_
      ·refine ⟨fun x20 => ?_⟩
       refine VC.intro ?_ ?_
       ·exact keep_sub (by simp) (by simp)
       refine append_allN (g := gAtom) (T := (154 : TypeId)) G_ok (by repeat (first | exact fl_plain | apply plain_iso | apply plain_pair)) [] [[(x20, Obj.cells { toList := zeros (0 : Nat) [Value.string ByteArray.empty, Value.int IntKind.i64 (0 : Int), Value.string ByteArray.empty, Value.int IntKind.i64 (0 : Int)] } (157 : TypeId))], A16, [(x15, Obj.cells { toList := zeros (0 : Nat) [Value.string ByteArray.empty, Value.string ByteArray.empty, Value.string ByteArray.empty] } (154 : TypeId))], [(x2, Obj.cells { toList := zeros (0 : Nat) [Value.string ByteArray.empty] } (9 : TypeId))], H] 4 ?_ (sl_nil _ _ _) rfl h2p rfl rfl rfl rfl rfl rfl rfl rfl ?_ fun b21 c21 A21 o21 => ?_
       ·exact .refl _
       ·simp; omega
       refine VC.intro ?_ ?_
       ·exact keep_sub (by simp) (by simp)
       refine append_allN (g := gFilter) (T := (157 : TypeId)) G_ok (by repeat (first | exact fl_plain | apply plain_iso | apply plain_pair)) [] [A21, [(x20, Obj.cells { toList := zeros (0 : Nat) [Value.string ByteArray.empty, Value.int IntKind.i64 (0 : Int), Value.string ByteArray.empty, Value.int IntKind.i64 (0 : Int)] } (157 : TypeId))], A16, [(x15, Obj.cells { toList := zeros (0 : Nat) [Value.string ByteArray.empty, Value.string ByteArray.empty, Value.string ByteArray.empty] } (154 : TypeId))], [(x2, Obj.cells { toList := zeros (0 : Nat) [Value.string ByteArray.empty] } (9 : TypeId))], H] 5 ?_ (sl_nil _ _ _) rfl h3p rfl rfl rfl rfl rfl rfl rfl rfl ?_ fun b22 c22 A22 o22 => ?_
       ·exact .refl _
       ·simp; omega
       refine VC.intro ?_ ?_
       ·exact keep_sub (by simp) (by simp)
       exact ⟨_, ⟨_, rfl, gQuery_ow.2 ⟨_, _, _, _, _, _, _, _, _, rfl, .refl _, by assumption, by assumption, by assumption⟩⟩, rlA⟩
      ·exact trivial
    ·refine VC.intro ?_ ?_
     ·refine ⟨fun x23 => ?_⟩
      refine VC.intro ?_ ?_
      ·exact keep_sub (by simp) (by simp)
      refine append_allN (g := gS) (T := (9 : TypeId)) G_ok (by repeat (first | exact fl_plain | apply plain_iso | apply plain_pair)) [] [[(x23, Obj.cells { toList := zeros (0 : Nat) [Value.string ByteArray.empty, Value.int IntKind.i64 (0 : Int), Value.string ByteArray.empty, Value.int IntKind.i64 (0 : Int)] } (157 : TypeId))], [(x15, Obj.cells { toList := zeros (0 : Nat) [Value.string ByteArray.empty, Value.string ByteArray.empty, Value.string ByteArray.empty] } (154 : TypeId))], [(x2, Obj.cells { toList := zeros (0 : Nat) [Value.string ByteArray.empty] } (9 : TypeId))], H] 3 ?_ (sl_nil _ _ _) rfl h1p rfl rfl rfl rfl rfl rfl rfl rfl ?_ fun b24 c24 A24 o24 => ?_
      ·exact .refl _
      ·simp; omega
      refine VC.intro ?_ ?_
      ·exact keep_sub (by simp) (by simp)
      refine append_allN (g := gAtom) (T := (154 : TypeId)) G_ok (by repeat (first | exact fl_plain | apply plain_iso | apply plain_pair)) [] [A24, [(x23, Obj.cells { toList := zeros (0 : Nat) [Value.string ByteArray.empty, Value.int IntKind.i64 (0 : Int), Value.string ByteArray.empty, Value.int IntKind.i64 (0 : Int)] } (157 : TypeId))], [(x15, Obj.cells { toList := zeros (0 : Nat) [Value.string ByteArray.empty, Value.string ByteArray.empty, Value.string ByteArray.empty] } (154 : TypeId))], [(x2, Obj.cells { toList := zeros (0 : Nat) [Value.string ByteArray.empty] } (9 : TypeId))], H] 4 ?_ (sl_nil _ _ _) rfl h2p rfl rfl rfl rfl rfl rfl rfl rfl ?_ fun b25 c25 A25 o25 => ?_
      ·exact .refl _
      ·simp; omega
      refine VC.intro ?_ ?_
      ·exact keep_sub (by simp) (by simp)
      refine append_allN (g := gFilter) (T := (157 : TypeId)) G_ok (by repeat (first | exact fl_plain | apply plain_iso | apply plain_pair)) [] [A25, A24, [(x23, Obj.cells { toList := zeros (0 : Nat) [Value.string ByteArray.empty, Value.int IntKind.i64 (0 : Int), Value.string ByteArray.empty, Value.int IntKind.i64 (0 : Int)] } (157 : TypeId))], [(x15, Obj.cells { toList := zeros (0 : Nat) [Value.string ByteArray.empty, Value.string ByteArray.empty, Value.string ByteArray.empty] } (154 : TypeId))], [(x2, Obj.cells { toList := zeros (0 : Nat) [Value.string ByteArray.empty] } (9 : TypeId))], H] 5 ?_ (sl_nil _ _ _) rfl h3p rfl rfl rfl rfl rfl rfl rfl rfl ?_ fun b26 c26 A26 o26 => ?_
      ·exact .refl _
      ·simp; omega
      refine VC.intro ?_ ?_
      ·exact keep_sub (by simp) (by simp)
      exact ⟨_, ⟨_, rfl, gQuery_ow.2 ⟨_, _, _, _, _, _, _, _, _, rfl, .refl _, by assumption, by assumption, by assumption⟩⟩, rlA⟩
     ·exact trivial
   ·refine VC.intro ?_ ?_
    ·refine ⟨fun x27 => ?_⟩
     refine VC.intro ?_ ?_
     ·exact keep_sub (by simp) (by simp)
     refine VC.intro ?_ ?_
     ·refine append_allN (g := gS) (T := (9 : TypeId)) G_ok (by repeat (first | exact fl_plain | apply plain_iso | apply plain_pair)) [] [[(x27, Obj.cells { toList := zeros (0 : Nat) [Value.string ByteArray.empty, Value.int IntKind.i64 (0 : Int), Value.string ByteArray.empty, Value.int IntKind.i64 (0 : Int)] } (157 : TypeId))], [(x2, Obj.cells { toList := zeros (0 : Nat) [Value.string ByteArray.empty] } (9 : TypeId))], H] 2 ?_ (sl_nil _ _ _) rfl h1p rfl rfl rfl rfl rfl rfl rfl rfl ?_ fun b28 c28 A28 o28 => ?_
      ·exact .refl _
      ·simp; omega
      refine VC.intro ?_ ?_
      ·exact keep_sub (by simp) (by simp)
      refine ⟨fun x29 => ?_⟩
      refine VC.intro ?_ ?_
      ·exact keep_sub (by simp) (by simp)
      refine append_allN (g := gAtom) (T := (154 : TypeId)) G_ok (by repeat (first | exact fl_plain | apply plain_iso | apply plain_pair)) [] [[(x29, Obj.cells { toList := zeros (0 : Nat) [Value.string ByteArray.empty, Value.string ByteArray.empty, Value.string ByteArray.empty] } (154 : TypeId))], A28, [(x27, Obj.cells { toList := zeros (0 : Nat) [Value.string ByteArray.empty, Value.int IntKind.i64 (0 : Int), Value.string ByteArray.empty, Value.int IntKind.i64 (0 : Int)] } (157 : TypeId))], [(x2, Obj.cells { toList := zeros (0 : Nat) [Value.string ByteArray.empty] } (9 : TypeId))], H] 4 ?_ (sl_nil _ _ _) rfl h2p rfl rfl rfl rfl rfl rfl rfl rfl ?_ fun b30 c30 A30 o30 => ?_
      ·exact .refl _
      ·simp; omega
      refine VC.intro ?_ ?_
      ·exact keep_sub (by simp) (by simp)
      refine append_allN (g := gFilter) (T := (157 : TypeId)) G_ok (by repeat (first | exact fl_plain | apply plain_iso | apply plain_pair)) [] [A30, [(x29, Obj.cells { toList := zeros (0 : Nat) [Value.string ByteArray.empty, Value.string ByteArray.empty, Value.string ByteArray.empty] } (154 : TypeId))], A28, [(x27, Obj.cells { toList := zeros (0 : Nat) [Value.string ByteArray.empty, Value.int IntKind.i64 (0 : Int), Value.string ByteArray.empty, Value.int IntKind.i64 (0 : Int)] } (157 : TypeId))], [(x2, Obj.cells { toList := zeros (0 : Nat) [Value.string ByteArray.empty] } (9 : TypeId))], H] 5 ?_ (sl_nil _ _ _) rfl h3p rfl rfl rfl rfl rfl rfl rfl rfl ?_ fun b31 c31 A31 o31 => ?_
      ·exact .refl _
      ·simp; omega
      refine VC.intro ?_ ?_
      ·exact keep_sub (by simp) (by simp)
      exact ⟨_, ⟨_, rfl, gQuery_ow.2 ⟨_, _, _, _, _, _, _, _, _, rfl, .refl _, by assumption, by assumption, by assumption⟩⟩, rlA⟩
     ·refine VC.intro ?_ ?_
      ·refine ⟨fun x32 => ?_⟩
       refine VC.intro ?_ ?_
       ·exact keep_sub (by simp) (by simp)
       refine append_allN (g := gS) (T := (9 : TypeId)) G_ok (by repeat (first | exact fl_plain | apply plain_iso | apply plain_pair)) [] [[(x32, Obj.cells { toList := zeros (0 : Nat) [Value.string ByteArray.empty, Value.string ByteArray.empty, Value.string ByteArray.empty] } (154 : TypeId))], [(x27, Obj.cells { toList := zeros (0 : Nat) [Value.string ByteArray.empty, Value.int IntKind.i64 (0 : Int), Value.string ByteArray.empty, Value.int IntKind.i64 (0 : Int)] } (157 : TypeId))], [(x2, Obj.cells { toList := zeros (0 : Nat) [Value.string ByteArray.empty] } (9 : TypeId))], H] 3 ?_ (sl_nil _ _ _) rfl h1p rfl rfl rfl rfl rfl rfl rfl rfl ?_ fun b33 c33 A33 o33 => ?_
       ·exact .refl _
       ·simp; omega
       refine VC.intro ?_ ?_
       ·exact keep_sub (by simp) (by simp)
       refine append_allN (g := gAtom) (T := (154 : TypeId)) G_ok (by repeat (first | exact fl_plain | apply plain_iso | apply plain_pair)) [] [A33, [(x32, Obj.cells { toList := zeros (0 : Nat) [Value.string ByteArray.empty, Value.string ByteArray.empty, Value.string ByteArray.empty] } (154 : TypeId))], [(x27, Obj.cells { toList := zeros (0 : Nat) [Value.string ByteArray.empty, Value.int IntKind.i64 (0 : Int), Value.string ByteArray.empty, Value.int IntKind.i64 (0 : Int)] } (157 : TypeId))], [(x2, Obj.cells { toList := zeros (0 : Nat) [Value.string ByteArray.empty] } (9 : TypeId))], H] 4 ?_ (sl_nil _ _ _) rfl h2p rfl rfl rfl rfl rfl rfl rfl rfl ?_ fun b34 c34 A34 o34 => ?_
       ·exact .refl _
       ·simp; omega
       refine VC.intro ?_ ?_
       ·exact keep_sub (by simp) (by simp)
       refine append_allN (g := gFilter) (T := (157 : TypeId)) G_ok (by repeat (first | exact fl_plain | apply plain_iso | apply plain_pair)) [] [A34, A33, [(x32, Obj.cells { toList := zeros (0 : Nat) [Value.string ByteArray.empty, Value.string ByteArray.empty, Value.string ByteArray.empty] } (154 : TypeId))], [(x27, Obj.cells { toList := zeros (0 : Nat) [Value.string ByteArray.empty, Value.int IntKind.i64 (0 : Int), Value.string ByteArray.empty, Value.int IntKind.i64 (0 : Int)] } (157 : TypeId))], [(x2, Obj.cells { toList := zeros (0 : Nat) [Value.string ByteArray.empty] } (9 : TypeId))], H] 5 ?_ (sl_nil _ _ _) rfl h3p rfl rfl rfl rfl rfl rfl rfl rfl ?_ fun b35 c35 A35 o35 => ?_
       ·exact .refl _
       ·simp; omega
       refine VC.intro ?_ ?_
       ·exact keep_sub (by simp) (by simp)
       exact ⟨_, ⟨_, rfl, gQuery_ow.2 ⟨_, _, _, _, _, _, _, _, _, rfl, .refl _, by assumption, by assumption, by assumption⟩⟩, rlA⟩
      ·exact trivial
    ·exact trivial
 ·refine VC.intro ?_ ?_
  ·refine ⟨fun x36 => ?_⟩
   refine VC.intro ?_ ?_
   ·exact keep_new
   refine VC.intro ?_ ?_
   ·refine ⟨fun x37 => ?_⟩
    refine VC.intro ?_ ?_
    ·exact keep_sub (by simp) (by simp)
    refine VC.intro ?_ ?_
    ·refine append_allN (g := gS) (T := (9 : TypeId)) G_ok (by repeat (first | exact fl_plain | apply plain_iso | apply plain_pair)) [] [[(x37, Obj.cells { toList := zeros (0 : Nat) [Value.string ByteArray.empty] } (9 : TypeId))], [(x36, Obj.cells { toList := zeros (0 : Nat) [Value.string ByteArray.empty, Value.string ByteArray.empty, Value.string ByteArray.empty] } (154 : TypeId))], H] 2 ?_ (sl_nil _ _ _) rfl h1p rfl rfl rfl rfl rfl rfl rfl rfl ?_ fun b38 c38 A38 o38 => ?_
     ·exact .refl _
     ·simp; omega
     refine VC.intro ?_ ?_
     ·exact keep_sub (by simp) (by simp)
     refine VC.intro ?_ ?_
     ·refine append_allN (g := gAtom) (T := (154 : TypeId)) G_ok (by repeat (first | exact fl_plain | apply plain_iso | apply plain_pair)) [] [A38, [(x37, Obj.cells { toList := zeros (0 : Nat) [Value.string ByteArray.empty] } (9 : TypeId))], [(x36, Obj.cells { toList := zeros (0 : Nat) [Value.string ByteArray.empty, Value.string ByteArray.empty, Value.string ByteArray.empty] } (154 : TypeId))], H] 3 ?_ (sl_nil _ _ _) rfl h2p rfl rfl rfl rfl rfl rfl rfl rfl ?_ fun b39 c39 A39 o39 => ?_
      ·exact .refl _
      ·simp; omega
      refine VC.intro ?_ ?_
      ·exact keep_sub (by simp) (by simp)
      refine ⟨fun x40 => ?_⟩
      refine VC.intro ?_ ?_
      ·exact keep_sub (by simp) (by simp)
      refine append_allN (g := gFilter) (T := (157 : TypeId)) G_ok (by repeat (first | exact fl_plain | apply plain_iso | apply plain_pair)) [] [[(x40, Obj.cells { toList := zeros (0 : Nat) [Value.string ByteArray.empty, Value.int IntKind.i64 (0 : Int), Value.string ByteArray.empty, Value.int IntKind.i64 (0 : Int)] } (157 : TypeId))], A39, A38, [(x37, Obj.cells { toList := zeros (0 : Nat) [Value.string ByteArray.empty] } (9 : TypeId))], [(x36, Obj.cells { toList := zeros (0 : Nat) [Value.string ByteArray.empty, Value.string ByteArray.empty, Value.string ByteArray.empty] } (154 : TypeId))], H] 5 ?_ (sl_nil _ _ _) rfl h3p rfl rfl rfl rfl rfl rfl rfl rfl ?_ fun b41 c41 A41 o41 => ?_
      ·exact .refl _
      ·simp; omega
      refine VC.intro ?_ ?_
      ·exact keep_sub (by simp) (by simp)
      exact ⟨_, ⟨_, rfl, gQuery_ow.2 ⟨_, _, _, _, _, _, _, _, _, rfl, .refl _, by assumption, by assumption, by assumption⟩⟩, rlA⟩
     ·refine VC.intro ?_ ?_
      ·refine ⟨fun x42 => ?_⟩
       refine VC.intro ?_ ?_
       ·exact keep_sub (by simp) (by simp)
       refine append_allN (g := gAtom) (T := (154 : TypeId)) G_ok (by repeat (first | exact fl_plain | apply plain_iso | apply plain_pair)) [] [[(x42, Obj.cells { toList := zeros (0 : Nat) [Value.string ByteArray.empty, Value.int IntKind.i64 (0 : Int), Value.string ByteArray.empty, Value.int IntKind.i64 (0 : Int)] } (157 : TypeId))], A38, [(x37, Obj.cells { toList := zeros (0 : Nat) [Value.string ByteArray.empty] } (9 : TypeId))], [(x36, Obj.cells { toList := zeros (0 : Nat) [Value.string ByteArray.empty, Value.string ByteArray.empty, Value.string ByteArray.empty] } (154 : TypeId))], H] 4 ?_ (sl_nil _ _ _) rfl h2p rfl rfl rfl rfl rfl rfl rfl rfl ?_ fun b43 c43 A43 o43 => ?_
       ·exact .refl _
       ·simp; omega
       refine VC.intro ?_ ?_
       ·exact keep_sub (by simp) (by simp)
       refine append_allN (g := gFilter) (T := (157 : TypeId)) G_ok (by repeat (first | exact fl_plain | apply plain_iso | apply plain_pair)) [] [A43, [(x42, Obj.cells { toList := zeros (0 : Nat) [Value.string ByteArray.empty, Value.int IntKind.i64 (0 : Int), Value.string ByteArray.empty, Value.int IntKind.i64 (0 : Int)] } (157 : TypeId))], A38, [(x37, Obj.cells { toList := zeros (0 : Nat) [Value.string ByteArray.empty] } (9 : TypeId))], [(x36, Obj.cells { toList := zeros (0 : Nat) [Value.string ByteArray.empty, Value.string ByteArray.empty, Value.string ByteArray.empty] } (154 : TypeId))], H] 5 ?_ (sl_nil _ _ _) rfl h3p rfl rfl rfl rfl rfl rfl rfl rfl ?_ fun b44 c44 A44 o44 => ?_
       ·exact .refl _
       ·simp; omega
       refine VC.intro ?_ ?_
       ·exact keep_sub (by simp) (by simp)
       exact ⟨_, ⟨_, rfl, gQuery_ow.2 ⟨_, _, _, _, _, _, _, _, _, rfl, .refl _, by assumption, by assumption, by assumption⟩⟩, rlA⟩
      ·exact trivial
    ·refine VC.intro ?_ ?_
     ·refine ⟨fun x45 => ?_⟩
      refine VC.intro ?_ ?_
      ·exact keep_sub (by simp) (by simp)
      refine append_allN (g := gS) (T := (9 : TypeId)) G_ok (by repeat (first | exact fl_plain | apply plain_iso | apply plain_pair)) [] [[(x45, Obj.cells { toList := zeros (0 : Nat) [Value.string ByteArray.empty, Value.int IntKind.i64 (0 : Int), Value.string ByteArray.empty, Value.int IntKind.i64 (0 : Int)] } (157 : TypeId))], [(x37, Obj.cells { toList := zeros (0 : Nat) [Value.string ByteArray.empty] } (9 : TypeId))], [(x36, Obj.cells { toList := zeros (0 : Nat) [Value.string ByteArray.empty, Value.string ByteArray.empty, Value.string ByteArray.empty] } (154 : TypeId))], H] 3 ?_ (sl_nil _ _ _) rfl h1p rfl rfl rfl rfl rfl rfl rfl rfl ?_ fun b46 c46 A46 o46 => ?_
      ·exact .refl _
      ·simp; omega
      refine VC.intro ?_ ?_
      ·exact keep_sub (by simp) (by simp)
      refine append_allN (g := gAtom) (T := (154 : TypeId)) G_ok (by repeat (first | exact fl_plain | apply plain_iso | apply plain_pair)) [] [A46, [(x45, Obj.cells { toList := zeros (0 : Nat) [Value.string ByteArray.empty, Value.int IntKind.i64 (0 : Int), Value.string ByteArray.empty, Value.int IntKind.i64 (0 : Int)] } (157 : TypeId))], [(x37, Obj.cells { toList := zeros (0 : Nat) [Value.string ByteArray.empty] } (9 : TypeId))], [(x36, Obj.cells { toList := zeros (0 : Nat) [Value.string ByteArray.empty, Value.string ByteArray.empty, Value.string ByteArray.empty] } (154 : TypeId))], H] 4 ?_ (sl_nil _ _ _) rfl h2p rfl rfl rfl rfl rfl rfl rfl rfl ?_ fun b47 c47 A47 o47 => ?_
      ·exact .refl _
      ·simp; omega
      refine VC.intro ?_ ?_
      ·exact keep_sub (by simp) (by simp)
      refine append_allN (g := gFilter) (T := (157 : TypeId)) G_ok (by repeat (first | exact fl_plain | apply plain_iso | apply plain_pair)) [] [A47, A46, [(x45, Obj.cells { toList := zeros (0 : Nat) [Value.string ByteArray.empty, Value.int IntKind.i64 (0 : Int), Value.string ByteArray.empty, Value.int IntKind.i64 (0 : Int)] } (157 : TypeId))], [(x37, Obj.cells { toList := zeros (0 : Nat) [Value.string ByteArray.empty] } (9 : TypeId))], [(x36, Obj.cells { toList := zeros (0 : Nat) [Value.string ByteArray.empty, Value.string ByteArray.empty, Value.string ByteArray.empty] } (154 : TypeId))], H] 5 ?_ (sl_nil _ _ _) rfl h3p rfl rfl rfl rfl rfl rfl rfl rfl ?_ fun b48 c48 A48 o48 => ?_
      ·exact .refl _
      ·simp; omega
      refine VC.intro ?_ ?_
      ·exact keep_sub (by simp) (by simp)
      exact ⟨_, ⟨_, rfl, gQuery_ow.2 ⟨_, _, _, _, _, _, _, _, _, rfl, .refl _, by assumption, by assumption, by assumption⟩⟩, rlA⟩
     ·exact trivial
   ·refine VC.intro ?_ ?_
    ·refine ⟨fun x49 => ?_⟩
     refine VC.intro ?_ ?_
     ·exact keep_sub (by simp) (by simp)
     refine ⟨fun x50 => ?_⟩
     refine VC.intro ?_ ?_
     ·exact keep_sub (by simp) (by simp)
     refine append_allN (g := gS) (T := (9 : TypeId)) G_ok (by repeat (first | exact fl_plain | apply plain_iso | apply plain_pair)) [] [[(x50, Obj.cells { toList := zeros (0 : Nat) [Value.string ByteArray.empty] } (9 : TypeId))], [(x49, Obj.cells { toList := zeros (0 : Nat) [Value.string ByteArray.empty, Value.int IntKind.i64 (0 : Int), Value.string ByteArray.empty, Value.int IntKind.i64 (0 : Int)] } (157 : TypeId))], [(x36, Obj.cells { toList := zeros (0 : Nat) [Value.string ByteArray.empty, Value.string ByteArray.empty, Value.string ByteArray.empty] } (154 : TypeId))], H] 3 ?_ (sl_nil _ _ _) rfl h1p rfl rfl rfl rfl rfl rfl rfl rfl ?_ fun b51 c51 A51 o51 => ?_
     ·exact .refl _
     ·simp; omega
     refine VC.intro ?_ ?_
     ·exact keep_sub (by simp) (by simp)
     refine append_allN (g := gAtom) (T := (154 : TypeId)) G_ok (by repeat (first | exact fl_plain | apply plain_iso | apply plain_pair)) [] [A51, [(x50, Obj.cells { toList := zeros (0 : Nat) [Value.string ByteArray.empty] } (9 : TypeId))], [(x49, Obj.cells { toList := zeros (0 : Nat) [Value.string ByteArray.empty, Value.int IntKind.i64 (0 : Int), Value.string ByteArray.empty, Value.int IntKind.i64 (0 : Int)] } (157 : TypeId))], [(x36, Obj.cells { toList := zeros (0 : Nat) [Value.string ByteArray.empty, Value.string ByteArray.empty, Value.string ByteArray.empty] } (154 : TypeId))], H] 4 ?_ (sl_nil _ _ _) rfl h2p rfl rfl rfl rfl rfl rfl rfl rfl ?_ fun b52 c52 A52 o52 => ?_
     ·exact .refl _
     ·simp; omega
     refine VC.intro ?_ ?_
     ·exact keep_sub (by simp) (by simp)
     refine append_allN (g := gFilter) (T := (157 : TypeId)) G_ok (by repeat (first | exact fl_plain | apply plain_iso | apply plain_pair)) [] [A52, A51, [(x50, Obj.cells { toList := zeros (0 : Nat) [Value.string ByteArray.empty] } (9 : TypeId))], [(x49, Obj.cells { toList := zeros (0 : Nat) [Value.string ByteArray.empty, Value.int IntKind.i64 (0 : Int), Value.string ByteArray.empty, Value.int IntKind.i64 (0 : Int)] } (157 : TypeId))], [(x36, Obj.cells { toList := zeros (0 : Nat) [Value.string ByteArray.empty, Value.string ByteArray.empty, Value.string ByteArray.empty] } (154 : TypeId))], H] 5 ?_ (sl_nil _ _ _) rfl h3p rfl rfl rfl rfl rfl rfl rfl rfl ?_ fun b53 c53 A53 o53 => ?_
     ·exact .refl _
     ·simp; omega
     refine VC.intro ?_ ?_
     ·exact keep_sub (by simp) (by simp)
     exact ⟨_, ⟨_, rfl, gQuery_ow.2 ⟨_, _, _, _, _, _, _, _, _, rfl, .refl _, by assumption, by assumption, by assumption⟩⟩, rlA⟩
    ·exact trivial
  ·refine VC.intro ?_ ?_
   ·refine ⟨fun x54 => ?_⟩
    refine VC.intro ?_ ?_
    ·exact keep_new
    refine VC.intro ?_ ?_
    ·refine ⟨fun x55 => ?_⟩
     refine VC.intro ?_ ?_
     ·exact keep_sub (by simp) (by simp)
     refine VC.intro ?_ ?_
     ·refine append_allN (g := gS) (T := (9 : TypeId)) G_ok (by repeat (first | exact fl_plain | apply plain_iso | apply plain_pair)) [] [[(x55, Obj.cells { toList := zeros (0 : Nat) [Value.string ByteArray.empty] } (9 : TypeId))], [(x54, Obj.cells { toList := zeros (0 : Nat) [Value.string ByteArray.empty, Value.int IntKind.i64 (0 : Int), Value.string ByteArray.empty, Value.int IntKind.i64 (0 : Int)] } (157 : TypeId))], H] 2 ?_ (sl_nil _ _ _) rfl h1p rfl rfl rfl rfl rfl rfl rfl rfl ?_ fun b56 c56 A56 o56 => ?_
      ·exact .refl _
      ·simp; omega
      refine VC.intro ?_ ?_
      ·exact keep_sub (by simp) (by simp)
      refine ⟨fun x57 => ?_⟩
      refine VC.intro ?_ ?_
      ·exact keep_sub (by simp) (by simp)
      refine append_allN (g := gAtom) (T := (154 : TypeId)) G_ok (by repeat (first | exact fl_plain | apply plain_iso | apply plain_pair)) [] [[(x57, Obj.cells { toList := zeros (0 : Nat) [Value.string ByteArray.empty, Value.string ByteArray.empty, Value.string ByteArray.empty] } (154 : TypeId))], A56, [(x55, Obj.cells { toList := zeros (0 : Nat) [Value.string ByteArray.empty] } (9 : TypeId))], [(x54, Obj.cells { toList := zeros (0 : Nat) [Value.string ByteArray.empty, Value.int IntKind.i64 (0 : Int), Value.string ByteArray.empty, Value.int IntKind.i64 (0 : Int)] } (157 : TypeId))], H] 4 ?_ (sl_nil _ _ _) rfl h2p rfl rfl rfl rfl rfl rfl rfl rfl ?_ fun b58 c58 A58 o58 => ?_
      ·exact .refl _
      ·simp; omega
      refine VC.intro ?_ ?_
      ·exact keep_sub (by simp) (by simp)
      refine append_allN (g := gFilter) (T := (157 : TypeId)) G_ok (by repeat (first | exact fl_plain | apply plain_iso | apply plain_pair)) [] [A58, [(x57, Obj.cells { toList := zeros (0 : Nat) [Value.string ByteArray.empty, Value.string ByteArray.empty, Value.string ByteArray.empty] } (154 : TypeId))], A56, [(x55, Obj.cells { toList := zeros (0 : Nat) [Value.string ByteArray.empty] } (9 : TypeId))], [(x54, Obj.cells { toList := zeros (0 : Nat) [Value.string ByteArray.empty, Value.int IntKind.i64 (0 : Int), Value.string ByteArray.empty, Value.int IntKind.i64 (0 : Int)] } (157 : TypeId))], H] 5 ?_ (sl_nil _ _ _) rfl h3p rfl rfl rfl rfl rfl rfl rfl rfl ?_ fun b59 c59 A59 o59 => ?_
      ·exact .refl _
      ·simp; omega
      refine VC.intro ?_ ?_
      ·exact keep_sub (by simp) (by simp)
      exact ⟨_, ⟨_, rfl, gQuery_ow.2 ⟨_, _, _, _, _, _, _, _, _, rfl, .refl _, by assumption, by assumption, by assumption⟩⟩, rlA⟩
     ·refine VC.intro ?_ ?_
      ·refine ⟨fun x60 => ?_⟩
       refine VC.intro ?_ ?_
       ·exact keep_sub (by simp) (by simp)
       refine append_allN (g := gS) (T := (9 : TypeId)) G_ok (by repeat (first | exact fl_plain | apply plain_iso | apply plain_pair)) [] [[(x60, Obj.cells { toList := zeros (0 : Nat) [Value.string ByteArray.empty, Value.string ByteArray.empty, Value.string ByteArray.empty] } (154 : TypeId))], [(x55, Obj.cells { toList := zeros (0 : Nat) [Value.string ByteArray.empty] } (9 : TypeId))], [(x54, Obj.cells { toList := zeros (0 : Nat) [Value.string ByteArray.empty, Value.int IntKind.i64 (0 : Int), Value.string ByteArray.empty, Value.int IntKind.i64 (0 : Int)] } (157 : TypeId))], H] 3 ?_ (sl_nil _ _ _) rfl h1p rfl rfl rfl rfl rfl rfl rfl rfl ?_ fun b61 c61 A61 o61 => ?_
       ·exact .refl _
       ·simp; omega
       refine VC.intro ?_ ?_
       ·exact keep_sub (by simp) (by simp)
       refine append_allN (g := gAtom) (T := (154 : TypeId)) G_ok (by repeat (first | exact fl_plain | apply plain_iso | apply plain_pair)) [] [A61, [(x60, Obj.cells { toList := zeros (0 : Nat) [Value.string ByteArray.empty, Value.string ByteArray.empty, Value.string ByteArray.empty] } (154 : TypeId))], [(x55, Obj.cells { toList := zeros (0 : Nat) [Value.string ByteArray.empty] } (9 : TypeId))], [(x54, Obj.cells { toList := zeros (0 : Nat) [Value.string ByteArray.empty, Value.int IntKind.i64 (0 : Int), Value.string ByteArray.empty, Value.int IntKind.i64 (0 : Int)] } (157 : TypeId))], H] 4 ?_ (sl_nil _ _ _) rfl h2p rfl rfl rfl rfl rfl rfl rfl rfl ?_ fun b62 c62 A62 o62 => ?_
       ·exact .refl _
       ·simp; omega
       refine VC.intro ?_ ?_
       ·exact keep_sub (by simp) (by simp)
       refine append_allN (g := gFilter) (T := (157 : TypeId)) G_ok (by repeat (first | exact fl_plain | apply plain_iso | apply plain_pair)) [] [A62, A61, [(x60, Obj.cells { toList := zeros (0 : Nat) [Value.string ByteArray.empty, Value.string ByteArray.empty, Value.string ByteArray.empty] } (154 : TypeId))], [(x55, Obj.cells { toList := zeros (0 : Nat) [Value.string ByteArray.empty] } (9 : TypeId))], [(x54, Obj.cells { toList := zeros (0 : Nat) [Value.string ByteArray.empty, Value.int IntKind.i64 (0 : Int), Value.string ByteArray.empty, Value.int IntKind.i64 (0 : Int)] } (157 : TypeId))], H] 5 ?_ (sl_nil _ _ _) rfl h3p rfl rfl rfl rfl rfl rfl rfl rfl ?_ fun b63 c63 A63 o63 => ?_
       ·exact .refl _
       ·simp; omega
       refine VC.intro ?_ ?_
       ·exact keep_sub (by simp) (by simp)
       exact ⟨_, ⟨_, rfl, gQuery_ow.2 ⟨_, _, _, _, _, _, _, _, _, rfl, .refl _, by assumption, by assumption, by assumption⟩⟩, rlA⟩
      ·exact trivial
    ·refine VC.intro ?_ ?_
     ·refine ⟨fun x64 => ?_⟩
      refine VC.intro ?_ ?_
      ·exact keep_sub (by simp) (by simp)
      refine ⟨fun x65 => ?_⟩
      refine VC.intro ?_ ?_
      ·exact keep_sub (by simp) (by simp)
      refine append_allN (g := gS) (T := (9 : TypeId)) G_ok (by repeat (first | exact fl_plain | apply plain_iso | apply plain_pair)) [] [[(x65, Obj.cells { toList := zeros (0 : Nat) [Value.string ByteArray.empty] } (9 : TypeId))], [(x64, Obj.cells { toList := zeros (0 : Nat) [Value.string ByteArray.empty, Value.string ByteArray.empty, Value.string ByteArray.empty] } (154 : TypeId))], [(x54, Obj.cells { toList := zeros (0 : Nat) [Value.string ByteArray.empty, Value.int IntKind.i64 (0 : Int), Value.string ByteArray.empty, Value.int IntKind.i64 (0 : Int)] } (157 : TypeId))], H] 3 ?_ (sl_nil _ _ _) rfl h1p rfl rfl rfl rfl rfl rfl rfl rfl ?_ fun b66 c66 A66 o66 => ?_
      ·exact .refl _
      ·simp; omega
      refine VC.intro ?_ ?_
      ·exact keep_sub (by simp) (by simp)
      refine append_allN (g := gAtom) (T := (154 : TypeId)) G_ok (by repeat (first | exact fl_plain | apply plain_iso | apply plain_pair)) [] [A66, [(x65, Obj.cells { toList := zeros (0 : Nat) [Value.string ByteArray.empty] } (9 : TypeId))], [(x64, Obj.cells { toList := zeros (0 : Nat) [Value.string ByteArray.empty, Value.string ByteArray.empty, Value.string ByteArray.empty] } (154 : TypeId))], [(x54, Obj.cells { toList := zeros (0 : Nat) [Value.string ByteArray.empty, Value.int IntKind.i64 (0 : Int), Value.string ByteArray.empty, Value.int IntKind.i64 (0 : Int)] } (157 : TypeId))], H] 4 ?_ (sl_nil _ _ _) rfl h2p rfl rfl rfl rfl rfl rfl rfl rfl ?_ fun b67 c67 A67 o67 => ?_
      ·exact .refl _
      ·simp; omega
      refine VC.intro ?_ ?_
      ·exact keep_sub (by simp) (by simp)
      refine append_allN (g := gFilter) (T := (157 : TypeId)) G_ok (by repeat (first | exact fl_plain | apply plain_iso | apply plain_pair)) [] [A67, A66, [(x65, Obj.cells { toList := zeros (0 : Nat) [Value.string ByteArray.empty] } (9 : TypeId))], [(x64, Obj.cells { toList := zeros (0 : Nat) [Value.string ByteArray.empty, Value.string ByteArray.empty, Value.string ByteArray.empty] } (154 : TypeId))], [(x54, Obj.cells { toList := zeros (0 : Nat) [Value.string ByteArray.empty, Value.int IntKind.i64 (0 : Int), Value.string ByteArray.empty, Value.int IntKind.i64 (0 : Int)] } (157 : TypeId))], H] 5 ?_ (sl_nil _ _ _) rfl h3p rfl rfl rfl rfl rfl rfl rfl rfl ?_ fun b68 c68 A68 o68 => ?_
      ·exact .refl _
      ·simp; omega
      refine VC.intro ?_ ?_
      ·exact keep_sub (by simp) (by simp)
      exact ⟨_, ⟨_, rfl, gQuery_ow.2 ⟨_, _, _, _, _, _, _, _, _, rfl, .refl _, by assumption, by assumption, by assumption⟩⟩, rlA⟩
     ·exact trivial
   ·exact trivial
end
section
attribute [local irreducible] IntKind.wrap
def prK (R : Option PR) : Int := (R.getD (0, 0, [])).1
def prP (R : Option PR) : Nat := (R.getD (0, 0, [])).2.1
def prS (R : Option PR) : List Piece := (R.getD (0, 0, [])).2.2
theorem pr_some {R : Option PR} (h : R.isSome = true) : R = some (prK R, prP R, prS R) := by
 cases R with
 | none => cases h
 | some r => rfl
theorem pr_none {R : Option PR} (h : R.isSome = false) : R = none := by cases R <;> simp_all
theorem prNext_ct (q : Nat) (t : ByteArray) (ai : Int) (a : Nat) (v : Value) (hai : ai = (a : Int)) (ht : t.size ≤ 1152921504606846976) (ha : a ≤ t.size) :
  CtR prog 224 [.pointer (some ⟨q, 0, none⟩)] [(q, Obj.cells ⟨[.string t, .int .i64 ai, v]⟩ 294)] (fun _ => True) (fun r A => r = .int .u8 ((byteAt t a).toNat : Nat) ∧ A = [(q, Obj.cells ⟨[.string t, .int .i64 ai, v]⟩ 294)]) := by
 subst hai
 refine CtR.introB G_ok [.p 0 0] [⟨q, [.string t, .int .i64 (a : Int), v], 294⟩] [] func224 rfl rfl rfl rfl (by simp [SV.ok]) (by simp [Blk.ent]) fun E H hp => ?_
 refine draw G_ok mixed none (.q 0 (.q 1 (.q 2 (.q 3 (.q 4 (.q 5 (.q 6 (.q 7 (.q 8 (.q 9 (.nil))))))))))) (by decide +kernel) ?_
 refine ⟨fun q0 => ?_, fun q0 => ?_⟩
 ·simp at q0
  refine draw G_ok mixed none (.q 0 (.q 1 (.q 2 (.q 3 (.q 4 (.q 5 (.q 6 (.q 7 (.q 8 (.q 9 (.nil))))))))))) (by decide +kernel) ?_
  refine VC.intro ?_ ?_
  ·omega
  exact ⟨_, ⟨rfl, rfl⟩, rlB⟩
 ·simp at q0
  exact ⟨_, ⟨by rw [byteAt_end (by omega)]; rfl, rfl⟩, rlB⟩
theorem prPiece_ct (q : Nat) (v0 v1 : Value) (b : Option Addr) (c : Nat) (l : List Value) (ps : List Piece) (x : Piece) (A B : Hp) (hA : (gSl 279 gPiece).ow [.slice b ps.length c] ps A) (hB : gPiece.ow l x B) (hn : ps.length ≤ 1000000) :
  CtR prog 234 [.pointer (some ⟨q, 0, none⟩), .agg ⟨l⟩] ((q, Obj.cells ⟨[v0, v1, .slice b ps.length c]⟩ 294) :: (A ++ B)) (fun _ => True)
   (fun r D => ∃ b c A', r = .int .i64 (ps.length : Nat) ∧ D = (q, Obj.cells ⟨[v0, v1, .slice b (ps ++ [x]).length c]⟩ 294) :: A' ∧ (gSl 279 gPiece).ow [.slice b (ps ++ [x]).length c] (ps ++ [x]) A') := by
 refine CtR.introB G_ok [.p 0 0, .v (.agg ⟨l⟩)] [⟨q, [v0, v1, .slice b ps.length c], 294⟩] [A, B] func234 rfl rfl rfl rfl (by simp [SV.ok]) (by simp [Blk.ent]) fun E H hp => ?_
 have hr := Gt.owrd _ hB
 obtain ⟨b2x, c2x, rfl, w0x, h2x⟩ := gPiece_rd.1 hr
 refine ⟨fun x0 => ?_⟩
 refine draw G_ok mixed (some 8) (.q 0 (.q 1 (.q 2 (.q 3 (.q 4 (.q 5 (.q 6 (.f 7 (.tl 8 (.f 9 (.f 10 (.f 11 (.f 12 (.nil)))))))))))))) (by decide +kernel) ?_
 refine ⟨fun x1 => ?_⟩
 refine VC.intro ?_ ?_
 ·exact keep_new
 refine gappend1 (g := gPiece) (T := (279 : TypeId)) G_ok A _ [H] ?_ hA (hB) (List.mem_of_getElem? (i := 0) rfl) rfl rfl rfl rfl rfl rfl rfl rfl ?_ fun b2 c2 A2 o2 => ?_
 ·exact .tl
 ·omega
 exact ⟨_, ⟨_, _, _, by (simp (disch := (simp only [List.length_append, List.length_singleton]; omega)) only [wrap_of]; simp), rfl, by assumption⟩, rlB⟩
theorem piece_own {op : Int} {lb : UInt8} {b : Option Addr} {c : Nat} {ks : List Int} {A : Hp} (h1 : okI op) (h2 : (gSl 3 gI).ow [.slice b ks.length c] ks A) : gPiece.ow [.int .i64 op, .int .u8 (lb.toNat : Nat), .slice b ks.length c] ⟨op, lb, ks⟩ A := gPiece_ow.2 ⟨b, c, A, rfl, by simp, h1, h2⟩
theorem pGroup_one {op : Int} {ks : List Int} {p : Nat} {ps : List Piece} (h : ks.length = 1) : pGroup op (ks, p, ps) = (ks[0]?.getD 0, p, ps) := by unfold pGroup; rw [if_pos h]
theorem pGroup_many {op : Int} {ks : List Int} {p : Nat} {ps : List Piece} (h : ¬ ks.length = 1) : pGroup op (ks, p, ps) = (((ps.length : Nat) : Int), p, ps ++ [⟨op, 0, ks⟩]) := by unfold pGroup; rw [if_neg h]
theorem prGroup_ct (q p : Nat) (v0 v1 : Value) (b bk : Option Addr) (c ck : Nat) (ps : List Piece) (op : Int) (ks : List Int) (A B : Hp) (hop : okI op) (hA : (gSl 279 gPiece).ow [.slice b ps.length c] ps A) (hB : (gSl 3 gI).ow [.slice bk ks.length ck] ks B) (hn : ps.length ≤ 1000000) (hk : ks.length ≤ 1000000) :
  CtR prog 225 [.pointer (some ⟨q, 0, none⟩), .int .i64 op, .slice bk ks.length ck] ((q, Obj.cells ⟨[v0, v1, .slice b ps.length c]⟩ 294) :: (A ++ B)) (fun _ => True)
   (fun r D => ∃ b c A', r = .int .i64 (pGroup op (ks, p, ps)).1 ∧ D = (q, Obj.cells ⟨[v0, v1, .slice b (pGroup op (ks, p, ps)).2.2.length c]⟩ 294) :: A' ∧ (gSl 279 gPiece).ow [.slice b (pGroup op (ks, p, ps)).2.2.length c] (pGroup op (ks, p, ps)).2.2 A') := by
 refine CtR.introB G_ok [.p 0 0, .v (.int .i64 op), .v (.slice bk ks.length ck)] [⟨q, [v0, v1, .slice b ps.length c], 294⟩] [A, B] func225 rfl rfl rfl rfl (by simp [SV.ok]) (by simp [Blk.ent]) fun E H hp => ?_
 have hPo := piece_own (lb := 0) hop hB
 refine ⟨fun q0 => ?_, fun q0 => ?_⟩
 ·simp at q0
  refine idx_rd (Gt.owrd _ hB) ?_ ?_ fun b1 o1 hb1 => ?_
  ·trivial
  ·omega
  refine load_allN 0 (0) rfl (Gt.owrd _ hB) ?_ ?_ hb1 rfl (mem_at 1 rfl) fun l2 hl2 => ?_
  ·trivial
  ·omega
  obtain ⟨rfl, hw2⟩ := hl2; simp only [flStr, flInt, okI] at hw2
  (rw [pGroup_one (by omega)]; exact ⟨_, ⟨_, _, _, rfl, rfl, hA⟩, rlB⟩)
 ·simp at q0
  refine callR_blk 0 (A ++ B) [H] rfl ?_ (prPiece_ct _ _ _ _ _ _ _ _ _ _ hA hPo ?_) trivial ?_
  ·exact rlA
  ·trivial
  rintro _ A3 ⟨b3, c3, Ax3, rfl, rfl, o3⟩
  refine ⟨_, _, [Ax3], rfl, perm1, ?_⟩
  (rw [pGroup_many (by omega)]; exact ⟨_, ⟨_, _, _, rfl, rfl, by assumption⟩, rlB⟩)
theorem pGroup_eta {op : Int} {ks : List Int} {p : Nat} {ps : List Piece} : pGroup op (ks, p, ps) = ((pGroup op (ks, p, ps)).1, p, (pGroup op (ks, p, ps)).2.2) := by
 unfold pGroup; split <;> rfl
def PrPost (q : Nat) (t : ByteArray) (R : Option PR) (v : Value) (D : Hp) : Prop :=
 ∃ (p' : Nat) (ps' : List Piece) (b : Option Addr) (c : Nat) (A' : Hp), v = .tuple #[.int .i64 (prK R), .bool R.isSome] ∧ D = (q, Obj.cells ⟨[.string t, .int .i64 (p' : Nat), .slice b ps'.length c]⟩ 294) :: A' ∧ (gSl 279 gPiece).ow [.slice b ps'.length c] ps' A' ∧ (R.isSome = true → p' = prP R ∧ ps' = prS R)
def PrCt (f : FuncId) (F : Nat → List Piece → Option PR) (t : ByteArray) (P : Nat → Prop) : Prop :=
 ∀ (q : Nat) (pi : Int) (p : Nat) (ps : List Piece) (b : Option Addr) (c : Nat) (A : Hp), pi = p → P p → ps.length ≤ 2 * p → (gSl 279 gPiece).ow [.slice b ps.length c] ps A →
  CtR prog f [.pointer (some ⟨q, 0, none⟩)] ((q, Obj.cells ⟨[.string t, .int .i64 pi, .slice b ps.length c]⟩ 294) :: A) (fun _ => True) (PrPost q t (F p ps))
def ReadsR (t : ByteArray) (p : Nat) (ps : List Piece) (R : Option PR) : Prop := p < prP R ∧ prP R ≤ t.size ∧ (prS R).length + 1 + 2 * p ≤ ps.length + 2 * prP R ∧ ps.length ≤ (prS R).length ∧ 0 ≤ prK R ∧ prK R < (prS R).length
theorem reads_of {R : Option PR} {t : ByteArray} {p : Nat} {ps : List Piece} (h : R.isSome = true) (hl : ∀ r, R = some r → Reads t p ps r) : ReadsR t p ps R := hl _ (pr_some h)
theorem item_reads {t : ByteArray} {n p : Nat} {ps : List Piece} (hp : p < t.size) (h : (pItem t (pExpr t n) p ps).isSome = true) : ReadsR t p ps (pItem t (pExpr t n) p ps) := reads_of h fun _ e => pItem_le (fun _ _ _ h1 h2 => pExpr_le t n _ _ _ h1 h2) hp e
theorem alt_reads {t : ByteArray} {n p : Nat} {ps : List Piece} (hp : p ≤ t.size) (h : (pAlt t (pItem t (pExpr t n)) p ps).isSome = true) : ReadsR t p ps (pAlt t (pItem t (pExpr t n)) p ps) := reads_of h fun _ e => pAlt_le (fun _ _ _ h3 h4 => pItem_le (fun _ _ _ h1 h2 => pExpr_le t n _ _ _ h1 h2) h3 h4) hp e
theorem expr_reads {t : ByteArray} {n p : Nat} {ps : List Piece} (hp : p ≤ t.size) (h : (pExpr t n p ps).isSome = true) : ReadsR t p ps (pExpr t n p ps) := reads_of h fun _ e => pExpr_le t n _ _ _ hp e
theorem pAlts_go {t : ByteArray} {I : Nat → List Piece → Option PR} {f : Nat} {ks : List Int} {p : Nat} {ps : List Piece} (hf : 1 ≤ f) (hb : begins (byteAt t p) = true) (h : (I p ps).isSome = true) : pAlts t I f ks p ps = pAlts t I (f - 1) (ks ++ [prK (I p ps)]) (prP (I p ps)) (prS (I p ps)) := by
 obtain ⟨f, rfl⟩ : ∃ g, f = g + 1 := ⟨f - 1, by omega⟩
 exact pAlts_more hb (pr_some h)
theorem pAlts_none {t : ByteArray} {I : Nat → List Piece → Option PR} {f : Nat} {ks : List Int} {p : Nat} {ps : List Piece} (hf : 1 ≤ f) (hb : begins (byteAt t p) = true) (h : I p ps = none) : pAlts t I f ks p ps = none := by
 obtain ⟨f, rfl⟩ : ∃ g, f = g + 1 := ⟨f - 1, by omega⟩
 exact pAlts_bad hb h
theorem pr_no {q : Nat} {t : ByteArray} {R : Option PR} {p' : Nat} {ps' : List Piece} {b : Option Addr} {c : Nat} {A' : Hp} (hR : R = none) (h : (gSl 279 gPiece).ow [.slice b ps'.length c] ps' A') : PrPost q t R (.tuple ⟨[.int .i64 0, .bool false]⟩) ((q, Obj.cells ⟨[.string t, .int .i64 (p' : Nat), .slice b ps'.length c]⟩ 294) :: A') := by
 subst hR
 exact ⟨p', ps', b, c, A', rfl, rfl, h, fun h => by cases h⟩
theorem pr_yes {q : Nat} {t : ByteArray} {R : Option PR} {k : Int} {p' : Nat} {ps' : List Piece} {b : Option Addr} {c : Nat} {A' : Hp} (hR : R = some (k, p', ps')) (h : (gSl 279 gPiece).ow [.slice b ps'.length c] ps' A') : PrPost q t R (.tuple ⟨[.int .i64 k, .bool true]⟩) ((q, Obj.cells ⟨[.string t, .int .i64 (p' : Nat), .slice b ps'.length c]⟩ 294) :: A') := by
 subst hR
 exact ⟨p', ps', b, c, A', rfl, rfl, h, fun _ => ⟨rfl, rfl⟩⟩
theorem altEnd_nil {ks : List Int} {p : Nat} {ps : List Piece} (h : ks = []) : altEnd (some (ks, p, ps)) = none := by subst h; rfl
theorem altEnd_cons {ks : List Int} {p : Nat} {ps : List Piece} (h : ¬ ks = []) : altEnd (some (ks, p, ps)) = some ((pGroup 2 (ks, p, ps)).1, p, (pGroup 2 (ks, p, ps)).2.2) := by
 unfold altEnd
 rw [← pGroup_eta]
 exact if_neg (by simpa using h)
theorem begins_1 {b : UInt8} (h : labelOk b = true) : begins b = true := by unfold begins; rw [h]; rfl
theorem begins_2 {b : UInt8} (h : ((b.toNat : Nat) : Int) = 40) : begins b = true := by unfold begins; rw [decide_eq_true (show b.toNat = 40 by omega)]; simp
theorem begins_0 {b : UInt8} (h : labelOk b = false) (h2 : ¬ ((b.toNat : Nat) : Int) = 40) : begins b = false := by unfold begins; rw [h, decide_eq_false (show ¬ b.toNat = 40 by omega)]; rfl
attribute [local irreducible] pItem pExpr pAlts prK prP prS
theorem prAlt_ct (t : ByteArray) (n : Nat) (ht : t.size ≤ 20) (hI : PrCt 233 (pItem t (pExpr t n)) t (fun p => begins (byteAt t p) = true ∧ t.size < n + 1 + p)) : PrCt 223 (pAlt t (pItem t (pExpr t n))) t (fun p => p ≤ t.size ∧ t.size < n + 1 + p) := by
 intro q pi p ps b c A hpi hP hps hA
 obtain ⟨hp, hn⟩ := hP
 subst hpi
 refine CtR.introB G_ok [.p 0 0] [⟨q, [.string t, .int .i64 (p : Int), .slice b ps.length c], 294⟩] [A] func223 rfl rfl rfl rfl (by simp [SV.ok]) (by simp [Blk.ent]) fun E H hp => ?_
 apply loop_mod (α := (Nat) × (List Int) × (Nat) × (List Piece) × (Hp) × (Option Addr) × (Nat) × (Hp) × (Option Addr) × (Nat)) G_ok [7, 8, 9, 10, 11, 12, 13, 14, 16, 17, 15, 18, 19, 5, 6, 20, 21, 2, 3, 22, 23, 24, 25, 4] (fun z => [(4, .v (.slice z.2.2.2.2.2.2.2.2.1 z.2.1.length z.2.2.2.2.2.2.2.2.2)), (3, .v (.bool false)), (2, .v (.int .i64 0))]) (fun z => [⟨q, [Value.string t, .int .i64 (z.2.2.1 : Nat), .slice z.2.2.2.2.2.1 z.2.2.2.1.length z.2.2.2.2.2.2.1], (294 : TypeId)⟩]) (fun z => [z.2.2.2.2.1, z.2.2.2.2.2.2.2.1, H]) (fun z => t.size - z.2.2.1) (fun z => pAlts t (pItem t (pExpr t n)) z.1 z.2.1 z.2.2.1 z.2.2.2.1 = pAlts t (pItem t (pExpr t n)) (t.size + 1) [] p ps ∧ t.size < z.1 + z.2.2.1 ∧ z.2.2.1 ≤ t.size ∧ p ≤ z.2.2.1 ∧ z.2.2.2.1.length ≤ 2 * z.2.2.1 ∧ z.2.1.length ≤ z.2.2.1 ∧ (gSl 279 gPiece).ow [.slice z.2.2.2.2.2.1 z.2.2.2.1.length z.2.2.2.2.2.2.1] z.2.2.2.1 z.2.2.2.2.1 ∧ (gSl 3 gI).ow [.slice z.2.2.2.2.2.2.2.2.1 z.2.1.length z.2.2.2.2.2.2.2.2.2] z.2.1 z.2.2.2.2.2.2.2.1) ((t.size + 1, [], p, ps, A, b, c, [], none, 0))
 ·exact frI
 ·exact ⟨rfl, trivial⟩
 ·try dsimp only
  exact ⟨rfl, by omega, by assumption, Nat.le_refl _, hps, Nat.zero_le _, hA, sl_nil _ _ _⟩
 ·exact .refl _
 rintro ⟨f, ks, p2, ps2, A, lb, lc, K, kb, kc⟩ hI
 try dsimp only at hI
 obtain ⟨hf, hfu, hp2, hpp, hps2, hks, oA, oK⟩ := hI
 try dsimp only
 refine callR_blk 0 ([]) [A, K, H] rfl ?_ (prNext_ct _ _ _ _ _ rfl ?_ ?_) trivial ?_
 ·exact .refl _
 ·omega
 ·trivial
 rintro _ A0 ⟨rfl, rfl⟩
 refine ⟨_, _, [], rfl, perm0, ?_⟩
 refine call_val (isLabel_ct _) trivial ?_
 rintro _ rfl
 refine ⟨fun q2 => ?_, fun q2 => ?_⟩
 ·refine callR_blk 0 (A) [K, H] rfl ?_ (hI _ _ _ _ _ _ _ rfl ⟨?_, ?_⟩ ?_ oA) trivial ?_
  ·exact .refl _
  ·exact begins_1 ‹_›
  ·omega
  ·trivial
  rintro _ A3 ⟨pz, sz, bz, cz, Az, rfl, rfl, oz, hz⟩
  refine ⟨_, _, [Az], rfl, perm1, ?_⟩
  refine ⟨fun q4 => ?_, fun q4 => ?_⟩
  ·simp at q4
   (have hN : pAlt t (pItem t (pExpr t n)) p ps = none := (by unfold pAlt; rw [← hf, pAlts_none (by omega) (by first | exact begins_1 ‹labelOk (byteAt t p2) = true› | exact begins_2 ‹((byteAt t p2).toNat : Int) = 40›) ‹pItem t (pExpr t n) p2 ps2 = none›]; rfl); exact ⟨_, pr_no (p' := pz) hN oz, rlB⟩)
  ·simp at q4
   (obtain ⟨e1, e2⟩ := hz q4; subst e1; subst e2; have hr := item_reads (begins_lt (by first | exact begins_1 ‹_› | exact begins_2 ‹_›)) q4; unfold ReadsR at hr; have ok : okI (prK (pItem t (pExpr t n) p2 ps2)) := (by unfold okI; omega))
   refine ⟨fun x5 => ?_⟩
   refine gappend1 (g := gI) (T := (3 : TypeId)) G_ok K [] [Az, H] ?_ oK (gI_ow ?_) (List.mem_of_getElem? (i := 0) rfl) rfl rfl rfl rfl rfl rfl rfl rfl ?_ fun b6 c6 A6 o6 => ?_
   ·exact rlA
   ·trivial
   ·omega
   apply loop_stepI (f - 1, ks ++ [prK (pItem t (pExpr t n) p2 ps2)], prP (pItem t (pExpr t n) p2 ps2), prS (pItem t (pExpr t n) p2 ps2), Az, _, _, _, _, _)
   ·exact frI
   ·exact ⟨rfl, trivial⟩
   ·try dsimp only
    exact ⟨by rw [← pAlts_go (by omega) (by first | exact begins_1 ‹_› | exact begins_2 ‹_›) ‹_ = true›]; exact hf, by omega, by omega, by omega, by omega, by rw [List.length_append, List.length_singleton]; omega, oz, by assumption⟩
   ·exact rlA
   try dsimp only
   omega
 ·refine callR_blk 0 ([]) [A, K, H] rfl ?_ (prNext_ct _ _ _ _ _ rfl ?_ ?_) trivial ?_
  ·exact .refl _
  ·omega
  ·trivial
  rintro _ A7 ⟨rfl, rfl⟩
  refine ⟨_, _, [], rfl, perm0, ?_⟩
  refine ⟨fun q8 => ?_, fun q8 => ?_⟩
  ·simp at q8
   refine callR_blk 0 (A) [K, H] rfl ?_ (hI _ _ _ _ _ _ _ rfl ⟨?_, ?_⟩ ?_ oA) trivial ?_
   ·exact .refl _
   ·exact begins_2 ‹_›
   ·omega
   ·trivial
   rintro _ A9 ⟨pz, sz, bz, cz, Az, rfl, rfl, oz, hz⟩
   refine ⟨_, _, [Az], rfl, perm1, ?_⟩
   refine ⟨fun q10 => ?_, fun q10 => ?_⟩
   ·simp at q10
    (have hN : pAlt t (pItem t (pExpr t n)) p ps = none := (by unfold pAlt; rw [← hf, pAlts_none (by omega) (by first | exact begins_1 ‹labelOk (byteAt t p2) = true› | exact begins_2 ‹((byteAt t p2).toNat : Int) = 40›) ‹pItem t (pExpr t n) p2 ps2 = none›]; rfl); exact ⟨_, pr_no (p' := pz) hN oz, rlB⟩)
   ·simp at q10
    (obtain ⟨e1, e2⟩ := hz q10; subst e1; subst e2; have hr := item_reads (begins_lt (by first | exact begins_1 ‹_› | exact begins_2 ‹_›)) q10; unfold ReadsR at hr; have ok : okI (prK (pItem t (pExpr t n) p2 ps2)) := (by unfold okI; omega))
    refine ⟨fun x11 => ?_⟩
    refine gappend1 (g := gI) (T := (3 : TypeId)) G_ok K [] [Az, H] ?_ oK (gI_ow ?_) (List.mem_of_getElem? (i := 0) rfl) rfl rfl rfl rfl rfl rfl rfl rfl ?_ fun b12 c12 A12 o12 => ?_
    ·exact rlA
    ·trivial
    ·omega
    apply loop_stepI (f - 1, ks ++ [prK (pItem t (pExpr t n) p2 ps2)], prP (pItem t (pExpr t n) p2 ps2), prS (pItem t (pExpr t n) p2 ps2), Az, _, _, _, _, _)
    ·exact frI
    ·exact ⟨rfl, trivial⟩
    ·try dsimp only
     exact ⟨by rw [← pAlts_go (by omega) (by first | exact begins_1 ‹_› | exact begins_2 ‹_›) ‹_ = true›]; exact hf, by omega, by omega, by omega, by omega, by rw [List.length_append, List.length_singleton]; omega, oz, by assumption⟩
    ·exact rlA
    try dsimp only
    omega
  ·simp at q8
   refine ⟨fun q13 => ?_, fun q13 => ?_⟩
   ·simp at q13
    (have hN : pAlt t (pItem t (pExpr t n)) p ps = none := (by unfold pAlt; rw [← hf, pAlts_end (begins_0 ‹labelOk (byteAt t p2) = false› ‹¬ ((byteAt t p2).toNat : Int) = 40›)]; exact altEnd_nil ‹ks = []›); exact ⟨_, pr_no (p' := p2) hN oA, rlB⟩)
   ·simp at q13
    refine callR_blk 0 (A ++ K) [H] rfl ?_ (prGroup_ct _ p2 _ _ _ _ _ _ _ _ _ _ _ ?_ oA oK ?_ ?_) trivial ?_
    ·exact rlA
    ·trivial
    ·omega
    ·omega
    rintro _ A14 ⟨bg, cg, Ag, rfl, rfl, og⟩
    refine ⟨_, _, [Ag], rfl, perm1, ?_⟩
    (have hN : pAlt t (pItem t (pExpr t n)) p ps = some ((pGroup 2 (ks, p2, ps2)).1, p2, (pGroup 2 (ks, p2, ps2)).2.2) := (by unfold pAlt; rw [← hf, pAlts_end (begins_0 ‹labelOk (byteAt t p2) = false› ‹¬ ((byteAt t p2).toNat : Int) = 40›)]; exact altEnd_cons ‹¬ ks = []›); exact ⟨_, pr_yes hN og, rlB⟩)
theorem pExprs_go' {t : ByteArray} {A : Nat → List Piece → Option PR} {f : Nat} {ks : List Int} {p : Nat} {ps : List Piece} {r : PR} (hf : 1 ≤ f) (h : A p ps = some r) (hb : (byteAt t r.2.1).toNat = 124) : pExprs t A f ks p ps = pExprs t A (f - 1) (ks ++ [r.1]) (r.2.1 + 1) r.2.2 := by
 obtain ⟨f, rfl⟩ : ∃ g, f = g + 1 := ⟨f - 1, by omega⟩
 conv => lhs; unfold pExprs
 rw [h]
 exact if_pos hb
theorem pExprs_end' {t : ByteArray} {A : Nat → List Piece → Option PR} {f : Nat} {ks : List Int} {p : Nat} {ps : List Piece} {r : PR} (hf : 1 ≤ f) (h : A p ps = some r) (hb : ¬ (byteAt t r.2.1).toNat = 124) : pExprs t A f ks p ps = some (pGroup 3 (ks ++ [r.1], r.2.1, r.2.2)) := by
 obtain ⟨f, rfl⟩ : ∃ g, f = g + 1 := ⟨f - 1, by omega⟩
 conv => lhs; unfold pExprs
 rw [h]
 exact if_neg hb
theorem pExprs_go {t : ByteArray} {A : Nat → List Piece → Option PR} {f : Nat} {ks : List Int} {p : Nat} {ps : List Piece} (hf : 1 ≤ f) (h : (A p ps).isSome = true) (hb : ((byteAt t (prP (A p ps))).toNat : Int) = 124) : pExprs t A f ks p ps = pExprs t A (f - 1) (ks ++ [prK (A p ps)]) (prP (A p ps) + 1) (prS (A p ps)) :=
 pExprs_go' hf (pr_some h) (show (byteAt t (prP (A p ps))).toNat = 124 by omega)
theorem pExprs_end {t : ByteArray} {A : Nat → List Piece → Option PR} {f : Nat} {ks : List Int} {p : Nat} {ps : List Piece} (hf : 1 ≤ f) (h : (A p ps).isSome = true) (hb : ¬ ((byteAt t (prP (A p ps))).toNat : Int) = 124) : pExprs t A f ks p ps = some ((pGroup 3 (ks ++ [prK (A p ps)], prP (A p ps), prS (A p ps))).1, prP (A p ps), (pGroup 3 (ks ++ [prK (A p ps)], prP (A p ps), prS (A p ps))).2.2) :=
 (pExprs_end' hf (pr_some h) (show ¬ (byteAt t (prP (A p ps))).toNat = 124 by omega)).trans (congrArg some pGroup_eta)
theorem pExprs_none {t : ByteArray} {A : Nat → List Piece → Option PR} {f : Nat} {ks : List Int} {p : Nat} {ps : List Piece} (h : A p ps = none) : pExprs t A f ks p ps = none := by
 cases f with
 | zero => rfl
 | succ f => unfold pExprs; rw [h]
attribute [local irreducible] pExprs pAlt
theorem prExpr_ct (t : ByteArray) (n : Nat) (ht : t.size ≤ 20) (hI : PrCt 223 (pAlt t (pItem t (pExpr t n))) t (fun p => p ≤ t.size ∧ t.size < n + 1 + p)) : PrCt 208 (pExpr t (n + 1)) t (fun p => p ≤ t.size ∧ t.size < n + 1 + p) := by
 intro q pi p ps b c A hpi hP hps hA
 obtain ⟨hp, hn⟩ := hP
 subst hpi
 rw [show pExpr t (n + 1) p ps = pExprs t (pAlt t (pItem t (pExpr t n))) (t.size + 1) [] p ps by unfold pExpr; rfl]
 refine CtR.introB G_ok [.p 0 0] [⟨q, [.string t, .int .i64 (p : Int), .slice b ps.length c], 294⟩] [A] func208 rfl rfl rfl rfl (by simp [SV.ok]) (by simp [Blk.ent]) fun E H hp => ?_
 apply loop_mod (α := (Nat) × (List Int) × (Nat) × (List Piece) × (Hp) × (Option Addr) × (Nat) × (Hp) × (Option Addr) × (Nat)) G_ok [8, 9, 7, 10, 11, 5, 6, 12, 13, 2, 3, 14, 15, 16, 17, 4, 18, 19, 20, 21, 22, 23, 24, 25, 26, 27, 28, 29, 30] (fun z => [(4, .v (.slice z.2.2.2.2.2.2.2.2.1 z.2.1.length z.2.2.2.2.2.2.2.2.2)), (3, .v (.bool false)), (2, .v (.int .i64 0))]) (fun z => [⟨q, [Value.string t, .int .i64 (z.2.2.1 : Nat), .slice z.2.2.2.2.2.1 z.2.2.2.1.length z.2.2.2.2.2.2.1], (294 : TypeId)⟩]) (fun z => [z.2.2.2.2.1, z.2.2.2.2.2.2.2.1, H]) (fun z => t.size - z.2.2.1) (fun z => pExprs t (pAlt t (pItem t (pExpr t n))) z.1 z.2.1 z.2.2.1 z.2.2.2.1 = pExprs t (pAlt t (pItem t (pExpr t n))) (t.size + 1) [] p ps ∧ t.size < z.1 + z.2.2.1 ∧ z.2.2.1 ≤ t.size ∧ p ≤ z.2.2.1 ∧ z.2.2.2.1.length ≤ 2 * z.2.2.1 ∧ z.2.1.length ≤ z.2.2.1 ∧ (gSl 279 gPiece).ow [.slice z.2.2.2.2.2.1 z.2.2.2.1.length z.2.2.2.2.2.2.1] z.2.2.2.1 z.2.2.2.2.1 ∧ (gSl 3 gI).ow [.slice z.2.2.2.2.2.2.2.2.1 z.2.1.length z.2.2.2.2.2.2.2.2.2] z.2.1 z.2.2.2.2.2.2.2.1) ((t.size + 1, [], p, ps, A, b, c, [], none, 0))
 ·exact frI
 ·exact ⟨rfl, trivial⟩
 ·try dsimp only
  exact ⟨rfl, by omega, by assumption, Nat.le_refl _, hps, Nat.zero_le _, hA, sl_nil _ _ _⟩
 ·exact .refl _
 rintro ⟨f, ks, p2, ps2, A, lb, lc, K, kb, kc⟩ hI
 try dsimp only at hI
 obtain ⟨hf, hfu, hp2, hpp, hps2, hks, oA, oK⟩ := hI
 try dsimp only
 refine callR_blk 0 (A) [K, H] rfl ?_ (hI _ _ _ _ _ _ _ rfl ⟨?_, ?_⟩ ?_ oA) trivial ?_
 ·exact .refl _
 ·trivial
 ·omega
 ·trivial
 rintro _ A0 ⟨pz, sz, bz, cz, Az, rfl, rfl, oz, hz⟩
 refine ⟨_, _, [Az], rfl, perm1, ?_⟩
 refine ⟨fun q1 => ?_, fun q1 => ?_⟩
 ·simp at q1
  (have hN := pExprs_none (t := t) (f := f) (ks := ks) ‹pAlt t (pItem t (pExpr t n)) p2 ps2 = none›; rw [hf] at hN; exact ⟨_, pr_no (p' := pz) hN oz, rlB⟩)
 ·simp at q1
  (obtain ⟨e1, e2⟩ := hz q1; subst e1; subst e2; have hr := alt_reads (by assumption) q1; unfold ReadsR at hr; have ok : okI (prK (pAlt t (pItem t (pExpr t n)) p2 ps2)) := (by unfold okI; omega))
  refine ⟨fun x2 => ?_⟩
  refine gappend1 (g := gI) (T := (3 : TypeId)) G_ok K [] [Az, H] ?_ oK (gI_ow ?_) (List.mem_of_getElem? (i := 0) rfl) rfl rfl rfl rfl rfl rfl rfl rfl ?_ fun b3 c3 A3 o3 => ?_
  ·exact rlA
  ·trivial
  ·omega
  refine callR_blk 0 ([]) [A3, Az, H] rfl ?_ (prNext_ct _ _ _ _ _ rfl ?_ ?_) trivial ?_
  ·exact .refl _
  ·omega
  ·omega
  rintro _ A4 ⟨rfl, rfl⟩
  refine ⟨_, _, [], rfl, perm0, ?_⟩
  refine ⟨fun q5 => ?_, fun q5 => ?_⟩
  ·simp at q5
   refine callR_blk 0 (Az ++ A3) [H] rfl ?_ (prGroup_ct _ (prP (pAlt t (pItem t (pExpr t n)) p2 ps2)) _ _ _ _ _ _ _ _ _ _ _ ?_ oz o3 ?_ ?_) trivial ?_
   ·exact rlA
   ·trivial
   ·omega
   ·simp; omega
   rintro _ A6 ⟨bg, cg, Ag, rfl, rfl, og⟩
   refine ⟨_, _, [Ag], rfl, perm1, ?_⟩
   (have hN := pExprs_end (t := t) (f := f) (ks := ks) (by omega) ‹(pAlt t (pItem t (pExpr t n)) p2 ps2).isSome = true› ‹¬ ((byteAt t (prP (pAlt t (pItem t (pExpr t n)) p2 ps2))).toNat : Int) = 124›; rw [hf] at hN; exact ⟨_, pr_yes hN og, rlB⟩)
  ·simp at q5
   have hlt : prP (pAlt t (pItem t (pExpr t n)) p2 ps2) < t.size := byteAt_lt (by omega)
   have hw : IntKind.i64.wrap ((prP (pAlt t (pItem t (pExpr t n)) p2 ps2) : Int) + 1) = ((prP (pAlt t (pItem t (pExpr t n)) p2 ps2) + 1 : Nat) : Int) := by (rw [wrap_of (by omega) (by omega)]; omega)
   apply loop_stepI (f - 1, ks ++ [prK (pAlt t (pItem t (pExpr t n)) p2 ps2)], prP (pAlt t (pItem t (pExpr t n)) p2 ps2) + 1, prS (pAlt t (pItem t (pExpr t n)) p2 ps2), Az, _, _, _, _, _)
   ·exact frI
   ·((rw [hw]); repeat' (first | exact trivial | refine ⟨by first | rfl | simp [Blk.ent], ?_⟩))
   ·try dsimp only
    exact ⟨by rw [← pExprs_go (by omega) ‹(pAlt t (pItem t (pExpr t n)) p2 ps2).isSome = true› ‹((byteAt t (prP (pAlt t (pItem t (pExpr t n)) p2 ps2))).toNat : Int) = 124›]; exact hf, by omega, by omega, by omega, by omega, by rw [List.length_append, List.length_singleton]; omega, oz, by assumption⟩
   ·exact rlA
   try dsimp only
   omega
end
section
attribute [local irreducible] IntKind.wrap
theorem piece_lit {op k : Int} {x : Nat} (h1 : okI op) (h2 : okI k) : gPiece.ow [.int .i64 op, .int .u8 0, .slice (some ⟨x, 0, none⟩) 1 1] ⟨op, 0, [k]⟩ [(x, Obj.cells ⟨[.int .i64 k]⟩ 3)] :=
 piece_own (lb := 0) h1 (ow_fl (Ow.lit (f := flInt) (T := 3) (b := x) (xs := [k]) (by simpa [flInt] using h2) (by simp)))
theorem piece_leaf {op : Int} {lb : UInt8} (h1 : okI op) : gPiece.ow [.int .i64 op, .int .u8 (lb.toNat : Nat), .slice none 0 0] ⟨op, lb, []⟩ [] := piece_own (ks := []) h1 (sl_nil _ _ _)
theorem item_par {t : ByteArray} {E : Nat → List Piece → Option PR} {p : Nat} {ps : List Piece} (h : ((byteAt t p).toNat : Int) = 40) (h1 : (E (p + 1) ps).isSome = true) (h2 : ((byteAt t (prP (E (p + 1) ps))).toNat : Int) = 41) : pItem t E p ps = some (pPost t (t.size + 1) (prK (E (p + 1) ps)) (prP (E (p + 1) ps) + 1) (prS (E (p + 1) ps))) := by
 have h3 := pr_some h1
 have h4 : pItem t E p ps = if (byteAt t (prP (E (p + 1) ps))).toNat = 41 then some (pPost t (t.size + 1) (prK (E (p + 1) ps)) (prP (E (p + 1) ps) + 1) (prS (E (p + 1) ps))) else none := by
  conv => lhs; unfold pItem; rw [if_pos (show (byteAt t p).toNat = 40 by omega), h3]
 rw [h4, if_pos (by omega)]
theorem item_exp_no {t : ByteArray} {E : Nat → List Piece → Option PR} {p : Nat} {ps : List Piece} (h : ((byteAt t p).toNat : Int) = 40) (h1 : E (p + 1) ps = none) : pItem t E p ps = none := by
 unfold pItem; rw [if_pos (show (byteAt t p).toNat = 40 by omega), h1]
theorem item_par_no {t : ByteArray} {E : Nat → List Piece → Option PR} {p : Nat} {ps : List Piece} (h : ((byteAt t p).toNat : Int) = 40) (h1 : (E (p + 1) ps).isSome = true) (h2 : ¬ ((byteAt t (prP (E (p + 1) ps))).toNat : Int) = 41) : pItem t E p ps = none := by
 have h3 := pr_some h1
 have h4 : pItem t E p ps = if (byteAt t (prP (E (p + 1) ps))).toNat = 41 then some (pPost t (t.size + 1) (prK (E (p + 1) ps)) (prP (E (p + 1) ps) + 1) (prS (E (p + 1) ps))) else none := by
  conv => lhs; unfold pItem; rw [if_pos (show (byteAt t p).toNat = 40 by omega), h3]
 rw [h4, if_neg (by omega)]
theorem item_step {t : ByteArray} {E : Nat → List Piece → Option PR} {p : Nat} {ps : List Piece} (h : ¬ ((byteAt t p).toNat : Int) = 40) : pItem t E p ps = some (pPost t (t.size + 1) (ps.length : Nat) (p + 1) (ps ++ [⟨1, byteAt t p, []⟩])) := by
 unfold pItem; rw [if_neg (by omega)]
theorem post_end {t : ByteArray} {f p : Nat} {k : Int} {ps : List Piece} (h : ¬ ((byteAt t p).toNat : Int) = 42) (h2 : ¬ ((byteAt t p).toNat : Int) = 43) (h3 : ¬ ((byteAt t p).toNat : Int) = 63) : pPost t f k p ps = (k, p, ps) := by
 cases f with
 | zero => rfl
 | succ f => unfold pPost; rw [if_pos (by unfold postOp; rw [if_neg (by omega), if_neg (by omega), if_neg (by omega)])]
theorem post_go {t : ByteArray} {f p : Nat} {k op : Int} {ps : List Piece} (hf : 1 ≤ f) (h : (((byteAt t p).toNat : Int) = 42 ∧ op = 4) ∨ (((byteAt t p).toNat : Int) = 43 ∧ op = 5) ∨ (((byteAt t p).toNat : Int) = 63 ∧ op = 6)) : pPost t f k p ps = pPost t (f - 1) (ps.length : Nat) (p + 1) (ps ++ [⟨op, 0, [k]⟩]) := by
 obtain ⟨f, rfl⟩ : ∃ g, f = g + 1 := ⟨f - 1, by omega⟩
 have hop : postOp (byteAt t p) = op := by
  unfold postOp
  rcases h with ⟨h1, h2⟩ | ⟨h1, h2⟩ | ⟨h1, h2⟩
  ·rw [if_pos (by omega)]; omega
  ·rw [if_neg (by omega), if_pos (by omega)]; omega
  rw [if_neg (by omega), if_neg (by omega), if_pos (by omega)]; omega
 conv => lhs; unfold pPost
 rw [hop, if_neg (by omega)]; rfl
attribute [local irreducible] pItem pExpr pAlts pPost prK prP prS
theorem prItem_ct (t : ByteArray) (n : Nat) (ht : t.size ≤ 20) (hI : PrCt 208 (pExpr t n) t (fun p => p ≤ t.size ∧ t.size < n + p)) : PrCt 233 (pItem t (pExpr t n)) t (fun p => begins (byteAt t p) = true ∧ t.size < n + 1 + p) := by
 intro q pi p ps b c A hpi hP hps hA
 obtain ⟨hb, hn⟩ := hP
 have hplt := begins_lt hb
 subst hpi
 have hst := piece_leaf (op := 1) (lb := byteAt t p) (by unfold okI; omega)
 have hw : IntKind.i64.wrap ((p : Int) + 1) = ((p + 1 : Nat) : Int) := by (rw [wrap_of (by omega) (by omega)]; omega)
 refine CtR.introB G_ok [.p 0 0] [⟨q, [.string t, .int .i64 (p : Int), .slice b ps.length c], 294⟩] [A] func233 rfl rfl rfl rfl (by simp [SV.ok]) (by simp [Blk.ent]) fun E H hp => ?_
 refine callR_blk 0 ([]) [A, H] rfl ?_ (prNext_ct _ _ _ _ _ rfl ?_ ?_) trivial ?_
 ·exact .refl _
 ·omega
 ·omega
 rintro _ A0 ⟨rfl, rfl⟩
 refine ⟨_, _, [], rfl, perm0, ?_⟩
 refine ⟨fun q1 => ?_, fun q1 => ?_⟩
 ·simp at q1
  refine callR_blk 0 (A) [H] rfl ?_ (hI _ _ (p + 1) _ _ _ _ hw ⟨?_, ?_⟩ ?_ hA) trivial ?_
  ·exact .refl _
  ·trivial
  ·omega
  ·omega
  rintro _ A2 ⟨pz, sz, bz, cz, Az, rfl, rfl, oz, hz⟩
  refine ⟨_, _, [Az], rfl, perm1, ?_⟩
  refine ⟨fun q3 => ?_, fun q3 => ?_⟩
  ·simp at q3
   exact ⟨_, pr_no (p' := pz) (item_exp_no ‹((byteAt t p).toNat : Int) = 40› ‹(pExpr t n (p + 1) ps) = none›) oz, rlB⟩
  ·simp at q3
   (obtain ⟨e1, e2⟩ := hz q3; subst e1; subst e2; have hr := expr_reads (n := n) (by omega) q3; unfold ReadsR at hr; have ok : okI (prK (pExpr t n (p + 1) ps)) := (by unfold okI; omega))
   refine callR_blk 0 ([]) [Az, H] rfl ?_ (prNext_ct _ _ _ _ _ rfl ?_ ?_) trivial ?_
   ·exact .refl _
   ·omega
   ·omega
   rintro _ A4 ⟨rfl, rfl⟩
   refine ⟨_, _, [], rfl, perm0, ?_⟩
   refine ⟨fun q5 => ?_, fun q5 => ?_⟩
   ·simp at q5
    exact ⟨_, pr_no (p' := prP (pExpr t n (p + 1) ps)) (item_par_no ‹((byteAt t p).toNat : Int) = 40› ‹(pExpr t n (p + 1) ps).isSome = true› ‹¬ ((byteAt t (prP (pExpr t n (p + 1) ps))).toNat : Int) = 41›) oz, rlB⟩
   ·simp at q5
    have hlt : prP (pExpr t n (p + 1) ps) < t.size := byteAt_lt (by omega)
    have hw2 : IntKind.i64.wrap ((prP (pExpr t n (p + 1) ps) : Int) + 1) = ((prP (pExpr t n (p + 1) ps) + 1 : Nat) : Int) := by (rw [wrap_of (by omega) (by omega)]; omega)
    have hit := item_par ‹((byteAt t p).toNat : Int) = 40› ‹(pExpr t n (p + 1) ps).isSome = true› ‹((byteAt t (prP (pExpr t n (p + 1) ps))).toNat : Int) = 41›
    apply loop_mod (α := (Nat) × (Int) × (Nat) × (List Piece) × (Hp) × (Option Addr) × (Nat)) G_ok [8, 44, 45, 48, 47, 50, 49, 52, 51, 46, 2, 3, 53, 54, 55, 56, 57, 58, 59, 60, 61, 62, 63, 64, 65, 5] (fun z => [(5, .v (.int .i64 z.2.1)), (3, .v (.bool false)), (2, .v (.int .i64 0))]) (fun z => [⟨q, [Value.string t, .int .i64 (z.2.2.1 : Nat), .slice z.2.2.2.2.2.1 z.2.2.2.1.length z.2.2.2.2.2.2], (294 : TypeId)⟩]) (fun z => [z.2.2.2.2.1, H]) (fun z => t.size - z.2.2.1) (fun z => some (pPost t z.1 z.2.1 z.2.2.1 z.2.2.2.1) = pItem t (pExpr t n) p ps ∧ t.size < z.1 + z.2.2.1 ∧ z.2.2.1 ≤ t.size ∧ z.2.2.2.1.length ≤ 2 * z.2.2.1 ∧ okI z.2.1 ∧ (gSl 279 gPiece).ow [.slice z.2.2.2.2.2.1 z.2.2.2.1.length z.2.2.2.2.2.2] z.2.2.2.1 z.2.2.2.2.1) ((t.size + 1, prK (pExpr t n (p + 1) ps), prP (pExpr t n (p + 1) ps) + 1, prS (pExpr t n (p + 1) ps), Az, bz, cz))
    ·exact frI
    ·((rw [hw2]); repeat' (first | exact trivial | refine ⟨by first | rfl | simp [Blk.ent], ?_⟩))
    ·try dsimp only
     exact ⟨hit.symm, by omega, by omega, by omega, ok, oz⟩
    ·exact .refl _
    rintro ⟨f, k, p2, ps2, A, lb, lc⟩ hI
    try dsimp only at hI
    obtain ⟨hf, hfu, hp2, hps2, hk, oA⟩ := hI
    try dsimp only
    refine callR_blk 0 ([]) [A, H] rfl ?_ (prNext_ct _ _ _ _ _ rfl ?_ ?_) trivial ?_
    ·exact .refl _
    ·omega
    ·trivial
    rintro _ A6 ⟨rfl, rfl⟩
    refine ⟨_, _, [], rfl, perm0, ?_⟩
    refine ⟨fun q7 => ?_, fun q7 => ?_⟩
    ·simp at q7
     (have hp2t : p2 < t.size := byteAt_lt (by omega); have hw3 : IntKind.i64.wrap ((p2 : Int) + 1) = ((p2 + 1 : Nat) : Int) := (by rw [wrap_of (by omega) (by omega)]; omega))
     refine ⟨fun x8 => ?_⟩
     refine callR_blk 0 (A ++ [(x8, Obj.cells { toList := Value.int IntKind.i64 k :: [].append (zeros (nat_lit 0) [Value.int IntKind.i64 (0 : Int)]) } (3 : TypeId))]) [H] rfl ?_ (prPiece_ct _ _ _ _ _ _ _ _ _ _ oA (by first | exact piece_lit (by unfold okI; omega) hk) ?_) trivial ?_
     ·exact rlA
     ·omega
     rintro _ A9 ⟨b9, c9, Ax9, rfl, rfl, o9⟩
     refine ⟨_, _, [Ax9], rfl, perm1, ?_⟩
     apply loop_stepA (f - 1, ((ps2.length : Nat) : Int), p2 + 1, _, _, _, _)
     ·exact .refl _
     ·exact frI
     ·((rw [hw3]); repeat' (first | exact trivial | refine ⟨by first | rfl | simp [Blk.ent], ?_⟩))
     ·try dsimp only
      exact ⟨(congrArg some (post_go (by omega) (by omega))).symm.trans hf, by omega, by omega, by rw [List.length_append, List.length_singleton]; omega, by unfold okI; omega, by assumption⟩
     try dsimp only
     omega
    ·simp at q7
     refine ⟨fun q10 => ?_, fun q10 => ?_⟩
     ·simp at q10
      (have hp2t : p2 < t.size := byteAt_lt (by omega); have hw3 : IntKind.i64.wrap ((p2 : Int) + 1) = ((p2 + 1 : Nat) : Int) := (by rw [wrap_of (by omega) (by omega)]; omega))
      refine ⟨fun x11 => ?_⟩
      refine callR_blk 0 (A ++ [(x11, Obj.cells { toList := Value.int IntKind.i64 k :: [].append (zeros (nat_lit 0) [Value.int IntKind.i64 (0 : Int)]) } (3 : TypeId))]) [H] rfl ?_ (prPiece_ct _ _ _ _ _ _ _ _ _ _ oA (by first | exact piece_lit (by unfold okI; omega) hk) ?_) trivial ?_
      ·exact rlA
      ·omega
      rintro _ A12 ⟨b12, c12, Ax12, rfl, rfl, o12⟩
      refine ⟨_, _, [Ax12], rfl, perm1, ?_⟩
      apply loop_stepA (f - 1, ((ps2.length : Nat) : Int), p2 + 1, _, _, _, _)
      ·exact .refl _
      ·exact frI
      ·((rw [hw3]); repeat' (first | exact trivial | refine ⟨by first | rfl | simp [Blk.ent], ?_⟩))
      ·try dsimp only
       exact ⟨(congrArg some (post_go (by omega) (by omega))).symm.trans hf, by omega, by omega, by rw [List.length_append, List.length_singleton]; omega, by unfold okI; omega, by assumption⟩
      try dsimp only
      omega
     ·simp at q10
      refine ⟨fun q13 => ?_, fun q13 => ?_⟩
      ·simp at q13
       (have hp2t : p2 < t.size := byteAt_lt (by omega); have hw3 : IntKind.i64.wrap ((p2 : Int) + 1) = ((p2 + 1 : Nat) : Int) := (by rw [wrap_of (by omega) (by omega)]; omega))
       refine ⟨fun x14 => ?_⟩
       refine callR_blk 0 (A ++ [(x14, Obj.cells { toList := Value.int IntKind.i64 k :: [].append (zeros (nat_lit 0) [Value.int IntKind.i64 (0 : Int)]) } (3 : TypeId))]) [H] rfl ?_ (prPiece_ct _ _ _ _ _ _ _ _ _ _ oA (by first | exact piece_lit (by unfold okI; omega) hk) ?_) trivial ?_
       ·exact rlA
       ·omega
       rintro _ A15 ⟨b15, c15, Ax15, rfl, rfl, o15⟩
       refine ⟨_, _, [Ax15], rfl, perm1, ?_⟩
       apply loop_stepA (f - 1, ((ps2.length : Nat) : Int), p2 + 1, _, _, _, _)
       ·exact .refl _
       ·exact frI
       ·((rw [hw3]); repeat' (first | exact trivial | refine ⟨by first | rfl | simp [Blk.ent], ?_⟩))
       ·try dsimp only
        exact ⟨(congrArg some (post_go (by omega) (by omega))).symm.trans hf, by omega, by omega, by rw [List.length_append, List.length_singleton]; omega, by unfold okI; omega, by assumption⟩
       try dsimp only
       omega
      ·simp at q13
       exact ⟨_, pr_yes (hf.symm.trans (congrArg some (post_end ‹¬ ((byteAt t p2).toNat : Int) = 42› ‹¬ ((byteAt t p2).toNat : Int) = 43› ‹¬ ((byteAt t p2).toNat : Int) = 63›))) oA, rlB⟩
 ·simp at q1
  refine callR_blk 0 (A ++ []) [H] rfl ?_ (prPiece_ct _ _ _ _ _ _ _ _ _ _ hA hst ?_) trivial ?_
  ·exact rlA
  ·omega
  rintro _ A16 ⟨b16, c16, Ax16, rfl, rfl, o16⟩
  refine ⟨_, _, [Ax16], rfl, perm1, ?_⟩
  apply loop_mod (α := (Nat) × (Int) × (Nat) × (List Piece) × (Hp) × (Option Addr) × (Nat)) G_ok [8, 44, 45, 48, 47, 50, 49, 52, 51, 46, 2, 3, 53, 54, 55, 56, 57, 58, 59, 60, 61, 62, 63, 64, 65, 5] (fun z => [(5, .v (.int .i64 z.2.1)), (3, .v (.bool false)), (2, .v (.int .i64 0))]) (fun z => [⟨q, [Value.string t, .int .i64 (z.2.2.1 : Nat), .slice z.2.2.2.2.2.1 z.2.2.2.1.length z.2.2.2.2.2.2], (294 : TypeId)⟩]) (fun z => [z.2.2.2.2.1, H]) (fun z => t.size - z.2.2.1) (fun z => some (pPost t z.1 z.2.1 z.2.2.1 z.2.2.2.1) = pItem t (pExpr t n) p ps ∧ t.size < z.1 + z.2.2.1 ∧ z.2.2.1 ≤ t.size ∧ z.2.2.2.1.length ≤ 2 * z.2.2.1 ∧ okI z.2.1 ∧ (gSl 279 gPiece).ow [.slice z.2.2.2.2.2.1 z.2.2.2.1.length z.2.2.2.2.2.2] z.2.2.2.1 z.2.2.2.2.1) ((t.size + 1, ((ps.length : Nat) : Int), p + 1, ps ++ [⟨1, byteAt t p, []⟩], _, _, _))
  ·exact frI
  ·((rw [hw]); repeat' (first | exact trivial | refine ⟨by first | rfl | simp [Blk.ent], ?_⟩))
  ·try dsimp only
   exact ⟨(item_step ‹¬ ((byteAt t p).toNat : Int) = 40›).symm, by omega, by omega, by rw [List.length_append, List.length_singleton]; omega, by unfold okI; omega, by assumption⟩
  ·exact .refl _
  rintro ⟨f, k, p2, ps2, A, lb, lc⟩ hI
  try dsimp only at hI
  obtain ⟨hf, hfu, hp2, hps2, hk, oA⟩ := hI
  try dsimp only
  refine callR_blk 0 ([]) [A, H] rfl ?_ (prNext_ct _ _ _ _ _ rfl ?_ ?_) trivial ?_
  ·exact .refl _
  ·omega
  ·trivial
  rintro _ A17 ⟨rfl, rfl⟩
  refine ⟨_, _, [], rfl, perm0, ?_⟩
  refine ⟨fun q18 => ?_, fun q18 => ?_⟩
  ·simp at q18
   (have hp2t : p2 < t.size := byteAt_lt (by omega); have hw3 : IntKind.i64.wrap ((p2 : Int) + 1) = ((p2 + 1 : Nat) : Int) := (by rw [wrap_of (by omega) (by omega)]; omega))
   refine ⟨fun x19 => ?_⟩
   refine callR_blk 0 (A ++ [(x19, Obj.cells { toList := Value.int IntKind.i64 k :: [].append (zeros (nat_lit 0) [Value.int IntKind.i64 (0 : Int)]) } (3 : TypeId))]) [H] rfl ?_ (prPiece_ct _ _ _ _ _ _ _ _ _ _ oA (by first | exact piece_lit (by unfold okI; omega) hk) ?_) trivial ?_
   ·exact rlA
   ·omega
   rintro _ A20 ⟨b20, c20, Ax20, rfl, rfl, o20⟩
   refine ⟨_, _, [Ax20], rfl, perm1, ?_⟩
   apply loop_stepA (f - 1, ((ps2.length : Nat) : Int), p2 + 1, _, _, _, _)
   ·exact .refl _
   ·exact frI
   ·((rw [hw3]); repeat' (first | exact trivial | refine ⟨by first | rfl | simp [Blk.ent], ?_⟩))
   ·try dsimp only
    exact ⟨(congrArg some (post_go (by omega) (by omega))).symm.trans hf, by omega, by omega, by rw [List.length_append, List.length_singleton]; omega, by unfold okI; omega, by assumption⟩
   try dsimp only
   omega
  ·simp at q18
   refine ⟨fun q21 => ?_, fun q21 => ?_⟩
   ·simp at q21
    (have hp2t : p2 < t.size := byteAt_lt (by omega); have hw3 : IntKind.i64.wrap ((p2 : Int) + 1) = ((p2 + 1 : Nat) : Int) := (by rw [wrap_of (by omega) (by omega)]; omega))
    refine ⟨fun x22 => ?_⟩
    refine callR_blk 0 (A ++ [(x22, Obj.cells { toList := Value.int IntKind.i64 k :: [].append (zeros (nat_lit 0) [Value.int IntKind.i64 (0 : Int)]) } (3 : TypeId))]) [H] rfl ?_ (prPiece_ct _ _ _ _ _ _ _ _ _ _ oA (by first | exact piece_lit (by unfold okI; omega) hk) ?_) trivial ?_
    ·exact rlA
    ·omega
    rintro _ A23 ⟨b23, c23, Ax23, rfl, rfl, o23⟩
    refine ⟨_, _, [Ax23], rfl, perm1, ?_⟩
    apply loop_stepA (f - 1, ((ps2.length : Nat) : Int), p2 + 1, _, _, _, _)
    ·exact .refl _
    ·exact frI
    ·((rw [hw3]); repeat' (first | exact trivial | refine ⟨by first | rfl | simp [Blk.ent], ?_⟩))
    ·try dsimp only
     exact ⟨(congrArg some (post_go (by omega) (by omega))).symm.trans hf, by omega, by omega, by rw [List.length_append, List.length_singleton]; omega, by unfold okI; omega, by assumption⟩
    try dsimp only
    omega
   ·simp at q21
    refine ⟨fun q24 => ?_, fun q24 => ?_⟩
    ·simp at q24
     (have hp2t : p2 < t.size := byteAt_lt (by omega); have hw3 : IntKind.i64.wrap ((p2 : Int) + 1) = ((p2 + 1 : Nat) : Int) := (by rw [wrap_of (by omega) (by omega)]; omega))
     refine ⟨fun x25 => ?_⟩
     refine callR_blk 0 (A ++ [(x25, Obj.cells { toList := Value.int IntKind.i64 k :: [].append (zeros (nat_lit 0) [Value.int IntKind.i64 (0 : Int)]) } (3 : TypeId))]) [H] rfl ?_ (prPiece_ct _ _ _ _ _ _ _ _ _ _ oA (by first | exact piece_lit (by unfold okI; omega) hk) ?_) trivial ?_
     ·exact rlA
     ·omega
     rintro _ A26 ⟨b26, c26, Ax26, rfl, rfl, o26⟩
     refine ⟨_, _, [Ax26], rfl, perm1, ?_⟩
     apply loop_stepA (f - 1, ((ps2.length : Nat) : Int), p2 + 1, _, _, _, _)
     ·exact .refl _
     ·exact frI
     ·((rw [hw3]); repeat' (first | exact trivial | refine ⟨by first | rfl | simp [Blk.ent], ?_⟩))
     ·try dsimp only
      exact ⟨(congrArg some (post_go (by omega) (by omega))).symm.trans hf, by omega, by omega, by rw [List.length_append, List.length_singleton]; omega, by unfold okI; omega, by assumption⟩
     try dsimp only
     omega
    ·simp at q24
     exact ⟨_, pr_yes (hf.symm.trans (congrArg some (post_end ‹¬ ((byteAt t p2).toNat : Int) = 42› ‹¬ ((byteAt t p2).toNat : Int) = 43› ‹¬ ((byteAt t p2).toNat : Int) = 63›))) oA, rlB⟩
theorem pr_all (t : ByteArray) (ht : t.size ≤ 20) : ∀ n, PrCt 208 (pExpr t n) t (fun p => p ≤ t.size ∧ t.size < n + p)
 | 0 => by
  intro q pi p ps b c A _ hP
  have := hP.1; have := hP.2; omega
 | n + 1 => by
  have h := prExpr_ct t n ht (prAlt_ct t n ht (prItem_ct t n ht (pr_all t ht n)))
  rw [show (fun p => p ≤ t.size ∧ t.size < n + 1 + p) = (fun p => p ≤ t.size ∧ t.size < (n + 1) + p) from rfl] at h
  exact h
def rpPath (t : ByteArray) : Path := (readPath t).getD ⟨[]⟩
theorem rpt_none {t : ByteArray} (h : readPath t = none) : rpPath t = ⟨[]⟩ ∧ (readPath t).isSome = false := by unfold rpPath; rw [h]; exact ⟨rfl, rfl⟩
theorem rpt_some {t : ByteArray} {g : Path} (h : readPath t = some g) : rpPath t = g ∧ (readPath t).isSome = true := by unfold rpPath; rw [h]; exact ⟨rfl, rfl⟩
theorem rpt_long {t : ByteArray} (h : ¬ t.size ≤ 20) : readPath t = none := by unfold readPath; rw [if_neg h]
theorem rpt_no {t : ByteArray} (h : pExpr t (t.size + 1) 0 [] = none) : readPath t = none := by unfold readPath; rw [h]; simp
theorem rpt_at {t : ByteArray} (h0 : t.size ≤ 20) (h : (pExpr t (t.size + 1) 0 []).isSome = true) : readPath t = if prP (pExpr t (t.size + 1) 0 []) = t.size ∧ pathOk ⟨prS (pExpr t (t.size + 1) 0 [])⟩ = true then some ⟨prS (pExpr t (t.size + 1) 0 [])⟩ else none := by
 have h3 := pr_some h
 conv => lhs; unfold readPath; rw [if_pos h0, h3]
theorem implReadPath_ct (t : ByteArray) (hs : t.size ≤ 1152921504606846976) : Ct prog 197 [.string t] [] (fun _ => True) (fun v A => ∃ b c, v = .tuple #[.agg ⟨[.slice b (rpPath t).pieces.length c]⟩, .bool (readPath t).isSome] ∧ (gSl 279 gPiece).ow [.slice b (rpPath t).pieces.length c] (rpPath t).pieces A) := by
 refine Ct.intro0 G_ok func197 rfl rfl rfl fun E H hp => ?_
 refine ⟨fun x0 => ?_⟩
 refine ⟨fun q1 => ?_, fun q1 => ?_⟩
 ·simp at q1
  (obtain ⟨e1, e2⟩ := rpt_none (rpt_long (t := t) (by omega)); rw [e1, e2]; exact ⟨_, ⟨none, 0, rfl, sl_nil _ _ _⟩, rlB⟩)
 ·simp at q1
  refine ⟨fun x2 => ?_⟩
  refine callR_blk 1 ([]) [H] rfl ?_ (pr_all t ?_ (t.size + 1) _ _ 0 [] _ _ _ rfl ⟨?_, ?_⟩ ?_ (sl_nil _ _ _)) trivial ?_
  ·exact .refl _
  ·omega
  ·omega
  ·omega
  ·trivial
  rintro _ A3 ⟨pz, sz, bz, cz, Az, rfl, rfl, oz, hz⟩
  refine ⟨_, _, [Az], rfl, perm1, ?_⟩
  refine ⟨fun q4 => ?_, fun q4 => ?_⟩
  ·simp at q4
   (obtain ⟨e1, e2⟩ := rpt_none (rpt_no ‹(pExpr t (t.size + 1) 0 []) = none›); rw [e1, e2]; exact ⟨[], ⟨none, 0, rfl, sl_nil _ _ _⟩, .mem (by simp)⟩)
  ·simp at q4
   (obtain ⟨e1, e2⟩ := hz q4; subst e1; subst e2)
   refine ⟨fun q5 => ?_, fun q5 => ?_⟩
   ·simp at q5
    (obtain ⟨e1, e2⟩ := rpt_none ((rpt_at (by omega) ‹(pExpr t (t.size + 1) 0 []).isSome = true›).trans (if_neg (by omega))); rw [e1, e2]; exact ⟨[], ⟨none, 0, rfl, sl_nil _ _ _⟩, .mem (by simp)⟩)
   ·simp at q5
    have rP : gPath.rd Az [.slice bz (prS (pExpr t (t.size + 1) 0 [])).length cz] ⟨prS (pExpr t (t.size + 1) 0 [])⟩ := gPath_rd.2 ⟨bz, cz, rfl, Gt.owrd _ oz⟩
    refine call_val (implPathOk_ct _ ({ pieces := prS (pExpr t (t.size + (1 : Nat)) (0 : Nat) []) })) (Rp.mono _ (mem_at 0 rfl) rP) ?_
    rintro _ rfl
    refine ⟨fun q7 => ?_, fun q7 => ?_⟩
    ·simp at q7
     (obtain ⟨e1, e2⟩ := rpt_none ((rpt_at (by omega) ‹(pExpr t (t.size + 1) 0 []).isSome = true›).trans (if_neg (fun h => by (have h9 := ‹pathOk ⟨prS (pExpr t (t.size + 1) 0 [])⟩ = false›; rw [h.2] at h9; cases h9)))); rw [e1, e2]; exact ⟨[], ⟨none, 0, rfl, sl_nil _ _ _⟩, .mem (by simp)⟩)
    ·simp at q7
     (obtain ⟨e1, e2⟩ := rpt_some ((rpt_at (by omega) ‹(pExpr t (t.size + 1) 0 []).isSome = true›).trans (if_pos ⟨by omega, ‹pathOk ⟨prS (pExpr t (t.size + 1) 0 [])⟩ = true›⟩)); rw [e1, e2]; exact ⟨_, ⟨_, _, rfl, oz⟩, rlB⟩)
end
section
attribute [local irreducible] IntKind.wrap
theorem srPut_ct (q : Nat) (v0 v1 v2 : Value) (b : Option Addr) (c : Nat) (l : List Value) (ps : List Piece) (x : Piece) (A B : Hp) (hA : (gSl 279 gPiece).ow [.slice b ps.length c] ps A) (hB : gPiece.ow l x B) (hn : ps.length ≤ 1000000) :
  CtR prog 194 [.pointer (some ⟨q, 0, none⟩), .agg ⟨l⟩] ((q, Obj.cells ⟨[v0, v1, v2, .slice b ps.length c]⟩ 244) :: (A ++ B)) (fun _ => True)
   (fun r D => ∃ b c A', r = .int .i64 (ps.length : Nat) ∧ D = (q, Obj.cells ⟨[v0, v1, v2, .slice b (ps ++ [x]).length c]⟩ 244) :: A' ∧ (gSl 279 gPiece).ow [.slice b (ps ++ [x]).length c] (ps ++ [x]) A') := by
 refine CtR.introB G_ok [.p 0 0, .v (.agg ⟨l⟩)] [⟨q, [v0, v1, v2, .slice b ps.length c], 244⟩] [A, B] func194 rfl rfl rfl rfl (by simp [SV.ok]) (by simp [Blk.ent]) fun E H hp => ?_
 have hr := Gt.owrd _ hB
 obtain ⟨b2x, c2x, rfl, w0x, h2x⟩ := gPiece_rd.1 hr
 refine ⟨fun x0 => ?_⟩
 refine draw G_ok mixed (some 7) (.q 0 (.q 1 (.q 2 (.q 3 (.q 4 (.q 5 (.f 6 (.tl 7 (.f 8 (.f 9 (.f 10 (.nil)))))))))))) (by decide +kernel) ?_
 refine ⟨fun x1 => ?_⟩
 refine VC.intro ?_ ?_
 ·exact keep_new
 refine gappend1 (g := gPiece) (T := (279 : TypeId)) G_ok A _ [H] ?_ hA (hB) (List.mem_of_getElem? (i := 0) rfl) rfl rfl rfl rfl rfl rfl rfl rfl ?_ fun b2 c2 A2 o2 => ?_
 ·exact .tl
 ·omega
 exact ⟨_, ⟨_, _, _, by (simp (disch := (simp only [List.length_append, List.length_singleton]; omega)) only [wrap_of]; simp), rfl, by assumption⟩, rlB⟩
def goodR (S : UInt8 → Bool) (t : ByteArray) (R : Option PR) : Bool := R.isSome && (S (byteAt t (prP R)) || decide (t.size ≤ prP R))
def sOne (_ : UInt8) : Bool := true
def sRow (b : UInt8) : Bool := decide (b.toNat = 124) || decide (b.toNat = 41)
def sAlts (b : UInt8) : Bool := decide (b.toNat = 41)
def pOne (t : ByteArray) (E : Nat → List Piece → Option PR) (p : Nat) (ps : List Piece) : Option PR := if begins (byteAt t p) = true then pItem t E p ps else none
def SrPost (q : Nat) (t : ByteArray) (p : Nat) (ps : List Piece) (good : Bool) (R : Option PR) (v : Value) (D : Hp) : Prop :=
 ∃ (k' : Int) (p' : Nat) (ps' : List Piece) (bd : Bool) (b : Option Addr) (c : Nat) (A' : Hp), v = .int .i64 k' ∧ D = (q, Obj.cells ⟨[.string t, .int .i64 (p' : Nat), .bool bd, .slice b ps'.length c]⟩ 244) :: A' ∧ (gSl 279 gPiece).ow [.slice b ps'.length c] ps' A' ∧ bd = !good ∧ (good = true → k' = prK R ∧ p' = prP R ∧ ps' = prS R) ∧ okI k' ∧ p' ≤ t.size ∧ p ≤ p' ∧ ps'.length + 2 * p ≤ ps.length + 2 * p'
def SrCt (f : FuncId) (S : UInt8 → Bool) (F : Nat → List Piece → Option PR) (t : ByteArray) (P : Nat → Prop) : Prop :=
 ∀ (q : Nat) (pi : Int) (p : Nat) (ps : List Piece) (b : Option Addr) (c : Nat) (A : Hp), pi = p → P p → ps.length ≤ 2 * p → (gSl 279 gPiece).ow [.slice b ps.length c] ps A →
  CtR prog f [.pointer (some ⟨q, 0, none⟩)] ((q, Obj.cells ⟨[.string t, .int .i64 pi, .bool false, .slice b ps.length c]⟩ 244) :: A) (fun _ => True) (SrPost q t p ps (goodR S t (F p ps)) (F p ps))
theorem sr_no {q : Nat} {t : ByteArray} {p : Nat} {ps : List Piece} {good : Bool} {R : Option PR} {k : Int} {p' : Nat} {ps' : List Piece} {b : Option Addr} {c : Nat} {A' : Hp} (hg : good = false) (h : (gSl 279 gPiece).ow [.slice b ps'.length c] ps' A') (hk : okI k) (h1 : p' ≤ t.size) (h2 : p ≤ p') (h3 : ps'.length + 2 * p ≤ ps.length + 2 * p') : SrPost q t p ps good R (.int .i64 k) ((q, Obj.cells ⟨[.string t, .int .i64 (p' : Nat), .bool true, .slice b ps'.length c]⟩ 244) :: A') := by
 subst hg
 exact ⟨k, p', ps', true, b, c, A', rfl, rfl, h, rfl, (fun h => by cases h), hk, h1, h2, h3⟩
theorem sr_yes {q : Nat} {t : ByteArray} {p : Nat} {ps : List Piece} {good : Bool} {R : Option PR} {k : Int} {p' : Nat} {ps' : List Piece} {b : Option Addr} {c : Nat} {A' : Hp} (hg : good = true) (hR : R = some (k, p', ps')) (h : (gSl 279 gPiece).ow [.slice b ps'.length c] ps' A') (hk : okI k) (h1 : p' ≤ t.size) (h2 : p ≤ p') (h3 : ps'.length + 2 * p ≤ ps.length + 2 * p') : SrPost q t p ps good R (.int .i64 k) ((q, Obj.cells ⟨[.string t, .int .i64 (p' : Nat), .bool false, .slice b ps'.length c]⟩ 244) :: A') := by
 subst hg hR
 exact ⟨k, p', ps', false, b, c, A', rfl, rfl, h, rfl, fun _ => ⟨rfl, rfl, rfl⟩, hk, h1, h2, h3⟩
theorem good_one {t : ByteArray} {E : Nat → List Piece → Option PR} {p : Nat} {ps : List Piece} : goodR sOne t (pOne t E p ps) = (pOne t E p ps).isSome := by unfold goodR sOne; simp
theorem good_none {S : UInt8 → Bool} {t : ByteArray} {R : Option PR} (h : R = none) : goodR S t R = false := by subst h; rfl
theorem good_some {S : UInt8 → Bool} {t : ByteArray} {R : Option PR} {r : PR} (h : R = some r) : goodR S t R = (S (byteAt t r.2.1) || decide (t.size ≤ r.2.1)) := by subst h; rfl
theorem good_is {S : UInt8 → Bool} {t : ByteArray} {R : Option PR} (h : goodR S t R = true) : R.isSome = true := by unfold goodR at h; rw [Bool.and_eq_true] at h; exact h.1
theorem one_begins {t : ByteArray} {E : Nat → List Piece → Option PR} {p : Nat} {ps : List Piece} (h : (pOne t E p ps).isSome = true) : begins (byteAt t p) = true ∧ pOne t E p ps = pItem t E p ps := by
 unfold pOne at h ⊢
 by_cases hb : begins (byteAt t p) = true
 ·rw [if_pos hb]; exact ⟨hb, rfl⟩
 rw [if_neg hb] at h; cases h
theorem one_not {t : ByteArray} {E : Nat → List Piece → Option PR} {p : Nat} {ps : List Piece} (h : pOne t E p ps = none) : begins (byteAt t p) = false ∨ pItem t E p ps = none := by
 unfold pOne at h
 by_cases hb : begins (byteAt t p) = true
 ·rw [if_pos hb] at h; exact .inr h
 exact .inl (by simpa using hb)
theorem row_start {t : ByteArray} {n p : Nat} {ps : List Piece} (h : (pOne t (pExpr t n) p ps).isSome = true) : pAlts t (pItem t (pExpr t n)) t.size [prK (pOne t (pExpr t n) p ps)] (prP (pOne t (pExpr t n) p ps)) (prS (pOne t (pExpr t n) p ps)) = pAlts t (pItem t (pExpr t n)) (t.size + 1) [] p ps := by
 obtain ⟨h1, h2⟩ := one_begins h
 rw [h2] at h ⊢
 exact (pAlts_go (f := t.size + 1) (ks := []) (by omega) h1 h).symm
theorem row_more {t : ByteArray} {n f p : Nat} {ks : List Int} {ps : List Piece} (hf : 1 ≤ f) (h : (pOne t (pExpr t n) p ps).isSome = true) : pAlts t (pItem t (pExpr t n)) (f - 1) (ks ++ [prK (pOne t (pExpr t n) p ps)]) (prP (pOne t (pExpr t n) p ps)) (prS (pOne t (pExpr t n) p ps)) = pAlts t (pItem t (pExpr t n)) f ks p ps := by
 obtain ⟨h1, h2⟩ := one_begins h
 rw [h2] at h ⊢
 exact (pAlts_go hf h1 h).symm
theorem row_bad {t : ByteArray} {n f p p0 : Nat} {ks : List Int} {ps ps0 : List Piece} (hf : 1 ≤ f) (h : pOne t (pExpr t n) p ps = none) (hp : p < t.size) (hs : sRow (byteAt t p) = false) (he : pAlts t (pItem t (pExpr t n)) f ks p ps = pAlts t (pItem t (pExpr t n)) (t.size + 1) [] p0 ps0) : goodR sRow t (pAlt t (pItem t (pExpr t n)) p0 ps0) = false := by
 by_cases hb : begins (byteAt t p) = true
 ·have h1 : pItem t (pExpr t n) p ps = none := by
   rcases one_not h with h2 | h2
   ·rw [hb] at h2; cases h2
   exact h2
  refine good_none ?_
  unfold pAlt
  rw [← he, pAlts_none hf hb h1]; rfl
 have h1 : pAlt t (pItem t (pExpr t n)) p0 ps0 = altEnd (some (ks, p, ps)) := by unfold pAlt; rw [← he, pAlts_end (by simpa using hb)]
 by_cases hk : ks = []
 ·rw [h1, altEnd_nil hk]; rfl
 rw [h1, altEnd_cons hk, good_some rfl]
 show (sRow (byteAt t p) || decide (t.size ≤ p)) = false
 rw [hs, decide_eq_false (by omega)]; rfl
theorem row_none {t : ByteArray} {n p : Nat} {ps : List Piece} (h : pOne t (pExpr t n) p ps = none) : goodR sRow t (pAlt t (pItem t (pExpr t n)) p ps) = false := by
 refine good_none ?_
 unfold pAlt
 rcases one_not h with h1 | h1
 ·rw [pAlts_end h1]; exact altEnd_nil rfl
 by_cases hb : begins (byteAt t p) = true
 ·rw [pAlts_none (by omega) hb h1]; rfl
 rw [pAlts_end (by simpa using hb)]; exact altEnd_nil rfl
theorem row_end {t : ByteArray} {n f p p0 : Nat} {ks : List Int} {ps ps0 : List Piece} (hk : ¬ ks = []) (hs : t.size ≤ p ∨ sRow (byteAt t p) = true) (he : pAlts t (pItem t (pExpr t n)) f ks p ps = pAlts t (pItem t (pExpr t n)) (t.size + 1) [] p0 ps0) : pAlt t (pItem t (pExpr t n)) p0 ps0 = some ((pGroup 2 (ks, p, ps)).1, p, (pGroup 2 (ks, p, ps)).2.2) ∧ goodR sRow t (pAlt t (pItem t (pExpr t n)) p0 ps0) = true := by
 have hb : begins (byteAt t p) = false := by
  rcases hs with h | h
  ·rw [byteAt_end h]; rfl
  unfold sRow at h
  unfold begins labelOk
  simp at h
  rcases h with h | h <;> rw [h] <;> rfl
 have h1 : pAlt t (pItem t (pExpr t n)) p0 ps0 = some ((pGroup 2 (ks, p, ps)).1, p, (pGroup 2 (ks, p, ps)).2.2) := by
  unfold pAlt; rw [← he, pAlts_end hb]; exact altEnd_cons hk
 refine ⟨h1, ?_⟩
 rw [h1, good_some rfl]
 show (sRow (byteAt t p) || decide (t.size ≤ p)) = true
 rcases hs with h | h
 ·rw [decide_eq_true h]; simp
 rw [h]; rfl
def pTail (t : ByteArray) (A : Nat → List Piece → Option PR) (f : Nat) (ks : List Int) (p : Nat) (ps : List Piece) : Option PR :=
 if (byteAt t p).toNat = 124 then pExprs t A f ks (p + 1) ps else some (pGroup 3 (ks, p, ps))
theorem pExprs_tail {t : ByteArray} {A : Nat → List Piece → Option PR} {f : Nat} {ks : List Int} {p : Nat} {ps : List Piece} (hf : 1 ≤ f) (h : (A p ps).isSome = true) : pExprs t A f ks p ps = pTail t A (f - 1) (ks ++ [prK (A p ps)]) (prP (A p ps)) (prS (A p ps)) := by
 unfold pTail
 by_cases hb : (byteAt t (prP (A p ps))).toNat = 124
 ·rw [if_pos hb]; exact pExprs_go' hf (pr_some h) hb
 rw [if_neg hb]; exact pExprs_end' hf (pr_some h) hb
theorem alts_bad {t : ByteArray} {A : Nat → List Piece → Option PR} {f : Nat} {ks : List Int} {p : Nat} {ps : List Piece} (h : goodR sRow t (A p ps) = false) : goodR sAlts t (pExprs t A f ks p ps) = false := by
 cases hA : A p ps with
 | none => exact good_none (pExprs_none hA)
 | some r =>
  rw [good_some hA] at h
  unfold sRow at h
  rw [Bool.or_eq_false_iff, Bool.or_eq_false_iff, decide_eq_false_iff_not, decide_eq_false_iff_not, decide_eq_false_iff_not] at h
  cases f with
  | zero => rfl
  | succ f =>
   rw [pExprs_end' (by omega) hA h.1.1]
   rw [good_some rfl]
   show (sAlts (byteAt t (pGroup 3 (ks ++ [r.1], r.2.1, r.2.2)).2.1) || decide (t.size ≤ (pGroup 3 (ks ++ [r.1], r.2.1, r.2.2)).2.1)) = false
   rw [pGroup_eta]
   show (sAlts (byteAt t r.2.1) || decide (t.size ≤ r.2.1)) = false
   unfold sAlts
   rw [decide_eq_false h.1.2, decide_eq_false h.2]; rfl
theorem alts_end {t : ByteArray} {A : Nat → List Piece → Option PR} {f : Nat} {ks : List Int} {p : Nat} {ps : List Piece} (hb : ¬ (byteAt t p).toNat = 124) (hs : t.size ≤ p ∨ sRow (byteAt t p) = true) : pTail t A f ks p ps = some ((pGroup 3 (ks, p, ps)).1, p, (pGroup 3 (ks, p, ps)).2.2) ∧ goodR sAlts t (pTail t A f ks p ps) = true := by
 have h1 : pTail t A f ks p ps = some ((pGroup 3 (ks, p, ps)).1, p, (pGroup 3 (ks, p, ps)).2.2) := by
  unfold pTail; rw [if_neg hb, ← pGroup_eta]
 refine ⟨h1, ?_⟩
 rw [h1, good_some rfl]
 show (sAlts (byteAt t p) || decide (t.size ≤ p)) = true
 rcases hs with h | h
 ·rw [decide_eq_true h]; simp
 unfold sRow at h
 rw [decide_eq_false hb, Bool.false_or] at h
 unfold sAlts; rw [h]; rfl
theorem good_stop {t : ByteArray} {R : Option PR} (h : goodR sRow t R = true) : t.size ≤ prP R ∨ sRow (byteAt t (prP R)) = true := by
 unfold goodR at h
 rw [Bool.and_eq_true, Bool.or_eq_true, decide_eq_true_iff] at h
 rcases h.2 with h1 | h1
 ·exact .inr h1
 exact .inl h1
attribute [local irreducible] pItem pExpr pAlt pAlts pExprs pPost pOne prK prP prS goodR sRow sAlts
theorem srow_124 {b : UInt8} (h : ((b.toNat : Nat) : Int) = 124) : sRow b = true := by unfold sRow; rw [decide_eq_true (show b.toNat = 124 by omega)]; rfl
theorem srow_41 {b : UInt8} (h : ((b.toNat : Nat) : Int) = 41) : sRow b = true := by unfold sRow; rw [decide_eq_true (show b.toNat = 41 by omega)]; simp
theorem srow_no {b : UInt8} (h : ¬ ((b.toNat : Nat) : Int) = 124) (h2 : ¬ ((b.toNat : Nat) : Int) = 41) : sRow b = false := by unfold sRow; rw [decide_eq_false (show ¬ b.toNat = 124 by omega), decide_eq_false (show ¬ b.toNat = 41 by omega)]; rfl
theorem one_reads {t : ByteArray} {n p : Nat} {ps : List Piece} (h : (pOne t (pExpr t n) p ps).isSome = true) : ReadsR t p ps (pOne t (pExpr t n) p ps) := by
 obtain ⟨h1, h2⟩ := one_begins h
 rw [h2] at h ⊢
 exact item_reads (begins_lt h1) h
def RowInv (t : ByteArray) (n p : Nat) (ps : List Piece) (bd : Bool) (f : Nat) (ks : List Int) (p2 : Nat) (ps2 : List Piece) : Prop :=
 (bd = false → pAlts t (pItem t (pExpr t n)) f ks p2 ps2 = pAlts t (pItem t (pExpr t n)) (t.size + 1) [] p ps ∧ t.size < f + p2 ∧ ps2.length + ks.length + 2 * p ≤ ps.length + 2 * p2) ∧ (bd = true → goodR sRow t (pAlt t (pItem t (pExpr t n)) p ps) = false)
theorem row_init {t : ByteArray} {n p pz : Nat} {ps sz : List Piece} {bdz : Bool} {kz : Int} (hgz : bdz = !(goodR sOne t (pOne t (pExpr t n) p ps))) (hz : goodR sOne t (pOne t (pExpr t n) p ps) = true → kz = prK (pOne t (pExpr t n) p ps) ∧ pz = prP (pOne t (pExpr t n) p ps) ∧ sz = prS (pOne t (pExpr t n) p ps)) : RowInv t n p ps bdz t.size [kz] pz sz := by
 rw [good_one] at hgz hz
 constructor
 ·intro h
  rw [h] at hgz
  have h1 : (pOne t (pExpr t n) p ps).isSome = true := by simpa using hgz
  obtain ⟨rfl, rfl, rfl⟩ := hz h1
  have h2 := one_reads h1
  unfold ReadsR at h2
  exact ⟨row_start h1, by omega, by simp only [List.length_singleton]; omega⟩
 intro h
 rw [h] at hgz
 have h1 : (pOne t (pExpr t n) p ps).isSome = false := by simpa using hgz
 exact row_none (pr_none h1)
theorem row_next {t : ByteArray} {n p f p2 pz : Nat} {ks : List Int} {ps ps2 sz : List Piece} {bdz : Bool} {kz : Int} (hI : RowInv t n p ps false f ks p2 ps2) (hp2 : p2 < t.size) (hs : sRow (byteAt t p2) = false) (hgz : bdz = !(goodR sOne t (pOne t (pExpr t n) p2 ps2))) (hz : goodR sOne t (pOne t (pExpr t n) p2 ps2) = true → kz = prK (pOne t (pExpr t n) p2 ps2) ∧ pz = prP (pOne t (pExpr t n) p2 ps2) ∧ sz = prS (pOne t (pExpr t n) p2 ps2)) : RowInv t n p ps bdz (f - 1) (ks ++ [kz]) pz sz := by
 obtain ⟨he, hf, hl⟩ := hI.1 rfl
 rw [good_one] at hgz hz
 constructor
 ·intro h
  rw [h] at hgz
  have h1 : (pOne t (pExpr t n) p2 ps2).isSome = true := by simpa using hgz
  obtain ⟨rfl, rfl, rfl⟩ := hz h1
  have h2 := one_reads h1
  unfold ReadsR at h2
  exact ⟨(row_more (by omega) h1).trans he, by omega, by rw [List.length_append, List.length_singleton]; omega⟩
 intro h
 rw [h] at hgz
 have h1 : (pOne t (pExpr t n) p2 ps2).isSome = false := by simpa using hgz
 exact row_bad (by omega) (pr_none h1) hp2 hs he
theorem ks_ne {ks : List Int} (h : 1 ≤ ks.length) : ¬ ks = [] := by intro e; rw [e] at h; simp at h
theorem row_stop {t : ByteArray} {n p f p2 : Nat} {ks : List Int} {ps ps2 : List Piece} (hk : 1 ≤ ks.length) (hI : RowInv t n p ps false f ks p2 ps2) (hs : t.size ≤ p2 ∨ sRow (byteAt t p2) = true) : pAlt t (pItem t (pExpr t n)) p ps = some ((pGroup 2 (ks, p2, ps2)).1, p2, (pGroup 2 (ks, p2, ps2)).2.2) ∧ goodR sRow t (pAlt t (pItem t (pExpr t n)) p ps) = true :=
 row_end (ks_ne hk) hs (hI.1 rfl).1
theorem RowInv_len {t : ByteArray} {n p f p2 : Nat} {ks : List Int} {ps ps2 : List Piece} (hI : RowInv t n p ps false f ks p2 ps2) : ps2.length + ks.length + 2 * p ≤ ps.length + 2 * p2 := (hI.1 rfl).2.2
theorem RowInv_bad {t : ByteArray} {n p f p2 : Nat} {ks : List Int} {ps ps2 : List Piece} (hI : RowInv t n p ps true f ks p2 ps2) : goodR sRow t (pAlt t (pItem t (pExpr t n)) p ps) = false := hI.2 rfl
theorem row_var {t : ByteArray} {n p2 pz : Nat} {ps2 sz : List Piece} {bdz : Bool} {kz : Int} (hp2 : p2 < t.size) (hq : p2 ≤ pz) (hgz : bdz = !(goodR sOne t (pOne t (pExpr t n) p2 ps2))) (hz : goodR sOne t (pOne t (pExpr t n) p2 ps2) = true → kz = prK (pOne t (pExpr t n) p2 ps2) ∧ pz = prP (pOne t (pExpr t n) p2 ps2) ∧ sz = prS (pOne t (pExpr t n) p2 ps2)) : (t.size - pz + (if bdz = true then 0 else 1)) < t.size - p2 + (if false = true then 0 else 1) := by
 rw [good_one] at hgz hz
 cases bdz with
 | true => simp; omega
 | false =>
  have h1 : (pOne t (pExpr t n) p2 ps2).isSome = true := by simpa using hgz
  obtain ⟨rfl, rfl, rfl⟩ := hz h1
  have h2 := one_reads h1
  unfold ReadsR at h2
  simp; omega
attribute [local irreducible] RowInv
theorem srRow_ct (t : ByteArray) (n : Nat) (ht : t.size ≤ 20) (hI : SrCt 207 sOne (pOne t (pExpr t n)) t (fun p => p ≤ t.size ∧ t.size < n + 1 + p)) : SrCt 193 sRow (pAlt t (pItem t (pExpr t n))) t (fun p => p ≤ t.size ∧ t.size < n + 1 + p) := by
 intro q pi p ps b c A hpi hP hps hA
 obtain ⟨hpt, hn⟩ := hP
 subst hpi
 refine CtR.introB G_ok [.p 0 0] [⟨q, [.string t, .int .i64 (p : Int), .bool false, .slice b ps.length c], 244⟩] [A] func193 rfl rfl rfl rfl (by simp [SV.ok]) (by simp [Blk.ent]) fun E H hp => ?_
 refine callR_blk 0 (A) [H] rfl ?_ (hI _ _ _ _ _ _ _ rfl ⟨?_, ?_⟩ ?_ hA) trivial ?_
 ·exact .refl _
 ·trivial
 ·trivial
 ·trivial
 rintro _ A0 ⟨kz, pz, sz, bdz, bz, cz, Az, rfl, rfl, oz, hgz, hz, hkz, hpz, hqz, hsz⟩
 refine ⟨_, _, [Az], rfl, perm1, ?_⟩
 refine ⟨fun x1 => ?_⟩
 apply loop_mod (α := (Bool) × (Nat) × (List Int) × (Nat) × (List Piece) × (Hp) × (Option Addr) × (Nat) × (Hp) × (Option Addr) × (Nat)) G_ok [7, 8, 9, 10, 11, 12, 13, 14, 15, 16, 17, 18, 19, 20, 21, 22, 23, 24, 25, 26, 27, 28, 29, 30, 31, 32, 33, 34, 35, 36, 37, 38, 39, 40, 41, 42, 43, 44, 45, 46, 47, 48, 49, 50, 51, 52, 3] (fun z => [(3, .v (.slice z.2.2.2.2.2.2.2.2.2.1 z.2.2.1.length z.2.2.2.2.2.2.2.2.2.2))]) (fun z => [⟨q, [Value.string t, .int .i64 (z.2.2.2.1 : Nat), .bool z.1, .slice z.2.2.2.2.2.2.1 z.2.2.2.2.1.length z.2.2.2.2.2.2.2.1], (244 : TypeId)⟩]) (fun z => [z.2.2.2.2.2.2.2.2.1, z.2.2.2.2.2.1, H]) (fun z => t.size - z.2.2.2.1 + (if z.1 = true then 0 else 1)) (fun z => RowInv t n p ps z.1 z.2.1 z.2.2.1 z.2.2.2.1 z.2.2.2.2.1 ∧ 1 ≤ z.2.2.1.length ∧ z.2.2.2.2.1.length + z.2.2.1.length + 2 * p ≤ ps.length + 2 * z.2.2.2.1 + 1 ∧ z.2.2.2.1 ≤ t.size ∧ p ≤ z.2.2.2.1 ∧ (gSl 279 gPiece).ow [.slice z.2.2.2.2.2.2.1 z.2.2.2.2.1.length z.2.2.2.2.2.2.2.1] z.2.2.2.2.1 z.2.2.2.2.2.1 ∧ (gSl 3 gI).ow [.slice z.2.2.2.2.2.2.2.2.2.1 z.2.2.1.length z.2.2.2.2.2.2.2.2.2.2] z.2.2.1 z.2.2.2.2.2.2.2.2.1 ∧ gPiece.ow [.int .i64 2, .int .u8 0, .slice z.2.2.2.2.2.2.2.2.2.1 z.2.2.1.length z.2.2.2.2.2.2.2.2.2.2] ⟨2, 0, z.2.2.1⟩ z.2.2.2.2.2.2.2.2.1) ((bdz, t.size, [kz], pz, sz, Az, bz, cz, [(x1, Obj.cells ⟨[.int .i64 kz]⟩ 3)], some ⟨x1, 0, none⟩, 1))
 ·exact frI
 ·exact ⟨rfl, trivial⟩
 ·try dsimp only
  (have oL := ow_fl (mk := fun k => k) (sz := fun _ => 0) (Ow.lit (f := flInt) (T := 3) (b := x1) (xs := [kz]) (by simpa [flInt] using hkz) (by simp)); exact ⟨row_init hgz hz, by simp, by simp only [List.length_singleton]; omega, hpz, hqz, oz, oL, piece_own (lb := 0) (by unfold okI; omega) oL⟩)
 ·exact .refl _
 rintro ⟨bd, f, ks, p2, ps2, A, lb, lc, K, kb, kc⟩ hI
 try dsimp only at hI
 obtain ⟨hRI, hk1, hl2, hp2, hpp, oA, oK, oP⟩ := hI
 try dsimp only
 refine draw G_ok mixed none (.q 0 (.q 1 (.q 2 (.q 3 (.q 4 (.q 5 (.q 6 (.q 7 (.q 8 (.q 9 (.q 10 (.q 11 (.q 12 (.q 13 (.q 14 (.q 15 (.q 16 (.q 17 (.q 18 (.q 19 (.q 20 (.q 21 (.q 22 (.q 23 (.q 24 (.q 25 (.q 26 (.q 27 (.q 28 (.q 29 (.q 30 (.q 31 (.q 32 (.q 33 (.q 34 (.q 35 (.q 36 (.q 37 (.q 38 (.q 39 (.q 40 (.nil)))))))))))))))))))))))))))))))))))))))))) (by decide +kernel) ?_
 refine ⟨fun q2 => ?_, fun q2 => ?_⟩
 ·simp at q2
  (obtain rfl : bd = false := q2)
  refine ⟨fun q3 => ?_, fun q3 => ?_⟩
  ·simp at q3
   refine VC.intro ?_ ?_
   ·omega
   refine ⟨fun q4 => ?_, fun q4 => ?_⟩
   ·simp at q4
    simp only [byte_p] at q4
    refine VC.intro ?_ ?_
    ·omega
    refine ⟨fun q5 => ?_, fun q5 => ?_⟩
    ·simp at q5
     simp only [byte_p] at q5
     refine callR_blk 0 (A) [K, H] rfl ?_ (hI _ _ _ _ _ _ _ rfl ⟨?_, ?_⟩ ?_ oA) trivial ?_
     ·exact rlA
     ·trivial
     ·omega
     ·omega
     rintro _ A6 ⟨kz, pz, sz, bdz, bz, cz, Az, rfl, rfl, oz, hgz, hz, hkz, hpz, hqz, hsz⟩
     refine ⟨_, _, [Az], rfl, perm1, ?_⟩
     refine ⟨fun x7 => ?_⟩
     refine gappend1 (g := gI) (T := (3 : TypeId)) G_ok K [] [Az, H] ?_ oK (gI_ow ?_) (List.mem_of_getElem? (i := 0) rfl) rfl rfl rfl rfl rfl rfl rfl rfl ?_ fun b8 c8 A8 o8 => ?_
     ·exact rlA
     ·trivial
     ·omega
     apply loop_stepA (bdz, f - 1, ks ++ [kz], pz, sz, Az, _, _, _, _, _)
     ·exact .refl _
     ·exact frI
     ·exact ⟨rfl, trivial⟩
     ·try dsimp only
      (have h9 := RowInv_len hRI; exact ⟨row_next hRI (by assumption) (srow_no (by assumption) (by assumption)) hgz hz, by rw [List.length_append, List.length_singleton]; omega, by rw [List.length_append, List.length_singleton]; omega, hpz, by omega, oz, by assumption, piece_own (lb := 0) (by unfold okI; omega) (by assumption)⟩)
     try dsimp only
     exact row_var (by assumption) hqz hgz hz
    ·simp at q5
     simp only [byte_p] at q5
     refine ⟨fun q9 => ?_, fun q9 => ?_⟩
     ·simp at q9
      refine idx_rd (Gt.owrd _ oK) ?_ ?_ fun b10 o10 hb10 => ?_
      ·trivial
      ·omega
      refine load_allN 0 (0) rfl (Gt.owrd _ oK) ?_ ?_ hb10 rfl (mem_at 0 rfl) fun l11 hl11 => ?_
      ·trivial
      ·omega
      obtain ⟨rfl, hw11⟩ := hl11; simp only [flStr, flInt, okI] at hw11
      (have hE := row_stop hk1 hRI (by first | exact .inl (by omega) | exact .inr (srow_124 (by assumption)) | exact .inr (srow_41 (by assumption))); have h9 := (RowInv_len hRI); exact ⟨_, sr_yes hE.2 (hE.1.trans (by rw [pGroup_one (by omega)])) oA (by assumption) hp2 hpp (by omega), rlB⟩)
     ·simp at q9
      refine callR_blk 0 (A ++ K) [H] rfl ?_ (srPut_ct _ _ _ _ _ _ _ _ _ _ _ oA oP ?_) trivial ?_
      ·exact rlA
      ·omega
      rintro _ A12 ⟨bg, cg, Ag, rfl, rfl, og⟩
      refine ⟨_, _, [Ag], rfl, perm1, ?_⟩
      (have hE := row_stop hk1 hRI (by first | exact .inl (by omega) | exact .inr (srow_124 (by assumption)) | exact .inr (srow_41 (by assumption))); have h9 := (RowInv_len hRI); exact ⟨_, sr_yes hE.2 (hE.1.trans (by rw [pGroup_many (by omega)])) og (by unfold okI; omega) hp2 hpp (by rw [List.length_append, List.length_singleton]; omega), rlB⟩)
   ·simp at q4
    simp only [byte_p] at q4
    refine ⟨fun q13 => ?_, fun q13 => ?_⟩
    ·simp at q13
     refine idx_rd (Gt.owrd _ oK) ?_ ?_ fun b14 o14 hb14 => ?_
     ·trivial
     ·omega
     refine load_allN 0 (0) rfl (Gt.owrd _ oK) ?_ ?_ hb14 rfl (mem_at 0 rfl) fun l15 hl15 => ?_
     ·trivial
     ·omega
     obtain ⟨rfl, hw15⟩ := hl15; simp only [flStr, flInt, okI] at hw15
     (have hE := row_stop hk1 hRI (by first | exact .inl (by omega) | exact .inr (srow_124 (by assumption)) | exact .inr (srow_41 (by assumption))); have h9 := (RowInv_len hRI); exact ⟨_, sr_yes hE.2 (hE.1.trans (by rw [pGroup_one (by omega)])) oA (by assumption) hp2 hpp (by omega), rlB⟩)
    ·simp at q13
     refine callR_blk 0 (A ++ K) [H] rfl ?_ (srPut_ct _ _ _ _ _ _ _ _ _ _ _ oA oP ?_) trivial ?_
     ·exact rlA
     ·omega
     rintro _ A16 ⟨bg, cg, Ag, rfl, rfl, og⟩
     refine ⟨_, _, [Ag], rfl, perm1, ?_⟩
     (have hE := row_stop hk1 hRI (by first | exact .inl (by omega) | exact .inr (srow_124 (by assumption)) | exact .inr (srow_41 (by assumption))); have h9 := (RowInv_len hRI); exact ⟨_, sr_yes hE.2 (hE.1.trans (by rw [pGroup_many (by omega)])) og (by unfold okI; omega) hp2 hpp (by rw [List.length_append, List.length_singleton]; omega), rlB⟩)
  ·simp at q3
   refine ⟨fun q17 => ?_, fun q17 => ?_⟩
   ·simp at q17
    refine idx_rd (Gt.owrd _ oK) ?_ ?_ fun b18 o18 hb18 => ?_
    ·trivial
    ·omega
    refine load_allN 0 (0) rfl (Gt.owrd _ oK) ?_ ?_ hb18 rfl (mem_at 0 rfl) fun l19 hl19 => ?_
    ·trivial
    ·omega
    obtain ⟨rfl, hw19⟩ := hl19; simp only [flStr, flInt, okI] at hw19
    (have hE := row_stop hk1 hRI (by first | exact .inl (by omega) | exact .inr (srow_124 (by assumption)) | exact .inr (srow_41 (by assumption))); have h9 := (RowInv_len hRI); exact ⟨_, sr_yes hE.2 (hE.1.trans (by rw [pGroup_one (by omega)])) oA (by assumption) hp2 hpp (by omega), rlB⟩)
   ·simp at q17
    refine callR_blk 0 (A ++ K) [H] rfl ?_ (srPut_ct _ _ _ _ _ _ _ _ _ _ _ oA oP ?_) trivial ?_
    ·exact rlA
    ·omega
    rintro _ A20 ⟨bg, cg, Ag, rfl, rfl, og⟩
    refine ⟨_, _, [Ag], rfl, perm1, ?_⟩
    (have hE := row_stop hk1 hRI (by first | exact .inl (by omega) | exact .inr (srow_124 (by assumption)) | exact .inr (srow_41 (by assumption))); have h9 := (RowInv_len hRI); exact ⟨_, sr_yes hE.2 (hE.1.trans (by rw [pGroup_many (by omega)])) og (by unfold okI; omega) hp2 hpp (by rw [List.length_append, List.length_singleton]; omega), rlB⟩)
 ·simp at q2
  (obtain rfl : bd = true := q2)
  refine ⟨fun q21 => ?_, fun q21 => ?_⟩
  ·simp at q21
   refine idx_rd (Gt.owrd _ oK) ?_ ?_ fun b22 o22 hb22 => ?_
   ·trivial
   ·omega
   refine load_allN 0 (0) rfl (Gt.owrd _ oK) ?_ ?_ hb22 rfl (mem_at 0 rfl) fun l23 hl23 => ?_
   ·trivial
   ·omega
   obtain ⟨rfl, hw23⟩ := hl23; simp only [flStr, flInt, okI] at hw23
   (have hE := RowInv_bad hRI; exact ⟨_, sr_no (p' := p2) hE oA (by assumption) hp2 hpp (by omega), rlB⟩)
  ·simp at q21
   refine callR_blk 0 (A ++ K) [H] rfl ?_ (srPut_ct _ _ _ _ _ _ _ _ _ _ _ oA oP ?_) trivial ?_
   ·exact rlA
   ·omega
   rintro _ A24 ⟨bg, cg, Ag, rfl, rfl, og⟩
   refine ⟨_, _, [Ag], rfl, perm1, ?_⟩
   (have hE := RowInv_bad hRI; exact ⟨_, sr_no (p' := p2) hE og (by unfold okI; omega) hp2 hpp (by rw [List.length_append, List.length_singleton]; omega), rlB⟩)
def AltsInv (t : ByteArray) (n p : Nat) (ps : List Piece) (bd : Bool) (f : Nat) (ks : List Int) (p2 : Nat) (ps2 : List Piece) : Prop :=
 (bd = false → pTail t (pAlt t (pItem t (pExpr t n))) f ks p2 ps2 = pExprs t (pAlt t (pItem t (pExpr t n))) (t.size + 1) [] p ps ∧ t.size < f + p2 + 1 ∧ (t.size ≤ p2 ∨ sRow (byteAt t p2) = true) ∧ ps2.length + ks.length + 2 * p ≤ ps.length + 2 * p2) ∧ (bd = true → goodR sAlts t (pExprs t (pAlt t (pItem t (pExpr t n))) (t.size + 1) [] p ps) = false)
theorem alts_init {t : ByteArray} {n p pz : Nat} {ps sz : List Piece} {bdz : Bool} {kz : Int} (hp : p ≤ t.size) (hgz : bdz = !(goodR sRow t (pAlt t (pItem t (pExpr t n)) p ps))) (hz : goodR sRow t (pAlt t (pItem t (pExpr t n)) p ps) = true → kz = prK (pAlt t (pItem t (pExpr t n)) p ps) ∧ pz = prP (pAlt t (pItem t (pExpr t n)) p ps) ∧ sz = prS (pAlt t (pItem t (pExpr t n)) p ps)) : AltsInv t n p ps bdz t.size [kz] pz sz := by
 constructor
 ·intro h
  rw [h] at hgz
  have h1 : goodR sRow t (pAlt t (pItem t (pExpr t n)) p ps) = true := by simpa using hgz
  obtain ⟨rfl, rfl, rfl⟩ := hz h1
  have h2 := alt_reads hp (good_is h1)
  unfold ReadsR at h2
  exact ⟨(pExprs_tail (f := t.size + 1) (ks := []) (by omega) (good_is h1)).symm, by omega, good_stop h1, by simp only [List.length_singleton]; omega⟩
 intro h
 rw [h] at hgz
 exact alts_bad (by simpa using hgz)
theorem alts_next {t : ByteArray} {n p f p2 pz : Nat} {ks : List Int} {ps ps2 sz : List Piece} {bdz : Bool} {kz : Int} (hI : AltsInv t n p ps false f ks p2 ps2) (hp2 : p2 < t.size) (hb : (((byteAt t p2).toNat : Nat) : Int) = 124) (hgz : bdz = !(goodR sRow t (pAlt t (pItem t (pExpr t n)) (p2 + 1) ps2))) (hz : goodR sRow t (pAlt t (pItem t (pExpr t n)) (p2 + 1) ps2) = true → kz = prK (pAlt t (pItem t (pExpr t n)) (p2 + 1) ps2) ∧ pz = prP (pAlt t (pItem t (pExpr t n)) (p2 + 1) ps2) ∧ sz = prS (pAlt t (pItem t (pExpr t n)) (p2 + 1) ps2)) : AltsInv t n p ps bdz (f - 1) (ks ++ [kz]) pz sz := by
 obtain ⟨he, hf, hs, hl⟩ := hI.1 rfl
 have he2 : pExprs t (pAlt t (pItem t (pExpr t n))) f ks (p2 + 1) ps2 = pExprs t (pAlt t (pItem t (pExpr t n))) (t.size + 1) [] p ps := by
  rw [← he]; unfold pTail; rw [if_pos (by omega)]
 constructor
 ·intro h
  rw [h] at hgz
  have h1 : goodR sRow t (pAlt t (pItem t (pExpr t n)) (p2 + 1) ps2) = true := by simpa using hgz
  obtain ⟨rfl, rfl, rfl⟩ := hz h1
  have h2 := alt_reads (by omega) (good_is h1)
  unfold ReadsR at h2
  exact ⟨(pExprs_tail (by omega) (good_is h1)).symm.trans he2, by omega, good_stop h1, by rw [List.length_append, List.length_singleton]; omega⟩
 intro h
 rw [h] at hgz
 rw [← he2]
 exact alts_bad (by simpa using hgz)
theorem alts_stop {t : ByteArray} {n p f p2 : Nat} {ks : List Int} {ps ps2 : List Piece} (hI : AltsInv t n p ps false f ks p2 ps2) (hb : t.size ≤ p2 ∨ ¬ (((byteAt t p2).toNat : Nat) : Int) = 124) : pExprs t (pAlt t (pItem t (pExpr t n))) (t.size + 1) [] p ps = some ((pGroup 3 (ks, p2, ps2)).1, p2, (pGroup 3 (ks, p2, ps2)).2.2) ∧ goodR sAlts t (pExprs t (pAlt t (pItem t (pExpr t n))) (t.size + 1) [] p ps) = true := by
 obtain ⟨he, hf, hs, hl⟩ := hI.1 rfl
 rw [← he]
 refine alts_end ?_ hs
 rcases hb with h | h
 ·rw [byteAt_end h]; decide
 omega
theorem AltsInv_len {t : ByteArray} {n p f p2 : Nat} {ks : List Int} {ps ps2 : List Piece} (hI : AltsInv t n p ps false f ks p2 ps2) : ps2.length + ks.length + 2 * p ≤ ps.length + 2 * p2 := (hI.1 rfl).2.2.2
theorem AltsInv_bad {t : ByteArray} {n p f p2 : Nat} {ks : List Int} {ps ps2 : List Piece} (hI : AltsInv t n p ps true f ks p2 ps2) : goodR sAlts t (pExprs t (pAlt t (pItem t (pExpr t n))) (t.size + 1) [] p ps) = false := hI.2 rfl
attribute [local irreducible] AltsInv
theorem srAlts_ct (t : ByteArray) (n : Nat) (ht : t.size ≤ 20) (hI : SrCt 193 sRow (pAlt t (pItem t (pExpr t n))) t (fun p => p ≤ t.size ∧ t.size < n + 1 + p)) : SrCt 173 sAlts (pExpr t (n + 1)) t (fun p => p ≤ t.size ∧ t.size < n + 1 + p) := by
 intro q pi p ps b c A hpi hP hps hA
 obtain ⟨hpt, hn⟩ := hP
 subst hpi
 rw [show pExpr t (n + 1) p ps = pExprs t (pAlt t (pItem t (pExpr t n))) (t.size + 1) [] p ps by unfold pExpr; rfl]
 refine CtR.introB G_ok [.p 0 0] [⟨q, [.string t, .int .i64 (p : Int), .bool false, .slice b ps.length c], 244⟩] [A] func173 rfl rfl rfl rfl (by simp [SV.ok]) (by simp [Blk.ent]) fun E H hp => ?_
 have hp0 : (p : Int) = ((p : Nat) : Int) := rfl
 refine callR_blk 0 (A) [H] rfl ?_ (hI _ _ _ _ _ _ _ (by assumption) ⟨?_, ?_⟩ ?_ hA) trivial ?_
 ·exact .refl _
 ·trivial
 ·trivial
 ·trivial
 rintro _ A0 ⟨kz, pz, sz, bdz, bz, cz, Az, rfl, rfl, oz, hgz, hz, hkz, hpz, hqz, hsz⟩
 refine ⟨_, _, [Az], rfl, perm1, ?_⟩
 refine ⟨fun x1 => ?_⟩
 apply loop_mod (α := (Bool) × (Nat) × (List Int) × (Nat) × (List Piece) × (Hp) × (Option Addr) × (Nat) × (Hp) × (Option Addr) × (Nat)) G_ok [7, 8, 9, 10, 11, 12, 13, 14, 15, 16, 17, 18, 19, 20, 21, 22, 23, 24, 25, 26, 27, 28, 29, 30, 31, 32, 33, 34, 35, 36, 37, 38, 39, 40, 41, 42, 43, 44, 45, 46, 47, 48, 3] (fun z => [(3, .v (.slice z.2.2.2.2.2.2.2.2.2.1 z.2.2.1.length z.2.2.2.2.2.2.2.2.2.2))]) (fun z => [⟨q, [Value.string t, .int .i64 (z.2.2.2.1 : Nat), .bool z.1, .slice z.2.2.2.2.2.2.1 z.2.2.2.2.1.length z.2.2.2.2.2.2.2.1], (244 : TypeId)⟩]) (fun z => [z.2.2.2.2.2.2.2.2.1, z.2.2.2.2.2.1, H]) (fun z => t.size - z.2.2.2.1) (fun z => AltsInv t n p ps z.1 z.2.1 z.2.2.1 z.2.2.2.1 z.2.2.2.2.1 ∧ 1 ≤ z.2.2.1.length ∧ z.2.2.2.2.1.length + z.2.2.1.length + 2 * p ≤ ps.length + 2 * z.2.2.2.1 + 1 ∧ z.2.2.2.1 ≤ t.size ∧ p ≤ z.2.2.2.1 ∧ (gSl 279 gPiece).ow [.slice z.2.2.2.2.2.2.1 z.2.2.2.2.1.length z.2.2.2.2.2.2.2.1] z.2.2.2.2.1 z.2.2.2.2.2.1 ∧ (gSl 3 gI).ow [.slice z.2.2.2.2.2.2.2.2.2.1 z.2.2.1.length z.2.2.2.2.2.2.2.2.2.2] z.2.2.1 z.2.2.2.2.2.2.2.2.1 ∧ gPiece.ow [.int .i64 3, .int .u8 0, .slice z.2.2.2.2.2.2.2.2.2.1 z.2.2.1.length z.2.2.2.2.2.2.2.2.2.2] ⟨3, 0, z.2.2.1⟩ z.2.2.2.2.2.2.2.2.1) ((bdz, t.size, [kz], pz, sz, Az, bz, cz, [(x1, Obj.cells ⟨[.int .i64 kz]⟩ 3)], some ⟨x1, 0, none⟩, 1))
 ·exact frI
 ·exact ⟨rfl, trivial⟩
 ·try dsimp only
  (have oL := ow_fl (mk := fun k => k) (sz := fun _ => 0) (Ow.lit (f := flInt) (T := 3) (b := x1) (xs := [kz]) (by simpa [flInt] using hkz) (by simp)); exact ⟨alts_init hpt hgz hz, by simp, by simp only [List.length_singleton]; omega, hpz, hqz, oz, oL, piece_own (lb := 0) (by unfold okI; omega) oL⟩)
 ·exact .refl _
 rintro ⟨bd, f, ks, p2, ps2, A, lb, lc, K, kb, kc⟩ hI
 try dsimp only at hI
 obtain ⟨hRI, hk1, hl2, hp2, hpp, oA, oK, oP⟩ := hI
 try dsimp only
 refine draw G_ok mixed none (.q 0 (.q 1 (.q 2 (.q 3 (.q 4 (.q 5 (.q 6 (.q 7 (.q 8 (.q 9 (.q 10 (.q 11 (.q 12 (.q 13 (.q 14 (.q 15 (.q 16 (.q 17 (.q 18 (.q 19 (.q 20 (.q 21 (.q 22 (.q 23 (.q 24 (.q 25 (.q 26 (.q 27 (.q 28 (.nil)))))))))))))))))))))))))))))) (by decide +kernel) ?_
 refine ⟨fun q2 => ?_, fun q2 => ?_⟩
 ·simp at q2
  (obtain rfl : bd = false := q2)
  (have hw3 : IntKind.i64.wrap ((p2 : Int) + 1) = ((p2 + 1 : Nat) : Int) := (by rw [wrap_of (by omega) (by omega)]; omega))
  refine ⟨fun q3 => ?_, fun q3 => ?_⟩
  ·simp at q3
   (have hw3 : IntKind.i64.wrap ((p2 : Int) + 1) = ((p2 + 1 : Nat) : Int) := (by rw [wrap_of (by omega) (by omega)]; omega))
   refine VC.intro ?_ ?_
   ·omega
   refine ⟨fun q4 => ?_, fun q4 => ?_⟩
   ·simp at q4
    simp only [byte_p] at q4
    (have hw3 : IntKind.i64.wrap ((p2 : Int) + 1) = ((p2 + 1 : Nat) : Int) := (by rw [wrap_of (by omega) (by omega)]; omega))
    refine callR_blk 0 (A) [K, H] rfl ?_ (hI _ _ _ _ _ _ _ (by assumption) ⟨?_, ?_⟩ ?_ oA) trivial ?_
    ·exact rlA
    ·trivial
    ·omega
    ·omega
    rintro _ A5 ⟨kz, pz, sz, bdz, bz, cz, Az, rfl, rfl, oz, hgz, hz, hkz, hpz, hqz, hsz⟩
    refine ⟨_, _, [Az], rfl, perm1, ?_⟩
    refine ⟨fun x6 => ?_⟩
    refine gappend1 (g := gI) (T := (3 : TypeId)) G_ok K [] [Az, H] ?_ oK (gI_ow ?_) (List.mem_of_getElem? (i := 0) rfl) rfl rfl rfl rfl rfl rfl rfl rfl ?_ fun b7 c7 A7 o7 => ?_
    ·exact rlA
    ·trivial
    ·omega
    apply loop_stepA (bdz, f - 1, ks ++ [kz], pz, sz, Az, _, _, _, _, _)
    ·exact .refl _
    ·exact frI
    ·exact ⟨rfl, trivial⟩
    ·try dsimp only
     (have h9 := AltsInv_len hRI; exact ⟨alts_next hRI (by assumption) (by assumption) hgz hz, by rw [List.length_append, List.length_singleton]; omega, by rw [List.length_append, List.length_singleton]; omega, hpz, by omega, oz, by assumption, piece_own (lb := 0) (by unfold okI; omega) (by assumption)⟩)
    try dsimp only
    omega
   ·simp at q4
    simp only [byte_p] at q4
    (have hw3 : IntKind.i64.wrap ((p2 : Int) + 1) = ((p2 + 1 : Nat) : Int) := (by rw [wrap_of (by omega) (by omega)]; omega))
    refine ⟨fun q8 => ?_, fun q8 => ?_⟩
    ·simp at q8
     (have hw3 : IntKind.i64.wrap ((p2 : Int) + 1) = ((p2 + 1 : Nat) : Int) := (by rw [wrap_of (by omega) (by omega)]; omega))
     refine idx_rd (Gt.owrd _ oK) ?_ ?_ fun b9 o9 hb9 => ?_
     ·trivial
     ·omega
     refine load_allN 0 (0) rfl (Gt.owrd _ oK) ?_ ?_ hb9 rfl (mem_at 0 rfl) fun l10 hl10 => ?_
     ·trivial
     ·omega
     obtain ⟨rfl, hw10⟩ := hl10; simp only [flStr, flInt, okI] at hw10
     (have hE := alts_stop hRI (by first | exact .inl (by omega) | exact .inr (by assumption)); have h9 := (AltsInv_len hRI); exact ⟨_, sr_yes hE.2 (hE.1.trans (by rw [pGroup_one (by omega)])) oA (by assumption) hp2 hpp (by omega), rlB⟩)
    ·simp at q8
     (have hw3 : IntKind.i64.wrap ((p2 : Int) + 1) = ((p2 + 1 : Nat) : Int) := (by rw [wrap_of (by omega) (by omega)]; omega))
     refine callR_blk 0 (A ++ K) [H] rfl ?_ (srPut_ct _ _ _ _ _ _ _ _ _ _ _ oA oP ?_) trivial ?_
     ·exact rlA
     ·omega
     rintro _ A11 ⟨bg, cg, Ag, rfl, rfl, og⟩
     refine ⟨_, _, [Ag], rfl, perm1, ?_⟩
     (have hE := alts_stop hRI (by first | exact .inl (by omega) | exact .inr (by assumption)); have h9 := (AltsInv_len hRI); exact ⟨_, sr_yes hE.2 (hE.1.trans (by rw [pGroup_many (by omega)])) og (by unfold okI; omega) hp2 hpp (by rw [List.length_append, List.length_singleton]; omega), rlB⟩)
  ·simp at q3
   (have hw3 : IntKind.i64.wrap ((p2 : Int) + 1) = ((p2 + 1 : Nat) : Int) := (by rw [wrap_of (by omega) (by omega)]; omega))
   refine ⟨fun q12 => ?_, fun q12 => ?_⟩
   ·simp at q12
    (have hw3 : IntKind.i64.wrap ((p2 : Int) + 1) = ((p2 + 1 : Nat) : Int) := (by rw [wrap_of (by omega) (by omega)]; omega))
    refine idx_rd (Gt.owrd _ oK) ?_ ?_ fun b13 o13 hb13 => ?_
    ·trivial
    ·omega
    refine load_allN 0 (0) rfl (Gt.owrd _ oK) ?_ ?_ hb13 rfl (mem_at 0 rfl) fun l14 hl14 => ?_
    ·trivial
    ·omega
    obtain ⟨rfl, hw14⟩ := hl14; simp only [flStr, flInt, okI] at hw14
    (have hE := alts_stop hRI (by first | exact .inl (by omega) | exact .inr (by assumption)); have h9 := (AltsInv_len hRI); exact ⟨_, sr_yes hE.2 (hE.1.trans (by rw [pGroup_one (by omega)])) oA (by assumption) hp2 hpp (by omega), rlB⟩)
   ·simp at q12
    (have hw3 : IntKind.i64.wrap ((p2 : Int) + 1) = ((p2 + 1 : Nat) : Int) := (by rw [wrap_of (by omega) (by omega)]; omega))
    refine callR_blk 0 (A ++ K) [H] rfl ?_ (srPut_ct _ _ _ _ _ _ _ _ _ _ _ oA oP ?_) trivial ?_
    ·exact rlA
    ·omega
    rintro _ A15 ⟨bg, cg, Ag, rfl, rfl, og⟩
    refine ⟨_, _, [Ag], rfl, perm1, ?_⟩
    (have hE := alts_stop hRI (by first | exact .inl (by omega) | exact .inr (by assumption)); have h9 := (AltsInv_len hRI); exact ⟨_, sr_yes hE.2 (hE.1.trans (by rw [pGroup_many (by omega)])) og (by unfold okI; omega) hp2 hpp (by rw [List.length_append, List.length_singleton]; omega), rlB⟩)
 ·simp at q2
  (obtain rfl : bd = true := q2)
  (have hw3 : IntKind.i64.wrap ((p2 : Int) + 1) = ((p2 + 1 : Nat) : Int) := (by rw [wrap_of (by omega) (by omega)]; omega))
  refine ⟨fun q16 => ?_, fun q16 => ?_⟩
  ·simp at q16
   (have hw3 : IntKind.i64.wrap ((p2 : Int) + 1) = ((p2 + 1 : Nat) : Int) := (by rw [wrap_of (by omega) (by omega)]; omega))
   refine idx_rd (Gt.owrd _ oK) ?_ ?_ fun b17 o17 hb17 => ?_
   ·trivial
   ·omega
   refine load_allN 0 (0) rfl (Gt.owrd _ oK) ?_ ?_ hb17 rfl (mem_at 0 rfl) fun l18 hl18 => ?_
   ·trivial
   ·omega
   obtain ⟨rfl, hw18⟩ := hl18; simp only [flStr, flInt, okI] at hw18
   (have hE := AltsInv_bad hRI; exact ⟨_, sr_no (p' := p2) hE oA (by assumption) hp2 hpp (by omega), rlB⟩)
  ·simp at q16
   (have hw3 : IntKind.i64.wrap ((p2 : Int) + 1) = ((p2 + 1 : Nat) : Int) := (by rw [wrap_of (by omega) (by omega)]; omega))
   refine callR_blk 0 (A ++ K) [H] rfl ?_ (srPut_ct _ _ _ _ _ _ _ _ _ _ _ oA oP ?_) trivial ?_
   ·exact rlA
   ·omega
   rintro _ A19 ⟨bg, cg, Ag, rfl, rfl, og⟩
   refine ⟨_, _, [Ag], rfl, perm1, ?_⟩
   (have hE := AltsInv_bad hRI; exact ⟨_, sr_no (p' := p2) hE og (by unfold okI; omega) hp2 hpp (by rw [List.length_append, List.length_singleton]; omega), rlB⟩)
end
section
attribute [local irreducible] IntKind.wrap
section
variable {t : ByteArray} {E : Nat → List Piece → Option PR} {p : Nat} {ps : List Piece}
theorem one_item (h : begins (byteAt t p) = true) : pOne t E p ps = pItem t E p ps := by unfold pOne; rw [if_pos h]
theorem one_no_end (h : t.size ≤ p) : pOne t E p ps = none := by unfold pOne; rw [byteAt_end h]; rfl
theorem one_no_char (h : ¬ (97 ≤ ((byteAt t p).toNat : Int) ∧ ((byteAt t p).toNat : Int) ≤ 100)) (h2 : ¬ ((byteAt t p).toNat : Int) = 40) : pOne t E p ps = none := by
 unfold pOne
 rw [if_neg]
 rw [begins_0 (by rw [← Bool.not_eq_true, labelOk_iff]; omega) h2]; simp
theorem one_lab (h : 97 ≤ ((byteAt t p).toNat : Int) ∧ ((byteAt t p).toNat : Int) ≤ 100) : pOne t E p ps = some (pPost t (t.size + 1) (ps.length : Nat) (p + 1) (ps ++ [⟨1, byteAt t p, []⟩])) := by
 rw [one_item (begins_1 (labelOk_iff.2 (by omega)))]
 exact item_step (by omega)
theorem one_par (h : ((byteAt t p).toNat : Int) = 40) (h1 : (E (p + 1) ps).isSome = true) (h2 : ((byteAt t (prP (E (p + 1) ps))).toNat : Int) = 41) : pOne t E p ps = some (pPost t (t.size + 1) (prK (E (p + 1) ps)) (prP (E (p + 1) ps) + 1) (prS (E (p + 1) ps))) := by
 rw [one_item (begins_2 h)]; exact item_par h h1 h2
theorem one_par_no (h : ((byteAt t p).toNat : Int) = 40) (h1 : (E (p + 1) ps).isSome = true) (h2 : ¬ ((byteAt t (prP (E (p + 1) ps))).toNat : Int) = 41) : pOne t E p ps = none := by
 rw [one_item (begins_2 h)]; exact item_par_no h h1 h2
theorem one_par_bad (h : ((byteAt t p).toNat : Int) = 40) (h1 : goodR sAlts t (E (p + 1) ps) = false) : pOne t E p ps = none := by
 cases hE : (E (p + 1) ps).isSome with
 | false => rw [one_item (begins_2 h)]; exact item_exp_no h (pr_none hE)
 | true =>
  refine one_par_no h hE fun h2 => ?_
  unfold goodR sAlts at h1
  rw [hE, decide_eq_true (show (byteAt t (prP (E (p + 1) ps))).toNat = 41 by omega)] at h1
  cases h1
theorem post_stop {f : Nat} {k : Int} (h : t.size ≤ p) : pPost t f k p ps = (k, p, ps) :=
 post_end (by rw [byteAt_end h]; decide) (by rw [byteAt_end h]; decide) (by rw [byteAt_end h]; decide)
theorem one_false (h : pOne t E p ps = none) : goodR sOne t (pOne t E p ps) = false := good_none h
theorem one_true {r : PR} (h : pOne t E p ps = some r) : goodR sOne t (pOne t E p ps) = true := by rw [good_one, h]; rfl
end
attribute [local irreducible] pItem pExpr pAlt pAlts pExprs pPost pOne prK prP prS goodR sAlts
theorem srOne_ct (t : ByteArray) (n : Nat) (ht : t.size ≤ 20) (hI : SrCt 173 sAlts (pExpr t n) t (fun p => p ≤ t.size ∧ t.size < n + p)) : SrCt 207 sOne (pOne t (pExpr t n)) t (fun p => p ≤ t.size ∧ t.size < n + 1 + p) := by
 intro q pi p ps b c A hpi hP hps hA
 obtain ⟨hpt, hn⟩ := hP
 subst hpi
 have hst := piece_leaf (op := 1) (lb := byteAt t p) (by unfold okI; omega)
 have hw : IntKind.i64.wrap ((p : Int) + 1) = ((p + 1 : Nat) : Int) := by (rw [wrap_of (by omega) (by omega)]; omega)
 refine CtR.introB G_ok [.p 0 0] [⟨q, [.string t, .int .i64 (p : Int), .bool false, .slice b ps.length c], 244⟩] [A] func207 rfl rfl rfl rfl (by simp [SV.ok]) (by simp [Blk.ent]) fun E H hp => ?_
 refine draw G_ok mixed none (.q 0 (.q 1 (.q 2 (.q 3 (.q 4 (.q 5 (.q 6 (.q 7 (.q 8 (.q 9 (.q 10 (.q 11 (.q 12 (.q 13 (.q 14 (.q 15 (.nil))))))))))))))))) (by decide +kernel) ?_
 refine ⟨fun q0 => ?_, fun q0 => ?_⟩
 ·simp at q0
 ·simp at q0
  refine ⟨fun q1 => ?_, fun q1 => ?_⟩
  ·simp at q1
   exact ⟨_, sr_no (p' := p) (one_false (one_no_end (by omega))) hA (by unfold okI; omega) hpt (Nat.le_refl _) (Nat.le_refl _), rlB⟩
  ·simp at q1
   refine draw G_ok mixed none (.q 0 (.q 1 (.q 2 (.q 3 (.q 4 (.q 5 (.q 6 (.q 7 (.q 8 (.q 9 (.nil))))))))))) (by decide +kernel) ?_
   refine VC.intro ?_ ?_
   ·omega
   refine ⟨fun q2 => ?_, fun q2 => ?_⟩
   ·simp at q2
    simp only [byte_p] at q2
    refine ⟨fun q3 => ?_, fun q3 => ?_⟩
    ·simp at q3
     simp only [byte_p] at q3
     refine callR_blk 0 (A ++ []) [H] rfl ?_ (srPut_ct _ _ _ _ _ _ _ _ _ _ _ hA hst ?_) trivial ?_
     ·exact rlA
     ·omega
     rintro _ A4 ⟨bg, cg, Ag, rfl, rfl, og⟩
     refine ⟨_, _, [Ag], rfl, perm1, ?_⟩
     apply loop_mod (α := (Nat) × (Int) × (Nat) × (List Piece) × (Hp) × (Option Addr) × (Nat)) G_ok [100, 101, 102, 103, 104, 105, 106, 107, 108, 109, 5, 110, 111, 112, 113, 114, 115, 116, 117, 118, 120, 119, 122, 121, 124, 123, 125, 126, 127, 128, 129, 130, 131, 132, 133, 134, 135, 136, 137, 138, 139, 140, 4] (fun z => [(4, .v (.int .i64 z.2.1))]) (fun z => [⟨q, [Value.string t, .int .i64 (z.2.2.1 : Nat), .bool false, .slice z.2.2.2.2.2.1 z.2.2.2.1.length z.2.2.2.2.2.2], (244 : TypeId)⟩]) (fun z => [z.2.2.2.2.1, H]) (fun z => t.size - z.2.2.1) (fun z => some (pPost t z.1 z.2.1 z.2.2.1 z.2.2.2.1) = pOne t (pExpr t n) p ps ∧ t.size < z.1 + z.2.2.1 ∧ z.2.2.1 ≤ t.size ∧ p ≤ z.2.2.1 ∧ z.2.2.2.1.length + 2 * p ≤ ps.length + 2 * z.2.2.1 ∧ okI z.2.1 ∧ (gSl 279 gPiece).ow [.slice z.2.2.2.2.2.1 z.2.2.2.1.length z.2.2.2.2.2.2] z.2.2.2.1 z.2.2.2.2.1) ((t.size + 1, ((ps.length : Nat) : Int), p + 1, ps ++ [⟨1, byteAt t p, []⟩], Ag, bg, cg))
     ·exact frI
     ·((rw [hw]); repeat' (first | exact trivial | refine ⟨by first | rfl | simp [Blk.ent], ?_⟩))
     ·try dsimp only
      exact ⟨(one_lab (by omega)).symm, by omega, by omega, by omega, by rw [List.length_append, List.length_singleton]; omega, by unfold okI; omega, by assumption⟩
     ·exact .refl _
     rintro ⟨f, k, p2, ps2, A, lb, lc⟩ hI
     try dsimp only at hI
     obtain ⟨hf, hfu, hp2, hpp, hps2, hk, oA⟩ := hI
     try dsimp only
     refine draw G_ok mixed none (.q 0 (.q 1 (.q 2 (.q 3 (.q 4 (.q 5 (.q 6 (.q 7 (.q 8 (.q 9 (.nil))))))))))) (by decide +kernel) ?_
     refine ⟨fun q5 => ?_, fun q5 => ?_⟩
     ·simp at q5
      (have hw3 : IntKind.i64.wrap ((p2 : Int) + 1) = ((p2 + 1 : Nat) : Int) := (by rw [wrap_of (by omega) (by omega)]; omega))
      refine draw G_ok mixed none (.q 0 (.q 1 (.q 2 (.q 3 (.q 4 (.q 5 (.q 6 (.q 7 (.q 8 (.nil)))))))))) (by decide +kernel) ?_
      refine VC.intro ?_ ?_
      ·omega
      refine ⟨fun q6 => ?_, fun q6 => ?_⟩
      ·simp at q6
       simp only [byte_p] at q6
       (have hw3 : IntKind.i64.wrap ((p2 : Int) + 1) = ((p2 + 1 : Nat) : Int) := (by rw [wrap_of (by omega) (by omega)]; omega))
       refine ⟨fun q7 => ?_, fun q7 => ?_⟩
       ·simp at q7
       ·simp at q7
        (have hw3 : IntKind.i64.wrap ((p2 : Int) + 1) = ((p2 + 1 : Nat) : Int) := (by rw [wrap_of (by omega) (by omega)]; omega))
        refine ⟨fun x8 => ?_⟩
        refine callR_blk 0 (A ++ [(x8, Obj.cells { toList := Value.int IntKind.i64 k :: [].append (zeros (nat_lit 0) [Value.int IntKind.i64 (0 : Int)]) } (3 : TypeId))]) [H] rfl ?_ (srPut_ct _ _ _ _ _ _ _ _ _ _ _ oA (by first | exact piece_lit (by unfold okI; omega) hk) ?_) trivial ?_
        ·exact rlA
        ·omega
        rintro _ A9 ⟨bg, cg, Ag, rfl, rfl, og⟩
        refine ⟨_, _, [Ag], rfl, perm1, ?_⟩
        apply loop_stepA (f - 1, ((ps2.length : Nat) : Int), p2 + 1, _, _, _, _)
        ·exact .refl _
        ·exact frI
        ·((rw [hw3]); repeat' (first | exact trivial | refine ⟨by first | rfl | simp [Blk.ent], ?_⟩))
        ·try dsimp only
         exact ⟨(congrArg some (post_go (by omega) (by omega))).symm.trans hf, by omega, by omega, by omega, by rw [List.length_append, List.length_singleton]; omega, by unfold okI; omega, by assumption⟩
        try dsimp only
        omega
      ·simp at q6
       simp only [byte_p] at q6
       (have hw3 : IntKind.i64.wrap ((p2 : Int) + 1) = ((p2 + 1 : Nat) : Int) := (by rw [wrap_of (by omega) (by omega)]; omega))
       refine ⟨fun q10 => ?_, fun q10 => ?_⟩
       ·simp at q10
        simp only [byte_p] at q10
        (have hw3 : IntKind.i64.wrap ((p2 : Int) + 1) = ((p2 + 1 : Nat) : Int) := (by rw [wrap_of (by omega) (by omega)]; omega))
        refine ⟨fun q11 => ?_, fun q11 => ?_⟩
        ·simp at q11
        ·simp at q11
         (have hw3 : IntKind.i64.wrap ((p2 : Int) + 1) = ((p2 + 1 : Nat) : Int) := (by rw [wrap_of (by omega) (by omega)]; omega))
         refine ⟨fun x12 => ?_⟩
         refine callR_blk 0 (A ++ [(x12, Obj.cells { toList := Value.int IntKind.i64 k :: [].append (zeros (nat_lit 0) [Value.int IntKind.i64 (0 : Int)]) } (3 : TypeId))]) [H] rfl ?_ (srPut_ct _ _ _ _ _ _ _ _ _ _ _ oA (by first | exact piece_lit (by unfold okI; omega) hk) ?_) trivial ?_
         ·exact rlA
         ·omega
         rintro _ A13 ⟨bg, cg, Ag, rfl, rfl, og⟩
         refine ⟨_, _, [Ag], rfl, perm1, ?_⟩
         apply loop_stepA (f - 1, ((ps2.length : Nat) : Int), p2 + 1, _, _, _, _)
         ·exact .refl _
         ·exact frI
         ·((rw [hw3]); repeat' (first | exact trivial | refine ⟨by first | rfl | simp [Blk.ent], ?_⟩))
         ·try dsimp only
          exact ⟨(congrArg some (post_go (by omega) (by omega))).symm.trans hf, by omega, by omega, by omega, by rw [List.length_append, List.length_singleton]; omega, by unfold okI; omega, by assumption⟩
         try dsimp only
         omega
       ·simp at q10
        simp only [byte_p] at q10
        (have hw3 : IntKind.i64.wrap ((p2 : Int) + 1) = ((p2 + 1 : Nat) : Int) := (by rw [wrap_of (by omega) (by omega)]; omega))
        refine ⟨fun q14 => ?_, fun q14 => ?_⟩
        ·simp at q14
         simp only [byte_p] at q14
         (have hw3 : IntKind.i64.wrap ((p2 : Int) + 1) = ((p2 + 1 : Nat) : Int) := (by rw [wrap_of (by omega) (by omega)]; omega))
         refine ⟨fun q15 => ?_, fun q15 => ?_⟩
         ·simp at q15
         ·simp at q15
          (have hw3 : IntKind.i64.wrap ((p2 : Int) + 1) = ((p2 + 1 : Nat) : Int) := (by rw [wrap_of (by omega) (by omega)]; omega))
          refine ⟨fun x16 => ?_⟩
          refine callR_blk 0 (A ++ [(x16, Obj.cells { toList := Value.int IntKind.i64 k :: [].append (zeros (nat_lit 0) [Value.int IntKind.i64 (0 : Int)]) } (3 : TypeId))]) [H] rfl ?_ (srPut_ct _ _ _ _ _ _ _ _ _ _ _ oA (by first | exact piece_lit (by unfold okI; omega) hk) ?_) trivial ?_
          ·exact rlA
          ·omega
          rintro _ A17 ⟨bg, cg, Ag, rfl, rfl, og⟩
          refine ⟨_, _, [Ag], rfl, perm1, ?_⟩
          apply loop_stepA (f - 1, ((ps2.length : Nat) : Int), p2 + 1, _, _, _, _)
          ·exact .refl _
          ·exact frI
          ·((rw [hw3]); repeat' (first | exact trivial | refine ⟨by first | rfl | simp [Blk.ent], ?_⟩))
          ·try dsimp only
           exact ⟨(congrArg some (post_go (by omega) (by omega))).symm.trans hf, by omega, by omega, by omega, by rw [List.length_append, List.length_singleton]; omega, by unfold okI; omega, by assumption⟩
          try dsimp only
          omega
        ·simp at q14
         simp only [byte_p] at q14
         (have hw3 : IntKind.i64.wrap ((p2 : Int) + 1) = ((p2 + 1 : Nat) : Int) := (by rw [wrap_of (by omega) (by omega)]; omega))
         refine ⟨fun q18 => ?_, fun q18 => ?_⟩
         ·simp at q18
          (have hw3 : IntKind.i64.wrap ((p2 : Int) + 1) = ((p2 + 1 : Nat) : Int) := (by rw [wrap_of (by omega) (by omega)]; omega))
          exact ⟨_, sr_yes (one_true hf.symm) (hf.symm.trans (congrArg some (post_end (by assumption) (by assumption) (by assumption)))) oA hk hp2 hpp hps2, rlB⟩
         ·simp at q18
     ·simp at q5
      (have hw3 : IntKind.i64.wrap ((p2 : Int) + 1) = ((p2 + 1 : Nat) : Int) := (by rw [wrap_of (by omega) (by omega)]; omega))
      exact ⟨_, sr_yes (one_true hf.symm) (hf.symm.trans (congrArg some (post_stop (by omega)))) oA hk hp2 hpp hps2, rlB⟩
    ·simp at q3
     simp only [byte_p] at q3
     refine ⟨fun q19 => ?_, fun q19 => ?_⟩
     ·simp at q19
      simp only [byte_p] at q19
      exfalso; omega
     ·simp at q19
      simp only [byte_p] at q19
      (rw [hw]; exact ⟨_, sr_no (p' := p + 1) (one_false (one_no_char (by omega) (by assumption))) hA (by unfold okI; omega) (by omega) (by omega) (by omega), rlB⟩)
   ·simp at q2
    simp only [byte_p] at q2
    refine ⟨fun q20 => ?_, fun q20 => ?_⟩
    ·simp at q20
     simp only [byte_p] at q20
     refine callR_blk 0 (A) [H] rfl ?_ (hI _ _ (p + 1) _ _ _ _ hw ⟨?_, ?_⟩ ?_ hA) trivial ?_
     ·exact .refl _
     ·trivial
     ·omega
     ·omega
     rintro _ A21 ⟨kz, pz, sz, bdz, bz, cz, Az, rfl, rfl, oz, hgz, hz, hkz, hpz, hqz, hsz⟩
     refine ⟨_, _, [Az], rfl, perm1, ?_⟩
     refine draw G_ok mixed none (.q 0 (.q 1 (.q 2 (.q 3 (.q 4 (.q 5 (.q 6 (.q 7 (.q 8 (.q 9 (.q 10 (.q 11 (.q 12 (.q 13 (.q 14 (.q 15 (.q 16 (.q 17 (.q 18 (.q 19 (.q 20 (.q 21 (.q 22 (.q 23 (.q 24 (.q 25 (.q 26 (.q 27 (.nil))))))))))))))))))))))))))))) (by decide +kernel) ?_
     refine ⟨fun q22 => ?_, fun q22 => ?_⟩
     ·(obtain rfl : bdz = true := q22)
      exact ⟨_, sr_no (p' := pz) (one_false (one_par_bad (by assumption) (by simpa using hgz))) oz (by unfold okI; omega) hpz (by omega) (by omega), rlB⟩
     ·(obtain rfl : bdz = false := q22; have hgd : goodR sAlts t (pExpr t n (p + 1) ps) = true := (by simpa using hgz); obtain ⟨e1, e2, e3⟩ := hz hgd; subst e1; subst e2; subst e3; have hr := expr_reads (n := n) (by omega) (good_is hgd); unfold ReadsR at hr)
      refine ⟨fun q23 => ?_, fun q23 => ?_⟩
      ·simp at q23
       exact ⟨_, sr_no (p' := prP (pExpr t n (p + 1) ps)) (one_false (one_par_no (by assumption) (good_is hgd) (by rw [byteAt_end (by omega)]; decide))) oz (by unfold okI; omega) hpz (by omega) (by omega), rlB⟩
      ·simp at q23
       refine VC.intro ?_ ?_
       ·omega
       refine ⟨fun q24 => ?_, fun q24 => ?_⟩
       ·simp at q24
        simp only [byte_p] at q24
        exact ⟨_, sr_no (p' := prP (pExpr t n (p + 1) ps)) (one_false (one_par_no (by assumption) (good_is hgd) (by assumption))) oz (by unfold okI; omega) hpz (by omega) (by omega), rlB⟩
       ·simp at q24
        simp only [byte_p] at q24
        have hw2 : IntKind.i64.wrap ((prP (pExpr t n (p + 1) ps) : Int) + 1) = ((prP (pExpr t n (p + 1) ps) + 1 : Nat) : Int) := by (rw [wrap_of (by omega) (by omega)]; omega)
        have hit := one_par ‹((byteAt t p).toNat : Int) = 40› (good_is hgd) ‹((byteAt t (prP (pExpr t n (p + 1) ps))).toNat : Int) = 41›
        apply loop_mod (α := (Nat) × (Int) × (Nat) × (List Piece) × (Hp) × (Option Addr) × (Nat)) G_ok [100, 101, 102, 103, 104, 105, 106, 107, 108, 109, 5, 110, 111, 112, 113, 114, 115, 116, 117, 118, 120, 119, 122, 121, 124, 123, 125, 126, 127, 128, 129, 130, 131, 132, 133, 134, 135, 136, 137, 138, 139, 140, 4] (fun z => [(4, .v (.int .i64 z.2.1))]) (fun z => [⟨q, [Value.string t, .int .i64 (z.2.2.1 : Nat), .bool false, .slice z.2.2.2.2.2.1 z.2.2.2.1.length z.2.2.2.2.2.2], (244 : TypeId)⟩]) (fun z => [z.2.2.2.2.1, H]) (fun z => t.size - z.2.2.1) (fun z => some (pPost t z.1 z.2.1 z.2.2.1 z.2.2.2.1) = pOne t (pExpr t n) p ps ∧ t.size < z.1 + z.2.2.1 ∧ z.2.2.1 ≤ t.size ∧ p ≤ z.2.2.1 ∧ z.2.2.2.1.length + 2 * p ≤ ps.length + 2 * z.2.2.1 ∧ okI z.2.1 ∧ (gSl 279 gPiece).ow [.slice z.2.2.2.2.2.1 z.2.2.2.1.length z.2.2.2.2.2.2] z.2.2.2.1 z.2.2.2.2.1) ((t.size + 1, prK (pExpr t n (p + 1) ps), prP (pExpr t n (p + 1) ps) + 1, prS (pExpr t n (p + 1) ps), Az, bz, cz))
        ·exact frI
        ·((rw [hw2]); repeat' (first | exact trivial | refine ⟨by first | rfl | simp [Blk.ent], ?_⟩))
        ·try dsimp only
         exact ⟨hit.symm, by omega, by omega, by omega, by omega, hkz, oz⟩
        ·exact .refl _
        rintro ⟨f, k, p2, ps2, A, lb, lc⟩ hI
        try dsimp only at hI
        obtain ⟨hf, hfu, hp2, hpp, hps2, hk, oA⟩ := hI
        try dsimp only
        refine draw G_ok mixed none (.q 0 (.q 1 (.q 2 (.q 3 (.q 4 (.q 5 (.q 6 (.q 7 (.q 8 (.q 9 (.nil))))))))))) (by decide +kernel) ?_
        refine ⟨fun q25 => ?_, fun q25 => ?_⟩
        ·simp at q25
         (have hw3 : IntKind.i64.wrap ((p2 : Int) + 1) = ((p2 + 1 : Nat) : Int) := (by rw [wrap_of (by omega) (by omega)]; omega))
         refine draw G_ok mixed none (.q 0 (.q 1 (.q 2 (.q 3 (.q 4 (.q 5 (.q 6 (.q 7 (.q 8 (.nil)))))))))) (by decide +kernel) ?_
         refine VC.intro ?_ ?_
         ·omega
         refine ⟨fun q26 => ?_, fun q26 => ?_⟩
         ·simp at q26
          simp only [byte_p] at q26
          (have hw3 : IntKind.i64.wrap ((p2 : Int) + 1) = ((p2 + 1 : Nat) : Int) := (by rw [wrap_of (by omega) (by omega)]; omega))
          refine ⟨fun q27 => ?_, fun q27 => ?_⟩
          ·simp at q27
          ·simp at q27
           (have hw3 : IntKind.i64.wrap ((p2 : Int) + 1) = ((p2 + 1 : Nat) : Int) := (by rw [wrap_of (by omega) (by omega)]; omega))
           refine ⟨fun x28 => ?_⟩
           refine callR_blk 0 (A ++ [(x28, Obj.cells { toList := Value.int IntKind.i64 k :: [].append (zeros (nat_lit 0) [Value.int IntKind.i64 (0 : Int)]) } (3 : TypeId))]) [H] rfl ?_ (srPut_ct _ _ _ _ _ _ _ _ _ _ _ oA (by first | exact piece_lit (by unfold okI; omega) hk) ?_) trivial ?_
           ·exact rlA
           ·omega
           rintro _ A29 ⟨bg, cg, Ag, rfl, rfl, og⟩
           refine ⟨_, _, [Ag], rfl, perm1, ?_⟩
           apply loop_stepA (f - 1, ((ps2.length : Nat) : Int), p2 + 1, _, _, _, _)
           ·exact .refl _
           ·exact frI
           ·((rw [hw3]); repeat' (first | exact trivial | refine ⟨by first | rfl | simp [Blk.ent], ?_⟩))
           ·try dsimp only
            exact ⟨(congrArg some (post_go (by omega) (by omega))).symm.trans hf, by omega, by omega, by omega, by rw [List.length_append, List.length_singleton]; omega, by unfold okI; omega, by assumption⟩
           try dsimp only
           omega
         ·simp at q26
          simp only [byte_p] at q26
          (have hw3 : IntKind.i64.wrap ((p2 : Int) + 1) = ((p2 + 1 : Nat) : Int) := (by rw [wrap_of (by omega) (by omega)]; omega))
          refine ⟨fun q30 => ?_, fun q30 => ?_⟩
          ·simp at q30
           simp only [byte_p] at q30
           (have hw3 : IntKind.i64.wrap ((p2 : Int) + 1) = ((p2 + 1 : Nat) : Int) := (by rw [wrap_of (by omega) (by omega)]; omega))
           refine ⟨fun q31 => ?_, fun q31 => ?_⟩
           ·simp at q31
           ·simp at q31
            (have hw3 : IntKind.i64.wrap ((p2 : Int) + 1) = ((p2 + 1 : Nat) : Int) := (by rw [wrap_of (by omega) (by omega)]; omega))
            refine ⟨fun x32 => ?_⟩
            refine callR_blk 0 (A ++ [(x32, Obj.cells { toList := Value.int IntKind.i64 k :: [].append (zeros (nat_lit 0) [Value.int IntKind.i64 (0 : Int)]) } (3 : TypeId))]) [H] rfl ?_ (srPut_ct _ _ _ _ _ _ _ _ _ _ _ oA (by first | exact piece_lit (by unfold okI; omega) hk) ?_) trivial ?_
            ·exact rlA
            ·omega
            rintro _ A33 ⟨bg, cg, Ag, rfl, rfl, og⟩
            refine ⟨_, _, [Ag], rfl, perm1, ?_⟩
            apply loop_stepA (f - 1, ((ps2.length : Nat) : Int), p2 + 1, _, _, _, _)
            ·exact .refl _
            ·exact frI
            ·((rw [hw3]); repeat' (first | exact trivial | refine ⟨by first | rfl | simp [Blk.ent], ?_⟩))
            ·try dsimp only
             exact ⟨(congrArg some (post_go (by omega) (by omega))).symm.trans hf, by omega, by omega, by omega, by rw [List.length_append, List.length_singleton]; omega, by unfold okI; omega, by assumption⟩
            try dsimp only
            omega
          ·simp at q30
           simp only [byte_p] at q30
           (have hw3 : IntKind.i64.wrap ((p2 : Int) + 1) = ((p2 + 1 : Nat) : Int) := (by rw [wrap_of (by omega) (by omega)]; omega))
           refine ⟨fun q34 => ?_, fun q34 => ?_⟩
           ·simp at q34
            simp only [byte_p] at q34
            (have hw3 : IntKind.i64.wrap ((p2 : Int) + 1) = ((p2 + 1 : Nat) : Int) := (by rw [wrap_of (by omega) (by omega)]; omega))
            refine ⟨fun q35 => ?_, fun q35 => ?_⟩
            ·simp at q35
            ·simp at q35
             (have hw3 : IntKind.i64.wrap ((p2 : Int) + 1) = ((p2 + 1 : Nat) : Int) := (by rw [wrap_of (by omega) (by omega)]; omega))
             refine ⟨fun x36 => ?_⟩
             refine callR_blk 0 (A ++ [(x36, Obj.cells { toList := Value.int IntKind.i64 k :: [].append (zeros (nat_lit 0) [Value.int IntKind.i64 (0 : Int)]) } (3 : TypeId))]) [H] rfl ?_ (srPut_ct _ _ _ _ _ _ _ _ _ _ _ oA (by first | exact piece_lit (by unfold okI; omega) hk) ?_) trivial ?_
             ·exact rlA
             ·omega
             rintro _ A37 ⟨bg, cg, Ag, rfl, rfl, og⟩
             refine ⟨_, _, [Ag], rfl, perm1, ?_⟩
             apply loop_stepA (f - 1, ((ps2.length : Nat) : Int), p2 + 1, _, _, _, _)
             ·exact .refl _
             ·exact frI
             ·((rw [hw3]); repeat' (first | exact trivial | refine ⟨by first | rfl | simp [Blk.ent], ?_⟩))
             ·try dsimp only
              exact ⟨(congrArg some (post_go (by omega) (by omega))).symm.trans hf, by omega, by omega, by omega, by rw [List.length_append, List.length_singleton]; omega, by unfold okI; omega, by assumption⟩
             try dsimp only
             omega
           ·simp at q34
            simp only [byte_p] at q34
            (have hw3 : IntKind.i64.wrap ((p2 : Int) + 1) = ((p2 + 1 : Nat) : Int) := (by rw [wrap_of (by omega) (by omega)]; omega))
            refine ⟨fun q38 => ?_, fun q38 => ?_⟩
            ·simp at q38
             (have hw3 : IntKind.i64.wrap ((p2 : Int) + 1) = ((p2 + 1 : Nat) : Int) := (by rw [wrap_of (by omega) (by omega)]; omega))
             exact ⟨_, sr_yes (one_true hf.symm) (hf.symm.trans (congrArg some (post_end (by assumption) (by assumption) (by assumption)))) oA hk hp2 hpp hps2, rlB⟩
            ·simp at q38
        ·simp at q25
         (have hw3 : IntKind.i64.wrap ((p2 : Int) + 1) = ((p2 + 1 : Nat) : Int) := (by rw [wrap_of (by omega) (by omega)]; omega))
         exact ⟨_, sr_yes (one_true hf.symm) (hf.symm.trans (congrArg some (post_stop (by omega)))) oA hk hp2 hpp hps2, rlB⟩
    ·simp at q20
     simp only [byte_p] at q20
     (rw [hw]; exact ⟨_, sr_no (p' := p + 1) (one_false (one_no_char (by omega) (by assumption))) hA (by unfold okI; omega) (by omega) (by omega) (by omega), rlB⟩)
theorem sr_all (t : ByteArray) (ht : t.size ≤ 20) : ∀ n, SrCt 173 sAlts (pExpr t n) t (fun p => p ≤ t.size ∧ t.size < n + p)
 | 0 => by
  intro q pi p ps b c A _ hP
  have := hP.1; have := hP.2; omega
 | n + 1 => srAlts_ct t n ht (srRow_ct t n ht (srOne_ct t n ht (sr_all t ht n)))
theorem rpt_bad {t : ByteArray} (h0 : t.size ≤ 20) (h : goodR sAlts t (pExpr t (t.size + 1) 0 []) = false) : readPath t = none := by
 cases hE : (pExpr t (t.size + 1) 0 []).isSome with
 | false => exact rpt_no (pr_none hE)
 | true =>
  rw [rpt_at h0 hE]
  refine if_neg fun h1 => ?_
  unfold goodR at h
  rw [hE, h1.1, decide_eq_true (Nat.le_refl _)] at h
  simp at h
theorem specReadPath_ct (t : ByteArray) (hs : t.size ≤ 1152921504606846976) : Ct prog 140 [.string t] [] (fun _ => True) (fun v A => ∃ b c, v = .tuple #[.agg ⟨[.slice b (rpPath t).pieces.length c]⟩, .bool (readPath t).isSome] ∧ (gSl 279 gPiece).ow [.slice b (rpPath t).pieces.length c] (rpPath t).pieces A) := by
 refine Ct.intro0 G_ok func140 rfl rfl rfl fun E H hp => ?_
 refine ⟨fun x0 => ?_⟩
 refine ⟨fun q1 => ?_, fun q1 => ?_⟩
 ·simp at q1
  (obtain ⟨e1, e2⟩ := rpt_none (rpt_long (t := t) (by omega)); rw [e1, e2]; exact ⟨_, ⟨none, 0, rfl, sl_nil _ _ _⟩, rlB⟩)
 ·simp at q1
  refine ⟨fun x2 => ?_⟩
  refine callR_blk 1 ([]) [H] rfl ?_ (sr_all t ?_ (t.size + 1) _ _ 0 [] _ _ _ rfl ⟨?_, ?_⟩ ?_ (sl_nil _ _ _)) trivial ?_
  ·exact .refl _
  ·omega
  ·omega
  ·omega
  ·trivial
  rintro _ A3 ⟨kz, pz, sz, bdz, bz, cz, Az, rfl, rfl, oz, hgz, hz, hkz, hpz, hqz, hsz⟩
  refine ⟨_, _, [Az], rfl, perm1, ?_⟩
  refine ⟨fun x4 => ?_⟩
  refine ⟨fun q5 => ?_, fun q5 => ?_⟩
  ·(obtain rfl : bdz = true := q5)
   (obtain ⟨e1, e2⟩ := rpt_none (rpt_bad (t := t) (by omega) (by simpa using hgz)); rw [e1, e2]; exact ⟨[], ⟨none, 0, rfl, sl_nil _ _ _⟩, .mem (by simp)⟩)
  ·(obtain rfl : bdz = false := q5; have hgd : goodR sAlts t (pExpr t (t.size + 1) 0 []) = true := (by simpa using hgz); obtain ⟨e1, e2, e3⟩ := hz hgd; subst e1; subst e2; subst e3)
   refine ⟨fun q6 => ?_, fun q6 => ?_⟩
   ·simp at q6
    (obtain ⟨e1, e2⟩ := rpt_none ((rpt_at (by omega) (good_is hgd)).trans (if_neg (by omega))); rw [e1, e2]; exact ⟨[], ⟨none, 0, rfl, sl_nil _ _ _⟩, .mem (by simp)⟩)
   ·simp at q6
    have rP : gPath.rd Az [.slice bz (prS (pExpr t (t.size + 1) 0 [])).length cz] ⟨prS (pExpr t (t.size + 1) 0 [])⟩ := gPath_rd.2 ⟨bz, cz, rfl, Gt.owrd _ oz⟩
    refine call_val (specPathOk_ct _ ({ pieces := prS (pExpr t (t.size + (1 : Nat)) (0 : Nat) []) })) (Rp.mono _ (mem_at 0 rfl) rP) ?_
    rintro _ rfl
    refine ⟨fun q8 => ?_, fun q8 => ?_⟩
    ·simp at q8
     (obtain ⟨e1, e2⟩ := rpt_none ((rpt_at (by omega) (good_is hgd)).trans (if_neg (fun h => by (have h9 := ‹pathOk ⟨prS (pExpr t (t.size + 1) 0 [])⟩ = false›; rw [h.2] at h9; cases h9)))); rw [e1, e2]; exact ⟨[], ⟨none, 0, rfl, sl_nil _ _ _⟩, .mem (by simp)⟩)
    ·simp at q8
     (obtain ⟨e1, e2⟩ := rpt_some ((rpt_at (by omega) (good_is hgd)).trans (if_pos ⟨by omega, ‹pathOk ⟨prS (pExpr t (t.size + 1) 0 [])⟩ = true›⟩)); rw [e1, e2]; exact ⟨_, ⟨_, _, rfl, oz⟩, rlB⟩)
end
section
attribute [local irreducible] IntKind.wrap
theorem w64u (x : Int) : IntKind.u64.wrap x = x % 18446744073709551616 := by
 unfold IntKind.wrap; simp [IntKind.bits, IntKind.signed]
theorem bit_at {s k : Nat} (hs : s < 4294967296) (hk : k < 32) : IntKind.u32.wrap (((BitVec.ofInt IntKind.u32.bits (((s : Nat) : Int).fdiv (2 ^ min (IntKind.u64.wrap (k : Int)).toNat IntKind.u32.bits)) &&& BitVec.ofInt IntKind.u32.bits 1).toNat : Nat) : Int) = if s.testBit k = true then 1 else 0 := by
 have e1 : (IntKind.u64.wrap (k : Int)).toNat = k := by rw [w64u]; omega
 have e2 : (2 : Int) ^ min k IntKind.u32.bits = ((2 ^ k : Nat) : Int) := by
  rw [show min k IntKind.u32.bits = k from Nat.min_eq_left (by show k ≤ 32; omega)]; push_cast; rfl
 have e3 : ((s : Nat) : Int).fdiv ((2 ^ k : Nat) : Int) = ((s / 2 ^ k : Nat) : Int) := by
  rw [Int.fdiv_eq_ediv_of_nonneg _ (Int.natCast_nonneg _)]; rfl
 rw [e1, e2, e3, u32_wrap, Nat.testBit_eq_decide_div_mod_eq]
 have h1 : s / 2 ^ k ≤ s := Nat.div_le_self _ _
 generalize s / 2 ^ k = x at *
 show (((BitVec.ofInt 32 (x : Int) &&& BitVec.ofInt 32 ((1 : Nat) : Int)).toNat : Nat) : Int) % 4294967296 = _
 rw [show BitVec.ofInt 32 (x : Int) = BitVec.ofNat 32 x by simp, show BitVec.ofInt 32 ((1 : Nat) : Int) = BitVec.ofNat 32 1 by simp, BitVec.toNat_and, BitVec.toNat_ofNat, BitVec.toNat_ofNat, Nat.mod_eq_of_lt (show x < 2 ^ 32 by omega), show (1 : Nat) % 2 ^ 32 = 1 from rfl, Nat.and_one_is_mod]
 rcases Nat.mod_two_eq_zero_or_one x with h | h
 ·rw [h]; simp
 rw [h]; simp
def bitsL (s : Nat) (n : Nat) : List Int := ((List.range n).filter fun i => s.testBit i).map fun i => ((i : Nat) : Int)
theorem bitsL_yes {s k : Nat} (h : s.testBit k = true) : bitsL s (k + 1) = bitsL s k ++ [((k : Nat) : Int)] := by
 unfold bitsL; rw [List.range_succ, List.filter_append, List.map_append, List.filter_cons_of_pos (by simpa using h)]; rfl
theorem bitsL_no {s k : Nat} (h : s.testBit k = false) : bitsL s (k + 1) = bitsL s k := by
 unfold bitsL; rw [List.range_succ, List.filter_append, List.map_append, List.filter_cons_of_neg (by simp [h])]; simp
theorem bitsL_len (s n : Nat) : (bitsL s n).length ≤ n := by
 unfold bitsL; rw [List.length_map]; exact Nat.le_trans (List.length_filter_le _ _) (by simp)
theorem bitsIn_ct (s : Nat) (hs : s < 4294967296) : Ct prog 213 [.int .u32 (s : Int)] [] (fun _ => True) (fun v A => ∃ b c, v = .slice b (bitsL s 32).length c ∧ (gSl 3 gI).ow [.slice b (bitsL s 32).length c] (bitsL s 32) A) := by
 refine Ct.intro0 G_ok func213 rfl rfl rfl fun E H hp => ?_
 apply loop_mod (α := (Nat) × (Hp) × (Option Addr) × (Nat)) G_ok [6, 7, 4, 8, 9, 10, 11, 12, 13, 14, 15, 16, 17, 3, 18, 5] (fun z => [(5, .v (.int .i64 z.1)), (3, .v (.slice z.2.2.1 (bitsL s z.1).length z.2.2.2))]) (fun z => []) (fun z => [z.2.1, H]) (fun z => 32 - z.1) (fun z => z.1 ≤ 32 ∧ (gSl 3 gI).ow [.slice z.2.2.1 (bitsL s z.1).length z.2.2.2] (bitsL s z.1) z.2.1) ((0, [], none, 0))
 ·repeat' (first | exact trivial | refine ⟨⟨_, rfl, by first | rfl | exact inc_eq _ (by omega) | (refine sl_eq ?_; simp; done) | (refine sl_eq ?_; rw [bitsL_yes (by assumption)]) | (refine sl_eq ?_; rw [bitsL_no (by assumption)]), by first | exact trivial | simp [SV.ok]⟩, ?_⟩)
 ·exact trivial
 ·try dsimp only
  exact ⟨by omega, sl_nil _ _ _⟩
 ·exact .refl _
 rintro ⟨k, A, lb, lc⟩ hI
 try dsimp only at hI
 obtain ⟨hk, oA⟩ := hI
 try dsimp only
 refine ⟨fun q0 => ?_, fun q0 => ?_⟩
 ·simp at q0
  refine VC.intro ?_ ?_
  ·(rw [w64u]; omega)
  refine ⟨fun q1 => ?_, fun q1 => ?_⟩
  ·rw [bit_at hs (by omega)] at q1
   simp at q1
   refine ⟨fun x2 => ?_⟩
   refine gappend1 (g := gI) (T := (3 : TypeId)) G_ok A [] [H] ?_ oA (gI_ow ?_) (List.mem_of_getElem? (i := 0) rfl) rfl rfl rfl rfl rfl rfl rfl rfl ?_ fun b3 c3 A3 o3 => ?_
   ·exact .tl
   ·unfold okI; omega
   ·(have := bitsL_len s k; omega)
   apply loop_stepA (k + 1, _, _, _)
   ·exact .refl _
   ·repeat' (first | exact trivial | refine ⟨⟨_, rfl, by first | rfl | exact inc_eq _ (by omega) | (refine sl_eq ?_; simp; done) | (refine sl_eq ?_; rw [bitsL_yes (by assumption)]) | (refine sl_eq ?_; rw [bitsL_no (by assumption)]), by first | exact trivial | simp [SV.ok]⟩, ?_⟩)
   ·exact trivial
   ·try dsimp only
    (rw [bitsL_yes (by assumption)]; exact ⟨by omega, by assumption⟩)
   try dsimp only
   omega
  ·rw [bit_at hs (by omega)] at q1
   simp at q1
   apply loop_stepA (k + 1, _, _, _)
   ·exact .refl _
   ·repeat' (first | exact trivial | refine ⟨⟨_, rfl, by first | rfl | exact inc_eq _ (by omega) | (refine sl_eq ?_; simp; done) | (refine sl_eq ?_; rw [bitsL_yes (by assumption)]) | (refine sl_eq ?_; rw [bitsL_no (by assumption)]), by first | exact trivial | simp [SV.ok]⟩, ?_⟩)
   ·exact trivial
   ·try dsimp only
    (rw [bitsL_no (by assumption)]; exact ⟨by omega, by assumption⟩)
   try dsimp only
   omega
 ·simp at q0
  (obtain rfl : k = 32 := (by omega); exact ⟨_, ⟨_, _, rfl, oA⟩, rlB⟩)
end
section
attribute [local irreducible] IntKind.wrap
def flU : Fl Nat := ⟨1, fun x => [.int .u32 (x : Int)], fun x => x < 4294967296, fun _ => rfl, fun _ => rfl, by omega⟩
def gU : Gt Nat := flU.gt fun _ => 0
theorem gU_ow {x : Nat} (h : x < 4294967296) : gU.ow [.int .u32 (x : Int)] x [] := ⟨rfl, h, rfl⟩
theorem gU_pl : ∀ l y A, gU.ow l y A → A = [] := fun _ _ _ h => h.2.2
theorem gU_st {z : Int} (h : 0 ≤ z ∧ z < 4294967296) : gU.ow [.int .u32 z] z.toNat [] := ⟨by rw [show flU.enc z.toNat = [.int .u32 ((z.toNat : Nat) : Int)] from rfl, Int.toNat_of_nonneg h.1], by show z.toNat < 4294967296; omega, rfl⟩
theorem or_u32 {a b : Nat} (ha : a < 4294967296) (hb : b < 4294967296) : IntKind.u32.wrap (((BitVec.ofInt IntKind.u32.bits ((a : Nat) : Int) ||| BitVec.ofInt IntKind.u32.bits ((b : Nat) : Int)).toNat : Nat) : Int) = ((a ||| b : Nat) : Int) := by
 rw [u32_wrap]
 show (((BitVec.ofInt 32 (a : Int) ||| BitVec.ofInt 32 (b : Int)).toNat : Nat) : Int) % 4294967296 = _
 rw [show BitVec.ofInt 32 (a : Int) = BitVec.ofNat 32 a by simp, show BitVec.ofInt 32 (b : Int) = BitVec.ofNat 32 b by simp, BitVec.toNat_or, BitVec.toNat_ofNat, BitVec.toNat_ofNat, Nat.mod_eq_of_lt (show a < 2 ^ 32 from ha), Nat.mod_eq_of_lt (show b < 2 ^ 32 from hb)]
 have := Nat.or_lt_two_pow (n := 32) (show a < 2 ^ 32 from ha) (show b < 2 ^ 32 from hb)
 omega
def orStep (next : Nat) (fo : List Nat) (i : Int) : List Nat := fo.set i.toNat ((fo[i.toNat]?.getD 0) ||| next)
def orL (fo : List Nat) (l : List Int) (next : Nat) : List Nat := l.foldl (orStep next) fo
def orAt (fo : List Nat) (last next : Nat) : List Nat := orL fo (bitsL last 32) next
theorem orL_len (next : Nat) : ∀ (l : List Int) (fo : List Nat), (orL fo l next).length = fo.length
 | [], _ => rfl
 | i :: l, fo => by
  show (orL (orStep next fo i) l next).length = _
  rw [orL_len next l, orStep, List.length_set]
theorem orL_next {fo : List Nat} {l : List Int} {next k : Nat} (hk : k < l.length) : orL fo (l.take (k + 1)) next = orStep next (orL fo (l.take k) next) (l[k]?.getD 0) := by
 unfold orL
 rw [← List.take_append_getElem hk, List.foldl_append, List.getElem?_eq_getElem hk]; rfl
theorem bitsL_at {s n : Nat} {i : Int} (h : i ∈ bitsL s n) : 0 ≤ i ∧ i < n ∧ s.testBit i.toNat = true := by
 unfold bitsL at h
 obtain ⟨j, hj, rfl⟩ := List.mem_map.1 h
 obtain ⟨h1, h2⟩ := List.mem_filter.1 hj
 have := List.mem_range.1 h1
 exact ⟨by omega, by omega, by simpa using h2⟩
theorem bit_lt {s n i : Nat} (hs : s < 2 ^ n) (h : s.testBit i = true) : i < n := by
 rcases Nat.lt_or_ge i n with h1 | h1
 ·exact h1
 rw [Nat.testBit_lt_two_pow (Nat.lt_of_lt_of_le hs (Nat.pow_le_pow_right (by omega) h1))] at h; cases h
theorem bitsL_get {s n k : Nat} (hs : s < 2 ^ n) (hk : k < (bitsL s 32).length) : 0 ≤ ((bitsL s 32)[k]?.getD 0) ∧ ((bitsL s 32)[k]?.getD 0) < n := by
 rw [List.getElem?_eq_getElem hk]
 have h1 := bitsL_at (List.getElem_mem hk)
 have h2 := bit_lt hs h1.2.2
 simp only [Option.getD_some]
 omega
theorem psConnect_ct (q : Nat) (v0 v1 : Value) (b : Option Addr) (c : Nat) (fo : List Nat) (last next : Nat) (A : Hp) (hA : (gSl 301 gU).ow [.slice b fo.length c] fo A) (hn : next < 4294967296) (hl : last < 2 ^ fo.length) (hf : fo.length ≤ 32) :
  CtR prog 227 [.pointer (some ⟨q, 0, none⟩), .int .u32 (last : Int), .int .u32 (next : Int)] ((q, Obj.cells ⟨[v0, v1, .slice b fo.length c]⟩ 300) :: A) (fun _ => True)
   (fun r D => ∃ b c A', r = .tuple #[] ∧ D = (q, Obj.cells ⟨[v0, v1, .slice b (orAt fo last next).length c]⟩ 300) :: A' ∧ (gSl 301 gU).ow [.slice b (orAt fo last next).length c] (orAt fo last next) A') := by
 have hl32 : last < 4294967296 := Nat.lt_of_lt_of_le hl (by have := Nat.pow_le_pow_right (n := 2) (by omega) hf; omega)
 refine CtR.introB G_ok [.p 0 0, .v (.int .u32 (last : Int)), .v (.int .u32 (next : Int))] [⟨q, [v0, v1, .slice b fo.length c], 300⟩] [A] func227 rfl rfl rfl rfl (by simp [SV.ok]) (by simp [Blk.ent]) fun E H hp => ?_
 have hbl := bitsL_len last 32
 refine call_new (bitsIn_ct _ ?_) trivial ?_
 ·trivial
 rintro v0 A0 o0
 obtain ⟨b0, c0, rfl, o0⟩ := o0
 apply loop_mod (α := (Nat) × (List Nat) × (Hp)) G_ok [12, 13, 14, 7, 15, 16, 17, 18, 19, 20, 21, 22, 23, 24, 25, 11] (fun z => [(11, .v (.int .i64 z.1))]) (fun z => [⟨q, [v0, v1, .slice b fo.length c], (300 : TypeId)⟩]) (fun z => [A0, z.2.2, H]) (fun z => (bitsL last 32).length - z.1) (fun z => z.1 ≤ (bitsL last 32).length ∧ z.2.1 = orL fo ((bitsL last 32).take z.1) next ∧ z.2.1.length = fo.length ∧ (gSl 301 gU).ow [.slice b fo.length c] z.2.1 z.2.2) ((0, fo, A))
 ·exact frI
 ·exact ⟨rfl, trivial⟩
 ·try dsimp only
  exact ⟨Nat.zero_le _, rfl, rfl, hA⟩
 ·exact .refl _
 rintro ⟨k, fs, A⟩ hI
 try dsimp only at hI
 obtain ⟨hk, hfs, hfl, oA⟩ := hI
 try dsimp only
 refine ⟨fun q1 => ?_, fun q1 => ?_⟩
 ·simp at q1
  have hbg := bitsL_get hl (by omega : k < (bitsL last 32).length)
  refine idx_rd (Gt.owrd _ o0) ?_ ?_ fun b2 o2 hb2 => ?_
  ·omega
  ·omega
  refine load_allN 0 (k) rfl (Gt.owrd _ o0) ?_ ?_ hb2 rfl (mem_at 0 rfl) fun l3 hl3 => ?_
  ·omega
  ·omega
  obtain ⟨rfl, hw3⟩ := hl3; simp only [flStr, flInt, okI] at hw3
  refine idx_rd (Gt.owrd _ oA) ?_ ?_ fun b4 o4 hb4 => ?_
  ·omega
  ·omega
  refine load_all default (Gt.owrd _ oA) ?_ ?_ hb4 rfl (mem_at 1 rfl) fun l5 hl5 => ?_
  ·omega
  ·omega
  obtain ⟨rfl, hw5⟩ := hl5; simp only [flU] at hw5
  refine idx_rd (Gt.owrd _ oA) ?_ ?_ fun b6 o6 hb6 => ?_
  ·omega
  ·omega
  refine gstoreN (Fld.id _) default (Int.toNat ((bitsL last (32 : Nat))[k]?.getD (0 : Int))) 1 rfl (Int.toNat_of_nonneg ?_).symm oA ?_ ?_ hb6 rfl gU_pl _ (gU_st ?_) fun A7 o7 => ?_
  ·omega
  ·omega
  ·omega
  ·(rw [or_u32 (by omega) (by omega)]; have h9 := Nat.or_lt_two_pow (n := 32) (x := fs[((bitsL last 32)[k]?.getD 0).toNat]?.getD default) (y := next) (by omega) (by omega); omega)
  apply loop_stepA (k + 1, orStep next fs ((bitsL last 32)[k]?.getD 0), _)
  ·exact .refl _
  ·exact frI
  ·exact ⟨rfl, trivial⟩
  ·try dsimp only
   (have e9 := orL_next (fo := fo) (next := next) (k := k) (l := bitsL last 32) (by omega); exact ⟨by omega, by rw [e9, hfs], by unfold orStep; rw [List.length_set, hfl], by unfold orStep; rw [or_u32 (by omega) (by omega), Int.toNat_natCast] at *; assumption⟩)
  try dsimp only
  omega
 ·simp at q1
  (have hke : k = (bitsL last 32).length := (by omega); subst hke; rw [List.take_length] at hfs; have hle : (orAt fo last next).length = fo.length := orL_len _ _ _; rw [hle]; subst hfs; exact ⟨_, ⟨_, _, _, rfl, rfl, oA⟩, rlB⟩)
end
end Go.Proofs.YtcnclhjhnjpeiaaGreatDoor
