/-
  A new ring, on both sides. Conditions: none.
-/
import Derived.Test.YthihffgmmkhlhaaDc
import Derived.Test.YthihffgmmkhlhaaEa
namespace Go.Proofs.Ythihffgmmkhlhaa
open Go.SX Go.Proofs
set_option linter.unusedSimpArgs false
set_option linter.unusedVariables false
set_option maxHeartbeats 4000000

def ringNew (n : Nat) : Ring := ⟨List.replicate n true, List.replicate n 0, List.replicate n false, [], 0, 0, true, false⟩
def ring0 : Ring := ⟨[], [], [], [], 0, 0, false, false⟩

theorem own0 : OwR (.agg ⟨ringCells ring0 none none none none 0 0 0 0⟩) ring0 [] :=
  ⟨none, none, none, none, 0, 0, 0, 0, [], [], [], [], rfl, rfl, Ow.nil _ _, Ow.nil _ _, Ow.nil _ _, Ow.nil _ _, by unfold okI ring0; simp, by unfold okI ring0; simp⟩

theorem rep_step {α : Type} (x z : α) (k m : Nat) (h : k < m) : (List.replicate k x ++ List.replicate (m - k) z).set k x = List.replicate (k + 1) x ++ List.replicate (m - (k + 1)) z := by
  obtain ⟨j, rfl⟩ : ∃ j, m = k + (j + 1) := ⟨m - k - 1, by omega⟩
  rw [show k + (j + 1) - k = j + 1 by omega, show k + (j + 1) - (k + 1) = j by omega, List.set_append_right _ _ (by simp)]
  rw [List.length_replicate, Nat.sub_self, List.replicate_succ, List.set_cons_zero, List.replicate_succ', List.append_assoc]; rfl

theorem specRingNew_ct (n : Int) :
    Ct Try.prog 60 [.int .i64 n] [] (fun _ => True)
      (fun v A => ∃ v', v = .tuple #[v', .bool (inR 1 8 n)] ∧ OwR v' (if inR 1 8 n = true then ringNew n.toNat else ring0) A) := by
  refine Ct.intro0 G_ok Try.func60 rfl rfl rfl fun E H hp => ?_
  refine VCnew.intro fun bz => ?_
  refine call_val (l01In_ct _ _ _) trivial ?_
  rintro _ rfl
  refine VCsplit.intro (fun q1 => ?_) (fun q1 => ?_)
  · have hb : inR 1 8 n = false := by simpa using q1
    refine ⟨[], ⟨_, by rw [hb], ?_⟩, .mem (by simp)⟩
    rw [hb]
    exact own0
  · have hb : inR 1 8 n = true := by simpa using q1
    refine VCnew.intro fun br => ?_
    have hn := inR_le hb
    refine loop_intro (α := Nat × (Option Addr × Option Addr × Option Addr) × (Nat × Nat × Nat) × Hp × Hp × Hp) G_ok
      (fun z => ⟨[(0, .v (.int .i64 n)), (2, .p 0 0), (4, .p 1 0), (5, .v (.int .i64 z.1))], [⟨bz, ringCells ring0 none none none none 0 0 0 0, 34⟩, ⟨br, [.slice z.2.1.1 z.1 z.2.2.1.1, .slice z.2.1.2.1 z.1 z.2.2.1.2.1, .slice z.2.1.2.2 z.1 z.2.2.1.2.2, .slice none 0 0, .int .i64 0, .int .i64 0, .bool true, .bool false], 34⟩], [z.2.2.2.1, z.2.2.2.2.1, z.2.2.2.2.2, H]⟩)
      (fun z => n.toNat - z.1) (fun z => z.1 ≤ n.toNat ∧ Ow flBool 4 (.slice z.2.1.1 z.1 z.2.2.1.1) (List.replicate z.1 true) z.2.2.2.1 ∧ Ow flInt 3 (.slice z.2.1.2.1 z.1 z.2.2.1.2.1) (List.replicate z.1 0) z.2.2.2.2.1 ∧ Ow flBool 4 (.slice z.2.1.2.2 z.1 z.2.2.1.2.2) (List.replicate z.1 false) z.2.2.2.2.2)
      (0, (none, none, none), (0, 0, 0), [], [], []) ⟨by omega, Ow.nil _ _, Ow.nil _ _, Ow.nil _ _⟩
      ⟨⟨⟨_, rfl, rfl, trivial⟩, ⟨_, rfl, rfl, by simp [SV.ok]⟩, ⟨_, rfl, rfl, by simp [SV.ok]⟩, ⟨_, rfl, rfl, trivial⟩, trivial⟩, ⟨rfl, rfl, trivial⟩, .le fun a => by simp⟩ ?_
    rintro ⟨k, ⟨d1, d2, d3⟩, ⟨g1, g2, g3⟩, A1, A2, A3⟩ ⟨hk, o1, o2, o3⟩
    refine VCsplit.intro (fun q2 => ?_) (fun q2 => ?_)
    · have hk : k ≤ n.toNat := hk
      have hlt : k < n.toNat := by simp at q2; omega
      refine VCnew.intro fun x1 => ?_
      refine append_ow (f := flBool) G_ok 1 rfl o1 ((rpSl _).mono (mem_at 0 rfl) (Ow.lit (f := flBool) (T := 4) (b := x1) (xs := [true]) (by simp [flBool]) (by simp)).rd) (by simp [flBool]) rfl rfl rfl rfl rfl rfl rfl rfl (by simp; omega) ?_
      intro e1 f1 B1 p1 _
      refine VCnew.intro fun x2 => ?_
      refine append_ow (f := flInt) G_ok 3 rfl o2 ((rpSl _).mono (mem_at 0 rfl) (Ow.lit (f := flInt) (T := 3) (b := x2) (xs := [0]) (by simp [flInt, okI]) (by simp)).rd) (by simp [flInt, okI]) rfl rfl rfl rfl rfl rfl rfl rfl (by simp; omega) ?_
      intro e2 f2 B2 p2 _
      refine VCnew.intro fun x3 => ?_
      refine append_ow (f := flBool) G_ok 5 rfl o3 ((rpSl _).mono (mem_at 0 rfl) (Ow.lit (f := flBool) (T := 4) (b := x3) (xs := [false]) (by simp [flBool]) (by simp)).rd) (by simp [flBool]) rfl rfl rfl rfl rfl rfl rfl rfl (by simp; omega) ?_
      intro e3 f3 B3 p3 _
      have r1 : ∀ {β : Type} (z : β), List.replicate (k + 1) z = List.replicate k z ++ [z] := fun z => List.replicate_succ'
      refine ⟨(k + 1, (e1, e2, e3), (f1, f2, f3), B1, B2, B3), ⟨hlt, ?_, ?_, ?_⟩, by simp only; omega, ⟨⟨_, rfl, rfl, trivial⟩, ⟨_, rfl, rfl, by simp [SV.ok]⟩, ⟨_, rfl, rfl, by simp [SV.ok]⟩, ⟨_, rfl, inc_eq k (by omega), trivial⟩, trivial⟩, ⟨rfl, by simp [Blk.ent], trivial⟩, .le fun a => by simp [setR, List.count_cons]; try omega⟩
      · rw [r1]; simpa using p1
      · rw [r1]; simpa using p2
      · rw [r1]; simpa using p3
    · have hk2 : k = n.toNat := by
        have hk : k ≤ n.toNat := hk
        simp at q2; omega
      subst hk2
      refine ⟨A1 ++ (A2 ++ (A3 ++ [])), ⟨_, by rw [hb], ?_⟩, .le fun a => by simp [List.count_cons]; try omega⟩
      rw [if_pos hb]
      exact ⟨d1, d2, d3, none, g1, g2, g3, 0, A1, A2, A3, [], by simp [ringCells, ringNew], rfl, by simpa [ringNew] using o1, by simpa [ringNew] using o2, by simpa [ringNew] using o3, by simpa [ringNew] using Ow.nil _ _, by unfold okI ringNew; simp, by unfold okI ringNew; simp⟩
--@ct impl.isWorkers val isWorkers_ct _
--@ct impl.inRange val inRange_ct _ _ _
--@ct spec.l01In val l01In_ct _ _ _
--@ct impl.RingNew new implRingNew_ct _ | trivial | obtain ⟨rv#, rfl, or#⟩ := o# ;; obtain ⟨d1#, d2#, d3#, d4#, g1#, g2#, g3#, g4#, B1#, B2#, B3#, B4#, rfl, -⟩ := id or#
--@ct spec.RingNew new specRingNew_ct _ | trivial | obtain ⟨rv#, rfl, or#⟩ := o# ;; obtain ⟨d1#, d2#, d3#, d4#, g1#, g2#, g3#, g4#, B1#, B2#, B3#, B4#, rfl, -⟩ := id or#
theorem implRingNew_ct (n : Int) :
    Ct Try.prog 36 [.int .i64 n] [] (fun _ => True)
      (fun v A => ∃ v', v = .tuple #[v', .bool (inR 1 8 n)] ∧ OwR v' (if inR 1 8 n = true then ringNew n.toNat else ring0) A) := by
  refine Ct.intro0 G_ok Try.func36 rfl rfl rfl fun E H hp => ?_
  refine VCnew.intro fun x0 => ?_
  refine call_val (isWorkers_ct _) trivial ?_
  rintro _ rfl
  refine VCsplit.intro (fun q2 => ?_) (fun q2 => ?_)
  ·
    simp at q2
    exact ⟨[], ⟨_, by rw [show inR 1 8 n = false by assumption], by rw [show inR 1 8 n = false by assumption]; exact own0⟩, .mem (by simp)⟩
  ·
    simp at q2
    have hn := inR_le ‹_›
    refine draw_joinK (α := (Nat) × (Nat) × (Nat) × (Nat)) [10, 11, 12, 13, 14, 15, 16, 4] (fun z => [(2, .p 0 0), (4, .p 1 0)]) (fun z => [⟨x0, ringCells ring0 none none none none 0 0 0 0, 34⟩, ⟨z.2.2.2, [.slice (some ⟨z.1, 0, none⟩) n.toNat n.toNat, .slice (some ⟨z.2.1, 0, none⟩) n.toNat n.toNat, .slice (some ⟨z.2.2.1, 0, none⟩) n.toNat n.toNat, .slice none 0 0, .int .i64 0, .int .i64 0, .bool true, .bool false], 34⟩]) (fun z => [[(z.1, Obj.cells ⟨zeros n.toNat [.bool false]⟩ 4)], [(z.2.1, Obj.cells ⟨zeros n.toNat [.int .i64 0]⟩ 3)], [(z.2.2.1, Obj.cells ⟨zeros n.toNat [.bool false]⟩ 4)], H]) (fun z => True) ?_ ?_
    ·
      refine draw G_ok mixed (some 8) (.q 0 (.q 2 (.q 4 (.hd (.alt 1 (.hd (.alt 3 (.hd (.alt 5 (.q 6 (.f 7 (.tl 8 (.nil)))) (.alt 7 (.f 5 (.q 6 (.tl 8 (.nil)))) (.nil)))) (.alt 5 (.hd (.alt 3 (.q 6 (.f 7 (.tl 8 (.nil)))) (.alt 7 (.f 3 (.q 6 (.tl 8 (.nil)))) (.nil)))) (.alt 7 (.hd (.alt 3 (.f 5 (.q 6 (.tl 8 (.nil)))) (.alt 5 (.f 3 (.q 6 (.tl 8 (.nil)))) (.nil)))) (.nil))))) (.alt 3 (.hd (.alt 1 (.hd (.alt 5 (.q 6 (.f 7 (.tl 8 (.nil)))) (.alt 7 (.f 5 (.q 6 (.tl 8 (.nil)))) (.nil)))) (.alt 5 (.hd (.alt 1 (.q 6 (.f 7 (.tl 8 (.nil)))) (.alt 7 (.f 1 (.q 6 (.tl 8 (.nil)))) (.nil)))) (.alt 7 (.hd (.alt 1 (.f 5 (.q 6 (.tl 8 (.nil)))) (.alt 5 (.f 1 (.q 6 (.tl 8 (.nil)))) (.nil)))) (.nil))))) (.alt 5 (.hd (.alt 1 (.hd (.alt 3 (.q 6 (.f 7 (.tl 8 (.nil)))) (.alt 7 (.f 3 (.q 6 (.tl 8 (.nil)))) (.nil)))) (.alt 3 (.hd (.alt 1 (.q 6 (.f 7 (.tl 8 (.nil)))) (.alt 7 (.f 1 (.q 6 (.tl 8 (.nil)))) (.nil)))) (.alt 7 (.hd (.alt 1 (.f 3 (.q 6 (.tl 8 (.nil)))) (.alt 3 (.f 1 (.q 6 (.tl 8 (.nil)))) (.nil)))) (.nil))))) (.alt 7 (.hd (.alt 1 (.hd (.alt 3 (.f 5 (.q 6 (.tl 8 (.nil)))) (.alt 5 (.f 3 (.q 6 (.tl 8 (.nil)))) (.nil)))) (.alt 3 (.hd (.alt 1 (.f 5 (.q 6 (.tl 8 (.nil)))) (.alt 5 (.f 1 (.q 6 (.tl 8 (.nil)))) (.nil)))) (.alt 5 (.hd (.alt 1 (.f 3 (.q 6 (.tl 8 (.nil)))) (.alt 3 (.f 1 (.q 6 (.tl 8 (.nil)))) (.nil)))) (.nil))))) (.nil))))))))) (by decide +kernel) ?_
      refine VC.intro ?_ ?_
      ·
        refine VCmake.intro ?_ ?_ ?_ ?_ fun x3 => ?_
        · omega
        · omega
        · omega
        · omega
        refine VC.intro ?_ ?_
        ·
          refine VCmake.intro ?_ ?_ ?_ ?_ fun x4 => ?_
          · omega
          · omega
          · omega
          · omega
          refine VC.intro ?_ ?_
          ·
            refine VCmake.intro ?_ ?_ ?_ ?_ fun x5 => ?_
            · omega
            · omega
            · omega
            · omega
            refine VCnew.intro fun x6 => ?_
            refine VC.intro ?_ ?_
            · exact keep_blk (by simp)
            apply join_stepI (_, _, _, _)
            · repeat' (first | exact trivial | refine ⟨⟨_, rfl, by first | rfl | exact inc_eq _ (by omega) | (refine sl_eq ?_; simp; done), by first | exact trivial | simp [SV.ok]⟩, ?_⟩)
            · exact ⟨rfl, rfl, trivial⟩
            · exact trivial
            · exact .le fun a => by (try simp only [setR, List.cons_append, List.nil_append]); simp only [List.flatten_append, List.flatten_cons, List.flatten_nil, List.count_append, List.count_nil, List.append_nil, List.nil_append]; omega
          ·
            refine VC.intro ?_ ?_
            ·
              refine VCnew.intro fun x7 => ?_
              refine VCmake.intro ?_ ?_ ?_ ?_ fun x8 => ?_
              · omega
              · omega
              · omega
              · omega
              apply join_stepI (_, _, _, _)
              · repeat' (first | exact trivial | refine ⟨⟨_, rfl, by first | rfl | exact inc_eq _ (by omega) | (refine sl_eq ?_; simp; done), by first | exact trivial | simp [SV.ok]⟩, ?_⟩)
              · exact ⟨rfl, rfl, trivial⟩
              · exact trivial
              · exact .le fun a => by (try simp only [setR, List.cons_append, List.nil_append]); simp only [List.flatten_append, List.flatten_cons, List.flatten_nil, List.count_append, List.count_nil, List.append_nil, List.nil_append]; omega
            ·
              exact trivial
        ·
          refine VC.intro ?_ ?_
          ·
            refine VCmake.intro ?_ ?_ ?_ ?_ fun x9 => ?_
            · omega
            · omega
            · omega
            · omega
            refine VC.intro ?_ ?_
            ·
              refine VCmake.intro ?_ ?_ ?_ ?_ fun x10 => ?_
              · omega
              · omega
              · omega
              · omega
              refine VCnew.intro fun x11 => ?_
              refine VC.intro ?_ ?_
              · exact keep_blk (by simp)
              apply join_stepI (_, _, _, _)
              · repeat' (first | exact trivial | refine ⟨⟨_, rfl, by first | rfl | exact inc_eq _ (by omega) | (refine sl_eq ?_; simp; done), by first | exact trivial | simp [SV.ok]⟩, ?_⟩)
              · exact ⟨rfl, rfl, trivial⟩
              · exact trivial
              · exact .le fun a => by (try simp only [setR, List.cons_append, List.nil_append]); simp only [List.flatten_append, List.flatten_cons, List.flatten_nil, List.count_append, List.count_nil, List.append_nil, List.nil_append]; omega
            ·
              refine VC.intro ?_ ?_
              ·
                refine VCnew.intro fun x12 => ?_
                refine VCmake.intro ?_ ?_ ?_ ?_ fun x13 => ?_
                · omega
                · omega
                · omega
                · omega
                apply join_stepI (_, _, _, _)
                · repeat' (first | exact trivial | refine ⟨⟨_, rfl, by first | rfl | exact inc_eq _ (by omega) | (refine sl_eq ?_; simp; done), by first | exact trivial | simp [SV.ok]⟩, ?_⟩)
                · exact ⟨rfl, rfl, trivial⟩
                · exact trivial
                · exact .le fun a => by (try simp only [setR, List.cons_append, List.nil_append]); simp only [List.flatten_append, List.flatten_cons, List.flatten_nil, List.count_append, List.count_nil, List.append_nil, List.nil_append]; omega
              ·
                exact trivial
          ·
            refine VC.intro ?_ ?_
            ·
              refine VCnew.intro fun x14 => ?_
              refine VC.intro ?_ ?_
              ·
                refine VCmake.intro ?_ ?_ ?_ ?_ fun x15 => ?_
                · omega
                · omega
                · omega
                · omega
                refine VCmake.intro ?_ ?_ ?_ ?_ fun x16 => ?_
                · omega
                · omega
                · omega
                · omega
                apply join_stepI (_, _, _, _)
                · repeat' (first | exact trivial | refine ⟨⟨_, rfl, by first | rfl | exact inc_eq _ (by omega) | (refine sl_eq ?_; simp; done), by first | exact trivial | simp [SV.ok]⟩, ?_⟩)
                · exact ⟨rfl, rfl, trivial⟩
                · exact trivial
                · exact .le fun a => by (try simp only [setR, List.cons_append, List.nil_append]); simp only [List.flatten_append, List.flatten_cons, List.flatten_nil, List.count_append, List.count_nil, List.append_nil, List.nil_append]; omega
              ·
                refine VC.intro ?_ ?_
                ·
                  refine VCmake.intro ?_ ?_ ?_ ?_ fun x17 => ?_
                  · omega
                  · omega
                  · omega
                  · omega
                  refine VCmake.intro ?_ ?_ ?_ ?_ fun x18 => ?_
                  · omega
                  · omega
                  · omega
                  · omega
                  apply join_stepI (_, _, _, _)
                  · repeat' (first | exact trivial | refine ⟨⟨_, rfl, by first | rfl | exact inc_eq _ (by omega) | (refine sl_eq ?_; simp; done), by first | exact trivial | simp [SV.ok]⟩, ?_⟩)
                  · exact ⟨rfl, rfl, trivial⟩
                  · exact trivial
                  · exact .le fun a => by (try simp only [setR, List.cons_append, List.nil_append]); simp only [List.flatten_append, List.flatten_cons, List.flatten_nil, List.count_append, List.count_nil, List.append_nil, List.nil_append]; omega
                ·
                  exact trivial
            ·
              exact trivial
      ·
        refine VC.intro ?_ ?_
        ·
          refine VCmake.intro ?_ ?_ ?_ ?_ fun x19 => ?_
          · omega
          · omega
          · omega
          · omega
          refine VC.intro ?_ ?_
          ·
            refine VCmake.intro ?_ ?_ ?_ ?_ fun x20 => ?_
            · omega
            · omega
            · omega
            · omega
            refine VC.intro ?_ ?_
            ·
              refine VCmake.intro ?_ ?_ ?_ ?_ fun x21 => ?_
              · omega
              · omega
              · omega
              · omega
              refine VCnew.intro fun x22 => ?_
              refine VC.intro ?_ ?_
              · exact keep_blk (by simp)
              apply join_stepI (_, _, _, _)
              · repeat' (first | exact trivial | refine ⟨⟨_, rfl, by first | rfl | exact inc_eq _ (by omega) | (refine sl_eq ?_; simp; done), by first | exact trivial | simp [SV.ok]⟩, ?_⟩)
              · exact ⟨rfl, rfl, trivial⟩
              · exact trivial
              · exact .le fun a => by (try simp only [setR, List.cons_append, List.nil_append]); simp only [List.flatten_append, List.flatten_cons, List.flatten_nil, List.count_append, List.count_nil, List.append_nil, List.nil_append]; omega
            ·
              refine VC.intro ?_ ?_
              ·
                refine VCnew.intro fun x23 => ?_
                refine VCmake.intro ?_ ?_ ?_ ?_ fun x24 => ?_
                · omega
                · omega
                · omega
                · omega
                apply join_stepI (_, _, _, _)
                · repeat' (first | exact trivial | refine ⟨⟨_, rfl, by first | rfl | exact inc_eq _ (by omega) | (refine sl_eq ?_; simp; done), by first | exact trivial | simp [SV.ok]⟩, ?_⟩)
                · exact ⟨rfl, rfl, trivial⟩
                · exact trivial
                · exact .le fun a => by (try simp only [setR, List.cons_append, List.nil_append]); simp only [List.flatten_append, List.flatten_cons, List.flatten_nil, List.count_append, List.count_nil, List.append_nil, List.nil_append]; omega
              ·
                exact trivial
          ·
            refine VC.intro ?_ ?_
            ·
              refine VCmake.intro ?_ ?_ ?_ ?_ fun x25 => ?_
              · omega
              · omega
              · omega
              · omega
              refine VC.intro ?_ ?_
              ·
                refine VCmake.intro ?_ ?_ ?_ ?_ fun x26 => ?_
                · omega
                · omega
                · omega
                · omega
                refine VCnew.intro fun x27 => ?_
                refine VC.intro ?_ ?_
                · exact keep_blk (by simp)
                apply join_stepI (_, _, _, _)
                · repeat' (first | exact trivial | refine ⟨⟨_, rfl, by first | rfl | exact inc_eq _ (by omega) | (refine sl_eq ?_; simp; done), by first | exact trivial | simp [SV.ok]⟩, ?_⟩)
                · exact ⟨rfl, rfl, trivial⟩
                · exact trivial
                · exact .le fun a => by (try simp only [setR, List.cons_append, List.nil_append]); simp only [List.flatten_append, List.flatten_cons, List.flatten_nil, List.count_append, List.count_nil, List.append_nil, List.nil_append]; omega
              ·
                refine VC.intro ?_ ?_
                ·
                  refine VCnew.intro fun x28 => ?_
                  refine VCmake.intro ?_ ?_ ?_ ?_ fun x29 => ?_
                  · omega
                  · omega
                  · omega
                  · omega
                  apply join_stepI (_, _, _, _)
                  · repeat' (first | exact trivial | refine ⟨⟨_, rfl, by first | rfl | exact inc_eq _ (by omega) | (refine sl_eq ?_; simp; done), by first | exact trivial | simp [SV.ok]⟩, ?_⟩)
                  · exact ⟨rfl, rfl, trivial⟩
                  · exact trivial
                  · exact .le fun a => by (try simp only [setR, List.cons_append, List.nil_append]); simp only [List.flatten_append, List.flatten_cons, List.flatten_nil, List.count_append, List.count_nil, List.append_nil, List.nil_append]; omega
                ·
                  exact trivial
            ·
              refine VC.intro ?_ ?_
              ·
                refine VCnew.intro fun x30 => ?_
                refine VC.intro ?_ ?_
                ·
                  refine VCmake.intro ?_ ?_ ?_ ?_ fun x31 => ?_
                  · omega
                  · omega
                  · omega
                  · omega
                  refine VCmake.intro ?_ ?_ ?_ ?_ fun x32 => ?_
                  · omega
                  · omega
                  · omega
                  · omega
                  apply join_stepI (_, _, _, _)
                  · repeat' (first | exact trivial | refine ⟨⟨_, rfl, by first | rfl | exact inc_eq _ (by omega) | (refine sl_eq ?_; simp; done), by first | exact trivial | simp [SV.ok]⟩, ?_⟩)
                  · exact ⟨rfl, rfl, trivial⟩
                  · exact trivial
                  · exact .le fun a => by (try simp only [setR, List.cons_append, List.nil_append]); simp only [List.flatten_append, List.flatten_cons, List.flatten_nil, List.count_append, List.count_nil, List.append_nil, List.nil_append]; omega
                ·
                  refine VC.intro ?_ ?_
                  ·
                    refine VCmake.intro ?_ ?_ ?_ ?_ fun x33 => ?_
                    · omega
                    · omega
                    · omega
                    · omega
                    refine VCmake.intro ?_ ?_ ?_ ?_ fun x34 => ?_
                    · omega
                    · omega
                    · omega
                    · omega
                    apply join_stepI (_, _, _, _)
                    · repeat' (first | exact trivial | refine ⟨⟨_, rfl, by first | rfl | exact inc_eq _ (by omega) | (refine sl_eq ?_; simp; done), by first | exact trivial | simp [SV.ok]⟩, ?_⟩)
                    · exact ⟨rfl, rfl, trivial⟩
                    · exact trivial
                    · exact .le fun a => by (try simp only [setR, List.cons_append, List.nil_append]); simp only [List.flatten_append, List.flatten_cons, List.flatten_nil, List.count_append, List.count_nil, List.append_nil, List.nil_append]; omega
                  ·
                    exact trivial
              ·
                exact trivial
        ·
          refine VC.intro ?_ ?_
          ·
            refine VCmake.intro ?_ ?_ ?_ ?_ fun x35 => ?_
            · omega
            · omega
            · omega
            · omega
            refine VC.intro ?_ ?_
            ·
              refine VCmake.intro ?_ ?_ ?_ ?_ fun x36 => ?_
              · omega
              · omega
              · omega
              · omega
              refine VC.intro ?_ ?_
              ·
                refine VCmake.intro ?_ ?_ ?_ ?_ fun x37 => ?_
                · omega
                · omega
                · omega
                · omega
                refine VCnew.intro fun x38 => ?_
                refine VC.intro ?_ ?_
                · exact keep_blk (by simp)
                apply join_stepI (_, _, _, _)
                · repeat' (first | exact trivial | refine ⟨⟨_, rfl, by first | rfl | exact inc_eq _ (by omega) | (refine sl_eq ?_; simp; done), by first | exact trivial | simp [SV.ok]⟩, ?_⟩)
                · exact ⟨rfl, rfl, trivial⟩
                · exact trivial
                · exact .le fun a => by (try simp only [setR, List.cons_append, List.nil_append]); simp only [List.flatten_append, List.flatten_cons, List.flatten_nil, List.count_append, List.count_nil, List.append_nil, List.nil_append]; omega
              ·
                refine VC.intro ?_ ?_
                ·
                  refine VCnew.intro fun x39 => ?_
                  refine VCmake.intro ?_ ?_ ?_ ?_ fun x40 => ?_
                  · omega
                  · omega
                  · omega
                  · omega
                  apply join_stepI (_, _, _, _)
                  · repeat' (first | exact trivial | refine ⟨⟨_, rfl, by first | rfl | exact inc_eq _ (by omega) | (refine sl_eq ?_; simp; done), by first | exact trivial | simp [SV.ok]⟩, ?_⟩)
                  · exact ⟨rfl, rfl, trivial⟩
                  · exact trivial
                  · exact .le fun a => by (try simp only [setR, List.cons_append, List.nil_append]); simp only [List.flatten_append, List.flatten_cons, List.flatten_nil, List.count_append, List.count_nil, List.append_nil, List.nil_append]; omega
                ·
                  exact trivial
            ·
              refine VC.intro ?_ ?_
              ·
                refine VCmake.intro ?_ ?_ ?_ ?_ fun x41 => ?_
                · omega
                · omega
                · omega
                · omega
                refine VC.intro ?_ ?_
                ·
                  refine VCmake.intro ?_ ?_ ?_ ?_ fun x42 => ?_
                  · omega
                  · omega
                  · omega
                  · omega
                  refine VCnew.intro fun x43 => ?_
                  refine VC.intro ?_ ?_
                  · exact keep_blk (by simp)
                  apply join_step (_, _, _, _)
                  · repeat' (first | exact trivial | refine ⟨⟨_, rfl, by first | rfl | exact inc_eq _ (by omega) | (refine sl_eq ?_; simp; done), by first | exact trivial | simp [SV.ok]⟩, ?_⟩)
                  · exact ⟨rfl, rfl, trivial⟩
                  · exact .refl _
                  · exact trivial
                ·
                  refine VC.intro ?_ ?_
                  ·
                    refine VCnew.intro fun x44 => ?_
                    refine VCmake.intro ?_ ?_ ?_ ?_ fun x45 => ?_
                    · omega
                    · omega
                    · omega
                    · omega
                    apply join_step (_, _, _, _)
                    · repeat' (first | exact trivial | refine ⟨⟨_, rfl, by first | rfl | exact inc_eq _ (by omega) | (refine sl_eq ?_; simp; done), by first | exact trivial | simp [SV.ok]⟩, ?_⟩)
                    · exact ⟨rfl, rfl, trivial⟩
                    · exact .refl _
                    · exact trivial
                  ·
                    exact trivial
              ·
                refine VC.intro ?_ ?_
                ·
                  refine VCnew.intro fun x46 => ?_
                  refine VC.intro ?_ ?_
                  ·
                    refine VCmake.intro ?_ ?_ ?_ ?_ fun x47 => ?_
                    · omega
                    · omega
                    · omega
                    · omega
                    refine VCmake.intro ?_ ?_ ?_ ?_ fun x48 => ?_
                    · omega
                    · omega
                    · omega
                    · omega
                    apply join_stepI (_, _, _, _)
                    · repeat' (first | exact trivial | refine ⟨⟨_, rfl, by first | rfl | exact inc_eq _ (by omega) | (refine sl_eq ?_; simp; done), by first | exact trivial | simp [SV.ok]⟩, ?_⟩)
                    · exact ⟨rfl, rfl, trivial⟩
                    · exact trivial
                    · exact .le fun a => by (try simp only [setR, List.cons_append, List.nil_append]); simp only [List.flatten_append, List.flatten_cons, List.flatten_nil, List.count_append, List.count_nil, List.append_nil, List.nil_append]; omega
                  ·
                    refine VC.intro ?_ ?_
                    ·
                      refine VCmake.intro ?_ ?_ ?_ ?_ fun x49 => ?_
                      · omega
                      · omega
                      · omega
                      · omega
                      refine VCmake.intro ?_ ?_ ?_ ?_ fun x50 => ?_
                      · omega
                      · omega
                      · omega
                      · omega
                      apply join_step (_, _, _, _)
                      · repeat' (first | exact trivial | refine ⟨⟨_, rfl, by first | rfl | exact inc_eq _ (by omega) | (refine sl_eq ?_; simp; done), by first | exact trivial | simp [SV.ok]⟩, ?_⟩)
                      · exact ⟨rfl, rfl, trivial⟩
                      · exact .refl _
                      · exact trivial
                    ·
                      exact trivial
                ·
                  exact trivial
          ·
            refine VC.intro ?_ ?_
            ·
              refine VCnew.intro fun x51 => ?_
              refine VC.intro ?_ ?_
              ·
                refine VCmake.intro ?_ ?_ ?_ ?_ fun x52 => ?_
                · omega
                · omega
                · omega
                · omega
                refine VC.intro ?_ ?_
                ·
                  refine VCmake.intro ?_ ?_ ?_ ?_ fun x53 => ?_
                  · omega
                  · omega
                  · omega
                  · omega
                  refine VCmake.intro ?_ ?_ ?_ ?_ fun x54 => ?_
                  · omega
                  · omega
                  · omega
                  · omega
                  apply join_stepI (_, _, _, _)
                  · repeat' (first | exact trivial | refine ⟨⟨_, rfl, by first | rfl | exact inc_eq _ (by omega) | (refine sl_eq ?_; simp; done), by first | exact trivial | simp [SV.ok]⟩, ?_⟩)
                  · exact ⟨rfl, rfl, trivial⟩
                  · exact trivial
                  · exact .le fun a => by (try simp only [setR, List.cons_append, List.nil_append]); simp only [List.flatten_append, List.flatten_cons, List.flatten_nil, List.count_append, List.count_nil, List.append_nil, List.nil_append]; omega
                ·
                  refine VC.intro ?_ ?_
                  ·
                    refine VCmake.intro ?_ ?_ ?_ ?_ fun x55 => ?_
                    · omega
                    · omega
                    · omega
                    · omega
                    refine VCmake.intro ?_ ?_ ?_ ?_ fun x56 => ?_
                    · omega
                    · omega
                    · omega
                    · omega
                    apply join_stepI (_, _, _, _)
                    · repeat' (first | exact trivial | refine ⟨⟨_, rfl, by first | rfl | exact inc_eq _ (by omega) | (refine sl_eq ?_; simp; done), by first | exact trivial | simp [SV.ok]⟩, ?_⟩)
                    · exact ⟨rfl, rfl, trivial⟩
                    · exact trivial
                    · exact .le fun a => by (try simp only [setR, List.cons_append, List.nil_append]); simp only [List.flatten_append, List.flatten_cons, List.flatten_nil, List.count_append, List.count_nil, List.append_nil, List.nil_append]; omega
                  ·
                    exact trivial
              ·
                refine VC.intro ?_ ?_
                ·
                  refine VCmake.intro ?_ ?_ ?_ ?_ fun x57 => ?_
                  · omega
                  · omega
                  · omega
                  · omega
                  refine VC.intro ?_ ?_
                  ·
                    refine VCmake.intro ?_ ?_ ?_ ?_ fun x58 => ?_
                    · omega
                    · omega
                    · omega
                    · omega
                    refine VCmake.intro ?_ ?_ ?_ ?_ fun x59 => ?_
                    · omega
                    · omega
                    · omega
                    · omega
                    apply join_stepI (_, _, _, _)
                    · repeat' (first | exact trivial | refine ⟨⟨_, rfl, by first | rfl | exact inc_eq _ (by omega) | (refine sl_eq ?_; simp; done), by first | exact trivial | simp [SV.ok]⟩, ?_⟩)
                    · exact ⟨rfl, rfl, trivial⟩
                    · exact trivial
                    · exact .le fun a => by (try simp only [setR, List.cons_append, List.nil_append]); simp only [List.flatten_append, List.flatten_cons, List.flatten_nil, List.count_append, List.count_nil, List.append_nil, List.nil_append]; omega
                  ·
                    refine VC.intro ?_ ?_
                    ·
                      refine VCmake.intro ?_ ?_ ?_ ?_ fun x60 => ?_
                      · omega
                      · omega
                      · omega
                      · omega
                      refine VCmake.intro ?_ ?_ ?_ ?_ fun x61 => ?_
                      · omega
                      · omega
                      · omega
                      · omega
                      apply join_stepI (_, _, _, _)
                      · repeat' (first | exact trivial | refine ⟨⟨_, rfl, by first | rfl | exact inc_eq _ (by omega) | (refine sl_eq ?_; simp; done), by first | exact trivial | simp [SV.ok]⟩, ?_⟩)
                      · exact ⟨rfl, rfl, trivial⟩
                      · exact trivial
                      · exact .le fun a => by (try simp only [setR, List.cons_append, List.nil_append]); simp only [List.flatten_append, List.flatten_cons, List.flatten_nil, List.count_append, List.count_nil, List.append_nil, List.nil_append]; omega
                    ·
                      exact trivial
                ·
                  refine VC.intro ?_ ?_
                  ·
                    refine VCmake.intro ?_ ?_ ?_ ?_ fun x62 => ?_
                    · omega
                    · omega
                    · omega
                    · omega
                    refine VC.intro ?_ ?_
                    ·
                      refine VCmake.intro ?_ ?_ ?_ ?_ fun x63 => ?_
                      · omega
                      · omega
                      · omega
                      · omega
                      refine VCmake.intro ?_ ?_ ?_ ?_ fun x64 => ?_
                      · omega
                      · omega
                      · omega
                      · omega
                      apply join_stepI (_, _, _, _)
                      · repeat' (first | exact trivial | refine ⟨⟨_, rfl, by first | rfl | exact inc_eq _ (by omega) | (refine sl_eq ?_; simp; done), by first | exact trivial | simp [SV.ok]⟩, ?_⟩)
                      · exact ⟨rfl, rfl, trivial⟩
                      · exact trivial
                      · exact .le fun a => by (try simp only [setR, List.cons_append, List.nil_append]); simp only [List.flatten_append, List.flatten_cons, List.flatten_nil, List.count_append, List.count_nil, List.append_nil, List.nil_append]; omega
                    ·
                      refine VC.intro ?_ ?_
                      ·
                        refine VCmake.intro ?_ ?_ ?_ ?_ fun x65 => ?_
                        · omega
                        · omega
                        · omega
                        · omega
                        refine VCmake.intro ?_ ?_ ?_ ?_ fun x66 => ?_
                        · omega
                        · omega
                        · omega
                        · omega
                        apply join_step (_, _, _, _)
                        · repeat' (first | exact trivial | refine ⟨⟨_, rfl, by first | rfl | exact inc_eq _ (by omega) | (refine sl_eq ?_; simp; done), by first | exact trivial | simp [SV.ok]⟩, ?_⟩)
                        · exact ⟨rfl, rfl, trivial⟩
                        · exact .refl _
                        · exact trivial
                      ·
                        exact trivial
                  ·
                    exact trivial
            ·
              exact trivial
    rintro ⟨x1, x2, x3, x4⟩ hI
    obtain _ : True := hI
    try dsimp only
    have o1 := Ow.make (f := flBool) (T := 4) (z := false) (b := x1) (n := n.toNat) (c := n.toNat) trivial (Nat.le_refl _) (by omega)
    have o2 := Ow.make (f := flInt) (T := 3) (z := 0) (b := x2) (n := n.toNat) (c := n.toNat) (by unfold flInt okI; simp) (Nat.le_refl _) (by omega)
    have o3 := Ow.make (f := flBool) (T := 4) (z := false) (b := x3) (n := n.toNat) (c := n.toNat) trivial (Nat.le_refl _) (by omega)
    apply loop_mod (α := (Nat) × (Hp)) G_ok [21, 22, 5, 23, 24, 25, 26, 27, 20] (fun z => [(20, .v (.int .i64 z.1))]) (fun z => [{ id := x0, cs := ringCells ring0 none none none none (0 : Nat) (0 : Nat) (0 : Nat) (0 : Nat), ty := (34 : TypeId) },
  { id := x4,
    cs :=
      [Value.slice (some { block := x1, off := (0 : Nat) }) n.toNat n.toNat,
        Value.slice (some { block := x2, off := (0 : Nat) }) n.toNat n.toNat,
        Value.slice (some { block := x3, off := (0 : Nat) }) n.toNat n.toNat, Value.slice none (0 : Nat) (0 : Nat),
        Value.int IntKind.i64 (0 : Int), Value.int IntKind.i64 (0 : Int), Value.bool true, Value.bool false],
    ty := (34 : TypeId) }]) (fun z => [z.2, [(x2, Obj.cells ⟨zeros n.toNat [.int .i64 0]⟩ 3)], [(x3, Obj.cells ⟨zeros n.toNat [.bool false]⟩ 4)], H]) (fun z => n.toNat - z.1) (fun z => z.1 ≤ n.toNat ∧ Ow flBool 4 (.slice (some ⟨x1, 0, none⟩) n.toNat n.toNat) (List.replicate z.1 true ++ List.replicate (n.toNat - z.1) false) z.2) ((0, _))
    · repeat' (first | exact trivial | refine ⟨⟨_, rfl, by first | rfl | exact inc_eq _ (by omega) | (refine sl_eq ?_; simp; done), by first | exact trivial | simp [SV.ok]⟩, ?_⟩)
    · exact ⟨rfl, rfl, trivial⟩
    · try dsimp only
      exact ⟨by omega, o1⟩
    · exact .refl _
    rintro ⟨k, A⟩ hI
    obtain ⟨hk, oA⟩ : k ≤ n.toNat ∧ Ow flBool 4 (.slice (some ⟨x1, 0, none⟩) n.toNat n.toNat) (List.replicate k true ++ List.replicate (n.toNat - k) false) A := hI
    try dsimp only
    refine VCsplit.intro (fun q67 => ?_) (fun q67 => ?_)
    ·
      simp at q67
      refine idx_rd (Ow.rd oA) ?_ ?_ fun b68 o68 hb68 => ?_
      · omega
      · simp; omega
      refine store_ow (f := flBool) (y := true) 0 rfl oA ?_ ?_ hb68 rfl ?_ rfl fun A69 o69 => ?_
      · omega
      · simp; omega
      · trivial
      apply loop_step (k + 1, _)
      · repeat' (first | exact trivial | refine ⟨⟨_, rfl, by first | rfl | exact inc_eq _ (by omega) | (refine sl_eq ?_; simp; done), by first | exact trivial | simp [SV.ok]⟩, ?_⟩)
      · exact ⟨rfl, rfl, trivial⟩
      · exact .refl _
      · try dsimp only
        exact ⟨by omega, by rw [← rep_step _ _ _ _ (by omega)]; exact ‹Ow flBool _ _ (List.set _ _ _) _›⟩
      · try dsimp only
        omega
    ·
      simp at q67
      exact ⟨_, ⟨_, by rw [show inR 1 8 n = true by assumption], by rw [if_pos (by assumption)]; exact ⟨some ⟨x1, 0, none⟩, some ⟨x2, 0, none⟩, some ⟨x3, 0, none⟩, none, n.toNat, n.toNat, n.toNat, 0, A, _, _, [], by simp [ringCells, ringNew], rfl, by simpa [ringNew, show k = n.toNat by omega] using oA, by simpa [ringNew] using o2, by simpa [ringNew] using o3, by simpa [ringNew] using Ow.nil _ _, by unfold okI ringNew; simp, by unfold okI ringNew; simp⟩⟩, .le fun a => by simp [List.count_cons, Blk.ent, flBool, flInt]; try omega⟩

end Go.Proofs.Ythihffgmmkhlhaa
