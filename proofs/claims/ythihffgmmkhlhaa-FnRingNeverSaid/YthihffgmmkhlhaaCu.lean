/-
  Turns of a ring: the program's. Conditions: none.
-/
import Derived.Test.YthihffgmmkhlhaaCq
import Derived.Test.YthihffgmmkhlhaaCd
namespace Go.Proofs.Ythihffgmmkhlhaa
open Go.SX Go.Proofs

structure Turn where
  kind : Int
  at' : Int
  to : Int
deriving DecidableEq

def turnCells (t : Turn) : List Value := [.int .i64 t.kind, .int .i64 t.at', .int .i64 t.to]

def sendT (r : Ring) (t : Turn) : Ring := { r with counts := r.counts.set t.at'.toNat (r.counts[t.at'.toNat]?.getD 0 + 1), flying := r.flying ++ [t.to] }
def takeT (r : Ring) (i : Nat) : Ring :=
  let to := (r.flying[i]?.getD 0).toNat
  { r with flying := r.flying.take i ++ r.flying.drop (i + 1), actives := r.actives.set to true, blacks := r.blacks.set to true, counts := r.counts.set to (r.counts[to]?.getD 0 - 1) }
def restT (r : Ring) (i : Nat) : Ring := { r with actives := r.actives.set i false }

def turnOk (r : Ring) (t : Turn) : Bool :=
  if t.kind = 1 then inR 0 (r.actives.length - 1) t.at' && inR 0 (r.actives.length - 1) t.to && r.actives[t.at'.toNat]?.getD false
  else if t.kind = 2 then inR 0 (r.flying.length - 1) t.at'
  else if t.kind = 3 then inR 0 (r.actives.length - 1) t.at' && r.actives[t.at'.toNat]?.getD false
  else if t.kind = 4 then !(r.actives[r.held.toNat]?.getD false)
  else false
def turnT (r : Ring) (t : Turn) : Ring :=
  if t.kind = 1 then sendT r t
  else if t.kind = 2 then takeT r t.at'.toNat
  else if t.kind = 3 then restT r t.at'.toNat
  else passT r

theorem inR_le {a b x : Int} (h : inR a b x = true) : a ≤ x ∧ x ≤ b := by simpa [inR] using h

theorem ringOk_fly {r : Ring} (h : ringOk r = true) (i : Nat) (hi : i < r.flying.length) : 0 ≤ r.flying[i]?.getD 0 ∧ r.flying[i]?.getD 0 ≤ r.actives.length - 1 := by
  have h3 : r.flying.all (inR 0 (r.actives.length - 1)) = true := by
    simp only [ringOk, Bool.and_eq_true] at h; exact h.2
  have := List.all_eq_true.1 h3 r.flying[i] (List.getElem_mem hi)
  rw [List.getElem?_eq_getElem hi]
  simpa [inR] using this

theorem turn_ct (bb : Nat) (l : List Value) (A' : Hp) (r : Ring) (t : Turn) (ho : OwR (.agg ⟨l⟩) r A') (hok : ringOk r = true) (ht : okI t.to) :
    Ct Try.prog 66 [.pointer (some ⟨bb, 0, none⟩), .agg ⟨turnCells t⟩] ((bb, Obj.cells ⟨l⟩ 34) :: A') (fun _ => True)
      (fun v A => if turnOk r t = true then v = .bool true ∧ OwRB bb (turnT r t) A else v = .bool false ∧ OwRB bb r A) := by
  obtain ⟨b1, b2, b3, b4, c1, c2, c3, c4, A1, A2, A3, A4, e, rfl, o1, o2, o3, o4, h5, h6⟩ := ho
  cases e
  obtain ⟨k, at', to⟩ := t
  have hlen := ringOk_len hok
  refine Ct.introB G_ok [.p 0 0, .v (.agg ⟨[.int .i64 k, .int .i64 at', .int .i64 to]⟩)] [⟨bb, ringCells r b1 b2 b3 b4 c1 c2 c3 c4, 34⟩] [A1, A2, A3, A4] Try.func66 rfl rfl rfl rfl (by simp [SV.ok]) (by simp [Blk.ent]) fun E H _ => ?_
  have l1 : (1 : Int) ≤ r.actives.length ∧ (r.actives.length : Int) ≤ 8 ∧ (r.counts.length : Int) = r.actives.length ∧ (r.blacks.length : Int) = r.actives.length := by omega
  have hw1 : IntKind.i64.wrap ((r.actives.length : Int) - 1) = r.actives.length - 1 := wrap_ok (by unfold okI; omega)
  have hw2 : IntKind.i64.wrap ((r.flying.length : Int) - 1) = r.flying.length - 1 := wrap_ok (by unfold okI; omega)
  refine VCnew.intro fun bt => ?_
  refine VCsplit.intro (fun k1 => ?_) (fun k1 => ?_)
  · obtain rfl : k = 1 := by simpa using k1
    refine draw G_ok mixed none (.q 0 (.q 1 (.q 2 (.q 3 (.f 4 (.q 5 (.q 6 (.q 7 (.q 8 (.q 9 (.q 10 (.f 11 (.q 12 (.q 13 (.q 14 (.q 15 (.q 16 (.q 17 (.q 18 (.q 19 (.q 20 (.q 21 (.q 22 (.q 23 (.q 24 (.nil)))))))))))))))))))))))))) (by decide +kernel) ?_
    refine call_val (inRange_ct _ _ _) trivial ?_
    rintro _ rfl
    try refine VC.intro (fun _ h => h) ?_
    refine VCsplit.intro (fun q1 => ?_) (fun q1 => ?_)
    ·
      refine ⟨_, ?_, .box42⟩
      rw [if_neg (by simp_all [turnOk])]
      exact ⟨rfl, _, _, ⟨b1, b2, b3, b4, c1, c2, c3, c4, A1, A2, A3, A4, rfl, rfl, o1, o2, o3, o4, h5, h6⟩, rfl⟩
    rw [hw1] at q1
    have q1 : inR 0 (r.actives.length - 1) at' = true := by simpa using q1
    have q2 := inR_le q1
    refine call_val (inRange_ct _ _ _) trivial ?_
    rintro _ rfl
    try refine VC.intro (fun _ h => h) ?_
    refine VCsplit.intro (fun q3 => ?_) (fun q3 => ?_)
    ·
      refine ⟨_, ?_, .box42⟩
      rw [if_neg (by simp_all [turnOk])]
      exact ⟨rfl, _, _, ⟨b1, b2, b3, b4, c1, c2, c3, c4, A1, A2, A3, A4, rfl, rfl, o1, o2, o3, o4, h5, h6⟩, rfl⟩
    rw [hw1] at q3
    have q3 : inR 0 (r.actives.length - 1) to = true := by simpa using q3
    have q4 := inR_le q3
    refine idx_ow o1 (by omega) (by omega) fun b o hb => ?_
    refine load_rdD (r := flBool.rp) false o1.rd (by omega) (by omega) hb (mem_at 0 rfl) fun l hl => ?_
    obtain ⟨rfl, -⟩ := hl
    refine VCsplit.intro (fun q5 => ?_) (fun q5 => ?_)
    ·
      refine ⟨_, ?_, .box42⟩
      rw [if_neg (by simp_all [turnOk])]
      exact ⟨rfl, _, _, ⟨b1, b2, b3, b4, c1, c2, c3, c4, A1, A2, A3, A4, rfl, rfl, o1, o2, o3, o4, h5, h6⟩, rfl⟩
    have q5 : r.actives[at'.toNat]?.getD false = true := by simpa using q5
    refine draw G_ok mixed (some 10) (.q 0 (.q 1 (.q 2 (.q 3 (.q 4 (.q 5 (.q 6 (.q 7 (.q 8 (.q 9 (.tl 10 (.nil)))))))))))) (by decide +kernel) ?_
    refine idx_ow o2 (by omega) (by omega) fun b o hb => ?_
    refine load_rdD (r := flInt.rp) 0 o2.rd (by omega) (by omega) hb (mem_at 1 rfl) fun l hl => ?_
    obtain ⟨rfl, -⟩ := hl
    have hcn := ringOk_count hok at'.toNat
    have hw3 : IntKind.i64.wrap (r.counts[at'.toNat]?.getD 0 + 1) = r.counts[at'.toNat]?.getD 0 + 1 := wrap_ok (by unfold okI; omega)
    refine idx_ow o2 (by omega) (by omega) fun b o hb => ?_
    refine store_ow (f := flInt) (y := r.counts[at'.toNat]?.getD 0 + 1) 1 rfl o2 (by omega) (by omega) hb (by rw [hw3]; rfl) (by unfold flInt okI; simp; omega) rfl fun A2' o2' => ?_
    refine draw G_ok mixed (some 8) (.q 0 (.q 1 (.q 2 (.q 3 (.q 4 (.q 5 (.q 6 (.f 7 (.tl 8 (.f 9 (.f 10 (.f 11 (.nil))))))))))))) (by decide +kernel) ?_
    refine VCnew.intro fun bz => ?_
    try refine VC.intro keep_new ?_
    refine append_ow (f := flInt) G_ok 4 rfl o4 ((rpSl _).mono (mem_at 0 rfl) (Ow.lit (f := flInt) (T := 3) (b := bz) (xs := [to]) (by intro x hx; simp at hx; subst hx; exact ht) (by simp)).rd) (by intro x hx; simp at hx; subst hx; exact ht) rfl rfl rfl rfl rfl rfl rfl rfl (by simp; omega) ?_
    intro d4 e4 A4' o4' _
    refine ⟨_, ?_, .box43⟩
    rw [if_pos (by simp [turnOk, q1, q3, q5])]
    refine ⟨rfl, _, _, ⟨b1, b2, b3, d4, c1, c2, c3, e4, A1, A2', A3, A4', ?_, rfl, ?_, ?_, ?_, ?_, h5, h6⟩, rfl⟩
    · simp [ringCells, turnT, sendT]
    · simpa [turnT, sendT] using o1
    · simpa [turnT, sendT] using o2'
    · simpa [turnT, sendT] using o3
    · simpa [turnT, sendT] using o4'
  refine VCsplit.intro (fun k2 => ?_) (fun k2 => ?_)
  · obtain rfl : k = 2 := by simpa using k2
    refine draw G_ok mixed none (.q 0 (.q 1 (.q 2 (.q 3 (.q 4 (.q 5 (.q 6 (.q 7 (.f 8 (.q 9 (.nil))))))))))) (by decide +kernel) ?_
    refine call_val (inRange_ct _ _ _) trivial ?_
    rintro _ rfl
    try refine VC.intro (fun _ h => h) ?_
    refine VCsplit.intro (fun q1 => ?_) (fun q1 => ?_)
    ·
      refine ⟨_, ?_, .box42⟩
      rw [if_neg (by simp_all [turnOk])]
      exact ⟨rfl, _, _, ⟨b1, b2, b3, b4, c1, c2, c3, c4, A1, A2, A3, A4, rfl, rfl, o1, o2, o3, o4, h5, h6⟩, rfl⟩
    rw [hw2] at q1
    have q1 : inR 0 (r.flying.length - 1) at' = true := by simpa using q1
    have q2 := inR_le q1
    refine draw G_ok mixed none (.q 0 (.q 1 (.q 2 (.q 3 (.q 4 (.q 5 (.q 6 (.q 7 (.q 8 (.nil)))))))))) (by decide +kernel) ?_
    have hf := ringOk_fly hok at'.toNat (by omega)
    refine idx_ow o4 (by omega) (by omega) fun b o hb => ?_
    refine load_rdD (r := flInt.rp) 0 o4.rd (by omega) (by omega) hb (mem_at 3 rfl) fun l hl => ?_
    obtain ⟨rfl, -⟩ := hl
    refine draw G_ok mixed (some 10) (.q 0 (.q 1 (.q 2 (.q 3 (.q 4 (.q 5 (.q 6 (.q 7 (.q 8 (.q 9 (.tl 10 (.f 11 (.f 12 (.f 13 (.nil))))))))))))))) (by decide +kernel) ?_
    have hw3 : IntKind.i64.wrap (at' + 1) = at' + 1 := wrap_ok (by unfold okI; omega)
    refine call_at 3 rfl (deleteInt_ct b4 _ c4 _ A4 at' _ hw3 o4 (by omega) (by omega) (by omega)) (fun _ _ _ => trivial) ?_
    rintro _ A4' ⟨rfl, o4'⟩
    refine idx_ow o1 (by omega) (by omega) fun b o hb => ?_
    refine store_ow (f := flBool) (y := true) 0 rfl o1 (by omega) (by omega) hb rfl trivial rfl fun A1' o1' => ?_
    refine idx_ow o3 (by omega) (by omega) fun b o hb => ?_
    refine store_ow (f := flBool) (y := true) 2 rfl o3 (by omega) (by omega) hb rfl trivial rfl fun A3' o3' => ?_
    refine idx_ow o2 (by omega) (by omega) fun b o hb => ?_
    refine load_rdD (r := flInt.rp) 0 o2.rd (by omega) (by omega) hb (mem_at 1 rfl) fun l hl => ?_
    obtain ⟨rfl, -⟩ := hl
    have hcn := ringOk_count hok (r.flying[at'.toNat]?.getD 0).toNat
    have hw4 : IntKind.i64.wrap (r.counts[(r.flying[at'.toNat]?.getD 0).toNat]?.getD 0 - 1) = r.counts[(r.flying[at'.toNat]?.getD 0).toNat]?.getD 0 - 1 := wrap_ok (by unfold okI; omega)
    refine idx_ow o2 (by omega) (by omega) fun b o hb => ?_
    refine store_ow (f := flInt) (y := r.counts[(r.flying[at'.toNat]?.getD 0).toNat]?.getD 0 - 1) 1 rfl o2 (by omega) (by omega) hb (by rw [hw4]; rfl) (by unfold flInt okI; simp; omega) rfl fun A2' o2' => ?_
    refine ⟨_, ?_, .box42⟩
    rw [if_pos (by simp [turnOk, q1])]
    refine ⟨rfl, _, _, ⟨b1, b2, b3, b4, c1, c2, c3, c4, A1', A2', A3', A4', ?_, rfl, ?_, ?_, ?_, ?_, h5, h6⟩, rfl⟩
    · simp [ringCells, turnT, takeT]; omega
    · simpa [turnT, takeT] using o1'
    · simpa [turnT, takeT] using o2'
    · simpa [turnT, takeT] using o3'
    · have e : (r.flying.take at'.toNat ++ r.flying.drop (at'.toNat + 1)).length = r.flying.length - 1 := by simp; omega
      rw [← e] at o4'
      simpa [turnT, takeT] using o4'
  refine VCsplit.intro (fun k3 => ?_) (fun k3 => ?_)
  · obtain rfl : k = 3 := by simpa using k3
    refine draw G_ok mixed none (.q 0 (.q 1 (.q 2 (.q 3 (.f 4 (.q 5 (.q 6 (.q 7 (.q 8 (.q 9 (.q 10 (.q 11 (.q 12 (.q 13 (.q 14 (.q 15 (.q 16 (.nil)))))))))))))))))) (by decide +kernel) ?_
    refine call_val (inRange_ct _ _ _) trivial ?_
    rintro _ rfl
    try refine VC.intro (fun _ h => h) ?_
    refine VCsplit.intro (fun q1 => ?_) (fun q1 => ?_)
    ·
      refine ⟨_, ?_, .box42⟩
      rw [if_neg (by simp_all [turnOk])]
      exact ⟨rfl, _, _, ⟨b1, b2, b3, b4, c1, c2, c3, c4, A1, A2, A3, A4, rfl, rfl, o1, o2, o3, o4, h5, h6⟩, rfl⟩
    rw [hw1] at q1
    have q1 : inR 0 (r.actives.length - 1) at' = true := by simpa using q1
    have q2 := inR_le q1
    refine idx_ow o1 (by omega) (by omega) fun b o hb => ?_
    refine load_rdD (r := flBool.rp) false o1.rd (by omega) (by omega) hb (mem_at 0 rfl) fun l hl => ?_
    obtain ⟨rfl, -⟩ := hl
    refine VCsplit.intro (fun q5 => ?_) (fun q5 => ?_)
    ·
      refine ⟨_, ?_, .box42⟩
      rw [if_neg (by simp_all [turnOk])]
      exact ⟨rfl, _, _, ⟨b1, b2, b3, b4, c1, c2, c3, c4, A1, A2, A3, A4, rfl, rfl, o1, o2, o3, o4, h5, h6⟩, rfl⟩
    have q5 : r.actives[at'.toNat]?.getD false = true := by simpa using q5
    refine draw G_ok mixed (some 7) (.q 0 (.q 1 (.q 2 (.q 3 (.q 4 (.q 5 (.q 6 (.tl 7 (.nil))))))))) (by decide +kernel) ?_
    refine idx_ow o1 (by omega) (by omega) fun b o hb => ?_
    refine store_ow (f := flBool) (y := false) 0 rfl o1 (by omega) (by omega) hb rfl trivial rfl fun A1' o1' => ?_
    refine ⟨_, ?_, .box42⟩
    rw [if_pos (by simp [turnOk, q1, q5])]
    refine ⟨rfl, _, _, ⟨b1, b2, b3, b4, c1, c2, c3, c4, A1', A2, A3, A4, ?_, rfl, ?_, ?_, ?_, ?_, h5, h6⟩, rfl⟩
    · simp [ringCells, turnT, restT]
    · simpa [turnT, restT] using o1'
    · simpa [turnT, restT] using o2
    · simpa [turnT, restT] using o3
    · simpa [turnT, restT] using o4
  refine VCsplit.intro (fun k4 => ?_) (fun k4 => ?_)
  · obtain rfl : k = 4 := by simpa using k4
    refine call_gen (A0 := (bb, Obj.cells ⟨ringCells r b1 b2 b3 b4 c1 c2 c3 c4⟩ 34) :: (A1 ++ (A2 ++ (A3 ++ A4)))) ((bt, Obj.cells ⟨[.int .i64 4, .int .i64 at', .int .i64 to]⟩ 43) :: H)
      (pass_ct bb _ _ r ⟨b1, b2, b3, b4, c1, c2, c3, c4, A1, A2, A3, A4, rfl, rfl, o1, o2, o3, o4, h5, h6⟩ hok) (.le fun a => by simp [List.count_cons, St.hall, Blk.ent]; omega) trivial ?_
    intro v A hv
    by_cases q1 : r.actives[r.held.toNat]?.getD false = true
    · rw [if_pos q1] at hv
      obtain ⟨rfl, l', A', hA, rfl⟩ := hv
      refine ⟨[⟨bb, l', 34⟩, ⟨bt, _, 43⟩], [A', H], rfl, .le fun a => by simp [List.count_cons, St.hall, Blk.ent]; omega, ?_⟩
      refine ⟨_, ?_, .boxA⟩
      rw [if_neg (by simp [turnOk, q1])]
      exact ⟨rfl, _, _, hA, rfl⟩
    · rw [if_neg q1] at hv
      obtain ⟨rfl, l', A', hA, rfl⟩ := hv
      refine ⟨[⟨bb, l', 34⟩, ⟨bt, _, 43⟩], [A', H], rfl, .le fun a => by simp [List.count_cons, St.hall, Blk.ent]; omega, ?_⟩
      refine ⟨_, ?_, .boxA⟩
      rw [if_pos (by simpa [turnOk] using q1)]
      exact ⟨rfl, _, _, hA, rfl⟩
  ·
    refine ⟨_, ?_, .box42⟩
    rw [if_neg (by simp_all [turnOk])]
    exact ⟨rfl, _, _, ⟨b1, b2, b3, b4, c1, c2, c3, c4, A1, A2, A3, A4, rfl, rfl, o1, o2, o3, o4, h5, h6⟩, rfl⟩
end Go.Proofs.Ythihffgmmkhlhaa
