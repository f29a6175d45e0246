/-
  Delete of the library of slices, of one number. Conditions: none.
-/
import Derived.Test.YthihffgmmkhlhaaCb
namespace Go.Proofs.Ythihffgmmkhlhaa
open Go.SX Go.Proofs

theorem deleteInt_ct (base : Option Addr) (m cap : Nat) (xs : List Int) (A : Hp) (i j : Int) (hj : j = i + 1) (ho : Ow flInt 3 (.slice base m cap) xs A) (h0 : 0 ≤ i) (h1 : i < m) (hm : m ≤ 1000000) :
    Ct Try.prog 76 [.slice base m cap, .int .i64 i, .int .i64 j] A (fun _ => True)
      (fun v A => v = .slice base (m - 1) cap ∧ Ow flInt 3 (.slice base (m - 1) cap) (xs.take i.toNat ++ xs.drop (i.toNat + 1)) A) := by
  subst hj
  obtain ⟨k, rfl⟩ : ∃ k : Nat, i = k := ⟨i.toNat, by omega⟩
  refine Ct.intro G_ok Try.func76 rfl rfl rfl fun E H _ => ?_
  have hlen := (rd_len ho.rd).1
  have hcap := rd_cap ho.rd
  subst hlen
  refine VC.intro (by omega) ?_
  refine VC.intro (by omega) ?_
  refine VC.intro (by omega) ?_
  refine VCsplit.intro (fun h => ?_) (fun h => ?_)
  · simp at h; omega
  refine draw G_ok mixed (some 6) (.q 0 (.q 1 (.q 2 (.q 3 (.q 4 (.q 5 (.tl 6 (.f 7 (.nil))))))))) (by decide +kernel) ?_
  refine VC.intro (by omega) ?_
  refine VC.intro (by omega) ?_
  refine append_ow (f := flInt) G_ok 0 rfl (ho.take (i := k) (by omega)) (rd_sub (r := flInt.rp) (l := k + 1) (h := xs.length) ((rpSl _).mono (mem_at 0 rfl) ho.rd) (by omega) (by omega)) (fun y hy => rd_wf ho.rd y (List.mem_of_mem_take (List.mem_of_mem_drop hy))) rfl rfl rfl rfl rfl rfl rfl rfl (by simp; omega) ?_
  intro base' cap' A' ho' hfit
  obtain ⟨rfl, rfl⟩ := hfit (by simp; omega)
  refine VC.intro (by simp; omega) ?_
  refine VC.intro (by simp; omega) ?_
  refine clear_ow G_ok 0 rfl ho' (l := (List.take k xs).length + (List.drop (k + 1) (List.take xs.length xs)).length) (h := xs.length) rfl (by omega) (by simp; omega) (by omega) rfl rfl rfl rfl ?_
  intro A'' ho''
  refine ⟨A'', ⟨?_, ?_⟩, RLe.tl⟩
  · congr 1; simp; omega
  · have e : (List.take k xs).length + (List.drop (k + 1) (List.take xs.length xs)).length = xs.length - 1 := by simp; omega
    rw [e] at ho''
    simpa using ho''
end Go.Proofs.Ythihffgmmkhlhaa
