/-
  Graphs put together. Plain. Conditions: none.
-/
import Derived.Test.YtcikookachejfaaJm
namespace Go.Proofs.Ytcikookachejfaa
open Go.SX Go.Proofs
set_option maxHeartbeats 1000000

theorem putE_len : ∀ {l : List Edge} (e : Edge), sortedE l → l.length ≤ (putE l e).length
  | [], e, _ => by simp
  | a :: l, e, h => by
    have h1 := (List.pairwise_cons.1 h).1
    have ih := putE_len (l := l) e (List.pairwise_cons.1 h).2
    unfold putE at *
    simp only [List.length_append, List.length_cons, List.length_nil] at *
    cases e1 : edgeLess a e with
    | true => rw [List.filter_cons_of_pos (by simpa using e1)]; simp only [List.length_cons]; have := List.length_filter_le (fun x => edgeLess e x) (a :: l); cases e2 : edgeLess e a with
      | true => rw [edgeLess_asym e1] at e2; cases e2
      | false => rw [List.filter_cons_of_neg (by simpa using e2)]; omega
    | false =>
      rw [List.filter_cons_of_neg (by simpa using e1)]
      cases e2 : edgeLess e a with
      | true => rw [List.filter_cons_of_pos (by simpa using e2)]; simp only [List.length_cons]; omega
      | false =>
        have e3 := edgeLess_total e1 e2
        subst e3
        rw [List.filter_cons_of_neg (by simpa using e2)]
        have h2 : l.filter (fun x => edgeLess a x) = l := List.filter_eq_self.2 fun x hx => h1 x hx
        rw [h2]; omega
def putAll (es : List Edge) (l : List Edge) : List Edge := l.foldl putE es
def togE (l : List Graph) : List Edge := l.foldl (fun es g => putAll es g.edges) []
theorem putAll_ok {n : Int} : ∀ (l : List Edge) {es : List Edge}, gOk n es → (∀ e ∈ l, eOk n e = true) → gOk n (putAll es l) ∧ es.length ≤ (putAll es l).length
  | [], es, h, _ => ⟨h, Nat.le_refl _⟩
  | e :: l, es, h, he => by
    have h1 := putE_ok h (he e (List.mem_cons_self ..))
    obtain ⟨h2, h3⟩ := putAll_ok l h1 fun x hx => he x (List.mem_cons_of_mem _ hx)
    exact ⟨h2, Nat.le_trans (putE_len e h.2) h3⟩
/-- the graphs are right and of one size -/
def togOk (n : Int) (l : List Graph) : Bool := l.all fun g => graphOk g && decide (g.size = n)
def together (l : List Graph) : Option Graph := match l with
  | [] => none
  | g :: r => if togOk g.size (g :: r) && graphOk ⟨g.size, togE (g :: r)⟩ then some ⟨g.size, togE (g :: r)⟩ else none
theorem tog_ok {n : Int} : ∀ (l : List Graph) {es : List Edge}, gOk n es → togOk n l = true → gOk n (l.foldl (fun es g => putAll es g.edges) es) ∧ es.length ≤ (l.foldl (fun es g => putAll es g.edges) es).length
  | [], es, h, _ => ⟨h, Nat.le_refl _⟩
  | g :: l, es, h, ht => by
    unfold togOk at ht
    rw [List.all_cons, Bool.and_eq_true, Bool.and_eq_true, decide_eq_true_iff] at ht
    obtain ⟨⟨h1, h2⟩, h3⟩ := ht
    have h4 : ∀ e ∈ g.edges, eOk n e = true := by
      have := (graphOk_iff.1 h1).2.2.1
      rw [h2] at this; exact this
    obtain ⟨h5, h6⟩ := putAll_ok g.edges h h4
    obtain ⟨h7, h8⟩ := tog_ok l h5 h3
    exact ⟨h7, Nat.le_trans h6 h8⟩
end Go.Proofs.Ytcikookachejfaa
