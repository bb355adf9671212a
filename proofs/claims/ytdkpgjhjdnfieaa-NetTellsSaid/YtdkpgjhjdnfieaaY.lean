/- How Total goes with the queues; a net of one or two queues. No program is run. No condition. -/
import Derived.Test.YtdkpgjhjdnfieaaW
set_option linter.unusedVariables false
set_option linter.unusedSimpArgs false
namespace Go.Proofs.Ytdkpgjhjdnfieaa
open Go.RowKit Go.Mf

theorem sumTo_congr {f g : Nat → Nat} : ∀ n, (∀ k, k < n → f k = g k) → sumTo f n = sumTo g n
  | 0, _ => rfl
  | n + 1, h => by rw [sumTo, sumTo, sumTo_congr n (fun k hk => h k (by omega)), h n (by omega)]
theorem sumTo_update {f : Nat → Nat} {i v : Nat} : ∀ {n}, i < n → sumTo (fun k => if k = i then v else f k) n + f i = sumTo f n + v
  | 0, h => by omega
  | n + 1, h => by
    rw [sumTo, sumTo]
    by_cases e : n = i
    · subst e
      have : sumTo (fun k => if k = n then v else f k) n = sumTo f n := sumTo_congr n (fun k hk => by rw [if_neg (by omega)])
      rw [this, if_pos rfl]; omega
    · have := sumTo_update (f := f) (v := v) (show i < n by omega)
      rw [if_neg e]; omega
theorem sumTo_zero : ∀ n, sumTo (fun _ => 0) n = 0
  | 0 => rfl
  | n + 1 => by rw [sumTo, sumTo_zero n]
theorem total_set (X : Nx) {i j : Nat} (l : List (List Value)) (hi : i < X.n) (hj : j < X.n) : (X.set i j l).total + (X.q i j).length = X.total + l.length := by
  unfold Nx.total
  have e1 : sumTo (fun a => sumTo (fun b => ((X.set i j l).q a b).length) (X.set i j l).n) (X.set i j l).n = sumTo (fun a => if a = i then sumTo (fun b => if b = j then l.length else (X.q i b).length) X.n else sumTo (fun b => (X.q a b).length) X.n) X.n := by
    refine sumTo_congr _ (fun a _ => ?_)
    by_cases e : a = i
    · subst e
      rw [if_pos rfl]
      refine sumTo_congr _ (fun b _ => ?_)
      by_cases e2 : b = j
      · subst e2; simp [Nx.set]
      · simp [Nx.set, e2]
    · rw [if_neg e]
      refine sumTo_congr _ (fun b _ => ?_)
      simp [Nx.set, e]
  rw [e1]
  have h1 := sumTo_update (f := fun a => sumTo (fun b => (X.q a b).length) X.n) (v := sumTo (fun b => if b = j then l.length else (X.q i b).length) X.n) hi
  have h2 := sumTo_update (f := fun b => (X.q i b).length) (v := l.length) hj
  omega

/-- a net with messages on one link and on the link back alone -/
def XF (n i j : Nat) (l r : List (List Value)) : Nx := ⟨n, fun a b => if a = i ∧ b = j then l else if a = j ∧ b = i then r else [], fun _ _ => false⟩
theorem XF_zero (n i j : Nat) : (⟨n, fun _ _ => [], fun _ _ => false⟩ : Nx) = XF n i j [] [] := by unfold XF; simp
theorem XF_q (n i j : Nat) (l r : List (List Value)) : (XF n i j l r).q i j = l := by simp [XF]
theorem XF_set (n i j : Nat) (l r l' : List (List Value)) : (XF n i j l r).set i j l' = XF n i j l' r := by
  unfold XF Nx.set
  simp only [Nx.mk.injEq, true_and, and_true]
  funext a b
  by_cases h : a = i ∧ b = j <;> simp [h]
theorem XF_back {n i j : Nat} (hne : i ≠ j) (l r r' : List (List Value)) : (XF n i j l r).set j i r' = XF n i j l r' := by
  unfold XF Nx.set
  simp only [Nx.mk.injEq, true_and, and_true]
  funext a b
  by_cases h : a = j ∧ b = i
  · rw [if_pos h, if_neg (by omega), if_pos h]
  · by_cases h2 : a = i ∧ b = j
    · rw [if_neg h, if_pos h2]
      rw [if_pos h2]
    · simp [h, h2]
theorem XF_qb {n i j : Nat} (hne : i ≠ j) (l r : List (List Value)) : (XF n i j l r).q j i = r := by
  unfold XF
  simp only
  rw [if_neg (by omega)]
  simp
theorem XF_cut (n i j : Nat) (l r : List (List Value)) (a b : Int) : (XF n i j l r).cut a b false = XF n i j l r := by
  unfold Nx.cut
  split
  · unfold XF; simp
  · rfl
theorem XF_total {n i j : Nat} (hi : i < n) (hj : j < n) (hne : i ≠ j) (l r : List (List Value)) : (XF n i j l r).total = l.length + r.length := by
  have h0 : (XF n i j [] []).total = 0 := by
    unfold Nx.total
    have : sumTo (fun a => sumTo (fun b => ((XF n i j [] []).q a b).length) (XF n i j [] []).n) (XF n i j [] []).n = sumTo (fun _ => 0) n := by
      refine sumTo_congr _ (fun a _ => ?_)
      rw [← sumTo_zero n]
      refine sumTo_congr _ (fun b _ => ?_)
      simp [XF]
    rw [this, sumTo_zero]
  have h1 := total_set (XF n i j [] []) l (show i < (XF n i j [] []).n from hi) (show j < (XF n i j [] []).n from hj)
  rw [XF_set, XF_q, h0] at h1
  have h2 := total_set (XF n i j l []) r (show j < (XF n i j l []).n from hj) (show i < (XF n i j l []).n from hi)
  rw [XF_back hne, XF_qb hne] at h2
  simp at h1 h2
  omega
theorem XF_small {n i j : Nat} (hn : n ≤ 20) {l r : List (List Value)} (h1 : l.length ≤ 1024) (h2 : r.length ≤ 1024) : (XF n i j l r).Small := by
  refine ⟨hn, fun a b => ?_⟩
  unfold XF
  simp only
  split
  · exact h1
  · split
    · exact h2
    · simp
theorem isLink_of {n i j : Nat} (hi : i < n) (hj : j < n) (hne : i ≠ j) : isLink n (i : Int) (j : Int) = true := by unfold isLink; simp; omega
theorem many_le (n : Int) : many n ≤ 20 := by unfold many; omega
end Go.Proofs.Ytdkpgjhjdnfieaa
