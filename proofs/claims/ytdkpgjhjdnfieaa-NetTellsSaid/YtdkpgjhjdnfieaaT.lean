/- The contract of Total, and of receipt. Condition: the net lies in memory as stated, with at most 20 servers and 1024 messages on a link. -/
import Derived.Test.YtdkpgjhjdnfieaaS
set_option linter.unusedVariables false
set_option linter.unusedSimpArgs false
namespace Go.Proofs.Ytdkpgjhjdnfieaa
open Go.RowKit Go.Mf
set_option maxRecDepth 100000

def sumTo (f : Nat → Nat) : Nat → Nat
  | 0 => 0
  | k + 1 => sumTo f k + f k
theorem sumTo_le {f : Nat → Nat} {b : Nat} (h : ∀ k, f k ≤ b) : ∀ k, sumTo f k ≤ k * b
  | 0 => by simp [sumTo]
  | k + 1 => by have := sumTo_le h k; have := h k; rw [sumTo, Nat.succ_mul]; omega
theorem sumTo_mono (f : Nat → Nat) (n : Nat) : ∀ j, j ≤ n → sumTo f j ≤ sumTo f n := by
  induction n with
  | zero => intro j hj; have : j = 0 := by omega
            rw [this]; exact Nat.le_refl _
  | succ n ih =>
    intro j hj
    by_cases e : j = n + 1
    · rw [e]; exact Nat.le_refl _
    · have := ih j (by omega)
      rw [sumTo]; omega
def Nx.total (X : Nx) : Nat := sumTo (fun i => sumTo (fun j => (X.q i j).length) X.n) X.n
def Nx.Small (X : Nx) : Prop := X.n ≤ 20 ∧ ∀ i j, (X.q i j).length ≤ 1024

set_option maxHeartbeats 1000000 in
theorem total_any (w : World) (S : Nat → Prop) (x : Nat) (X : Nx) (h : NetOk w S x X) (hsm : X.Small) :
    Calls Try.prog 28 #[.pointer (some ⟨x, 0, none⟩)] w fun e w' => e = .returned (.int .i64 (X.total : Nat)) ∧ Below w.heap.size w w' := by
  obtain ⟨hS, rb, rr, qv, hN⟩ := h
  obtain ⟨hn20, hq⟩ := hsm
  have hx : w.cell? ⟨x, 0, none⟩ = some (.slice (some ⟨rb, 0, none⟩) X.n X.n) := by rw [cell_of_block hN.hx]; rfl
  obtain ⟨f, hf⟩ : ∃ f : Nat → Nat, f = fun i => sumTo (fun j => (X.q i j).length) X.n := ⟨_, rfl⟩
  have hfb : ∀ i, f i ≤ 20480 := fun i => by
    rw [hf]; have := sumTo_le (fun j => hq i j) X.n; have : X.n * 1024 ≤ 20 * 1024 := Nat.mul_le_mul_right _ hn20; dsimp only; omega
  have htb : ∀ k, k ≤ X.n → sumTo f k ≤ 409600 := fun k hk => by
    have := sumTo_le hfb k; have : k * 20480 ≤ 20 * 20480 := Nat.mul_le_mul_right _ (by omega); omega
  have HT : Hid (X.total = sumTo f X.n) := by rw [hf]; rfl
  have HF := Lib.hid hf
  have HN := Lib.hid hN
  have HQ := Lib.hid hq
  have HTB := Lib.hid htb
  obtain ⟨n, hn⟩ : ∃ n, X.n = n := ⟨_, rfl⟩
  have HNN := Lib.hid hn
  rw [hn] at hx hn20
  clear hf hfb htb hN hS hq hn
  go_enter Try.func28, Try.ntmps28
  go_wp2
  go_loopw [13, 3] (fun i t wr => ∃ k : Nat, k ≤ n ∧ i = .int .i64 k ∧ t = .int .i64 (sumTo f k : Nat) ∧ Hid (Below w.heap.size w wr)) (fun i _ _ => n - (intOf i).toNat)
  case atStart => exact ⟨0, by omega, rfl, rfl, Below.refl _ _⟩
  case round =>
    obtain ⟨k, hk, rfl, rfl, hb⟩ := hrel
    have ht1 := HTB.out k (by rw [HNN.out]; exact hk)
    by_cases hkn : k < n
    · have hrk : wr.cell? ⟨rb, k, none⟩ = some (.slice (some ⟨rr k, 0, none⟩) n n) := by
        rw [← HNN.out]
        refine cell_later hb.out ?_
        rw [cell_of_block HN.out.hr]; exact rowCells_get rr (by rw [HNN.out]; exact hkn)
      have hstep : sumTo f (k + 1) = sumTo f k + f k := rfl
      have HSTEP := Lib.hid hstep
      obtain ⟨t, ht⟩ : ∃ t, sumTo f k = t := ⟨_, rfl⟩
      have hfk : f k = sumTo (fun j => (X.q k j).length) n := by rw [HF.out, HNN.out]
      have HFK := Lib.hid hfk
      have hts := HTB.out (k + 1) (by rw [HNN.out]; omega)
      rw [hstep, hfk] at hts
      have HTK := Lib.hid ht
      rw [ht] at ht1 hts ⊢
      obtain ⟨f2, hf2⟩ : ∃ f2 : Nat → Nat, f2 = fun j => (X.q k j).length := ⟨_, rfl⟩
      rw [← hf2] at hts
      have hmono : ∀ j, j ≤ n → sumTo f2 j ≤ sumTo f2 n := sumTo_mono f2 n
      have HMONO := Lib.hid hmono
      have HF2 := Lib.hid hf2
      clear hstep hfk ht hmono hf2
      go_wp2
      obtain ⟨wo, rfl⟩ : ∃ wo : World, wo = wr := ⟨_, rfl⟩
      go_loopw [19, 3] (fun i u wx => ∃ j : Nat, j ≤ n ∧ i = .int .i64 j ∧ u = .int .i64 (t + sumTo f2 j : Nat) ∧ Hid (Below w.heap.size w wx)) (fun i _ _ => n - (intOf i).toNat)
      case atStart => exact ⟨0, by omega, rfl, rfl, hb⟩
      case round =>
        obtain ⟨j, hj, rfl, rfl, hbx⟩ := hrel
        have hjm := HMONO.out j hj
        by_cases hjn : j < n
        · obtain ⟨q, c, e, d1, d2⟩ := link_cells HN.out (i := k) (j := j) (by rw [HNN.out]; exact hkn) (by rw [HNN.out]; exact hjn)
          have e1 := cell_later hbx.out d1
          have e2 := cell_later hbx.out d2
          have hstep : sumTo f2 (j + 1) = sumTo f2 j + (X.q k j).length := by rw [HF2.out]; rfl
          have hjm1 := HMONO.out (j + 1) (by omega)
          rw [hstep] at hjm1
          have HSTEP2 := Lib.hid hstep
          obtain ⟨ln, hln⟩ : ∃ ln, (X.q k j).length = ln := ⟨_, rfl⟩
          have HLN := Lib.hid hln
          rw [hln] at e1 hjm1
          obtain ⟨sj, hsj⟩ : ∃ sj, sumTo f2 j = sj := ⟨_, rfl⟩
          have HSJ := Lib.hid hsj
          rw [hsj] at hjm hjm1 ⊢
          obtain ⟨of, hof⟩ : ∃ of, X.off k j = of := ⟨_, rfl⟩
          rw [hof] at e2
          clear e d1 d2 hstep hln hsj hof
          go_wp2
          go_roundw
          case rel => exact ⟨j + 1, by omega, by go_num, by rw [HSTEP2.out, HSJ.out, HLN.out]; go_num, (hbx.out.alloc hbx.out.size _)⟩
          case measure => simp [intOf]; omega
        · have hjn2 : j = n := by omega
          subst hjn2
          clear hjn
          go_wp2
          go_roundw
          case rel => exact ⟨k + 1, by omega, by go_num, by rw [HSTEP.out, HTK.out, HFK.out, HF2.out], hbx⟩
          case measure => simp [intOf]; omega
    · have hkn2 : k = n := by omega
      have HKN := Lib.hid hkn2
      clear hkn2
      go_wp2
      go_ret
      exact ⟨by rw [HT.out, HNN.out, HKN.out]; rfl, hb⟩
end Go.Proofs.Ytdkpgjhjdnfieaa
