/- The contract of Twice. Condition: the net lies in memory as stated, the message that is doubled reads as its data. -/
import Derived.Test.YtdkpgjhjdnfieaaQ
set_option linter.unusedVariables false
set_option linter.unusedSimpArgs false
namespace Go.Proofs.Ytdkpgjhjdnfieaa
open Go.RowKit Go.Mf
set_option maxRecDepth 100000

def Nx.hasAt (X : Nx) (a b i : Int) : Bool := isLink X.n a b && (decide (0 ≤ i) && decide (i < (X.q a.toNat b.toNat).length))
def Nx.twiceOk (X : Nx) (a b i : Int) : Bool := X.hasAt a b i && decide ((X.q a.toNat b.toNat).length < 1024)

theorem own_mid {w : World} {g cap n k : Nat} {l : List (List Value)} {m : List Value} (h : w.ownsRow 0 42 34 (.slice (some ⟨g, 0, none⟩) n cap) n l.flatten) (hok : MsgsOk l) (hk : l[k]? = some m) : w.rangeAt g (k * 34) m := fun j u hu => by
  have hml := (hok m (List.mem_of_getElem? hk)).1
  have hj : j < 34 := by rw [← hml]; exact (List.getElem?_eq_some_iff.1 hu).1
  have := h.cells (g := g) rfl (k * 34 + j) u (by rw [flat_get (m := 34) (fun x hx => (hok x hx).1) hk hj]; exact hu)
  rw [Addr.add_lit, Nat.zero_add] at this
  exact this

set_option maxHeartbeats 1000000 in
theorem twice_any (w : World) (S Sc : Nat → Prop) (x : Nat) (X : Nx) (M : MsgD) (a b t : Int) (h : NetOk w S x X) (hM : X.twiceOk a b t = true → ∃ cs, (X.q a.toNat b.toNat)[t.toNat]? = some cs ∧ MsgIn w Sc cs M) (hSc : ∀ k, Sc k → k < w.heap.size) :
    Calls Try.prog 19 #[.pointer (some ⟨x, 0, none⟩), .int .i64 a, .int .i64 b, .int .i64 t] w (AddedPost w S x X a b M (X.twiceOk a b t)) := by
  obtain ⟨hS, rb, rr, qv, hN⟩ := h
  have hlk := link_any hN a b
  have hno : X.twiceOk a b t = false → AddedPost w S x X a b M (X.twiceOk a b t) (.returned (.bool false)) w := fun hf => by
    rw [hf]
    exact ⟨S, X, rfl, ⟨hS, rb, rr, qv, hN⟩, Fr.refl _ _, fun _ => ⟨rfl, rfl⟩, fun h => (by cases h)⟩
  have HNO := Lib.hid hno
  have HN := Lib.hid hN
  have HSC := Lib.hid hSc
  have HS := Lib.hid hS
  have HM := Lib.hid hM
  by_cases hl : isLink X.n a b = true
  · obtain ⟨i, j, rfl, rfl, hi, hj, hne⟩ := isLink_nat hl
    obtain ⟨q, c, e, d1, d2⟩ := link_cells hN hi hj
    rw [if_pos hl] at hlk
    simp only [Int.toNat_natCast] at hlk
    have HLK := Lib.hid hlk
    have HL := Lib.hid hl
    have hha : X.hasAt i j t = (decide (0 ≤ t) && decide (t < (X.q i j).length)) := by unfold Nx.hasAt; rw [hl]; simp
    have hsv : X.twiceOk i j t = ((decide (0 ≤ t) && decide (t < (X.q i j).length)) && decide ((X.q i j).length < 1024)) := by unfold Nx.twiceOk; rw [hha]; simp
    have HSV := Lib.hid hsv
    have hbi : (linkCells X.n (qv i) (X.off i))[j * 2]? = some (qv i j) := by rw [Nat.mul_comm]; exact (link_get (n := X.n) (qv i) (X.off i) hj).1
    have HBI := Lib.hid hbi
    have HE := Lib.hid e
    have HOWN := Lib.hid (hN.hq i j hi hj)
    have HLB := Lib.hid (hN.hl i hi)
    obtain ⟨n, hn⟩ : ∃ n, (X.q i j).length = n := ⟨_, rfl⟩
    have HNN := Lib.hid hn
    rw [hn] at d1
    have hhas := has_any w (rr i) (j * 2) n c t q d1
    have hfull := full_any w (rr i) (j * 2) n c q d1
    have HHAS := Lib.hid hhas
    have HFULL := Lib.hid hfull
    clear hlk hno hM hSc hN hS hl hsv hbi hn hha hhas hfull e d2
    go_enter Try.func19, Try.ntmps19
    go_wp2_with fail
    refine HLK.out.mono ?_
    rintro e w' ⟨rfl, rfl⟩
    clear HLK
    go_wp2_with fail
    by_cases hin : 0 ≤ t ∧ t < n
    · have hh := HHAS.out
      rw [show (decide (0 ≤ t) && decide (t < (n : Int))) = true by simp; omega] at hh
      refine hh.mono ?_
      rintro e w1 ⟨rfl, rfl⟩
      clear hh
      obtain ⟨k, rfl⟩ : ∃ k : Nat, t = k := ⟨t.toNat, by omega⟩
      have hkn : k < n := by omega
      go_wp2_with fail
      by_cases hfu : 1024 ≤ n
      · have hf := HFULL.out
        rw [show decide (1024 ≤ n) = true by simpa using hfu] at hf
        have HNF := Lib.hid (HNO.out (by rw [HSV.out, HNN.out]; simp; omega))
        refine hf.mono ?_
        rintro e w1 ⟨rfl, rfl⟩
        clear hf
        go_wp2
        go_ret
        exact HNF.out
      · have hf := HFULL.out
        rw [show decide (1024 ≤ n) = false by simpa using hfu] at hf
        have hyes : X.twiceOk i j k = true := by rw [HSV.out, HNN.out]; simp; omega
        have HYES := Lib.hid hyes
        obtain ⟨cs, hcs, hmsg⟩ := HM.out hyes
        simp only [Int.toNat_natCast] at hcs
        have HMSG := Lib.hid hmsg
        have hqv := HE.out
        have hpos : 0 < (X.q i j).length := by rw [HNN.out]; omega
        obtain ⟨g, hg⟩ : ∃ g, q = some ⟨g, 0, none⟩ := by
          rcases HOWN.out.2 with ⟨h1, h2⟩ | ⟨g, cap, cur, h1, _⟩
          · omega
          · rw [hqv] at h1; simp only [Value.slice.injEq] at h1; exact ⟨g, h1.1⟩
        subst hg
        have ho := HOWN.out
        rw [hqv, HNN.out] at ho
        have HRNG := Lib.hid (own_mid ho (HN.out.ok i j) hcs)
        have HCS : Hid (cs.length = 34) := hmsg.1
        obtain ⟨fs42, hu42⟩ := und42
        have HD1 := Lib.hid d1
        refine hf.mono ?_
        rintro e w1 ⟨rfl, rfl⟩
        clear hf hyes hcs hmsg hqv hpos ho d1
        go_upto_region 4 with fail
        refine wp_region_any (by kernel_rfl) ?_
        change wpAny _ _ _ _ _ _ _ (World.drew _)
        refine wpAny_take (i := 0) (v := .pointer (some ⟨rr i, j * 2, none⟩)) rfl (by kernel_rfl) (by kernel_rfl) (by kernel_rfl) (fun _ _ _ h => h) (Or.inl ⟨by rfl, by intro _; go_simp⟩) ?_
        refine wpAny_take (i := 1) (v := .pointer (some ⟨rr i, j * 2, none⟩)) rfl (by kernel_rfl) (by kernel_rfl) (by kernel_rfl) (fun _ _ _ h => h) (Or.inl ⟨by rfl, by intro _; go_simp⟩) ?_
        refine wpAny_take (i := 2) (v := .pointer (some ⟨rr i, j * 2, none⟩)) rfl (by kernel_rfl) (by kernel_rfl) (by kernel_rfl) (fun _ _ _ h => h) (Or.inl ⟨by rfl, by intro _; go_simp⟩) ?_
        refine wpAny_take (i := 3) (v := .pointer (some ⟨rr i, j * 2, none⟩)) rfl (by kernel_rfl) (by kernel_rfl) (by kernel_rfl) (fun _ _ _ h => h) (Or.inl ⟨by rfl, by intro _; go_simp⟩) ?_
        refine wpAny_take (i := 4) (v := .pointer (some ⟨rr i, j * 2, none⟩)) rfl (by kernel_rfl) (by kernel_rfl) (by kernel_rfl) (fun _ _ _ h => h) (Or.inl ⟨by rfl, by intro _; go_simp⟩) ?_
        refine wpAny_take (i := 5) (v := .pointer (some ⟨rr i, j * 2, none⟩)) rfl (by kernel_rfl) (by kernel_rfl) (by kernel_rfl) (fun _ _ _ h => h) (Or.inl ⟨by rfl, by intro _; go_simp⟩) ?_
        refine wpAny_take (i := 6) (v := .pointer (some ⟨rr i, j * 2, none⟩)) rfl (by kernel_rfl) (by kernel_rfl) (by kernel_rfl) (fun _ _ _ h => h) (Or.inl ⟨by rfl, by intro _; go_simp⟩) ?_
        refine wpAny_take (i := 8) (v := .int .i64 (k : Int)) rfl (by kernel_rfl) (by kernel_rfl) (by kernel_rfl) (fun _ _ _ h => h) (Or.inl ⟨by rfl, by intro _; go_simp⟩) ?_
        refine Rg.Any.plain (S := fun _ _ => True) _ _ _ _ ?_
        refine Rg.only 7 (by kernel_rfl) (by simp only [List.getElem?_toArray, List.getElem?_cons_succ, List.getElem?_cons_zero]; rfl) (fun K hK => ?_)
        have d1 := HD1.out
        go_simp
        refine hK.out _ _ trivial ?_
        clear hK K
        refine Rg.only 9 (by kernel_rfl) (by simp only [List.getElem?_toArray, List.getElem?_cons_succ, List.getElem?_cons_zero]; rfl) (fun K hK => ?_)
        go_simp
        refine hK.out _ _ trivial ?_
        clear hK K
        refine Rg.only 10 (by kernel_rfl) (by simp only [List.getElem?_toArray, List.getElem?_cons_succ, List.getElem?_cons_zero]; rfl) (fun K hK => ?_)
        rw [if_pos (by rfl)]
        refine wp_load_mid 42 _ rfl g (k * 34) rfl cs _ (fun j u hu => HRNG.out j u hu) hu42 rfl (by rw [HCS.out]; exact size42) ?_
        refine hK.out _ _ trivial ?_
        clear hK K
        refine Rg.only 11 (by kernel_rfl) (by simp only [List.getElem?_toArray, List.getElem?_cons_succ, List.getElem?_cons_zero]; rfl) (fun K hK => ?_)
        go_simp
        refine (add_any w1.drew (rr i) (j * 2) _ (qv i j) (X.q i j).length (X.q i j).flatten cs Sc M (own_heap HOWN.out (fun _ _ _ => rfl)) HLB.out HBI.out (HMSG.out.keep (fun _ h _ => h) (fun _ _ _ => rfl)) HSC.out (by have := HNN.out; omega)).mono ?_
        intro e w2 hp
        obtain ⟨rfl, hpost⟩ := added HN.out HS.out hi hj ((Below.refl _ w1).drew) hp
        have HPOST := Lib.hid (hpost 0)
        clear hp hpost
        refine hK.out _ _ trivial ?_
        clear hK K
        refine Rg.done (by kernel_rfl) ?_
        go_wp2
        go_ret
        rw [HYES.out]
        exact HPOST.out
    · have hh := HHAS.out
      rw [show (decide (0 ≤ t) && decide (t < (n : Int))) = false by simp; omega] at hh
      have HNF := Lib.hid (HNO.out (by rw [HSV.out, HNN.out]; simp; omega))
      refine hh.mono ?_
      rintro e w1 ⟨rfl, rfl⟩
      clear hh hin
      go_wp2
      go_ret
      exact HNF.out
  · rw [if_neg hl] at hlk
    have HLK := Lib.hid hlk
    have hf : X.twiceOk a b t = false := by unfold Nx.twiceOk Nx.hasAt; simp [hl]
    have HF := Lib.hid (hno hf)
    clear hlk hno hM hSc hN hS hl hf
    go_enter Try.func19, Try.ntmps19
    go_wp2_with fail
    refine HLK.out.mono ?_
    rintro e w' ⟨rfl, rfl⟩
    clear HLK
    go_wp2
    go_ret
    exact HF.out
end Go.Proofs.Ytdkpgjhjdnfieaa
