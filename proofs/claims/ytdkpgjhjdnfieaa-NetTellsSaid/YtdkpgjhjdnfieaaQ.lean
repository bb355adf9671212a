/- The contract of Send. Condition: the net and the message lie in memory as stated. -/
import Derived.Test.YtdkpgjhjdnfieaaP
set_option linter.unusedVariables false
set_option linter.unusedSimpArgs false
namespace Go.Proofs.Ytdkpgjhjdnfieaa
open Go.RowKit Go.Mf
set_option maxRecDepth 100000

def Nx.sendOk (X : Nx) (a b : Int) : Bool := isLink X.n a b && !X.off a.toNat b.toNat && decide ((X.q a.toNat b.toNat).length < 1024)
def Nx.push (X : Nx) (a b : Int) (cs : List Value) : Nx := X.set a.toNat b.toNat (X.q a.toNat b.toNat ++ [cs])
def AddedPost (w : World) (S : Nat → Prop) (x : Nat) (X : Nx) (a b : Int) (M : MsgD) (ok : Bool) : Ending → World → Prop := fun e w' =>
  ∃ S' X', e = .returned (.bool ok) ∧ NetOk w' S' x X' ∧ Fr S S' w w' ∧ (ok = false → X' = X ∧ S' = S) ∧
    (ok = true → ∃ cs', X' = X.push a b cs' ∧ MsgW w' (fun k => w.heap.size ≤ k ∧ k < w'.heap.size ∧ ¬ S' k) cs' M)

/-- the message at a link's end, after add -/
theorem added {w w1 w' : World} {S : Nat → Prop} {x rb : Nat} {rr : Nat → Nat} {qv : Nat → Nat → Value} {X : Nx} {i j : Nat} {M : MsgD} {e : Ending} (h : NetIn w S x rb rr qv X) (hS : ∀ k, S k → k < w.heap.size) (hi : i < X.n) (hj : j < X.n)
    (h1 : Below w.heap.size w w1) (hp : AddPost w1 (rr i) (j * 2) (linkCells X.n (qv i) (X.off i)) (qv i j) (X.q i j).length (X.q i j).flatten M e w') :
    e = .returned (.tuple #[]) ∧ ∀ n, AddedPost w S x X i j M true (.returned (.bool true)) (w'.drewN n) := by
  obtain ⟨cs', g, cap, he, hr, hown, hg, hgl, hM, p1, p2, p3, p4, p5⟩ := hp
  refine ⟨he, fun n => ?_⟩
  have hs1 := h1.size
  have lt : ∀ {k : Nat} {o : Obj}, w.heap[k]? = some o → k < w.heap.size := fun h => (Array.getElem?_eq_some_iff.1 h).1
  have hflat : (X.q i j).flatten ++ cs' = (X.q i j ++ [cs']).flatten := by simp
  rw [hflat] at hown
  have hlen : (X.q i j).length + 1 = (X.q i j ++ [cs']).length := by simp
  have hl := hM.1
  have hok : MsgsOk (X.q i j ++ [cs']) := fun m hm => by
    rcases List.mem_append.1 hm with hm | hm
    · exact h.ok i j m hm
    · rw [List.mem_singleton] at hm; subst hm; exact ⟨hl, hM.2.1⟩
  rw [show ((X.q i j).length : Nat) + 1 = (X.q i j ++ [cs']).length from hlen] at hr hown
  have hnet := net_set h hi hj (X.q i j ++ [cs']) hok hS hr hown (hg.imp id (fun h => by omega)) (fun k hk hkr hkn => by rw [p5 k (by omega) hkr hkn, h1.block k hk])
  have hgS : ∀ k, (qv i j).ownBlock = some k → S k := fun k hk => h.sq i j k hi hj hk
  refine ⟨fun k => S k ∨ k = g, X.set i j (X.q i j ++ [cs']), rfl, ⟨fun k hk => ?_, rb, rr, _, hnet.keep (fun _ h => h) (fun _ _ _ => rfl)⟩, ⟨?_, ?_, ?_, ?_, ?_, ?_⟩, fun h => (by cases h), fun _ => ⟨cs', by simp [Nx.push], ?_⟩⟩
  · rcases hk with hk | hk
    · have := hS k hk; show k < w'.heap.size; omega
    · show k < w'.heap.size; omega
  · show w'.os = w.os; rw [p1, h1.os]
  · show w'.tape = w.tape; rw [p2, h1.tape]
  · show w'.output = w.output; rw [p3, h1.output]
  · show w.heap.size ≤ w'.heap.size; omega
  · intro k hk hnS
    show w'.heap[k]? = _
    rw [p5 k (by omega) (fun e => hnS (by rw [e]; exact h.sl i hi)) (fun e => hnS (hgS k e.symm)), h1.block k hk]
  · intro k hk
    rcases hk with hk | hk
    · exact .inl hk
    · rcases hg with hg | hg
      · exact .inl (by rw [hk]; exact hgS g hg)
      · exact .inr (by omega)
  · refine (hM.keep (w' := w'.drewN n) (fun k hk hkl => ⟨by omega, hk.2.1, ?_⟩) (fun _ _ _ => rfl))
    rintro (hs | hs)
    · have := hS k hs; omega
    · exact hk.2.2 hs

set_option maxHeartbeats 1000000 in
theorem send_any (w : World) (S Sc : Nat → Prop) (x : Nat) (X : Nx) (cs : List Value) (M : MsgD) (a b : Int) (h : NetOk w S x X) (hM : MsgIn w Sc cs M) (hSc : ∀ k, Sc k → k < w.heap.size) (ha : cs[1]? = some (.int .i64 a)) (hb : cs[2]? = some (.int .i64 b)) :
    Calls Try.prog 13 #[.pointer (some ⟨x, 0, none⟩), .agg cs.toArray] w (AddedPost w S x X a b M (X.sendOk a b)) := by
  obtain ⟨hS, rb, rr, qv, hN⟩ := h
  have hml := hM.1
  obtain ⟨W, hW⟩ : ∃ W, W = w.alloc (.cells cs.toArray 42) := ⟨_, rfl⟩
  have hb0 : W.heap[w.heap.size]? = some (.cells cs.toArray 42 (0, 0)) := by rw [hW]; exact heap_alloc_new w _
  have hbw : Below w.heap.size w W := by rw [hW]; exact (Below.refl _ w).alloc (Nat.le_refl _) _
  have hNW : NetIn W S x rb rr qv X := hN.keep (fun _ h => h) (fun k _ hk => hbw.block k hk)
  have hMW : MsgIn W Sc cs M := hM.keep (fun _ h _ => h) (fun k _ hk => hbw.block k hk)
  have c1 : W.cell? ⟨w.heap.size, 1, none⟩ = some (.int .i64 a) := cell_at hb0 ha
  have c2 : W.cell? ⟨w.heap.size, 2, none⟩ = some (.int .i64 b) := cell_at hb0 hb
  have hlk := link_any hNW a b
  have hno : X.sendOk a b = false → AddedPost w S x X a b M (X.sendOk a b) (.returned (.bool false)) W := fun hf => by
    rw [hf]
    refine ⟨S, X, rfl, ⟨fun k hk => Nat.lt_of_lt_of_le (hS k hk) hbw.size, rb, rr, qv, hNW⟩, ⟨hbw.os, hbw.tape, hbw.output, hbw.size, fun k hk _ => hbw.block k hk, fun k hk => .inl hk⟩, fun _ => ⟨rfl, rfl⟩, fun h => (by cases h)⟩
  have HW : Hid (W = w.alloc (.cells cs.toArray 42)) := hW
  have HNO := Lib.hid hno
  have HML : Hid (cs.toArray.size = 34) := by show cs.toArray.size = 34; simpa using hml
  have HMW := Lib.hid hMW
  have HB0 := Lib.hid hb0
  have HBW := Lib.hid hbw
  have HN := Lib.hid hN
  have HNW := Lib.hid hNW
  have HSC := Lib.hid hSc
  have HS := Lib.hid hS
  by_cases hl : isLink X.n a b = true
  · obtain ⟨i, j, rfl, rfl, hi, hj, hne⟩ := isLink_nat hl
    obtain ⟨q, c, e, d1, d2⟩ := link_cells hNW hi hj
    rw [if_pos hl] at hlk
    simp only [Int.toNat_natCast] at hlk
    have HLK := Lib.hid hlk
    have HE := Lib.hid e
    have HL := Lib.hid hl
    have hsv : X.sendOk i j = (!X.off i j && decide ((X.q i j).length < 1024)) := by unfold Nx.sendOk; rw [hl]; simp
    have HSV := Lib.hid hsv
    have hbi : (linkCells X.n (qv i) (X.off i))[j * 2]? = some (qv i j) := by rw [Nat.mul_comm]; exact (link_get (n := X.n) (qv i) (X.off i) hj).1
    have HBI := Lib.hid hbi
    have hown := HNW.out.hq i j hi hj
    have HOWN := Lib.hid hown
    have HLB := Lib.hid (HNW.out.hl i hi)
    obtain ⟨n, hn⟩ : ∃ n, (X.q i j).length = n := ⟨_, rfl⟩
    have HNN := Lib.hid hn
    rw [hn] at d1
    obtain ⟨of, hof⟩ : ∃ of, X.off i j = of := ⟨_, rfl⟩
    have HOF := Lib.hid hof
    rw [hof] at d2
    clear hlk hNW hMW hbw hno hW hml hM hSc hb0 hN hS e hl hsv hbi hown hn hof ha hb
    go_enter Try.func13, Try.ntmps13
    go_upto_region 1 with fail
    change Code.wp _ _ _ _ (w.alloc (.cells cs.toArray 42))
    rw [← HW.out]
    go_wp2_with fail
    refine HLK.out.mono ?_
    rintro e w' ⟨rfl, rfl⟩
    clear HLK
    cases of with
    | true =>
      go_wp2
      go_ret
      exact HNO.out (by rw [HSV.out, HOF.out]; rfl)
    | false =>
      go_wp2_with fail
      by_cases hfu : 1024 ≤ n
      · have hf := full_any w' _ _ n c q d1
        rw [show decide (1024 ≤ n) = true by simpa using hfu] at hf
        have HNF := Lib.hid (HNO.out (by rw [HSV.out, HOF.out, HNN.out]; simp; omega))
        refine hf.mono ?_
        rintro e w1 ⟨rfl, rfl⟩
        clear hf
        go_wp2
        go_ret
        exact HNF.out
      · have hf := full_any w' _ _ n c q d1
        rw [show decide (1024 ≤ n) = false by simpa using hfu] at hf
        have hyes : X.sendOk i j = true := by rw [HSV.out, HOF.out, HNN.out]; simp; omega
        have HYES := Lib.hid hyes
        refine hf.mono ?_
        rintro e w1 ⟨rfl, rfl⟩
        clear hf hyes
        go_upto_region 4 with fail
        refine wp_region_any (by kernel_rfl) ?_
        change wpAny _ _ _ _ _ _ _ (World.drew _)
        refine wpAny_take (i := 0) (v := .pointer (some ⟨rr i, j * 2, none⟩)) rfl (by kernel_rfl) (by kernel_rfl) (by kernel_rfl) (fun _ _ _ h => h) (Or.inl ⟨by rfl, fun _ => rfl⟩) ?_
        refine wpAny_take (i := 1) (v := .pointer (some ⟨rr i, j * 2, none⟩)) rfl (by kernel_rfl) (by kernel_rfl) (by kernel_rfl) (fun _ _ _ h => h) (Or.inl ⟨by rfl, fun _ => rfl⟩) ?_
        refine wpAny_take (i := 2) (v := .pointer (some ⟨rr i, j * 2, none⟩)) rfl (by kernel_rfl) (by kernel_rfl) (by kernel_rfl) (fun _ _ _ h => h) (Or.inl ⟨by rfl, fun _ => rfl⟩) ?_
        refine Rg.Any.plain (S := Rg.But [4] (fun w' => w'.heap[w.heap.size]? = some (.cells cs.toArray 42 (0, 0)))) _ _ _ _ ?_
        refine Rg.take 3 (v := .agg cs.toArray) rfl (by kernel_rfl) (by kernel_rfl) (by kernel_rfl) (fun _ _ _ h => h) (Rg.But.lets (by kernel_rfl) (fun _ h => h)) (fun _ h => .mk h) (Or.inl ⟨by rfl, fun w' hw' => ?_⟩) HB0.out ?_
        · have e := loadMsg w' _ _ _ _ hw' HML.out
          show (Instr.loadAt 42 (.pointer (some ⟨w.heap.size, 0, none⟩)) >>= fun v => pure (Next.value v)).run Try.prog w' = _
          simp only [Instr.loadAt, Instr.sureAddr, Sem.run_bind, Sem.run_pure, Result.andThen_ok, e]
        refine Rg.only 4 (by kernel_rfl) (by simp only [List.getElem?_toArray, List.getElem?_cons_succ, List.getElem?_cons_zero]; rfl) (fun K hK => ?_)
        go_simp
        refine (add_any w1.drew (rr i) (j * 2) _ (qv i j) (X.q i j).length (X.q i j).flatten cs Sc M (own_heap HOWN.out (fun _ _ _ => rfl)) HLB.out HBI.out (HMW.out.keep (fun _ h _ => h) (fun _ _ _ => rfl)) (fun k hk => Nat.lt_of_lt_of_le (HSC.out k hk) HBW.out.size) (by have := HNN.out; omega)).mono ?_
        intro e w2 hp
        obtain ⟨rfl, hpost⟩ := added HN.out HS.out hi hj (HBW.out.drew) hp
        have HPOST := Lib.hid (hpost 0)
        clear hp hpost
        refine hK.out _ _ (.inl rfl) ?_
        clear hK K
        refine Rg.done (by kernel_rfl) ?_
        go_wp2
        go_ret
        rw [HYES.out]
        exact HPOST.out
  · rw [if_neg hl] at hlk
    have HLK := Lib.hid hlk
    have hf : X.sendOk a b = false := by unfold Nx.sendOk; simp [hl]
    have HF := Lib.hid (hno hf)
    clear hlk hNW hMW hbw hno hW hml hM hSc hb0 hN hS hl ha hb hf
    go_enter Try.func13, Try.ntmps13
    go_upto_region 1 with fail
    change Code.wp _ _ _ _ (w.alloc (.cells cs.toArray 42))
    rw [← HW.out]
    go_wp2_with fail
    refine HLK.out.mono ?_
    rintro e w' ⟨rfl, rfl⟩
    clear HLK
    go_wp2
    go_ret
    exact HF.out
end Go.Proofs.Ytdkpgjhjdnfieaa
