/- The contract of the reference's Insert. Condition: the list lies in memory as stated and is ascending. -/
import Derived.Test.YtokfiikpfckahaaZ
set_option linter.unusedVariables false
set_option linter.unusedSimpArgs false
namespace Go.Ix

/-- one round of Insert -/
def stp (s : Str) (p : Bool × List Str) (x : Str) : Bool × List Str := if p.1 = false ∧ s < x then (true, p.2 ++ [s] ++ [x]) else (p.1, p.2 ++ [x])
def insL : List Str → Str → List Str
  | [], s => [s]
  | x :: l, s => if s < x then s :: x :: l else x :: insL l s
def fin (s : Str) (p : Bool × List Str) : List Str := if p.1 then p.2 else p.2 ++ [s]

theorem stp_true (s : Str) : ∀ (l : List Str) (o : List Str), l.foldl (stp s) (true, o) = (true, o ++ l)
  | [], o => by simp
  | x :: l, o => by
    rw [List.foldl_cons]
    have : stp s (true, o) x = (true, o ++ [x]) := by simp [stp]
    rw [this, stp_true s l]
    simp
theorem stp_false (s : Str) : ∀ (l : List Str) (o : List Str), fin s (l.foldl (stp s) (false, o)) = o ++ insL l s
  | [], o => by simp [fin, insL]
  | x :: l, o => by
    rw [List.foldl_cons]
    by_cases h : s < x
    · have : stp s (false, o) x = (true, o ++ [s] ++ [x]) := by simp [stp, h]
      rw [this, stp_true s l]
      simp [fin, insL, h]
    · have : stp s (false, o) x = (false, o ++ [x]) := by simp [stp, h]
      rw [this, stp_false s l]
      simp [insL, h]
theorem stp_len (s : Str) : ∀ (l : List Str) (p : Bool × List Str), (l.foldl (stp s) p).2.length ≤ p.2.length + l.length + (if p.1 then 0 else 1)
  | [], p => by simp
  | x :: l, p => by
    rw [List.foldl_cons]
    have := stp_len s l (stp s p x)
    refine Nat.le_trans this ?_
    obtain ⟨d, o⟩ := p
    unfold stp
    cases d <;> by_cases h : s < x <;> simp [h] <;> omega

def insOf (l : List Str) (s : Str) : List Str := fin s (l.foldl (stp s) (decide (s ∈ l), []))

theorem insL_mem (s x : Str) : ∀ l : List Str, x ∈ insL l s ↔ x = s ∨ x ∈ l
  | [] => by simp [insL]
  | y :: l => by
    unfold insL
    split
    · simp
    · simp only [List.mem_cons, insL_mem s x l]
      constructor
      · rintro (h | h | h) <;> simp [h]
      · rintro (h | h | h) <;> simp [h]
theorem insL_asc (s : Str) : ∀ l : List Str, Asc l → s ∉ l → Asc (insL l s)
  | [], _, _ => by simp [insL, Asc]
  | y :: l, h, hs => by
    unfold Asc at h
    rw [List.pairwise_cons] at h
    have hne : s ≠ y := fun e => hs (by simp [e])
    unfold insL
    split
    · rename_i hlt
      unfold Asc
      rw [List.pairwise_cons, List.pairwise_cons]
      refine ⟨fun z hz => ?_, h⟩
      rcases List.mem_cons.1 hz with e | e
      · rw [e]; exact hlt
      · exact lt_tr hlt (h.1 z e)
    · rename_i hlt
      unfold Asc
      rw [List.pairwise_cons]
      refine ⟨fun z hz => ?_, insL_asc s l h.2 (fun hm => hs (List.mem_cons_of_mem _ hm))⟩
      rcases (insL_mem s z l).1 hz with e | e
      · rw [e]
        rcases lt_tri s y with h1 | h1 | h1
        · exact absurd h1 hlt
        · exact absurd h1 hne
        · exact h1
      · exact h.1 z e

theorem ins_mem (l : List Str) (s x : Str) : x ∈ insOf l s ↔ x = s ∨ x ∈ l := by
  unfold insOf
  by_cases h : s ∈ l
  · rw [decide_eq_true h, stp_true]
    simp only [fin, if_true, List.nil_append]
    constructor
    · exact Or.inr
    · rintro (e | e)
      · rw [e]; exact h
      · exact e
  · rw [decide_eq_false h, stp_false, List.nil_append]
    exact insL_mem s x l
theorem ins_asc {l : List Str} (hl : Asc l) (s : Str) : Asc (insOf l s) := by
  unfold insOf
  by_cases h : s ∈ l
  · rw [decide_eq_true h, stp_true]
    simpa [fin] using hl
  · rw [decide_eq_false h, stp_false, List.nil_append]
    exact insL_asc s l hl h
theorem insL_len (s : Str) : ∀ l : List Str, (insL l s).length = l.length + 1
  | [] => rfl
  | y :: l => by
    unfold insL
    split
    · simp
    · simp [insL_len s l]
theorem ins_len (l : List Str) (s : Str) : (insOf l s).length ≤ l.length + 1 := by
  unfold insOf
  by_cases h : s ∈ l
  · rw [decide_eq_true h, stp_true]
    simp [fin]
  · rw [decide_eq_false h, stp_false, List.nil_append, insL_len]
    exact Nat.le_refl _
end Go.Ix
namespace Go.Proofs.Ytokfiikpfckahaa
open Go.RowKit Go.Lib Go.Ix Go.Sort Go.Mf
set_option maxRecDepth 100000

/-- behind an append of one string -/
theorem app_done {w wr wb : World} {B : Nat} {v v' : Value} {l : List Str} {s : Str} {o : Obj} (hb : Below B w wr) (hB : B ≤ wr.heap.size) (ho : OwnS wr B v l) (h1 : wb.ownsRow B 9 1 v' (l.length + 1) (l.map encStr ++ [encStr s])) (hg : (wr.alloc o).grownBy wb v.ownBlock) :
    OwnS wb B v' (l ++ [s]) ∧ Below B w wb := by
  refine ⟨?_, app_below hb hB ho hg⟩
  show wb.ownsRow B 9 1 v' (l ++ [s]).length ((l ++ [s]).map encStr)
  rw [List.length_append, List.map_append]
  exact h1
theorem one_new (w : World) (s : Str) : ∀ j u, [encStr s][j]? = some u → (w.alloc (.cells #[encStr s] 9)).cell? ((⟨w.heap.size, 0, none⟩ : Addr).add j) = some u := by
  intro j u hj
  match j, hj with
  | 0, hj =>
    simp only [List.getElem?_cons_zero, Option.some.injEq] at hj
    subst hj
    exact alloc_cell0 _ _ _
theorem one_ok (s : Str) : ∀ u ∈ [encStr s], u.oneCell' = true := by intro u hu; simp at hu; subst hu; rfl

/-- Insert's loop -/
def InSt (w : World) (l : List Str) (s : Str) (j : Nat) (d : Bool) (v : Value) (out : List Str) (wr : World) : Prop :=
  (d, out) = (l.take j).foldl (stp s) (decide (s ∈ l), []) ∧ OwnS wr w.heap.size v out ∧ Below w.heap.size w wr

theorem InSt.len {w wr : World} {l out : List Str} {s : Str} {j : Nat} {d : Bool} {v : Value} (h : InSt w l s j d v out wr) : out.length ≤ j + 1 := by
  have h1 := stp_len s (l.take j) (decide (s ∈ l), [])
  rw [← h.1] at h1
  have h2 : (l.take j).length ≤ j := by rw [List.length_take]; omega
  simp only [List.length_nil, Nat.zero_add] at h1
  split at h1 <;> omega
theorem InSt.next {w wr wb : World} {l out : List Str} {s x : Str} {j : Nat} {d : Bool} {v v' : Value} {out' : List Str} {d' : Bool} (h : InSt w l s j d v out wr) (hj : j < l.length) (hx : x = l[j]) (hs : stp s (d, out) x = (d', out')) (ho : OwnS wb w.heap.size v' out') (hb : Below w.heap.size w wb) : InSt w l s (j + 1) d' v' out' wb := by
  refine ⟨?_, ho, hb⟩
  rw [List.take_succ_eq_append_getElem hj, List.foldl_append, ← h.1, ← hx]
  exact hs.symm

def InsPost (w : World) (l : List Str) (s : Str) : Ending → World → Prop := fun e w' => ∃ v, e = .returned v ∧ OwnS w' w.heap.size v (insOf l s) ∧ Below w.heap.size w w'

set_option maxHeartbeats 4000000 in
theorem insert_any {w : World} {v : Value} {l : List Str} (hr : RowAt w v l) (hlen : l.length ≤ 900000) (s : Str) : Calls Try.prog 28 #[v, encStr s] w (InsPost w l s) := by
  have HHAS := Lib.hid (has_any hr (by omega) s)
  have HR := Lib.hid hr
  obtain ⟨p, cap, rfl, hc⟩ := hr
  obtain ⟨n, hn⟩ : ∃ n, n = l.length := ⟨_, rfl⟩
  have HC := Lib.hid hc
  have HN := Lib.hid hn
  rw [← hn] at hlen HHAS HR ⊢
  obtain ⟨d0, hd0⟩ : ∃ d0, d0 = decide (s ∈ l) := ⟨_, rfl⟩
  rw [← hd0] at HHAS
  have HD0 := Lib.hid hd0
  clear hc hn hd0
  obtain ⟨i9, hi9, hz90, hz91, hz92⟩ := info_parts info9
  go_enter Try.func28, Try.ntmps28
  go_wp2_with (go_at_call 23; refine HHAS.out.mono ?_; rintro e w1 ⟨rfl, rfl⟩)
  go_loopw [5, 6, 7] (fun o d t wr => ∃ (j : Nat) (u : Value) (out : List Str) (db : Bool), j ≤ n ∧ o = u ∧ d = .bool db ∧ t = .int .i64 j ∧ Hid (InSt w1 l s j db u out wr)) (fun _ _ t _ => n - (intOf t).toNat)
  case atStart => exact ⟨0, _, [], d0, by omega, rfl, rfl, rfl, Lib.hid ⟨by rw [HD0.out]; rfl, ownS_nil _ _, Below.refl _ _⟩⟩
  case round =>
    obtain ⟨j, u, out, db, hj, rfl, rfl, rfl, hst⟩ := hrel
    by_cases hjn : j < n
    · have hjl : j < l.length := by rw [← HN.out]; exact hjn
      obtain ⟨b', o', rfl, hlt, hcell⟩ := HC.out j hjl
      have hjI : (j : Int) < n := by omega
      have hj0 : (0 : Int) ≤ j := by omega
      obtain ⟨x, hx⟩ : ∃ x, x = l[j] := ⟨_, rfl⟩
      rw [← hx] at hcell
      have hcr := (hst.out.2.2.cell (p := ⟨b', o' + j, none⟩) hlt).trans hcell
      have HX := Lib.hid hx
      have HCX := Lib.hid hcell
      have hlen1 := hst.out.len
      clear hx hcell
      have HST := Lib.hid hst
      clear hst
      cases db with
      | true =>
        go_wp2_with (first
          | (at_builtin; refine wpList_append_own _ rfl _ _ 23 rfl w1.heap.size 9 i9 _ 1 16 und23 hi9 hz90 hz91 hz92 rfl (by decide) _ _ _ rfl (World.ownsRow.alloc HST.out.out.2.1 _) ⟨wr.heap.size, 0, none⟩ 1 1 [encStr x] rfl rfl ?_ ?_ ?_ ?_ ?_ ?_
             exact one_new wr x
             exact one_ok x
             (unfold maxLen; (try simp only [List.length_append, List.length_cons, List.length_nil]); omega)
             ((try simp only [List.length_append, List.length_cons, List.length_nil]); omega)
             (have := HST.out.out.2.2.size; simp only [World.size_alloc]; omega)
             intro v2 w2 h1 h2 _
             have HA2 := Lib.hid (app_done (s := x) HST.out.out.2.2 HST.out.out.2.2.size HST.out.out.2.1 h1 h2)
             clear h1 h2))
        go_roundw
        case rel => exact ⟨j + 1, _, _, true, by omega, rfl, rfl, by go_num, Lib.hid (HST.out.out.next hjl HX.out (by simp [stp]) HA2.out.1 HA2.out.2)⟩
        case measure => simp [intOf]; omega
      | false =>
        by_cases hsx : s < x
        · have hbl : Op.bytesLess s x = true := by rw [bytesLess_eq]; simp [hsx]
          have HSX := Lib.hid hsx
          clear hsx
          go_wp2_with (first
            | (at_builtin; refine wpList_append_own _ rfl _ _ 23 rfl w1.heap.size 9 i9 _ 1 16 und23 hi9 hz90 hz91 hz92 rfl (by decide) _ _ _ rfl (World.ownsRow.alloc HA1.out.1 _) ⟨wq.heap.size, 0, none⟩ 1 1 [encStr x] rfl rfl ?_ ?_ ?_ ?_ ?_ ?_
               exact one_new wq x
               exact one_ok x
               (unfold maxLen; (try simp only [List.length_append, List.length_cons, List.length_nil]); omega)
               ((try simp only [List.length_append, List.length_cons, List.length_nil]); omega)
               (have := HA1.out.2.size; simp only [World.size_alloc]; omega)
               intro v2 w2 h1 h2 _
               have HA2 := Lib.hid (app_done (s := x) HA1.out.2 HA1.out.2.size HA1.out.1 h1 h2)
               clear h1 h2)
            | (at_builtin; refine wpList_append_own _ rfl _ _ 23 rfl w1.heap.size 9 i9 _ 1 16 und23 hi9 hz90 hz91 hz92 rfl (by decide) _ _ _ rfl (World.ownsRow.alloc HST.out.out.2.1 _) ⟨wr.heap.size, 0, none⟩ 1 1 [encStr s] rfl rfl ?_ ?_ ?_ ?_ ?_ ?_
               exact one_new wr s
               exact one_ok s
               (unfold maxLen; (try simp only [List.length_append, List.length_cons, List.length_nil]); omega)
               ((try simp only [List.length_append, List.length_cons, List.length_nil]); omega)
               (have := HST.out.out.2.2.size; simp only [World.size_alloc]; omega)
               intro v1 wq h1 h2 _
               have HA1 := Lib.hid (app_done (s := s) HST.out.out.2.2 HST.out.out.2.2.size HST.out.out.2.1 h1 h2)
               clear h1 h2
               have hcq := (HA1.out.2.cell (p := ⟨b', o' + j, none⟩) hlt).trans HCX.out))
          go_roundw
          case rel => exact ⟨j + 1, _, _, true, by omega, rfl, rfl, by go_num, Lib.hid (HST.out.out.next hjl HX.out (by simp [stp, HSX.out]) HA2.out.1 HA2.out.2)⟩
          case measure => simp [intOf]; omega
        · have hbl : Op.bytesLess s x = false := by rw [bytesLess_eq]; simp [hsx]
          have HSX := Lib.hid hsx
          clear hsx
          go_wp2_with (first
            | (at_builtin; refine wpList_append_own _ rfl _ _ 23 rfl w1.heap.size 9 i9 _ 1 16 und23 hi9 hz90 hz91 hz92 rfl (by decide) _ _ _ rfl (World.ownsRow.alloc HST.out.out.2.1 _) ⟨wr.heap.size, 0, none⟩ 1 1 [encStr x] rfl rfl ?_ ?_ ?_ ?_ ?_ ?_
               exact one_new wr x
               exact one_ok x
               (unfold maxLen; (try simp only [List.length_append, List.length_cons, List.length_nil]); omega)
               ((try simp only [List.length_append, List.length_cons, List.length_nil]); omega)
               (have := HST.out.out.2.2.size; simp only [World.size_alloc]; omega)
               intro v2 w2 h1 h2 _
               have HA2 := Lib.hid (app_done (s := x) HST.out.out.2.2 HST.out.out.2.2.size HST.out.out.2.1 h1 h2)
               clear h1 h2))
          go_roundw
          case rel => exact ⟨j + 1, _, _, false, by omega, rfl, rfl, by go_num, Lib.hid (HST.out.out.next hjl HX.out (by simp [stp, HSX.out]) HA2.out.1 HA2.out.2)⟩
          case measure => simp [intOf]; omega
    · obtain rfl : j = n := by omega
      have hjI : decide ((j : Int) < j) = false := by simp
      have hlen1 := hst.out.len
      have hfin : (db, out) = l.foldl (stp s) (decide (s ∈ l), []) := by
        have := hst.out.1
        rw [HN.out, List.take_length] at this
        exact this
      have HST := Lib.hid hst
      have HFIN := Lib.hid hfin
      clear hst hfin
      cases db with
      | true =>
        go_wp2
        go_ret
        refine ⟨_, rfl, ?_, HST.out.out.2.2⟩
        have : insOf l s = out := by unfold insOf; rw [← HFIN.out]; rfl
        rw [this]
        exact HST.out.out.2.1
      | false =>
        go_wp2_with (first
          | (at_builtin; refine wpList_append_own _ rfl _ _ 23 rfl w1.heap.size 9 i9 _ 1 16 und23 hi9 hz90 hz91 hz92 rfl (by decide) _ _ _ rfl (World.ownsRow.alloc HST.out.out.2.1 _) ⟨wr.heap.size, 0, none⟩ 1 1 [encStr s] rfl rfl ?_ ?_ ?_ ?_ ?_ ?_
             exact one_new wr s
             exact one_ok s
             (unfold maxLen; (try simp only [List.length_append, List.length_cons, List.length_nil]); omega)
             ((try simp only [List.length_append, List.length_cons, List.length_nil]); omega)
             (have := HST.out.out.2.2.size; simp only [World.size_alloc]; omega)
             intro v2 w2 h1 h2 _
             have HA2 := Lib.hid (app_done (s := s) HST.out.out.2.2 HST.out.out.2.2.size HST.out.out.2.1 h1 h2)
             clear h1 h2))
        go_ret
        refine ⟨_, rfl, ?_, HA2.out.2⟩
        have : insOf l s = out ++ [s] := by unfold insOf; rw [← HFIN.out]; rfl
        rw [this]
        exact HA2.out.1
end Go.Proofs.Ytokfiikpfckahaa
