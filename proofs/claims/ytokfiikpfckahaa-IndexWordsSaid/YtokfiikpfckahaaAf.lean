/- The walk of IndexWords. Condition: the byte is one. -/
import Derived.Test.YtokfiikpfckahaaAe
set_option linter.unusedVariables false
set_option linter.unusedSimpArgs false
namespace Go.Proofs.Ytokfiikpfckahaa
open Go.RowKit Go.Lib Go.Ix Go.Sort Go.Mf
set_option maxRecDepth 100000

/-- a string of one byte, behind a draw -/
theorem conv_one_d (wr : World) (c : UInt8) (d : Int) (hd : d = c.toNat) : ∃ X : ByteArray, X.data.toList = [c] ∧ (convert 27 9 (.slice (some ⟨wr.heap.size, 0, none⟩) 1 1)).run Try.prog (wr.alloc (.cells #[.int .u8 d] 5)).drew = .ok (.string X) (wr.alloc (.cells #[.int .u8 d] 5)).drew := by
  refine ⟨⟨#[c]⟩, rfl, ?_⟩
  have := run_convert_whole (P := Try.prog) (wr.alloc (.cells #[.int .u8 d] 5)).drew 27 5 9 Try.underlying27 Try.underlying5 Try.underlying9 wr.heap.size 0 ⟨#[c]⟩ (fun i hi => by
    have : i = 0 := by simp [ByteArray.size] at hi; exact hi
    subst this
    have h := alloc_cell0 wr (.int .u8 d) 5
    rw [Addr.add_lit] at h
    show (wr.alloc (.cells #[.int .u8 d] 5)).cell? _ = _
    rw [h, hd]
    rfl) 1
  exact this

theorem w_first {S : ByteArray} (hs : S.size ≤ 800000) (l : List Str) (hl : l = wordsOf S.data.toList) (w0 wr : World) (hb : Below w0.heap.size w0 wr) :
    Calls Try.prog 9 #[.string S] wr fun e w' => ∃ v, e = .returned v ∧ Hid (OwnS w' 0 v l ∧ Below w0.heap.size w0 w') := by
  refine (words_any S wr (by omega)).mono ?_
  rintro e w' ⟨v, rfl, h1, h2⟩
  rw [← hl] at h1
  exact ⟨v, rfl, Lib.hid ⟨own_le h1 (Nat.zero_le _), hb.trans (h2.mono hb.size)⟩⟩
theorem w_ref {S : ByteArray} (hs : S.size ≤ 800000) (l : List Str) (hl : l = wordsOf S.data.toList) (w0 wr : World) (v : Value) (hb : OwnS wr 0 v l ∧ Below w0.heap.size w0 wr) :
    Calls Try.prog 11 #[.string S] wr fun e w' => ∃ v2, e = .returned v2 ∧ Hid (OwnS w' 0 v l ∧ OwnS w' 0 v2 l ∧ Below w0.heap.size w0 w') := by
  refine (refwords_any S wr hs).mono ?_
  rintro e w' ⟨v2, rfl, h1, h2⟩
  rw [← hl] at h1
  exact ⟨v2, rfl, Lib.hid ⟨own_up hb.1 h2, h1, hb.2.trans (h2.mono hb.2.size)⟩⟩
theorem w_same (l : List Str) (hl : l.length ≤ 1000000) (w0 wr : World) (v v2 : Value) (h : OwnS wr 0 v l ∧ OwnS wr 0 v2 l ∧ Below w0.heap.size w0 wr) :
    Calls Try.prog 10 #[v, v2] wr fun e w' => e = .returned (.bool true) ∧ Hid (OwnS w' 0 v l ∧ Below w0.heap.size w0 w') := by
  refine (same_any (own_row h.1) (own_row h.2.1) hl).mono ?_
  rintro e w' ⟨rfl, q, rfl⟩
  exact ⟨by simp, Lib.hid ⟨own_up h.1 (below_dn wr q), h.2.2.trans ((below_dn wr q).mono h.2.2.size)⟩⟩

theorem w_join {S T : ByteArray} {c : UInt8} {l : List Str} (hT : T.data.toList = joinL c l) (hl : l = wordsOf S.data.toList) (hc : partB c = false) (hs : S.size ≤ 2000) (w0 wr : World) (v1 : Value) (ho : OwnS wr 0 v1 l) (hb : Below w0.heap.size w0 wr) :
    Calls Try.prog 9 #[.string T] wr fun e w' => ∃ v, e = .returned v ∧ Hid (OwnS w' 0 v l ∧ OwnS w' 0 v1 l ∧ Below w0.heap.size w0 w') := by
  have hlen : T.size ≤ 4001 := by
    rw [← ba_len, hT, hl]
    have := join_words_len c S.data.toList
    rw [ba_len] at this
    omega
  refine (words_any T wr (by omega)).mono ?_
  rintro e w' ⟨v, rfl, h1, h2⟩
  rw [hT, hl, words_join hc, ← hl] at h1
  exact ⟨v, rfl, Lib.hid ⟨own_le h1 (Nat.zero_le _), own_up ho h2, hb.trans (h2.mono hb.size)⟩⟩

set_option maxHeartbeats 4000000 in
theorem iwords_any (S : ByteArray) (nc : Int) (hnc : (Lit.int .u8 nc).wf = true) (w : World) : Calls Try.prog 3 #[.string S, .int .u8 nc] w fun e w' => e = .returned (.bool true) ∧ Below w.heap.size w w' := by
  obtain ⟨hc0, hc1⟩ : 0 ≤ nc ∧ nc ≤ 255 := by
    exact Go.bounds_u8 hnc
  obtain ⟨c, hc⟩ : ∃ c : UInt8, nc = (c.toNat : Int) := ⟨UInt8.ofNat nc.toNat, by rw [UInt8.toNat_ofNat']; omega⟩
  have HLET := Lib.hid (fun wr => letter_any nc hc0 hc1 wr)
  obtain ⟨d, hd⟩ : ∃ d, d = letI' nc := ⟨_, rfl⟩
  rw [← hd] at HLET
  have HD := Lib.hid hd
  have HC := Lib.hid hc
  clear hd hnc hc
  obtain ⟨n, hn1, hn2⟩ : ∃ n, n ≤ S.size ∧ S.size ≤ n := ⟨_, Nat.le_refl _, Nat.le_refl _⟩
  go_enter Try.func3, Try.ntmps3
  by_cases hbig : 2000 < S.size
  · have hbigI : (2000 : Int) < S.size := by omega
    go_wp2_with (first
      | (go_at_call 8; refine (small_any _).mono ?_; rintro e w1 ⟨rfl, hb1⟩
         have HB1 := Lib.hid hb1
         clear hb1))
    go_ret
    exact ⟨rfl, HB1.out⟩
  · have hbigI : decide ((2000 : Int) < S.size) = false := by simp; omega
    obtain ⟨l, hl⟩ : ∃ l, l = wordsOf S.data.toList := ⟨_, rfl⟩
    have hll : l.length ≤ 2001 := by
      rw [hl]
      have h1 := wordsOf_len S.data.toList
      have h2 := tok_len S.data.toList []
      rw [ba_len] at h2
      omega
    have HL := Lib.hid hl
    have HLL := Lib.hid hll
    clear hl hll
    by_cases hd : d = 0
    · subst hd
      have hcp : partB c = false := by
        cases hp : partB c with
        | false => rfl
        | true =>
          have h1 := lowB_ne hp
          have h2 := HD.out
          rw [HC.out, letI_part hp] at h2
          omega
      have HCP := Lib.hid hcp
      clear hcp
      go_wp2_with (first
        | (go_at_call 8; refine (small_any _).mono ?_; rintro e w1 ⟨rfl, hb1⟩
           have HB1 := Lib.hid hb1
           clear hb1)
        | (go_at_call 9; refine (w_first (by omega) l HL.out w _ HB1.out).mono ?_; rintro e w2 ⟨v1, rfl, H2⟩)
        | (go_at_call 11; refine (w_ref (by omega) l HL.out w _ _ H2.out).mono ?_; rintro e w3 ⟨v2, rfl, H3⟩)
        | (go_at_call 10; refine (w_same l (by have := HLL.out; omega) w _ _ _ H3.out).mono ?_; rintro e w4 ⟨rfl, H4⟩)
        | (go_at_call 12; refine (HLET.out _).mono ?_; rintro e w5 ⟨rfl, hw⟩; obtain rfl := hw.symm))
      obtain ⟨p1, cap1, rfl, hcell1⟩ := own_row H4.out.1
      obtain ⟨n1, hn1'⟩ : ∃ n1, n1 = l.length := ⟨_, rfl⟩
      have HC1 := Lib.hid hcell1
      have HO4 := Lib.hid H4.out.1
      rw [← hn1'] at HO4 ⊢
      have HN1 := Lib.hid hn1'
      have HB4 := Lib.hid H4.out.2
      have hn1l : n1 ≤ 2001 := by have := HLL.out; omega
      clear hcell1 hn1' H2 H3 H4 hn1 hn2
      go_loopw [8, 9] (fun t i wr => ∃ (T : ByteArray) (j : Nat), j ≤ n1 ∧ t = .string T ∧ i = .int .i64 j ∧ Hid (T.data.toList = joinL c (l.take j) ∧ Below w4.heap.size w4 wr)) (fun _ i _ => n1 - (intOf i).toNat)
      case atStart => exact ⟨_, 0, by omega, rfl, rfl, Lib.hid ⟨rfl, Below.refl _ _⟩⟩
      case round =>
        obtain ⟨T, j, hj, rfl, rfl, hst⟩ := hrel
        by_cases hjn : j < n1
        · have hjl : j < l.length := by rw [← HN1.out]; exact hjn
          obtain ⟨b1, o1, rfl, hlt, hcell⟩ := HC1.out j hjl
          obtain ⟨x, hx⟩ : ∃ x, x = l[j] := ⟨_, rfl⟩
          rw [← hx] at hcell
          obtain ⟨R, hR, hRx⟩ : ∃ R : ByteArray, encStr x = .string R ∧ R.data.toList = x := ⟨⟨x.toArray⟩, rfl, by simp⟩
          rw [hR] at hcell
          have hcr := (hst.out.2.cell (p := ⟨b1, o1 + j, none⟩) hlt).trans hcell
          have hcr2 : (wr.alloc (.cells #[.int .u8 nc] 5)).cell? ⟨b1, o1 + j, none⟩ = some (.string R) := (Below.cell ((Below.refl wr.heap.size wr).alloc (Nat.le_refl _) _) (p := ⟨b1, o1 + j, none⟩) (by have := hst.out.2.size; show b1 < _; omega)).trans hcr
          have hjI : (j : Int) < n1 := by omega
          have hj0 : (0 : Int) ≤ j := by omega
          have HX := Lib.hid hx
          have HRX := Lib.hid hRx
          obtain ⟨X, hX, hconv⟩ := conv_one_d wr c nc HC.out
          have HXX := Lib.hid hX
          have hlenT : T.size ≤ 4001 := by
            rw [← ba_len, hst.out.1]
            refine Nat.le_trans (join_take c l j) ?_
            rw [HL.out]
            refine Nat.le_trans (join_words_len c S.data.toList) ?_
            rw [ba_len]
            omega
          have hlenR : R.size ≤ 4001 := by
            rw [← ba_len, hRx, hx]
            have h1 := join_take c l (j + 1)
            have h2 := join_words_len c S.data.toList
            rw [← HL.out, ba_len] at h2
            rw [List.take_succ_eq_append_getElem hjl, joinL_snoc, List.length_append] at h1
            omega
          have hlenX : X.size = 1 := by rw [← ba_len, hX]; rfl
          have hTX : ¬ (9223372036854775807 < T.size + X.size) := by omega
          have hTXR : ¬ (9223372036854775807 < (T ++ X).size + R.size) := by rw [ByteArray.size_append]; omega
          have hTXR2 : ¬ (9223372036854775807 < T.size + X.size + R.size) := by omega
          clear hcell hx hRx hX hlenX hR
          go_upto_region 12 with fail
          go_region
          all_goals
            go_wp2
            go_roundw
            case rel =>
              refine ⟨_, j + 1, by omega, rfl, by go_num, Lib.hid ⟨?_, hst.out.2.trans (((Below.refl wr.heap.size wr).alloc (Nat.le_refl _) _).drew.mono hst.out.2.size)⟩⟩
              rw [ByteArray.data_append, ByteArray.data_append, Array.toList_append, Array.toList_append, HXX.out, HRX.out, HX.out, hst.out.1, List.take_succ_eq_append_getElem hjl, joinL_snoc]
            case measure => first | (simp [intOf]; done) | (simp [intOf]; omega)
        · have hjI : decide ((j : Int) < n1) = false := by simp; omega
          obtain rfl : j = n1 := by omega
          have hT : T.data.toList = joinL c l := by
            have h1 := hst.out.1
            rw [HN1.out, List.take_length] at h1
            exact h1
          have HJ := Lib.hid (w_join (S := S) hT HL.out HCP.out (by omega) w wr (.slice p1 j cap1) (own_up HO4.out hst.out.2) (HB4.out.trans (hst.out.2.mono HB4.out.size)))
          clear hT hst
          go_wp2_with (first
            | (go_at_call 10; refine (w_same l (by have := HLL.out; omega) w _ _ _ H6.out).mono ?_; rintro e w7 ⟨rfl, H7⟩)
            | (go_at_call 9; refine HJ.out.mono ?_; rintro e w6 ⟨v6, rfl, H6⟩))
          go_ret
          exact ⟨rfl, H7.out.2⟩
    · have hd0 : (d == 0) = false := by simp [hd]
      go_wp2_with (first
        | (go_at_call 8; refine (small_any _).mono ?_; rintro e w1 ⟨rfl, hb1⟩
           have HB1 := Lib.hid hb1
           clear hb1)
        | (go_at_call 9; refine (w_first (by omega) l HL.out w _ HB1.out).mono ?_; rintro e w2 ⟨v1, rfl, H2⟩)
        | (go_at_call 11; refine (w_ref (by omega) l HL.out w _ _ H2.out).mono ?_; rintro e w3 ⟨v2, rfl, H3⟩)
        | (go_at_call 10; refine (w_same l (by have := HLL.out; omega) w _ _ _ H3.out).mono ?_; rintro e w4 ⟨rfl, H4⟩)
        | (go_at_call 12; refine (HLET.out _).mono ?_; rintro e w5 ⟨rfl, hw⟩; obtain rfl := hw.symm))
      go_ret
      exact ⟨rfl, H4.out.2⟩
end Go.Proofs.Ytokfiikpfckahaa
