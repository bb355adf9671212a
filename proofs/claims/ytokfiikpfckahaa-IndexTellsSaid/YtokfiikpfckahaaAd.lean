/- The contract of the reference's Words. Condition: the text has at most 800000 bytes. -/
import Derived.Test.YtokfiikpfckahaaAc
set_option linter.unusedVariables false
set_option linter.unusedSimpArgs false
namespace Go.Ix

/-- where the reference's Words stands before byte j -/
structure RW (s : List UInt8) (j : Nat) (word : Str) (out : List Str) : Prop where
  asc : Asc out
  mem : ∀ x, (x ∈ out ∨ x ∈ tok (s.drop j) word) ↔ x ∈ tok s []
  len : out.length ≤ j
  last : s.length < j → word = []
  wlen : word.length ≤ j

theorem RW.start (s : List UInt8) : RW s 0 [] [] := ⟨List.Pairwise.nil, fun x => by simp, Nat.le_refl _, fun h => by omega, Nat.le_refl _⟩
theorem RW.part {s : List UInt8} {j : Nat} {word : Str} {out : List Str} (h : RW s j word out) (hj : j < s.length) (hp : partB s[j] = true) : RW s (j + 1) (word ++ [lowB s[j]]) out :=
  ⟨h.asc, fun x => by rw [← h.mem x, List.drop_eq_getElem_cons hj]; simp [tok, hp], by have := h.len; omega, fun h => by omega, by have := h.wlen; simp; omega⟩
theorem RW.gap {s : List UInt8} {j : Nat} {word : Str} {out : List Str} (h : RW s j word out) (hp : ∀ hj : j < s.length, partB s[j] = false) (hjn : j ≤ s.length) :
    tok (s.drop j) word = one word ++ tok (s.drop (j + 1)) [] := by
  by_cases hj : j < s.length
  · rw [List.drop_eq_getElem_cons hj]
    simp [tok, hp hj]
  · rw [List.drop_eq_nil_of_le (by omega), List.drop_eq_nil_of_le (by omega)]
    simp [tok, one]
theorem RW.skip {s : List UInt8} {j : Nat} {out : List Str} (h : RW s j [] out) (hp : ∀ hj : j < s.length, partB s[j] = false) (hjn : j ≤ s.length) : RW s (j + 1) [] out :=
  ⟨h.asc, fun x => by rw [← h.mem x, h.gap hp hjn]; simp [one], by have := h.len; omega, fun _ => rfl, by simp⟩
theorem RW.ins {s : List UInt8} {j : Nat} {word : Str} {out : List Str} (h : RW s j word out) (hw : word ≠ []) (hp : ∀ hj : j < s.length, partB s[j] = false) (hjn : j ≤ s.length) : RW s (j + 1) [] (insOf out word) :=
  ⟨ins_asc h.asc word, fun x => by
    rw [← h.mem x, h.gap hp hjn, ins_mem]
    simp only [one, hw, if_false, List.mem_append, List.mem_singleton]
    constructor
    · rintro ((h | h) | h) <;> simp [h]
    · rintro (h | h | h) <;> simp [h], by have := h.len; have := ins_len out word; omega, fun _ => rfl, by simp⟩
theorem RW.done {s : List UInt8} {j : Nat} {word : Str} {out : List Str} (h : RW s j word out) (hj : s.length < j) : out = wordsOf s := by
  refine Asc.ext h.asc (wordsOf_asc s) (fun x => ?_)
  rw [wordsOf_mem, ← h.mem x, h.last hj, List.drop_eq_nil_of_le (by omega)]
  simp [tok, one]
theorem lowB_ne {c : UInt8} (h : partB c = true) : (lowB c).toNat ≠ 0 := by
  unfold partB at h
  rw [decide_eq_true_eq] at h
  unfold lowB
  split
  · rw [UInt8.toNat_add]
    show (c.toNat + 32) % 256 ≠ 0
    omega
  · omega
end Go.Ix
namespace Go.Proofs.Ytokfiikpfckahaa
open Go.RowKit Go.Lib Go.Ix Go.Sort Go.Mf
set_option maxRecDepth 100000

theorem letI_part {c : UInt8} (h : partB c = true) : letI' (c.toNat : Int) = ((lowB c).toNat : Int) := by
  unfold partB at h
  rw [decide_eq_true_eq] at h
  unfold letI' lowB
  by_cases h1 : 65 ≤ c.toNat ∧ c.toNat ≤ 90
  · rw [if_neg (by omega), if_pos (by omega), if_pos h1, UInt8.toNat_add]
    show (c.toNat : Int) + 32 = (((c.toNat + 32) % 256 : Nat) : Int)
    omega
  · rw [if_pos (by omega), if_neg h1]
theorem letI_none {c : UInt8} (h : partB c = false) : letI' (c.toNat : Int) = 0 := by
  unfold partB at h
  rw [decide_eq_false_iff_not] at h
  unfold letI'
  rw [if_neg (by omega), if_neg (by omega)]

/-- a string of one byte -/
theorem conv_one (wr : World) (c : UInt8) (d : Int) (hd : d = c.toNat) : ∃ X : ByteArray, X.data.toList = [c] ∧ (convert 27 9 (.slice (some ⟨wr.heap.size, 0, none⟩) 1 1)).run Try.prog (wr.alloc (.cells #[.int .u8 d] 5)) = .ok (.string X) (wr.alloc (.cells #[.int .u8 d] 5)) := by
  refine ⟨⟨#[c]⟩, rfl, ?_⟩
  have := run_convert_whole (P := Try.prog) (wr.alloc (.cells #[.int .u8 d] 5)) 27 5 9 Try.underlying27 Try.underlying5 Try.underlying9 wr.heap.size 0 ⟨#[c]⟩ (fun i hi => by
    have : i = 0 := by simp [ByteArray.size] at hi; exact hi
    subst this
    have h := alloc_cell0 wr (.int .u8 d) 5
    rw [Addr.add_lit] at h
    rw [h, hd]
    rfl) 1
  exact this

/-- the loop's state -/
def RwSt (w : World) (s : List UInt8) (j : Nat) (v : Value) (T : ByteArray) (wr : World) : Prop := ∃ out, RW s j T.data.toList out ∧ OwnS wr 0 v out ∧ Below w.heap.size w wr

theorem RwSt.size {w wr : World} {s : List UInt8} {j : Nat} {v : Value} {T : ByteArray} (h : RwSt w s j v T wr) : T.size ≤ j := by
  obtain ⟨out, h1, _⟩ := h
  have := h1.wlen
  rw [ba_len] at this
  exact this
theorem RwSt.part {w wr : World} {S T X : ByteArray} {j : Nat} {v : Value} {c : UInt8} {o : Obj} (h : RwSt w S.data.toList j v T wr) (hj : j < S.size) (hp : partB S[j] = true) (hc : c = lowB S[j]) (hX : X.data.toList = [c]) : RwSt w S.data.toList (j + 1) v (T ++ X) (wr.alloc o) := by
  obtain ⟨out, h1, h2, h3⟩ := h
  have hjl : j < S.data.toList.length := by rw [ba_len]; exact hj
  have e := h1.part hjl (by rw [← ba_get S j hj]; exact hp)
  rw [← ba_get S j hj, ← hc] at e
  refine ⟨out, ?_, World.ownsRow.alloc h2 _, h3.alloc h3.size _⟩
  have : (T ++ X).data.toList = T.data.toList ++ [c] := by rw [ByteArray.data_append, Array.toList_append, hX]
  rw [this]
  exact e
def GapS (S : ByteArray) (j : Nat) : Prop := ∀ hj : j < S.data.toList.length, partB S.data.toList[j] = false
theorem gapS {S : ByteArray} {j : Nat} (h : ∀ hj : j < S.size, partB S[j] = false) : GapS S j := fun hj => by
  have hj' : j < S.size := by rw [← ba_len]; exact hj
  rw [← ba_get S j hj']
  exact h hj'
/-- no word is begun, or one is -/
theorem RwSt.word {w wr : World} {S T : ByteArray} {j : Nat} {v : Value} (h : RwSt w S.data.toList j v T wr) :
    (T = ⟨#[]⟩ ∧ Hid (GapS S j → j ≤ S.size → ∀ w', Below wr.heap.size wr w' → RwSt w S.data.toList (j + 1) v ⟨#[]⟩ w')) ∨
    (T.data.toList ≠ [] ∧ ∃ word, Value.string T = encStr word ∧ Hid (GapS S j → j ≤ S.size → j ≤ 800000 → Calls Try.prog 28 #[v, encStr word] wr fun e w' => ∃ v', e = .returned v' ∧ Hid (RwSt w S.data.toList (j + 1) v' ⟨#[]⟩ w'))) := by
  obtain ⟨out, h1, h2, h3⟩ := h
  by_cases hT : T.data.toList = []
  · left
    have e : T = ⟨#[]⟩ := by
      apply ByteArray.ext
      apply Array.toList_inj.1
      exact hT
    refine ⟨e, Lib.hid (fun hg hj w' hb => ?_)⟩
    rw [hT] at h1
    exact ⟨out, h1.skip hg (by rw [ba_len]; exact hj), own_up h2 hb, h3.trans (hb.mono h3.size)⟩
  · right
    refine ⟨hT, T.data.toList, by simp [encStr], Lib.hid (fun hg hj hj8 => ?_)⟩
    refine (insert_any (own_row h2) (by have := h1.len; omega) T.data.toList).mono ?_
    rintro e w' ⟨v', rfl, g1, g2⟩
    exact ⟨v', rfl, Lib.hid ⟨insOf out T.data.toList, h1.ins hT hg (by rw [ba_len]; exact hj), own_le g1 (Nat.zero_le _), h3.trans (g2.mono h3.size)⟩⟩

def RefWordsIs (s : List UInt8) (w : World) : Ending → World → Prop := fun e w' => ∃ v, e = .returned v ∧ OwnS w' 0 v (wordsOf s) ∧ Below w.heap.size w w'

set_option maxHeartbeats 4000000 in
theorem refwords_any (S : ByteArray) (w : World) (hs : S.size ≤ 800000) : Calls Try.prog 11 #[.string S] w (RefWordsIs S.data.toList w) := by
  obtain ⟨n, hn1, hn2⟩ : ∃ n, n ≤ S.size ∧ S.size ≤ n := ⟨_, Nat.le_refl _, Nat.le_refl _⟩
  go_enter Try.func11, Try.ntmps11
  go_wp2
  go_loopw [3, 4, 5] (fun o t i wr => ∃ (v : Value) (T : ByteArray) (j : Nat), j ≤ n + 1 ∧ o = v ∧ t = .string T ∧ i = .int .i64 j ∧ Hid (RwSt w S.data.toList j v T wr)) (fun _ _ i _ => n + 1 - (intOf i).toNat)
  case atStart => exact ⟨_, _, 0, by omega, rfl, rfl, rfl, Lib.hid ⟨[], RW.start _, ownS_nil _ _, Below.refl _ _⟩⟩
  case round =>
    obtain ⟨v, T, j, hj, rfl, rfl, rfl, hst⟩ := hrel
    by_cases hjn : j ≤ n
    · have hjI : (j : Int) ≤ S.size := by omega
      by_cases hjl : j < n
      · have hjS : j < S.size := by omega
        have hjI2 : (j : Int) < S.size := by omega
        have hj0 : (0 : Int) ≤ j := by omega
        cases hpb : partB S[j] with
        | true =>
          have hlet := letter_any (S[j].toNat : Int) (by omega) (by have := S[j].toNat_lt; omega)
          rw [letI_part hpb] at hlet
          obtain ⟨c, hc⟩ : ∃ c, c = lowB S[j] := ⟨_, rfl⟩
          rw [← hc] at hlet
          obtain ⟨d, hd⟩ : ∃ d : Int, d = c.toNat := ⟨_, rfl⟩
          rw [← hd] at hlet
          have hd0 : d ≠ 0 := by have := lowB_ne hpb; rw [← hc] at this; omega
          have hd0' : (d == 0) = false := by simp [hd0]
          obtain ⟨X, hX, hconv⟩ := conv_one wr c d hd
          have hTX : ¬ (9223372036854775807 < T.size + X.size) := by
            have h1 := hst.out.size
            have h2 : X.size = 1 := by rw [← ba_len, hX]; rfl
            omega
          have HLET := Lib.hid hlet
          have HX := Lib.hid hX
          have HC := Lib.hid hc
          have HPB := Lib.hid hpb
          clear hlet hX hc hd hpb
          go_wp2_with (go_at_call 12; refine (HLET.out _).mono ?_; rintro e w1 ⟨rfl, hw⟩; obtain rfl := hw.symm)
          go_roundw
          case rel => exact ⟨_, _, j + 1, by omega, rfl, rfl, by go_num, Lib.hid (RwSt.part hst.out hjS HPB.out HC.out HX.out)⟩
          case measure => first | (simp [intOf]; done) | (simp [intOf]; omega)
        | false =>
          have hlet := letter_any (S[j].toNat : Int) (by omega) (by have := S[j].toNat_lt; omega)
          rw [letI_none hpb] at hlet
          have HLET := Lib.hid hlet
          have HGAP := Lib.hid (gapS (S := S) (j := j) (fun _ => hpb))
          clear hlet hpb
          rcases hst.out.word with ⟨hT, hnx⟩ | ⟨hT, wd, hwd, hnx⟩
          · subst hT
            have HNX := Lib.hid hnx
            clear hnx
            go_wp2_with (go_at_call 12; refine (HLET.out _).mono ?_; rintro e w1 ⟨rfl, hw⟩; obtain rfl := hw.symm)
            go_roundw
            case rel => exact ⟨_, _, j + 1, by omega, rfl, rfl, by go_num, Lib.hid (HNX.out.out HGAP.out (by omega) _ (Below.refl _ _))⟩
            case measure => first | (simp [intOf]; done) | (simp [intOf]; omega)
          · have hT0 : T.toList.isEmpty = false := by rw [Lib.toList_data, List.isEmpty_eq_false_iff]; exact hT
            have hcall := hnx.out HGAP.out (by omega) (by omega)
            rw [← hwd] at hcall
            have HCALL := Lib.hid hcall
            clear hT hcall hnx hwd
            go_wp2_with (first
              | (go_at_call 28; refine HCALL.out.mono ?_; rintro e w2 ⟨v2, rfl, h2⟩)
              | (go_at_call 12; refine (HLET.out _).mono ?_; rintro e w1 ⟨rfl, hw⟩; obtain rfl := hw.symm))
            go_roundw
            case rel => exact ⟨_, _, j + 1, by omega, rfl, rfl, by go_num, h2⟩
            case measure => first | (simp [intOf]; done) | (simp [intOf]; omega)
      · obtain rfl : j = n := by omega
        have hjI2 : decide ((j : Int) < S.size) = false := by simp; omega
        have hjI3 : decide (j < S.size) = false := by simp; omega
        have HGAP := Lib.hid (gapS (S := S) (j := j) (fun h => by omega))
        rcases hst.out.word with ⟨hT, hnx⟩ | ⟨hT, wd, hwd, hnx⟩
        · subst hT
          have HNX := Lib.hid hnx
          clear hnx
          go_wp2
          go_roundw
          case rel => exact ⟨_, _, j + 1, by omega, rfl, rfl, by go_num, Lib.hid (HNX.out.out HGAP.out (by omega) _ (Below.refl _ _))⟩
          case measure => first | (simp [intOf]; done) | (simp [intOf]; omega)
        · have hT0 : T.toList.isEmpty = false := by rw [Lib.toList_data, List.isEmpty_eq_false_iff]; exact hT
          have hcall := hnx.out HGAP.out (by omega) (by omega)
          rw [← hwd] at hcall
          have HCALL := Lib.hid hcall
          clear hT hcall hnx hwd
          go_wp2_with (first
            | (go_at_call 28; refine HCALL.out.mono ?_; rintro e w2 ⟨v2, rfl, h2⟩))
          go_roundw
          case rel => exact ⟨_, _, j + 1, by omega, rfl, rfl, by go_num, h2⟩
          case measure => first | (simp [intOf]; done) | (simp [intOf]; omega)
    · obtain rfl : j = n + 1 := by omega
      have hjI : decide (((n + 1 : Nat) : Int) ≤ S.size) = false := by simp; omega
      have hjI' : decide ((n : Int) + 1 ≤ S.size) = false := by simp; omega
      obtain ⟨out, h1, h2, h3⟩ := hst.out
      have hout := h1.done (by rw [ba_len]; omega)
      subst hout
      have H2 := Lib.hid h2
      have H3 := Lib.hid h3
      clear h1 h2 h3 hst
      go_wp2
      go_ret
      exact ⟨_, rfl, H2.out, H3.out⟩
end Go.Proofs.Ytokfiikpfckahaa
