/- The contract of Words. Condition: the text has at most 1000000 bytes. -/
import Derived.Test.YtokfiikpfckahaaC
import Derived.Sort.OwnSorted
import Derived.Lib.OwnBridge
import Derived.OwnWalk
set_option linter.unusedVariables false
set_option linter.unusedSimpArgs false
namespace Go.Proofs.Ytokfiikpfckahaa
open Go.RowKit Go.Lib Go.Ix Go.Sort
set_option maxRecDepth 100000

theorem und23 : Try.prog.underlying 23 = some (.slice 9) := by kernel_rfl
theorem info9 : (Try.prog.info? 9).map (fun i => (i.zero, i.size, i.bytes)) = some (some (.string ⟨#[]⟩), 1, 16) := by kernel_rfl

/-- strings in a row of the call's own -/
abbrev OwnS (w : World) (B : Nat) (v : Value) (l : List Str) : Prop := w.ownsRow B 9 1 v l.length (l.map encStr)

theorem ownS_nil (w : World) (B : Nat) : OwnS w B (.slice none 0 0) [] := ⟨rfl, Or.inl ⟨rfl, rfl⟩⟩

theorem partI_eq (c : UInt8) : partI (c.toNat : Int) = partB c := by
  unfold partI partB
  rw [decide_eq_decide]
  omega

theorem left_of {w w1 : World} {g cap nn q : Nat} {os : Array Obj} {B : Nat} {ss : List Str} (hown : OwnS w1 B (.slice (some ⟨g, 0, none⟩) ss.length cap) ss) (hbel : Below B w w1) (hbs : B ≤ w1.heap.size) (hbg : B ≤ g) :
    OwnS (putRow encStr (Sort.ahead (grow (putRow encStr (Sort.ahead w1 nn) g 0 (sortS ss).toArray) os) q) g 0 (Lib.compact (sortS ss) ++ List.replicate (ss.length - (Lib.compact (sortS ss)).length) []).toArray) B (.slice (some ⟨g, 0, none⟩) (Lib.compact (sortS ss)).length cap) (Lib.compact (sortS ss)) ∧
    Below B w (putRow encStr (Sort.ahead (grow (putRow encStr (Sort.ahead w1 nn) g 0 (sortS ss).toArray) os) q) g 0 (Lib.compact (sortS ss) ++ List.replicate (ss.length - (Lib.compact (sortS ss)).length) []).toArray) := by
  have hl2 : (sortS ss).length = ss.length := sortS_len ss
  have hle := Lib.compact_length_le (sortS ss)
  rcases hown.2 with ⟨h0, _⟩ | ⟨g', cap', cur, hv, hbase, hb, h1, h2, h3, h4⟩
  · cases h0
  cases hv
  have hs := ownsRow_sorted (n := nn) (os := os) (ts := sortS ss) hl2 hbase hb h1 h2 h3
  have hc := Lib.ownsRow_putRow (q := q) (k := (Lib.compact (sortS ss)).length) (ys := Lib.compact (sortS ss) ++ List.replicate (ss.length - (Lib.compact (sortS ss)).length) []) hs (by simp; omega) (by omega)
  rw [List.take_left] at hc
  exact ⟨hc, Lib.below_putRow (hbel.grown (grownBy_sorted _) hbs (fun j hj => by cases hj; exact hbase)) hbg⟩

theorem own_up {w w' : World} {base : Nat} {e : TypeId} {sz : Nat} {v : Value} {n : Nat} {xs : List Value} (h : w.ownsRow base e sz v n xs) (hb : Below w.heap.size w w') : w'.ownsRow base e sz v n xs :=
  h.kept (row := none) ⟨hb.os, hb.tape, hb.output, hb.size, fun k hk _ => hb.block k hk⟩ (by cases v.ownBlock <;> simp)

theorem app_below {W a b : World} {base : Nat} {e : TypeId} {sz : Nat} {v : Value} {n : Nat} {xs : List Value} {o : Obj} (h : Below base W a) (hb : base ≤ a.heap.size) (hr : a.ownsRow base e sz v n xs) (hg : (a.alloc o).grownBy b v.ownBlock) : Below base W b := by
  have hs : (a.alloc o).heap.size = a.heap.size + 1 := by simp
  refine ⟨hg.os.trans h.os, hg.tape.trans h.tape, hg.output.trans h.output, ?_, fun k hk => ?_⟩
  · have := hg.size; have := h.size; omega
  · have hka : k < a.heap.size := by omega
    refine (hg.block k (by omega) (fun e2 => ?_)).trans ((Below.heap_alloc a o k hka).trans (h.block k hk))
    have := (hr.lt k e2.symm).1
    omega

theorem alloc_cell0 (w : World) (v : Value) (t : TypeId) : (w.alloc (.cells #[v] t)).cell? ((⟨w.heap.size, 0, none⟩ : Addr).add 0) = some v := by
  simp [Addr.add]

/-- the loop's state -/
structure WSt (S : ByteArray) (w : World) (k : Nat) (v : Value) (L : List Str) (wr : World) : Prop where
  own : OwnS wr w.heap.size v L
  below : Below w.heap.size w wr
  tok : L ++ tok (S.data.toList.drop k) [] = Ix.tok S.data.toList []
  len : L.length ≤ k

def WordsIs (S : ByteArray) (w : World) : Ending → World → Prop := fun e w' => ∃ v, e = .returned v ∧ OwnS w' w.heap.size v (wordsOf S.data.toList) ∧ Below w.heap.size w w'

theorem ext_list (S : ByteArray) (a b : Nat) : (S.extract a b).data.toList = (S.data.toList.take b).drop a := by
  rw [ByteArray.data_extract, Array.toList_extract, List.extract_eq_take_drop, List.drop_take]

theorem WSt.next {S : ByteArray} {w wr w2 : World} {k j : Nat} {v v' : Value} {L : List Str} (h : WSt S w k v L wr) (hkj : k < j) (hj : j ≤ S.size)
    (hrun : ∀ c ∈ (S.data.toList.take j).drop k, partB c = true) (hend : ∀ h : j < S.size, partB S[j] = false)
    (hown : w2.ownsRow w.heap.size 9 1 v' (L.length + 1) (L.map encStr ++ [encStr (((S.extract k j).data.toList).map lowB)])) (hb : Below w.heap.size w w2) : WSt S w (j + 1) v' (L ++ [((S.extract k j).data.toList).map lowB]) w2 := by
  have hl := ba_len S
  refine ⟨by simpa [OwnS] using hown, hb, ?_, by simp; have := h.len; omega⟩
  rw [← h.tok, tok_round S.data.toList k j (by omega) (by omega) hrun (fun h' => by rw [← ba_get S j (by omega)]; exact hend _), ext_list]
  have hne : ((S.data.toList.take j).drop k).map lowB ≠ [] := by
    intro e
    have := congrArg List.length e
    simp at this
    have := ba_len S
    simp at this
    omega
  rw [Ix.one, if_neg hne]
  simp

theorem WSt.skip {S : ByteArray} {w wr : World} {k : Nat} {v : Value} {L : List Str} (h : WSt S w k v L wr) (hj : k ≤ S.size)
    (hend : ∀ h : k < S.size, partB S[k] = false) : WSt S w (k + 1) v L wr := by
  have hl := ba_len S
  refine ⟨h.own, h.below, ?_, by have := h.len; omega⟩
  rw [← h.tok, tok_round S.data.toList k k (by omega) (by omega) (by intro c hc; have : (S.data.toList.take k).drop k = [] := List.drop_eq_nil_of_le (by simp; omega); rw [this] at hc; cases hc) (fun h' => by rw [← ba_get S k (by omega)]; exact hend _)]
  have : (S.data.toList.take k).drop k = [] := List.drop_eq_nil_of_le (by simp; omega)
  rw [this]
  simp [Ix.one]

theorem run_next {S : ByteArray} {k j : Nat} (h : ∀ c ∈ (S.data.toList.take j).drop k, partB c = true) (hkj : k ≤ j) (hj : j < S.size) (hp : partB S[j] = true) : ∀ c ∈ (S.data.toList.take (j + 1)).drop k, partB c = true := by
  have hl := ba_len S
  rw [List.take_succ_eq_append_getElem (by omega), List.drop_append_of_le_length (by simp at hl ⊢; omega), ← ba_get S j hj]
  intro c hc
  rcases List.mem_append.1 hc with hc | hc
  · exact h c hc
  · simp at hc; rw [hc]; exact hp

set_option maxHeartbeats 4000000 in
theorem words_any (S : ByteArray) (w : World) (hs : S.size ≤ 1000000) : Calls Try.prog 9 #[.string S] w (WordsIs S w) := by
  obtain ⟨i9, hi9, hz90, hz91, hz92⟩ := info_parts info9
  obtain ⟨n, hn⟩ : ∃ n, n = S.size := ⟨_, rfl⟩
  go_enter Try.func9, Try.ntmps9
  go_wp2
  go_loopw [4, 3] (fun i o wr => ∃ (k : Nat) (L : List Str), k ≤ n + 1 ∧ i = .int .i64 k ∧ Hid (WSt S w k o L wr)) (fun i _ _ => n + 1 - (intOf i).toNat)
  case atStart => exact ⟨0, [], by omega, rfl, Lib.hid ⟨ownS_nil _ _, Below.refl _ _, by simp, by simp⟩⟩
  case round =>
    obtain ⟨k, L, hk, rfl, hst⟩ := hrel
    by_cases hkn : k < n
    · have hkI : (k : Int) < S.size := by omega
      obtain ⟨W, rfl⟩ : ∃ W : World, W = wr := ⟨_, rfl⟩
      go_wp2
      go_loopw [4] (fun i wx => ∃ j : Nat, k ≤ j ∧ j ≤ n ∧ i = .int .i64 j ∧ W = wx ∧ Hid (∀ c ∈ (S.data.toList.take j).drop k, partB c = true)) (fun i _ => n - (intOf i).toNat)
      case atStart => exact ⟨k, by omega, by omega, rfl, rfl, Lib.hid (by intro c hc; rw [List.drop_eq_nil_of_le (by simp; omega)] at hc; cases hc)⟩
      case round =>
        obtain ⟨j, hj, hjn, rfl, rfl, hrun⟩ := hrel
        by_cases hjl : j < n
        · have hjS : j < S.size := by omega
          have hjI : (j : Int) < S.size := by omega
          have hp := part_any (S[j].toNat : Int) W
          rw [partI_eq] at hp
          have HP := Lib.hid hp
          clear hp
          cases hpb : partB S[j] with
          | true =>
            rw [hpb] at HP
            go_wp2_with (go_at_call 24; refine HP.out.mono ?_; rintro e w' ⟨rfl, hw⟩; obtain rfl := hw.symm)
            go_roundw
            case rel => exact ⟨j + 1, by omega, by omega, by go_num, trivial, Lib.hid (run_next hrun.out hj hjS hpb)⟩
            case measure => simp [intOf]; omega
          | false =>
            rw [hpb] at HP
            have hend : ∀ h : j < S.size, partB S[j] = false := fun _ => hpb
            have HEND := Lib.hid hend
            clear hend
            by_cases hkj : k < j
            · have hkjI : (k : Int) < j := by omega
              have hjS' : (j : Int) ≤ S.size := by omega
              have hlow := lower_ba (S.extract k j) W (by rw [ByteArray.size_extract]; omega)
              obtain ⟨T, hT⟩ : ∃ T, T = (S.extract k j).data.toList.map lowB := ⟨_, rfl⟩
              rw [← hT] at hlow
              have HL := Lib.hid hlow
              have HT := Lib.hid hT
              clear hT
              have HLEN : Hid (L.length ≤ 1000000) := Lib.hid (by have := hst.out.len; omega)
              clear hlow
              go_wp2_with (first
                | (go_at_call 24; refine HP.out.mono ?_; rintro e w' ⟨rfl, hw⟩; obtain rfl := hw.symm)
                | (go_at_call 25; refine HL.out.mono ?_; rintro e w1 ⟨rfl, hb1⟩; have HB1 := Lib.hid hb1; clear hb1; have HO1 := Lib.hid ((own_up hst.out.own HB1.out).alloc (.cells #[encStr T] 9)))
                | (at_builtin; refine wpList_append_own _ rfl _ _ 23 rfl w.heap.size 9 i9 _ 1 16 und23 hi9 hz90 hz91 hz92 rfl (by decide) _ _ _ rfl HO1.out ⟨w1.heap.size, 0, none⟩ 1 1 [encStr T] rfl rfl ?c1 ?c2 ?c3 ?c4 ?c5 ?_))
              case c1 =>
                intro j' u hj'
                match j', hj' with
                | 0, hj' =>
                  simp only [List.getElem?_cons_zero, Option.some.injEq] at hj'
                  subst hj'
                  exact alloc_cell0 _ _ _
              case c2 => intro u hu; simp at hu; subst hu; rfl
              case c3 => have := HLEN.out; unfold maxLen; omega
              case c4 => have := HLEN.out; omega
              case c5 => have := hst.out.below.size; have := HB1.out.size; simp; omega
              intro v' w2 hown' hgrow _
              have hb2 : Below w.heap.size w w2 := app_below (hst.out.below.trans (HB1.out.mono hst.out.below.size)) (by have := hst.out.below.size; have := HB1.out.size; omega) (own_up hst.out.own HB1.out) hgrow
              have HN := Lib.hid (hst.out.next hkj (by omega) hrun.out HEND.out (v' := v') (w2 := w2) (by rw [← HT.out]; exact hown') hb2)
              clear hown' hgrow hb2
              go_wp2
              go_roundw
              case rel => exact ⟨j + 1, L ++ [((S.extract k j).data.toList).map lowB], by omega, by go_num, HN⟩
              case measure => simp [intOf]; omega
            · obtain rfl : j = k := by omega
              have hkjI : ¬ (j : Int) < j := by omega
              go_wp2_with (go_at_call 24; refine HP.out.mono ?_; rintro e w' ⟨rfl, hw⟩; obtain rfl := hw.symm)
              go_roundw
              case rel => exact ⟨j + 1, L, by omega, by go_num, Lib.hid (hst.out.skip (by omega) HEND.out)⟩
              case measure => simp [intOf]; omega
        · have hjI : ¬ (j : Int) < S.size := by omega
          have hend : ∀ h : j < S.size, partB S[j] = false := fun h => by omega
          have HEND := Lib.hid hend
          clear hend
          by_cases hkj : k < j
          · have hkjI : (k : Int) < j := by omega
            have hjS' : (j : Int) ≤ S.size := by omega
            have hlow := lower_ba (S.extract k j) W (by rw [ByteArray.size_extract]; omega)
            obtain ⟨T, hT⟩ : ∃ T, T = (S.extract k j).data.toList.map lowB := ⟨_, rfl⟩
            rw [← hT] at hlow
            have HL := Lib.hid hlow
            have HT := Lib.hid hT
            clear hT
            have HLEN : Hid (L.length ≤ 1000000) := Lib.hid (by have := hst.out.len; omega)
            clear hlow
            go_wp2_with (first
                | (go_at_call 25; refine HL.out.mono ?_; rintro e w1 ⟨rfl, hb1⟩; have HB1 := Lib.hid hb1; clear hb1; have HO1 := Lib.hid ((own_up hst.out.own HB1.out).alloc (.cells #[encStr T] 9)))
                | (at_builtin; refine wpList_append_own _ rfl _ _ 23 rfl w.heap.size 9 i9 _ 1 16 und23 hi9 hz90 hz91 hz92 rfl (by decide) _ _ _ rfl HO1.out ⟨w1.heap.size, 0, none⟩ 1 1 [encStr T] rfl rfl ?c1 ?c2 ?c3 ?c4 ?c5 ?_))
            case c1 =>
              intro j' u hj'
              match j', hj' with
              | 0, hj' =>
                simp only [List.getElem?_cons_zero, Option.some.injEq] at hj'
                subst hj'
                exact alloc_cell0 _ _ _
            case c2 => intro u hu; simp at hu; subst hu; rfl
            case c3 => have := HLEN.out; unfold maxLen; omega
            case c4 => have := HLEN.out; omega
            case c5 => have := hst.out.below.size; have := HB1.out.size; simp; omega
            intro v' w2 hown' hgrow _
            have hb2 : Below w.heap.size w w2 := app_below (hst.out.below.trans (HB1.out.mono hst.out.below.size)) (by have := hst.out.below.size; have := HB1.out.size; omega) (own_up hst.out.own HB1.out) hgrow
            have HN := Lib.hid (hst.out.next hkj (by omega) hrun.out HEND.out (v' := v') (w2 := w2) (by rw [← HT.out]; exact hown') hb2)
            clear hown' hgrow hb2
            go_wp2
            go_roundw
            case rel => exact ⟨j + 1, L ++ [((S.extract k j).data.toList).map lowB], by omega, by go_num, HN⟩
            case measure => simp [intOf]; omega
          · obtain rfl : j = k := by omega
            have hkjI : ¬ (j : Int) < j := by omega
            go_wp2
            go_roundw
            case rel => exact ⟨j + 1, L, by omega, by go_num, Lib.hid (hst.out.skip (by omega) HEND.out)⟩
            case measure => simp [intOf]; omega
    · have hkI : ¬ (k : Int) < S.size := by omega
      have hl := ba_len S
      have hL : L = Ix.tok S.data.toList [] := by
        have := hst.out.tok
        rw [List.drop_eq_nil_of_le (by omega)] at this
        simpa [Ix.tok, Ix.one] using this
      have hLl : L.length ≤ 1000002 := by have := hst.out.len; omega
      rcases hst.out.own.2 with ⟨rfl, h0⟩ | ⟨g, cap, cur, hv, hbg, hb, hnc, hcm, hsz, htk⟩
      · have hnil : wordsOf S.data.toList = [] := by
          have : (wordsOf S.data.toList).length ≤ 0 := by rw [← h0, hL]; exact wordsOf_len _
          exact List.eq_nil_of_length_eq_zero (by omega)
        have HBW := Lib.hid hst.out.below
        obtain ⟨W, rfl⟩ : ∃ W : World, W = wr := ⟨_, rfl⟩
        clear hst
        go_wp2_with (first
          | (go_at_call 26; refine (slices_Sort_string_none none 0 _).mono ?_; rintro e w' ⟨rfl, hw⟩; obtain rfl := hw.symm)
          | (go_at_call 27; refine (slices_Compact_string_empty none 0 _).mono ?_; rintro e w' ⟨rfl, hw⟩; obtain rfl := hw.symm))
        go_ret
        exact ⟨_, rfl, by rw [hnil]; exact ownS_nil _ _, HBW.out⟩
      · subst hv
        have hH : Holds encStr wr g 0 L.toArray := holds_of_block hb (by simpa using htk)
        have hg : g < wr.heap.size := (Array.getElem?_eq_some_iff.1 hb).1
        have hsort := slices_Sort_string g 0 cap L wr hH hg (by omega)
        have hcomp : ∀ nn os, Calls Try.prog 27 #[.slice (some ⟨g, 0, none⟩) L.length cap] (grow (putRow encStr (Sort.ahead wr nn) g 0 (sortS L).toArray) os) fun e w' => e = .returned (.slice (some ⟨g, 0, none⟩) (wordsOf S.data.toList).length cap) ∧ OwnS w' w.heap.size (.slice (some ⟨g, 0, none⟩) (wordsOf S.data.toList).length cap) (wordsOf S.data.toList) ∧ Below w.heap.size w w' := by
          intro nn os
          have hH2 : Holds encStr (grow (putRow encStr (Sort.ahead wr nn) g 0 (sortS L).toArray) os) g 0 (sortS L).toArray :=
            holds_grow encStr _ os g 0 _ (by simpa [putRow, mapBlock, Sort.ahead] using hg) (holds_putRow encStr _ g 0 _ _ (holds_ahead encStr wr nn g 0 _ hH) (by simp [sortS_len]))
          have hc := slices_Compact_string g 0 cap (sortS L) _ hH2 (by rw [sortS_len]; omega) (by rw [sortS_len]; omega)
          rw [sortS_len] at hc
          refine hc.mono ?_
          rintro e w' ⟨rfl, q, rfl⟩
          have hlo := left_of (nn := nn) (q := q) (os := os) hst.out.own hst.out.below hst.out.below.size hbg
          unfold wordsOf
          rw [← hL]
          exact ⟨rfl, hlo⟩
        have hsort2 : Calls Try.prog 26 #[.slice (some ⟨g, 0, none⟩) L.length cap] wr fun e w' => e = .returned (.tuple #[]) ∧ Hid (Calls Try.prog 27 #[.slice (some ⟨g, 0, none⟩) L.length cap] w' fun e w'' => e = .returned (.slice (some ⟨g, 0, none⟩) (wordsOf S.data.toList).length cap) ∧ Hid (OwnS w'' w.heap.size (.slice (some ⟨g, 0, none⟩) (wordsOf S.data.toList).length cap) (wordsOf S.data.toList) ∧ Below w.heap.size w w'')) := by
          refine hsort.mono ?_
          rintro e w' ⟨rfl, nn, os, rfl⟩
          exact ⟨rfl, Lib.hid (hcomp nn os)⟩
        have HS := Lib.hid hsort2
        clear hsort hsort2 hcomp hH hst hb htk hL hl hsz
        go_wp2_with (first
          | (go_at_call 26; refine HS.out.mono ?_; rintro e w2 ⟨rfl, hc2⟩)
          | (go_at_call 27; refine hc2.out.mono ?_; rintro e w3 ⟨rfl, hf⟩))
        go_ret
        exact ⟨_, rfl, hf.out.1, hf.out.2⟩
end Go.Proofs.Ytokfiikpfckahaa
