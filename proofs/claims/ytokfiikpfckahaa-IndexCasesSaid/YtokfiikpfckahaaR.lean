/- The walk of IndexCases. No condition but that the truth values can be read. -/
import Derived.Test.YtokfiikpfckahaaQ
set_option linter.unusedVariables false
set_option linter.unusedSimpArgs false
namespace Go.Proofs.Ytokfiikpfckahaa
open Go.RowKit Go.Lib Go.Ix Go.Sort Go.Mf
set_option maxRecDepth 100000

/-- Words of a text, somewhere behind w -/
def CwW (w w0 : World) (l : List Str) : Ending → World → Prop := fun e w' => ∃ v, e = .returned v ∧ Hid (OwnS w' 0 v l ∧ Below w0.heap.size w0 w')

theorem cw_any (S : ByteArray) (hs : S.size ≤ 1000000) (w0 : World) : Calls Try.prog 9 #[.string S] w0 (CwW w0 w0 (wordsOf S.data.toList)) := by
  refine (words_any S w0 hs).mono ?_
  rintro e w' ⟨v, rfl, h1, h2⟩
  exact ⟨v, rfl, Lib.hid ⟨own_le h1 (Nat.zero_le _), h2⟩⟩

/-- Words of the first text: the bytes stay -/
def Cs1 (w0 : World) (l cs : List UInt8) (g n c2 : Nat) : Ending → World → Prop := fun e w' => ∃ v, e = .returned v ∧ (convert 27 9 (.slice (some ⟨g, 0, none⟩) n c2)).run Try.prog w' = .ok (encStr cs) w' ∧ (∀ q, (convert 27 9 (.slice (some ⟨g, 0, none⟩) n c2)).run Try.prog (w'.drewN q) = .ok (encStr cs) (w'.drewN q)) ∧ Hid (OwnS w' 0 v (wordsOf l) ∧ Below w0.heap.size w0 w')

theorem ByR.kt {w : World} {g n : Nat} {cs : List UInt8} (h : ByR w g cs) (hn : n = cs.length) (c2 : Nat) : (convert 27 9 (.slice (some ⟨g, 0, none⟩) n c2)).run Try.prog w = .ok (encStr cs) w := by
  subst hn
  exact h.text c2
theorem cs1_any (S : ByteArray) (hs : S.size ≤ 1000000) (cs : List UInt8) (g n c2 : Nat) (hn : n = cs.length) (w0 : World) (hby : ByR w0 g cs) (q : Nat) : Calls Try.prog 9 #[.string S] (w0.drewN q) (Cs1 w0 S.data.toList cs g n c2) := by
  refine (words_any S _ hs).mono ?_
  rintro e w' ⟨v, rfl, h1, h2⟩
  have hb : ByR w' g cs := (hby.up (below_dn w0 q)).up h2
  exact ⟨v, rfl, hb.kt hn c2, fun q => (hb.up (below_dn w' q)).kt hn c2, Lib.hid ⟨own_le h1 (Nat.zero_le _), (below_dn w0 q).trans h2⟩⟩
theorem cs2_any (cs : List UInt8) (l : List Str) (hw : wordsOf cs = l) (hs : cs.length ≤ 1000000) (w0 : World) (v1 : Value) (h1 : OwnS w0 0 v1 l) (q : Nat) : Calls Try.prog 9 #[encStr cs] (w0.drewN q) fun e w' => ∃ v2, e = .returned v2 ∧ Hid (OwnS w' 0 v1 l ∧ OwnS w' 0 v2 l ∧ Below w0.heap.size w0 w') := by
  refine (words_str cs _ hs).mono ?_
  rintro e w' ⟨v, rfl, h2, h3⟩
  rw [hw] at h2
  exact ⟨v, rfl, Lib.hid ⟨own_up h1 ((below_dn w0 q).trans h3), own_le h2 (Nat.zero_le _), (below_dn w0 q).trans h3⟩⟩
theorem cs3_any (l : List Str) (hl : l.length ≤ 1000000) (w0 : World) (v1 v2 : Value) (h1 : OwnS w0 0 v1 l) (h2 : OwnS w0 0 v2 l) (q : Nat) : Calls Try.prog 10 #[v1, v2] (w0.drewN q) fun e w' => e = .returned (.bool true) ∧ Hid (Below w0.heap.size w0 w') := by
  refine (same_any ((own_row h1).up (below_dn w0 q)) ((own_row h2).up (below_dn w0 q)) (by omega)).mono ?_
  rintro e w' ⟨rfl, q', rfl⟩
  exact ⟨by simp, Lib.hid ((below_dn w0 q).trans ((below_dn _ q').mono (by simp [World.drewN])))⟩

/-- the loop's state -/
def CsSt (w : World) (l : List UInt8) (g : Nat) (wr : World) : Prop := ∃ cs, capL l cs ∧ ByR wr g cs ∧ Below w.heap.size w wr

theorem conv_make (w1 : World) (S : ByteArray) (n : Nat) (hn : n = S.size) : ∃ g c w2, (convert 9 27 (.string S)).run Try.prog w1 = .ok (.slice (some ⟨g, 0, none⟩) n c) w2 ∧ Hid (ByR w2 g S.data.toList ∧ Below w1.heap.size w1 w2 ∧ w1.heap.size ≤ g) := by
  subst hn
  exact ⟨w1.heap.size, _, _, Go.Lib.run_convert_string_bytes (P := Try.prog) w1 9 27 5 S Try.underlying9 Try.underlying27 Try.underlying5, Lib.hid ⟨ByR.new w1 S, below_bytes w1 S, Nat.le_refl _⟩⟩

theorem CsSt.cap {w wr : World} {l cs : List UInt8} {g j : Nat} {c : UInt8} {d : Int} (hcap : capL l cs) (hby : ByR wr g cs) (hbel : Below w.heap.size w wr) (hj : j < cs.length) (hc : c = cs[j]) (hd : d = c.toNat) (h1 : 97 ≤ d) (h2 : d ≤ 122) (hg : w.heap.size ≤ g) :
    CsSt w l g (wr.setCell ⟨g, j, none⟩ (.int .u8 (d - 97 + 65))) := by
  have hjl : j < l.length := by rw [← hcap.1]; exact hj
  have hn : (UInt8.ofNat (c.toNat - 32)).toNat = c.toNat - 32 := by
    rw [UInt8.toNat_ofNat']
    have := c.toNat_lt
    exact Nat.mod_eq_of_lt (by omega)
  have he : d - 97 + 65 = ((UInt8.ofNat (c.toNat - 32)).toNat : Int) := by rw [hn]; omega
  rw [he]
  refine ⟨cs.set j (UInt8.ofNat (c.toNat - 32)), hcap.set hjl ?_, hby.set hj, hbel.setCell hg _⟩
  have hlc := hcap.2 j hjl hj
  rw [← hc] at hlc
  rcases hlc with h | ⟨h3, h4, h5⟩
  · exact Or.inr ⟨by rw [← h]; omega, by rw [← h]; omega, by rw [hn, h]⟩
  · omega

set_option maxHeartbeats 4000000 in
theorem cases_any (S : ByteArray) (v : Value) (m : Nat) (w : World) (hb : BoolsAt w v m) : Calls Try.prog 7 #[.string S, v] w fun e w' => e = .returned (.bool true) ∧ Below w.heap.size w w' := by
  obtain ⟨p, cap, rfl, hc⟩ := hb
  obtain ⟨n, hn⟩ : ∃ n, n = S.size := ⟨_, rfl⟩
  have HC := Lib.hid hc
  have HN := Lib.hid hn
  have hlen : (S.size : Int) = n := by omega
  clear hc hn
  go_enter Try.func7, Try.ntmps7
  by_cases hbig : 2000 < n
  · have hbigI : (2000 : Int) < n := by omega
    go_wp2_with (first
      | (go_at_call 8; refine (small_any _).mono ?_; rintro e w1 ⟨rfl, hb1⟩
         have HB1 := Lib.hid hb1
         clear hb1))
    go_ret
    exact ⟨rfl, HB1.out⟩
  · have hbigI : decide ((2000 : Int) < n) = false := by simp; omega
    go_wp2_with (first
      | (go_at_call 8; refine (small_any _).mono ?_; rintro e w1 ⟨rfl, hb1⟩
         have HB1 := Lib.hid hb1
         clear hb1
         obtain ⟨g, c2, w2, kc, hg⟩ := conv_make w1 S n HN.out
         have HG : Hid (ByR w2 g S.data.toList ∧ Below w.heap.size w w2 ∧ w.heap.size ≤ g) := ⟨hg.out.1, HB1.out.trans (hg.out.2.1.mono HB1.out.size), Nat.le_trans HB1.out.size hg.out.2.2⟩
         clear hg HB1))
    go_loopw [7] (fun t wr => ∃ j : Nat, j ≤ n ∧ t = .int .i64 j ∧ Hid (CsSt w S.data.toList g wr)) (fun t _ => n - (intOf t).toNat)
    case atStart => exact ⟨0, by omega, rfl, ⟨_, capL.refl _, HG.out.1, HG.out.2.1⟩⟩
    case round =>
      obtain ⟨j, hj, rfl, hst⟩ := hrel
      by_cases hjn : j < n
      · have hjI : (j : Int) < n := by omega
        by_cases hjm : j < m
        · have hjmI : (j : Int) < m := by omega
          have hj0 : (0 : Int) ≤ j := by omega
          obtain ⟨cs, hcap, hby, hbel⟩ := hst.out
          have hcl : cs.length = n := by rw [hcap.1, ba_len]; exact HN.out.symm
          have hjc : j < cs.length := by omega
          obtain ⟨b', o', rfl, hlt, x, hx⟩ := HC.out j hjm
          have hxr : wr.cell? ⟨b', o' + j, none⟩ = some (.bool x) := (hbel.cell hlt).trans hx
          have hcc := hby.cell j hjc
          have hff := hby.frz j hjc
          obtain ⟨c, hc⟩ : ∃ c, c = cs[j] := ⟨_, rfl⟩
          rw [← hc] at hcc
          obtain ⟨d, hd⟩ : ∃ d : Int, d = c.toNat := ⟨_, rfl⟩
          rw [← hd] at hcc
          have HBY := Lib.hid hby
          have HBEL := Lib.hid hbel
          have HCAP := Lib.hid hcap
          have HCJ := Lib.hid hc
          have HD := Lib.hid hd
          have HST := Lib.hid hst
          have hgw := Lib.hid HG.out.2.2
          have hd0 : 0 ≤ d := by omega
          clear hby hbel hcap hc hx hlt hcl hst hd
          cases x with
          | false =>
            go_wp2
            go_roundw
            case rel => exact ⟨j + 1, by omega, by go_num, HST.out⟩
            case measure => simp [intOf]; omega
          | true =>
            by_cases h97 : 97 ≤ d
            · by_cases h122 : d ≤ 122
              · go_wp2
                go_roundw
                case rel => exact ⟨j + 1, by omega, by go_num, Lib.hid (CsSt.cap HCAP.out HBY.out HBEL.out hjc HCJ.out HD.out h97 h122 hgw.out)⟩
                case measure => simp [intOf]; omega
              · have h122' : decide (d ≤ 122) = false := by simp; omega
                go_wp2
                go_roundw
                case rel => exact ⟨j + 1, by omega, by go_num, HST.out⟩
                case measure => simp [intOf]; omega
            · have h97' : decide (97 ≤ d) = false := by simp; omega
              go_wp2
              go_roundw
              case rel => exact ⟨j + 1, by omega, by go_num, HST.out⟩
              case measure => simp [intOf]; omega
        · have hjmI : decide ((j : Int) < m) = false := by simp; omega
          obtain ⟨cs, hcap, hby, hbel⟩ := hst.out
          have hcl : n = cs.length := by rw [hcap.1, ba_len]; exact HN.out
          have kt : ∀ q, (convert 27 9 (.slice (some ⟨g, 0, none⟩) n c2)).run Try.prog (wr.drewN q) = .ok (encStr cs) (wr.drewN q) := fun q => (hby.up (below_dn wr q)).kt hcl c2
          have HBY := Lib.hid hby
          have HBEL := Lib.hid hbel
          have HCL := Lib.hid hcl
          have HCAP := Lib.hid hcap
          clear hby hbel hcap hcl hst kc HG
          have H1 := Lib.hid (fun q => cs1_any S (by have := HN.out; omega) cs g n c2 HCL.out wr HBY.out q)
          have hwl : (wordsOf S.data.toList).length ≤ 1000000 := by
            have h1 := wordsOf_len S.data.toList
            have h2 := tok_len S.data.toList []
            have h3 := ba_len S
            have h4 := HN.out
            omega
          obtain ⟨l, hl⟩ : ∃ l, l = wordsOf S.data.toList := ⟨_, rfl⟩
          rw [← hl] at hwl
          have H2 := Lib.hid (fun w3 v1 h1 q => cs2_any cs l (by rw [hl]; exact wordsOf_cap HCAP.out) (by have := HCL.out; omega) w3 v1 h1 q)
          have H3 := Lib.hid (fun w4 v1 v2 h1 h2 q => cs3_any l hwl w4 v1 v2 h1 h2 q)
          have HL := Lib.hid hl
          clear hl hwl
          go_upto_region 10 with fail
          change Code.wp _ _ _ _ (wr.drewN 0)
          go_region_with (first
            | (go_at_call 10; refine (H3.out w4 v1 v2 h2.out.1 h2.out.2.1 0).mono ?_; rintro e w5 ⟨rfl, h3⟩)
            | (go_at_call 9; refine (H2.out w3 v1 h1.out.1 0).mono ?_; rintro e w4 ⟨v2, rfl, h2⟩)
            | (go_at_call 9; refine (H1.out _).mono ?_; rintro e w3 ⟨v1, rfl, kt1, kt2, h1⟩; clear kt2; rw [← HL.out] at h1))
          all_goals
            go_wp2_with fail
            go_ret
            have hb3 := HBEL.out.trans (h1.out.2.mono HBEL.out.size)
            have hb4 := hb3.trans (h2.out.2.2.mono hb3.size)
            exact ⟨rfl, hb4.trans (h3.out.mono hb4.size)⟩
      · have hjI : decide ((j : Int) < n) = false := by simp; omega
        obtain ⟨cs, hcap, hby, hbel⟩ := hst.out
        have hcl : n = cs.length := by rw [hcap.1, ba_len]; exact HN.out
        have kt : ∀ q, (convert 27 9 (.slice (some ⟨g, 0, none⟩) n c2)).run Try.prog (wr.drewN q) = .ok (encStr cs) (wr.drewN q) := fun q => (hby.up (below_dn wr q)).kt hcl c2
        have HBY := Lib.hid hby
        have HBEL := Lib.hid hbel
        have HCL := Lib.hid hcl
        have HCAP := Lib.hid hcap
        clear hby hbel hcap hcl hst kc HG
        have H1 := Lib.hid (fun q => cs1_any S (by have := HN.out; omega) cs g n c2 HCL.out wr HBY.out q)
        have hwl : (wordsOf S.data.toList).length ≤ 1000000 := by
          have h1 := wordsOf_len S.data.toList
          have h2 := tok_len S.data.toList []
          have h3 := ba_len S
          have h4 := HN.out
          omega
        obtain ⟨l, hl⟩ : ∃ l, l = wordsOf S.data.toList := ⟨_, rfl⟩
        rw [← hl] at hwl
        have H2 := Lib.hid (fun w3 v1 h1 q => cs2_any cs l (by rw [hl]; exact wordsOf_cap HCAP.out) (by have := HCL.out; omega) w3 v1 h1 q)
        have H3 := Lib.hid (fun w4 v1 v2 h1 h2 q => cs3_any l hwl w4 v1 v2 h1 h2 q)
        have HL := Lib.hid hl
        clear hl hwl
        go_upto_region 10 with fail
        change Code.wp _ _ _ _ (wr.drewN 0)
        go_region_with (first
          | (go_at_call 10; refine (H3.out w4 v1 v2 h2.out.1 h2.out.2.1 0).mono ?_; rintro e w5 ⟨rfl, h3⟩)
          | (go_at_call 9; refine (H2.out w3 v1 h1.out.1 0).mono ?_; rintro e w4 ⟨v2, rfl, h2⟩)
          | (go_at_call 9; refine (H1.out _).mono ?_; rintro e w3 ⟨v1, rfl, kt1, kt2, h1⟩; clear kt2; rw [← HL.out] at h1))
        all_goals
          go_wp2_with fail
          go_ret
          have hb3 := HBEL.out.trans (h1.out.2.mono HBEL.out.size)
          have hb4 := hb3.trans (h2.out.2.2.mono hb3.size)
          exact ⟨rfl, hb4.trans (h3.out.mono hb4.size)⟩
end Go.Proofs.Ytokfiikpfckahaa
