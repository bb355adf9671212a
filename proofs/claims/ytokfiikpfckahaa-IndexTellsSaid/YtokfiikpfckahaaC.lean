/- The contract of lower. Condition: the string has at most 2^47 - 1 bytes. -/
import Derived.Test.YtokfiikpfckahaaB
import Derived.Lib.Hide
import Derived.Test.YtokfiikpfckahaaP
set_option linter.unusedVariables false
set_option linter.unusedSimpArgs false
namespace Go.Proofs.Ytokfiikpfckahaa
open Go.RowKit Go.Lib Go.Ix
set_option maxRecDepth 100000

theorem lowB_nat (c : UInt8) : (lowB c).toNat = if 65 ≤ c.toNat ∧ c.toNat ≤ 90 then c.toNat + 32 else c.toNat := by
  unfold lowB
  split
  · rename_i h
    rw [UInt8.toNat_add]
    show (c.toNat + 32) % 256 = _
    omega
  · rfl

theorem idx_str {P : Program} (h : P.underlying 9 = some .string) (w : World) (s : List UInt8) (k : Nat) (hk : k < s.length) :
    (Instr.index 9 (.string ⟨s.toArray⟩) (.int .i64 (k : Int))).run P w = .ok (.int .u8 ((s[k]'hk).toNat : Int)) w := by
  have hsz : (ByteArray.mk s.toArray).size = s.length := by simp [ByteArray.size]
  rw [run_index_string w 9 _ .i64 _ h, dif_pos ⟨by omega, by rw [hsz]; omega⟩]
  congr 1

theorem size_str (s : List UInt8) : (ByteArray.mk s.toArray).size = s.length := by simp [ByteArray.size]

def intOf : Value → Int
  | .int _ n => n
  | _ => 0

theorem ba_len (S : ByteArray) : S.data.toList.length = S.size := by rw [Array.length_toList]; rfl
theorem ba_get (S : ByteArray) (k : Nat) (h : k < S.size) : S[k]'h = S.data.toList[k]'(by rw [ba_len]; exact h) := by
  show S.data[k] = _
  simp

set_option maxHeartbeats 2000000 in
theorem lower_ba (S : ByteArray) (w : World) (hs : S.size ≤ 140737488355327) :
    Calls Try.prog 25 #[.string S] w fun e w' => e = .returned (.string ⟨(S.data.toList.map lowB).toArray⟩) ∧ Below w.heap.size w w' := by
  obtain ⟨n, hn⟩ : ∃ n, n = S.size := ⟨_, rfl⟩
  have hnl : n = S.data.toList.length := by rw [ba_len, hn]
  go_enter Try.func25, Try.ntmps25
  go_wp2
  go_loopw [8] (fun i wr => ∃ k : Nat, k ≤ n ∧ i = .int .i64 k ∧ Hid (IsBuilder 64 5 w.heap.size w.heap.size (byteCells ((S.data.toList.take k).map lowB)) wr ∧ Below w.heap.size w wr)) (fun i _ => n - (intOf i).toNat)
  case atStart => exact ⟨0, by omega, rfl, Lib.hid ⟨fresh_isBuilder 64 5 w, (Below.refl _ w).alloc (Nat.le_refl _) _⟩⟩
  case round =>
    obtain ⟨k, hk, rfl, hst⟩ := hrel
    by_cases hkn : k < n
    · have hks : k < S.size := by omega
      have hkl : k < S.data.toList.length := by omega
      have hkI : (k : Int) < S.size := by omega
      have htk : S.data.toList.take (k + 1) = S.data.toList.take k ++ [S[k]] := by rw [List.take_succ_eq_append_getElem hkl, ba_get]
      have hlen : (byteCells ((S.data.toList.take k).map lowB)).length + 1 ≤ 140737488355328 := by simp [byteCells]; omega
      have hBw := hst.out.2.size
      have step : ∀ d : Int, d = ((lowB S[k]).toNat : Int) → Calls Try.prog 31 #[.pointer (some ⟨w.heap.size, 0, none⟩), .int .u8 d] wr fun e w' => e = .returned .nilIface ∧ Hid (IsBuilder 64 5 w.heap.size w.heap.size (byteCells ((S.data.toList.take (k+1)).map lowB)) w' ∧ Below w.heap.size w w') := by
        intro d hd
        refine (write_byte w.heap.size w.heap.size _ d wr hst.out.1 hlen hBw).mono ?_
        rintro e w' ⟨rfl, h1, h2⟩
        refine ⟨rfl, Lib.hid ⟨Or.inr ?_, hst.out.2.trans h2⟩⟩
        rw [htk, List.map_append, show byteCells (List.map lowB (List.take k S.data.toList) ++ List.map lowB [S[k]]) = byteCells ((S.data.toList.take k).map lowB) ++ [.int .u8 d] by simp [byteCells, hd]]
        exact h1
      have hcb := S[k].toNat_lt
      have hlb := lowB_nat S[k]
      clear htk hlen
      by_cases h1 : 65 ≤ (S[k].toNat : Int)
      · by_cases h2 : (S[k].toNat : Int) ≤ 90
        · have hst2 := step ((S[k].toNat : Int) + 32) (by rw [hlb, if_pos (by omega)]; omega)
          have HS := Lib.hid hst2
          clear hst2 step hst hlb
          go_wp2_with (go_at_call 31; refine HS.out.mono ?_; rintro e w2 ⟨rfl, h2⟩)
          go_roundw
          case rel => exact ⟨k + 1, by omega, by go_num, by assumption⟩
          case measure => simp [intOf]; omega
        · have h2' : decide ((S[k].toNat : Int) ≤ 90) = false := by simpa using h2
          have hst2 := step ((S[k].toNat : Int)) (by rw [hlb, if_neg (by omega)])
          have HS := Lib.hid hst2
          clear hst2 step hst hlb
          go_wp2_with (go_at_call 31; refine HS.out.mono ?_; rintro e w2 ⟨rfl, h2⟩)
          go_roundw
          case rel => exact ⟨k + 1, by omega, by go_num, by assumption⟩
          case measure => simp [intOf]; omega
      · have h2' : decide (65 ≤ (S[k].toNat : Int)) = false := by simpa using h1
        have hst2 := step ((S[k].toNat : Int)) (by rw [hlb, if_neg (by omega)])
        have HS := Lib.hid hst2
        clear hst2 step hst hlb
        go_wp2_with (go_at_call 31; refine HS.out.mono ?_; rintro e w2 ⟨rfl, h2⟩)
        go_roundw
        case rel => exact ⟨k + 1, by omega, by go_num, by assumption⟩
        case measure => simp [intOf]; omega
    · obtain rfl : k = n := by omega
      have hS := Builder_String_any w.heap.size w.heap.size ((S.data.toList.take k).map lowB) wr hst.out.1 hst.out.2.size
      rw [show S.data.toList.take k = S.data.toList from List.take_of_length_le (by omega)] at hS
      have HS := Lib.hid hS
      have HB := Lib.hid hst.out.2
      have hkI : ¬ (k : Int) < S.size := by omega
      clear hS hst
      go_wp2_with (go_at_call 32; refine HS.out.mono ?_; rintro e w2 ⟨rfl, h2⟩)
      go_ret
      exact ⟨rfl, HB.out.trans h2⟩
end Go.Proofs.Ytokfiikpfckahaa
