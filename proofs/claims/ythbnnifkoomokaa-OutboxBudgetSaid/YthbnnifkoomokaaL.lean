/- The contracts of few and of last, and plain facts on the last end that can be reached. -/
import Derived.Test.YthbnnifkoomokaaK
set_option linter.unusedVariables false
set_option linter.unusedSimpArgs false
namespace Go.Proofs.Ythbnnifkoomokaa
open Go.RowKit Go.Mf

def Few (L : List (List Int)) : Prop := L.length ≤ 25 ∧ ∀ j, j < L.length → (L.getD j []).length ≤ 40
instance (L : List (List Int)) : Decidable (Few L) := by unfold Few; infer_instance

def FewPost (w : World) (L : List (List Int)) : Ending → World → Prop := fun e w' => e = .returned (.bool (decide (Few L))) ∧ w = w'

set_option maxHeartbeats 400000 in
theorem few_any (w : World) (S : Nat → Prop) (v : Value) (L : List (List Int)) (hL : RowsAt w S v L) :
    Calls Try.prog 8 #[v] w (FewPost w L) := by
  obtain ⟨a, c, rfl, hlen, hrows⟩ := hL
  have HR := Lib.hid hrows
  clear hrows
  by_cases h25 : 25 < L.length
  · have hf : decide (Few L) = false := by simp [Few]; omega
    have HF := Lib.hid hf
    clear hf
    go_enter Try.func8, Try.ntmps8
    go_wp2
    go_ret
    exact ⟨by rw [HF.out]; rfl, rfl⟩
  · have h25' : decide ((25 : Int) < (L.length : Int)) = false := by simp; omega
    go_enter Try.func8, Try.ntmps8
    go_wp2
    go_loop [3] (fun i => ∃ k : Nat, k ≤ L.length ∧ i = .int .i64 k ∧ Hid (∀ j, j < k → (L.getD j []).length ≤ 40)) (fun i => L.length - (intOf i).toNat)
    case atStart => exact ⟨0, by omega, rfl, by intro j hj; omega⟩
    case round =>
      obtain ⟨k, hk, rfl, hall⟩ := hrel
      by_cases hlt : k < L.length
      · obtain ⟨b, off, rfl, _, hc⟩ := HR.out (by intro e; rw [e] at hlt; simp at hlt)
        obtain ⟨u, hu, hue⟩ := hc k hlt
        obtain ⟨au, cu, rfl, hul, _⟩ := hue
        obtain ⟨m, hm⟩ : ∃ m, (L.getD k []).length = m := ⟨_, rfl⟩
        rw [hm] at hu hul
        have HM := Lib.hid hm
        clear hc hm
        by_cases h40 : 40 < m
        · have hf : decide (Few L) = false := by
            simp only [decide_eq_false_iff_not]
            rintro ⟨_, h2⟩
            have := h2 k hlt
            rw [HM.out] at this; omega
          have HF := Lib.hid hf
          have h40' : decide ((40 : Int) < (m : Int)) = true := by simp; omega
          clear hf
          go_wp2
          go_ret
          exact ⟨by rw [HF.out]; rfl, rfl⟩
        · have h40' : decide ((40 : Int) < (m : Int)) = false := by simp; omega
          go_wp2
          go_round
          case rel => exact ⟨k + 1, by omega, by go_num, by
            intro j hj
            by_cases e : j = k
            · subst e; rw [HM.out]; omega
            · exact hall.out j (by omega)⟩
          case measure => simp [intOf]; omega
      · have hf : decide (Few L) = true := by
          simp only [decide_eq_true_eq]
          exact ⟨by omega, fun j hj => hall.out j (by omega)⟩
        have HF := Lib.hid hf
        clear hf
        go_wp2
        go_ret
        exact ⟨by rw [HF.out]; rfl, rfl⟩

/-! ### last -/
def lstep (a e : Int) : Int := if a < e ∧ e - a ≤ 64 then e else a
def pass (l : List Int) (a : Int) : Int := l.foldl lstep a

inductive Reach (l : List Int) : Int → Prop
  | zero : Reach l 0
  | step {y x : Int} (h : Reach l y) (hx : x ∈ l) (h1 : y < x) (h2 : x - y ≤ 64) : Reach l x

structure IsLast (l : List Int) (A : Int) : Prop where
  reach : Reach l A
  stuck : ∀ e ∈ l, ¬ (A < e ∧ e - A ≤ 64)

theorem Reach.nonneg {l : List Int} {x : Int} (h : Reach l x) : 0 ≤ x := by
  induction h with
  | zero => exact Int.le_refl _
  | step h hx h1 h2 ih => omega
theorem IsLast.top {l : List Int} {A : Int} (h : IsLast l A) {x : Int} (hx : Reach l x) : x ≤ A := by
  induction hx with
  | zero => exact h.reach.nonneg
  | @step y x hy hm h1 h2 ih => have := h.stuck x hm; omega
theorem IsLast.unique {l : List Int} {A B : Int} (h : IsLast l A) (k : IsLast l B) : A = B := by
  have := h.top k.reach; have := k.top h.reach; omega
/-- below the last end there is always a next one -/
theorem IsLast.next {l : List Int} {A : Int} (h : IsLast l A) {x : Int} (h0 : 0 ≤ x) (hx : x < A) : ∃ e ∈ l, x < e ∧ e - x ≤ 64 := by
  have key : ∀ z, Reach l z → x < z → ∃ e ∈ l, x < e ∧ e - x ≤ 64 := by
    intro z hz
    induction hz with
    | zero => intro hlt; omega
    | @step y z hy hm h1 h2 ih =>
      intro hlt
      by_cases e : x < y
      · exact ih e
      · exact ⟨z, hm, hlt, by omega⟩
  exact key A h.reach hx

theorem foldl_lstep (l0 : List Int) : ∀ (l : List Int) (a : Int), (∀ e ∈ l, e ∈ l0) → Reach l0 a → Reach l0 (l.foldl lstep a) ∧ a ≤ l.foldl lstep a ∧ (a < l.foldl lstep a → l.foldl lstep a ∈ l0)
  | [], a, _, h => ⟨h, Int.le_refl _, fun h => absurd h (by simp)⟩
  | e :: l, a, hm, h => by
    have he : e ∈ l0 := hm e (by simp)
    have hs : Reach l0 (lstep a e) ∧ a ≤ lstep a e ∧ (a < lstep a e → lstep a e ∈ l0) := by
      unfold lstep
      split
      · rename_i hc; exact ⟨.step h he hc.1 hc.2, by omega, fun _ => he⟩
      · exact ⟨h, Int.le_refl _, fun h => absurd h (by simp)⟩
    have ih := foldl_lstep l0 l (lstep a e) (fun x hx => hm x (by simp [hx])) hs.1
    simp only [List.foldl_cons]
    refine ⟨ih.1, by omega, fun hlt => ?_⟩
    by_cases hc : lstep a e < l.foldl lstep (lstep a e)
    · exact ih.2.2 hc
    · have : l.foldl lstep (lstep a e) = lstep a e := by omega
      rw [this] at hlt ⊢; exact hs.2.2 hlt

theorem foldl_stuck : ∀ (l : List Int) (a : Int), l.foldl lstep a = a → ∀ e ∈ l, ¬ (a < e ∧ e - a ≤ 64)
  | [], _, _, _, he => by simp at he
  | x :: l, a, h, e, he => by
    have h1 : a ≤ lstep a x := by unfold lstep; split <;> omega
    have h2 : ∀ (l : List Int) b, b ≤ l.foldl lstep b := by
      intro l; induction l with
      | nil => intro b; exact Int.le_refl _
      | cons y l ih => intro b; have := ih (lstep b y); have : b ≤ lstep b y := by unfold lstep; split <;> omega
                       simp only [List.foldl_cons]; omega
    simp only [List.foldl_cons] at h
    have h3 := h2 l (lstep a x)
    have h4 : lstep a x = a := by omega
    rw [h4] at h
    rcases List.mem_cons.1 he with rfl | he
    · intro hc; unfold lstep at h4; rw [if_pos hc] at h4; omega
    · exact foldl_stuck l a h e he

def above (l : List Int) (a : Int) : Nat := (l.filter fun e => decide (a < e)).length
theorem above_lt {l : List Int} {a b : Int} (h : a < b) (hb : b ∈ l) : above l b < above l a := by
  unfold above
  induction l with
  | nil => simp at hb
  | cons x l ih =>
    have mono : ∀ l : List Int, (l.filter fun e => decide (b < e)).length ≤ (l.filter fun e => decide (a < e)).length := by
      intro l; induction l with
      | nil => simp
      | cons y l ih => simp only [List.filter_cons]; split <;> split <;> simp_all <;> omega
    rcases List.mem_cons.1 hb with rfl | hb
    · have := mono l
      simp only [List.filter_cons]
      rw [if_neg (by simp), if_pos (by simpa using h)]
      simp only [List.length_cons]; omega
    · have := ih hb
      simp only [List.filter_cons]
      split <;> split <;> simp_all <;> omega

theorem take_foldl (l : List Int) (k : Nat) (a : Int) (h : k < l.length) : (l.take (k + 1)).foldl lstep a = lstep ((l.take k).foldl lstep a) (l.getD k 0) := by
  rw [List.take_succ_eq_append_getElem h, List.foldl_append]
  simp [List.getD, h]

def LastPost (w : World) (l : List Int) : Ending → World → Prop := fun e w' => (∃ A, e = .returned (.int .i64 A) ∧ IsLast l A) ∧ w = w'

def boolOf : Value → Nat | .bool true => 1 | _ => 0

set_option maxHeartbeats 1000000 in
theorem last_any (w : World) (S : Nat → Prop) (v : Value) (l : List Int) (hL : IntsAt w S v l) :
    Calls Try.prog 11 #[v] w (LastPost w l) := by
  obtain ⟨a, c, rfl, hlen, hbnd, hrows⟩ := hL
  have HR := Lib.hid hrows
  have HBD := Lib.hid hbnd
  clear hrows hbnd
  go_enter Try.func11, Try.ntmps11
  go_wp2
  go_loop [3, 4] (fun av m => ∃ (A : Int) (mo : Bool), av = .int .i64 A ∧ m = .bool mo ∧ Hid (Reach l A ∧ (mo = false → pass l A = A))) (fun av m => above l (intOf av) + boolOf m)
  case atStart => exact ⟨0, true, rfl, rfl, Reach.zero, by simp⟩
  case round =>
    obtain ⟨A, mo, rfl, rfl, hA⟩ := hrel
    cases mo with
    | false =>
      go_wp2
      go_ret
      exact ⟨⟨A, rfl, hA.out.1, foldl_stuck l A (hA.out.2 (by trivial))⟩, rfl⟩
    | true =>
      go_wp2
      go_loop [3, 4, 5] (fun av m i => ∃ k : Nat, k ≤ l.length ∧ i = .int .i64 k ∧ av = .int .i64 ((l.take k).foldl lstep A) ∧ m = .bool (decide (A < (l.take k).foldl lstep A))) (fun _ _ i => l.length - (intOf i).toNat)
      case atStart => exact ⟨0, by omega, rfl, rfl, by simp⟩
      case round =>
        obtain ⟨k, hk, rfl, rfl, rfl⟩ := hrel
        have hfr := foldl_lstep l (l.take k) A (fun e he => List.mem_of_mem_take he) hA.out.1
        have hf0 := hfr.1.nonneg
        by_cases hlt : k < l.length
        · obtain ⟨b, off, rfl, _, hc⟩ := HR.out (by intro e; rw [e] at hlt; simp at hlt)
          have hck := hc k hlt
          have heb := HBD.out (l.getD k 0) (by rw [List.getD_eq_getElem?_getD, List.getElem?_eq_getElem hlt]; exact List.getElem_mem hlt)
          have hst := take_foldl l k A hlt
          obtain ⟨e, he⟩ : ∃ e, l.getD k 0 = e := ⟨_, rfl⟩
          obtain ⟨B, hB⟩ : ∃ B, (l.take k).foldl lstep A = B := ⟨_, rfl⟩
          rw [he] at hck heb hst
          rw [hB] at hst hf0 hfr ⊢
          obtain ⟨heb1, heb2⟩ := heb
          have hAB := hfr.2.1
          have HST := Lib.hid hst
          clear hc hst he hB hfr
          by_cases h1 : B < e
          · by_cases h2 : e - B ≤ 64
            · have hls : lstep B e = e := by unfold lstep; rw [if_pos ⟨h1, h2⟩]
              have HLS := Lib.hid hls
              have hAe : decide (A < e) = true := by simp; omega
              have HAE := Lib.hid hAe
              clear hls hAe
              go_wp2
              all_goals
                go_round
                case rel => exact ⟨k + 1, by omega, by go_num, by rw [HST.out, HLS.out], by rw [HST.out, HLS.out, HAE.out]⟩
                case measure => simp [intOf]; omega
            · have hls : lstep B e = B := by unfold lstep; rw [if_neg (by omega)]
              have HLS := Lib.hid hls
              clear hls
              go_wp2
              all_goals
                go_round
                case rel => exact ⟨k + 1, by omega, by go_num, by rw [HST.out, HLS.out], by rw [HST.out, HLS.out]⟩
                case measure => simp [intOf]; omega
          · have hls : lstep B e = B := by unfold lstep; rw [if_neg (by omega)]
            have HLS := Lib.hid hls
            clear hls
            go_wp2
            all_goals
              go_round
              case rel => exact ⟨k + 1, by omega, by go_num, by rw [HST.out, HLS.out], by rw [HST.out, HLS.out]⟩
              case measure => simp [intOf]; omega
        · have htk : l.take k = l := List.take_of_length_le (by omega)
          rw [htk] at hfr ⊢
          have hpass : l.foldl lstep A = pass l A := rfl
          rw [hpass] at hfr ⊢
          obtain ⟨B, hB⟩ : ∃ B, pass l A = B := ⟨_, rfl⟩
          rw [hB] at hfr ⊢
          have HFR := Lib.hid hfr
          have HB := Lib.hid hB
          clear hfr htk hpass hB
          by_cases hAB : A < B
          · have hd : decide (A < B) = true := by simpa using hAB
            have HAB := Lib.hid hAB
            clear hAB
            go_wp2
            go_round
            case rel => exact ⟨B, true, rfl, by rw [hd], HFR.out.1, by simp⟩
            case measure =>
              have h1 := above_lt HAB.out (HFR.out.2.2 HAB.out)
              simpa [intOf, boolOf, hd] using h1
          · have hd : decide (A < B) = false := by simpa using hAB
            have hBA : B = A := by have := HFR.out.2.1; omega
            have HAB := Lib.hid hBA
            clear hAB hBA
            go_wp2
            go_round
            case rel => exact ⟨B, false, rfl, by rw [hd], HFR.out.1, fun _ => by have := HB.out; rw [HAB.out] at this ⊢; exact this⟩
            case measure =>
              have := HAB.out
              subst this
              simp [intOf, boolOf]
end Go.Proofs.Ythbnnifkoomokaa
