/- The reference's net in memory, and the contracts of its functions that only read: is, Len, at, Off, Total. Condition: the net lies in memory as stated. -/
import Derived.Test.YtdkpgjhjdnfieaaV
set_option linter.unusedVariables false
set_option linter.unusedSimpArgs false
namespace Go.Proofs.Ytdkpgjhjdnfieaa
open Go.RowKit Go.Mf
set_option maxRecDepth 100000

/-- a message on the reference's list: its ends and its cells -/
structure RM where
  f : Int
  t : Int
  c : List Value
def RM.is (m : RM) (a b : Int) : Bool := m.f == a && m.t == b
def cutCell (w : World) (T : Nat → Prop) (y : Nat) (u : Value) (p : Int × Int) : Prop := ∃ g c arr, u = .slice (some ⟨g, 0, none⟩) 2 c ∧ (T g ∧ g ≠ y) ∧ w.heap[g]? = some (.cells arr 3 (0, 0)) ∧ arr[0]? = some (.int .i64 p.1) ∧ arr[1]? = some (.int .i64 p.2)
theorem cutCell.keep {w w' : World} {T T' : Nat → Prop} {y : Nat} {u : Value} {p : Int × Int} (h : cutCell w T y u p) (hT : ∀ k, T k → k < w.heap.size → T' k) (hw : ∀ k, T k → k ≠ y → (∃ arr, w.heap[k]? = some (.cells arr 3 (0, 0))) → k < w.heap.size → w'.heap[k]? = w.heap[k]?) : cutCell w' T' y u p := by
  obtain ⟨g, c, arr, h1, ⟨h2, h3⟩, h4, h5⟩ := h
  have hg := (Array.getElem?_eq_some_iff.1 h4).1
  exact ⟨g, c, arr, h1, ⟨hT g h2 hg, h3⟩, (hw g h2 h3 ⟨arr, h4⟩ hg).trans h4, h5⟩
structure RefIn (w : World) (T : Nat → Prop) (y : Nat) (n : Nat) (L C : Value) (l : List RM) (cuts : List (Int × Int)) : Prop where
  hy : w.heap[y]? = some (.cells #[.int .i64 n, L, C] 71 (0, 0))
  hl : w.ownsRow 0 42 34 L l.length (l.map RM.c).flatten
  ok : MsgsOk (l.map RM.c)
  ft : ∀ m ∈ l, m.c[1]? = some (.int .i64 m.f) ∧ m.c[2]? = some (.int .i64 m.t)
  hc : ∃ gs, w.ownsRow 0 55 1 C cuts.length gs ∧ ∀ (i : Nat) (p : Int × Int), cuts[i]? = some p → ∃ u, gs[i]? = some u ∧ cutCell w T y u p
  lt : ∀ k, T k → k < w.heap.size
  ty : T y
  tl : ∀ g, L.ownBlock = some g → T g
  tc : ∀ g, C.ownBlock = some g → T g
def cnt (l : List RM) (a b : Int) (k : Nat) : Nat := ((l.take k).filter fun m => m.is a b).length
theorem cnt_le (l : List RM) (a b : Int) (k : Nat) : cnt l a b k ≤ k := by
  unfold cnt
  have h1 := List.length_filter_le (fun m => RM.is m a b) (l.take k)
  have h2 := List.length_take_le k l
  omega
theorem cnt_succ {l : List RM} {a b : Int} {k : Nat} {m : RM} (h : l[k]? = some m) : cnt l a b (k + 1) = cnt l a b k + if m.is a b then 1 else 0 := by
  unfold cnt
  rw [List.take_add_one, h, Option.toList_some, List.filter_append, List.length_append]
  cases hm : m.is a b <;> simp [hm]
theorem RefIn.keep {w w' : World} {T : Nat → Prop} {y n : Nat} {L C : Value} {l : List RM} {cuts : List (Int × Int)} (h : RefIn w T y n L C l cuts) (hs : w.heap.size ≤ w'.heap.size) (hw : ∀ k, T k → k < w.heap.size → w'.heap[k]? = w.heap[k]?) : RefIn w' T y n L C l cuts := by
  have h' := h.lt
  obtain ⟨gs, g1, g2⟩ := h.hc
  exact { hy := (hw y h.ty (h' y h.ty)).trans h.hy, hl := own_heap h.hl (fun g hg hlt => hw g (h.tl g hg) hlt), ok := h.ok, ft := h.ft,
          hc := ⟨gs, own_heap g1 (fun g hg hlt => hw g (h.tc g hg) hlt), fun i p hp => by
            obtain ⟨u, hu, q⟩ := g2 i p hp
            exact ⟨_, hu, q.keep (fun _ h _ => h) (fun k hk _ _ hl => hw k hk hl)⟩⟩,
          lt := fun k hk => Nat.lt_of_lt_of_le (h' k hk) hs, ty := h.ty, tl := h.tl, tc := h.tc }
theorem RefIn.up {w w' : World} {T : Nat → Prop} {y n : Nat} {L C : Value} {l : List RM} {cuts : List (Int × Int)} (h : RefIn w T y n L C l cuts) (hb : Below w.heap.size w w') : RefIn w' T y n L C l cuts := h.keep hb.size (fun k _ hk => hb.block k hk)
/-- what the walk reads of the k-th message -/
theorem RefIn.msg {w : World} {T : Nat → Prop} {y n : Nat} {L C : Value} {l : List RM} {cuts : List (Int × Int)} (h : RefIn w T y n L C l cuts) {k : Nat} {m : RM} (hk : l[k]? = some m) :
    ∃ g c, L = .slice (some ⟨g, 0, none⟩) l.length c ∧ w.cell? ⟨g, k * 34 + 1, none⟩ = some (.int .i64 m.f) ∧ w.cell? ⟨g, k * 34 + 2, none⟩ = some (.int .i64 m.t) ∧ w.rangeAt g (k * 34) m.c := by
  have hlt := (List.getElem?_eq_some_iff.1 hk).1
  have hm : (l.map RM.c)[k]? = some m.c := by rw [List.getElem?_map, hk]; rfl
  rcases h.hl.2 with ⟨_, e⟩ | ⟨g, cap, cur, rfl, _⟩
  · omega
  · have hr : w.rangeAt g (k * 34) m.c := own_mid h.hl h.ok hm
    obtain ⟨h1, h2⟩ := h.ft m (List.mem_of_getElem? hk)
    exact ⟨g, cap, rfl, hr 1 _ h1, hr 2 _ h2, hr⟩
theorem RefIn.cut {w : World} {T : Nat → Prop} {y n : Nat} {L C : Value} {l : List RM} {cuts : List (Int × Int)} (h : RefIn w T y n L C l cuts) {k : Nat} {p : Int × Int} (hk : cuts[k]? = some p) :
    ∃ g c g' c', C = .slice (some ⟨g, 0, none⟩) cuts.length c ∧ w.cell? ⟨g, k, none⟩ = some (.slice (some ⟨g', 0, none⟩) 2 c') ∧ w.cell? ⟨g', 0, none⟩ = some (.int .i64 p.1) ∧ w.cell? ⟨g', 1, none⟩ = some (.int .i64 p.2) := by
  have hlt := (List.getElem?_eq_some_iff.1 hk).1
  obtain ⟨gs, hown, hcs⟩ := h.hc
  obtain ⟨u, hu, g', c', arr, rfl, _, q0, q1, q2⟩ := hcs k p hk
  have q1 : w.cell? ⟨g', 0, none⟩ = some (.int .i64 p.1) := by rw [cell_of_block q0]; exact q1
  have q2 : w.cell? ⟨g', 1, none⟩ = some (.int .i64 p.2) := by rw [cell_of_block q0]; exact q2
  rcases hown.2 with ⟨_, e⟩ | ⟨g, cap, cur, rfl, _⟩
  · omega
  · have := hown.cells (g := g) rfl k _ hu
    rw [Addr.add_lit, Nat.zero_add] at this
    exact ⟨g, cap, g', c', rfl, this, q1, q2⟩
theorem RefIn.cells {w : World} {T : Nat → Prop} {y n : Nat} {L C : Value} {l : List RM} {cuts : List (Int × Int)} (h : RefIn w T y n L C l cuts) : w.cell? ⟨y, 0, none⟩ = some (.int .i64 n) ∧ w.cell? ⟨y, 1, none⟩ = some L ∧ w.cell? ⟨y, 2, none⟩ = some C ∧ (∃ a c, L = .slice a l.length c) ∧ (∃ a c, C = .slice a cuts.length c) := by
  obtain ⟨gs, hown, _⟩ := h.hc
  exact ⟨cell_at h.hy rfl, cell_at h.hy rfl, cell_at h.hy rfl, ownsRow_shape h.hl, ownsRow_shape hown⟩

theorem rtotal_any {w : World} {T : Nat → Prop} {y n : Nat} {L C : Value} {l : List RM} {cuts : List (Int × Int)} (h : RefIn w T y n L C l cuts) : Calls Try.prog 29 #[.pointer (some ⟨y, 0, none⟩)] w fun e w' => e = .returned (.int .i64 (l.length : Nat)) ∧ w' = w := by
  obtain ⟨c0, c1, c2, ⟨a, c, rfl⟩, _⟩ := h.cells
  clear h
  go_enter Try.func29, Try.ntmps29
  go_wp2
  go_ret
  exact ⟨rfl, rfl⟩

set_option maxHeartbeats 1000000 in
theorem ris_any {w : World} {T : Nat → Prop} {y n : Nat} {L C : Value} {l : List RM} {cuts : List (Int × Int)} (h : RefIn w T y n L C l cuts) (a b : Int) : Calls Try.prog 38 #[.pointer (some ⟨y, 0, none⟩), .int .i64 a, .int .i64 b] w fun e w' => e = .returned (.bool (isLink n a b)) ∧ w' = w := by
  obtain ⟨c0, _⟩ := h.cells
  clear h
  go_enter Try.func38, Try.ntmps38
  by_cases d0 : 0 ≤ a
  · have d0' : decide (0 ≤ a) = true := by simpa using d0
    by_cases d1 : a < n
    · have d1' : decide (a < n) = true := by simpa using d1
      by_cases d2 : 0 ≤ b
      · have d2' : decide (0 ≤ b) = true := by simpa using d2
        by_cases d3 : b < n
        · have d3' : decide (b < n) = true := by simpa using d3
          by_cases d4 : a = b
          · have d4' : (a != b) = false := by simpa using d4
            have hv : isLink n a b = false := by simp only [isLink, d0', d1', d2', d3', d4']; rfl
            have HV := Lib.hid hv
            clear hv d0 d1 d2 d3 d4
            go_wp2
            go_ret
            exact ⟨by rw [HV.out]; rfl, rfl⟩
          · have d4' : (a != b) = true := by simpa using d4
            have hv : isLink n a b = true := by simp only [isLink, d0', d1', d2', d3', d4']; rfl
            have HV := Lib.hid hv
            clear hv d0 d1 d2 d3 d4
            go_wp2
            go_ret
            exact ⟨by rw [HV.out]; rfl, rfl⟩
        · have d3' : decide (b < n) = false := by simpa using d3
          have hv : isLink n a b = false := by simp only [isLink, d0', d1', d2', d3']; rfl
          have HV := Lib.hid hv
          clear hv d0 d1 d2 d3
          go_wp2
          go_ret
          exact ⟨by rw [HV.out]; rfl, rfl⟩
      · have d2' : decide (0 ≤ b) = false := by simpa using d2
        have hv : isLink n a b = false := by simp only [isLink, d0', d1', d2']; rfl
        have HV := Lib.hid hv
        clear hv d0 d1 d2
        go_wp2
        go_ret
        exact ⟨by rw [HV.out]; rfl, rfl⟩
    · have d1' : decide (a < n) = false := by simpa using d1
      have hv : isLink n a b = false := by simp only [isLink, d0', d1']; rfl
      have HV := Lib.hid hv
      clear hv d0 d1
      go_wp2
      go_ret
      exact ⟨by rw [HV.out]; rfl, rfl⟩
  · have d0' : decide (0 ≤ a) = false := by simpa using d0
    have hv : isLink n a b = false := by simp only [isLink, d0']; rfl
    have HV := Lib.hid hv
    clear hv d0
    go_wp2
    go_ret
    exact ⟨by rw [HV.out]; rfl, rfl⟩

set_option maxHeartbeats 1000000 in
theorem rlen_any {w : World} {T : Nat → Prop} {y n : Nat} {L C : Value} {l : List RM} {cuts : List (Int × Int)} (h : RefIn w T y n L C l cuts) (hl : l.length ≤ 1000000) (a b : Int) : Calls Try.prog 25 #[.pointer (some ⟨y, 0, none⟩), .int .i64 a, .int .i64 b] w fun e w' => e = .returned (.int .i64 (cnt l a b l.length : Nat)) ∧ w' = w := by
  obtain ⟨c0, c1, c2, ⟨aL, cL, rfl⟩, _⟩ := h.cells
  obtain ⟨n0, hn0⟩ : ∃ n, l.length = n := ⟨_, rfl⟩
  rw [hn0] at c1 hl ⊢
  have H := Lib.hid h
  have HN := Lib.hid hn0
  clear h hn0
  go_enter Try.func25, Try.ntmps25
  go_wp2
  go_loop [7, 8] (fun s i => ∃ k : Nat, k ≤ n0 ∧ i = .int .i64 k ∧ s = .int .i64 (cnt l a b k : Nat)) (fun _ i => n0 - (intOf i).toNat)
  case atStart => exact ⟨0, by omega, rfl, by simp [cnt]⟩
  case round =>
    obtain ⟨k, hk, rfl, rfl⟩ := hrel
    by_cases hkn : k < n0
    · obtain ⟨m, hm⟩ : ∃ m, l[k]? = some m := ⟨l[k]'(by rw [HN.out]; exact hkn), List.getElem?_eq_getElem _⟩
      obtain ⟨g, c, e, q1, q2, _⟩ := H.out.msg hm
      simp only [Value.slice.injEq] at e
      obtain ⟨rfl, _, rfl⟩ := e
      have hs := cnt_succ (a := a) (b := b) hm
      have hle := cnt_le l a b k
      obtain ⟨ck, hck⟩ : ∃ c, cnt l a b k = c := ⟨_, rfl⟩
      rw [hck] at hs hle ⊢
      by_cases hf : m.f = a
      · have hf' : (m.f == a) = true := by simpa using hf
        by_cases ht : m.t = b
        · have ht' : (m.t == b) = true := by simpa using ht
          have hr : cnt l a b (k + 1) = ck + 1 := by rw [hs]; simp [RM.is, hf', ht']
          have HR := Lib.hid hr
          clear hs hf ht hr hck hm
          go_wp2
          go_round
          case rel => exact ⟨k + 1, by omega, by go_num, by rw [HR.out]; go_num⟩
          case measure => simp [intOf]; omega
        · have ht' : (m.t == b) = false := by simpa using ht
          have hr : cnt l a b (k + 1) = ck := by rw [hs]; simp [RM.is, hf', ht']
          have HR := Lib.hid hr
          clear hs hf ht hr hck hm
          go_wp2
          go_round
          case rel => exact ⟨k + 1, by omega, by go_num, by rw [HR.out]⟩
          case measure => simp [intOf]; omega
      · have hf' : (m.f == a) = false := by simpa using hf
        have hr : cnt l a b (k + 1) = ck := by rw [hs]; simp [RM.is, hf']
        have HR := Lib.hid hr
        clear hs hf hr hck hm
        go_wp2
        go_round
        case rel => exact ⟨k + 1, by omega, by go_num, by rw [HR.out]⟩
        case measure => simp [intOf]; omega
    · have : k = n0 := by omega
      subst this
      go_wp2
      go_ret
      exact ⟨rfl, rfl⟩

def AtPost (w : World) (l : List RM) (a b i : Int) : Ending → World → Prop := fun e w' => w' = w ∧
  ((e = .returned (.int .i64 (-1)) ∧ ∀ (k : Nat) (m : RM), l[k]? = some m → m.is a b = true → (cnt l a b k : Int) ≠ i) ∨ ∃ (k : Nat) (m : RM), e = .returned (.int .i64 k) ∧ l[k]? = some m ∧ m.is a b = true ∧ (cnt l a b k : Int) = i)
set_option maxHeartbeats 1000000 in
theorem rat_any {w : World} {T : Nat → Prop} {y n : Nat} {L C : Value} {l : List RM} {cuts : List (Int × Int)} (h : RefIn w T y n L C l cuts) (hl : l.length ≤ 1000000) (a b i : Int) : Calls Try.prog 42 #[.pointer (some ⟨y, 0, none⟩), .int .i64 a, .int .i64 b, .int .i64 i] w (AtPost w l a b i) := by
  obtain ⟨c0, c1, c2, ⟨aL, cL, rfl⟩, _⟩ := h.cells
  obtain ⟨n0, hn0⟩ : ∃ n, l.length = n := ⟨_, rfl⟩
  rw [hn0] at c1 hl
  have H := Lib.hid h
  have HN := Lib.hid hn0
  clear h hn0
  go_enter Try.func42, Try.ntmps42
  go_wp2
  go_loop [9, 10] (fun s q => ∃ k : Nat, k ≤ n0 ∧ q = .int .i64 k ∧ s = .int .i64 (cnt l a b k : Nat) ∧ Hid (∀ (j : Nat) (m : RM), j < k → l[j]? = some m → m.is a b = true → (cnt l a b j : Int) ≠ i)) (fun _ q => n0 - (intOf q).toNat)
  case atStart => exact ⟨0, by omega, rfl, by simp [cnt], fun j m hj => by omega⟩
  case round =>
    obtain ⟨k, hk, rfl, rfl, hno⟩ := hrel
    by_cases hkn : k < n0
    · obtain ⟨m, hm⟩ : ∃ m, l[k]? = some m := ⟨l[k]'(by rw [HN.out]; exact hkn), List.getElem?_eq_getElem _⟩
      obtain ⟨g, c, e, q1, q2, _⟩ := H.out.msg hm
      simp only [Value.slice.injEq] at e
      obtain ⟨rfl, _, rfl⟩ := e
      have hs := cnt_succ (a := a) (b := b) hm
      have hle := cnt_le l a b k
      obtain ⟨ck, hck⟩ : ∃ c, cnt l a b k = c := ⟨_, rfl⟩
      rw [hck] at hs hle ⊢
      have hstep : (m.is a b = true → (ck : Int) ≠ i) → Hid (∀ (j : Nat) (m : RM), j < k + 1 → l[j]? = some m → m.is a b = true → (cnt l a b j : Int) ≠ i) := fun hne j m' hj hm' hi => by
        by_cases e : j = k
        · subst e
          rw [hm] at hm'
          cases hm'
          rw [hck]; exact hne hi
        · exact hno.out j m' (by omega) hm' hi
      have HSTEP := Lib.hid hstep
      clear hstep hno
      by_cases hf : m.f = a
      · have hf' : (m.f == a) = true := by simpa using hf
        by_cases ht : m.t = b
        · have ht' : (m.t == b) = true := by simpa using ht
          by_cases hi : (ck : Int) = i
          · have hi' : ((ck : Int) == i) = true := by simpa using hi
            have HFIN : Hid (AtPost w l a b i (.returned (.int .i64 k)) w) := ⟨rfl, .inr ⟨k, m, rfl, hm, by simp [RM.is, hf', ht'], by rw [hck]; exact hi⟩⟩
            clear hs hf ht hck hm hi HSTEP
            go_wp2
            go_ret
            exact HFIN.out
          · have hi' : ((ck : Int) == i) = false := by simpa using hi
            have hr : cnt l a b (k + 1) = ck + 1 := by rw [hs]; simp [RM.is, hf', ht']
            have HR := Lib.hid hr
            have HNX := Lib.hid (HSTEP.out (fun _ => hi))
            clear hs hf ht hr hck hm hi HSTEP
            go_wp2
            go_round
            case rel => exact ⟨k + 1, by omega, by go_num, by rw [HR.out]; go_num, HNX.out⟩
            case measure => simp [intOf]; omega
        · have ht' : (m.t == b) = false := by simpa using ht
          have hr : cnt l a b (k + 1) = ck := by rw [hs]; simp [RM.is, hf', ht']
          have HR := Lib.hid hr
          have HNX := Lib.hid (HSTEP.out (fun h => by simp [RM.is, ht'] at h))
          clear hs hf ht hr hck hm HSTEP
          go_wp2
          go_round
          case rel => exact ⟨k + 1, by omega, by go_num, by rw [HR.out], HNX.out⟩
          case measure => simp [intOf]; omega
      · have hf' : (m.f == a) = false := by simpa using hf
        have hr : cnt l a b (k + 1) = ck := by rw [hs]; simp [RM.is, hf']
        have HR := Lib.hid hr
        have HNX := Lib.hid (HSTEP.out (fun h => by simp [RM.is, hf'] at h))
        clear hs hf hr hck hm HSTEP
        go_wp2
        go_round
        case rel => exact ⟨k + 1, by omega, by go_num, by rw [HR.out], HNX.out⟩
        case measure => simp [intOf]; omega
    · have hfin : AtPost w l a b i (.returned (.int .i64 (-1))) w := ⟨rfl, .inl ⟨rfl, fun j m hm hi => hno.out j m (by have := (List.getElem?_eq_some_iff.1 hm).1; have := HN.out; omega) hm hi⟩⟩
      have HFIN := Lib.hid hfin
      clear hfin hno
      go_wp2
      go_ret
      exact HFIN.out

def offOf (cuts : List (Int × Int)) (a b : Int) : Bool := cuts.any fun p => p.1 == a && p.2 == b
set_option maxHeartbeats 1000000 in
theorem roff_any {w : World} {T : Nat → Prop} {y n : Nat} {L C : Value} {l : List RM} {cuts : List (Int × Int)} (h : RefIn w T y n L C l cuts) (hl : cuts.length ≤ 1000000) (a b : Int) : Calls Try.prog 27 #[.pointer (some ⟨y, 0, none⟩), .int .i64 a, .int .i64 b] w fun e w' => e = .returned (.bool (offOf cuts a b)) ∧ w' = w := by
  obtain ⟨c0, c1, c2, _, ⟨aC, cC, rfl⟩⟩ := h.cells
  obtain ⟨n0, hn0⟩ : ∃ n, cuts.length = n := ⟨_, rfl⟩
  rw [hn0] at c2 hl
  have H := Lib.hid h
  have HN := Lib.hid hn0
  obtain ⟨of, hof⟩ : ∃ o, offOf cuts a b = o := ⟨_, rfl⟩
  rw [hof]
  have HOF := Lib.hid hof
  clear h hn0 hof
  go_enter Try.func27, Try.ntmps27
  go_wp2
  go_loop [7] (fun q => ∃ k : Nat, k ≤ n0 ∧ q = .int .i64 k ∧ Hid (∀ (j : Nat) (p : Int × Int), j < k → cuts[j]? = some p → (p.1 == a && p.2 == b) = false)) (fun q => n0 - (intOf q).toNat)
  case atStart => exact ⟨0, by omega, rfl, fun j m hj => by omega⟩
  case round =>
    obtain ⟨k, hk, rfl, hno⟩ := hrel
    by_cases hkn : k < n0
    · obtain ⟨p, hp⟩ : ∃ m, cuts[k]? = some m := ⟨cuts[k]'(by rw [HN.out]; exact hkn), List.getElem?_eq_getElem _⟩
      obtain ⟨g, c, g', c', e, q0, q1, q2⟩ := H.out.cut hp
      simp only [Value.slice.injEq] at e
      obtain ⟨rfl, _, rfl⟩ := e
      obtain ⟨p1, p2⟩ := p
      simp only at q1 q2
      have hstep : (p1 == a && p2 == b) = false → Hid (∀ (j : Nat) (p : Int × Int), j < k + 1 → cuts[j]? = some p → (p.1 == a && p.2 == b) = false) := fun hne j p' hj hp' => by
        by_cases e : j = k
        · subst e
          rw [hp] at hp'
          cases hp'
          exact hne
        · exact hno.out j p' (by omega) hp'
      have HSTEP := Lib.hid hstep
      clear hstep hno
      by_cases hf : p1 = a
      · have hf' : (p1 == a) = true := by simpa using hf
        by_cases ht : p2 = b
        · have ht' : (p2 == b) = true := by simpa using ht
          have hv : of = true := by
            rw [← HOF.out]
            exact List.any_eq_true.2 ⟨_, List.mem_of_getElem? hp, by simp [hf', ht']⟩
          have HV := Lib.hid hv
          clear hf ht hp HSTEP hv
          go_wp2
          go_ret
          exact ⟨by rw [HV.out]; rfl, rfl⟩
        · have ht' : (p2 == b) = false := by simpa using ht
          have HNX := Lib.hid (HSTEP.out (by simp [ht']))
          clear hf ht hp HSTEP
          go_wp2
          go_round
          case rel => exact ⟨k + 1, by omega, by go_num, HNX.out⟩
          case measure => simp [intOf]; omega
      · have hf' : (p1 == a) = false := by simpa using hf
        have HNX := Lib.hid (HSTEP.out (by simp [hf']))
        clear hf hp HSTEP
        go_wp2
        go_round
        case rel => exact ⟨k + 1, by omega, by go_num, HNX.out⟩
        case measure => simp [intOf]; omega
    · have hv : of = false := by
        rw [← HOF.out]
        refine List.any_eq_false.2 fun p hp => ?_
        obtain ⟨j, hj, e⟩ := List.getElem_of_mem hp
        have := hno.out j p (by have := HN.out; omega) (by rw [← e]; exact List.getElem?_eq_getElem _)
        simp only [this]; simp
      have HV := Lib.hid hv
      clear hno hv
      go_wp2
      go_ret
      exact ⟨by rw [HV.out]; rfl, rfl⟩

theorem rnew_any (w : World) (n0 : Int) : Calls Try.prog 11 #[.int .i64 n0] w fun e w' => e = .returned (.pointer (some ⟨w.heap.size, 0, none⟩)) ∧ RefIn w' (fun k => k = w.heap.size) w.heap.size (many n0) (.slice none 0 0) (.slice none 0 0) [] [] ∧ Below w.heap.size w w' := by
  obtain ⟨n, hn⟩ : ∃ n, n = many n0 := ⟨_, rfl⟩
  have hmin : min (max n0 0) 20 = (n : Int) := by rw [hn]; unfold many; omega
  have HFIN : ∀ v : Int, Hid (v = n → RefIn (w.alloc (.cells #[.int .i64 v, .slice none 0 0, .slice none 0 0] 71)) (fun k => k = w.heap.size) w.heap.size n (.slice none 0 0) (.slice none 0 0) [] [] ∧ Below w.heap.size w (w.alloc (.cells #[.int .i64 v, .slice none 0 0, .slice none 0 0] 71))) := fun v hv => by
    subst hv
    exact ⟨⟨heap_alloc_new _ _, World.ownsRow_nil _ _ _ _, fun m hm => by simp at hm, fun m hm => by simp at hm, ⟨[], World.ownsRow_nil _ _ _ _, fun i p h => by simp at h⟩, fun k hk => by simp; omega, rfl, fun g hg => by simp [Value.ownBlock] at hg, fun g hg => by simp [Value.ownBlock] at hg⟩, (Below.refl _ _).alloc (Nat.le_refl _) _⟩
  rw [← hn]
  have HMIN := Lib.hid hmin
  clear hn hmin
  go_enter Try.func11, Try.ntmps11
  go_wp2
  all_goals
    go_ret
    exact ⟨rfl, (HFIN _).out (by have := HMIN.out; omega)⟩
end Go.Proofs.Ytdkpgjhjdnfieaa
