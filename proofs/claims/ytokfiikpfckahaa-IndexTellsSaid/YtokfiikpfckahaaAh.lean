/- The reference's texts in memory; its Remove and Set. Condition: the texts lie as stated. -/
import Derived.Test.YtokfiikpfckahaaAd
set_option linter.unusedVariables false
set_option linter.unusedSimpArgs false
namespace Go.Proofs.Ytokfiikpfckahaa
open Go.RowKit Go.Lib Go.Ix Go.Sort Go.Mf
set_option maxRecDepth 100000

abbrev Texts := List (Str × Str)
def textCells (p : Str × Str) : List Value := [encStr p.1, encStr p.2]
abbrev OwnT (w : World) (B : Nat) (v : Value) (t : Texts) : Prop := w.ownsRow B 59 2 v t.length (t.flatMap textCells)
theorem und33 : Try.prog.underlying 33 = some (.slice 59) := by kernel_rfl
theorem info59 : (Try.prog.info? 59).map (fun i => (i.zero, i.size, i.bytes)) = some (some (.agg #[.string ⟨#[]⟩, .string ⟨#[]⟩]), 2, 32) := by kernel_rfl

theorem ownT_nil (w : World) (B : Nat) : OwnT w B (.slice none 0 0) [] := ⟨rfl, Or.inl ⟨rfl, rfl⟩⟩
theorem ownT_le {w : World} {B B' : Nat} {v : Value} {l : Texts} (h : OwnT w B v l) (hb : B' ≤ B) : OwnT w B' v l :=
  ⟨h.1, h.2.imp id fun ⟨g, cap, cur, h1, h2, h3⟩ => ⟨g, cap, cur, h1, Nat.le_trans hb h2, h3⟩⟩

/-- texts to be read -/
def TextAt (w : World) (v : Value) (t : Texts) : Prop := ∃ p cap, v = .slice p t.length cap ∧ ∀ j (h : j < t.length), ∃ b o, p = some ⟨b, o, none⟩ ∧ b < w.heap.size ∧ w.cell? ⟨b, o + j * 2, none⟩ = some (encStr t[j].1) ∧ w.cell? ⟨b, o + j * 2 + 1, none⟩ = some (encStr t[j].2)
theorem TextAt.up {w w' : World} {v : Value} {t : Texts} (h : TextAt w v t) (hb : Below w.heap.size w w') : TextAt w' v t := by
  obtain ⟨p, cap, rfl, h⟩ := h
  refine ⟨p, cap, rfl, fun j hj => ?_⟩
  obtain ⟨b, o, h1, h2, h3, h4⟩ := h j hj
  exact ⟨b, o, h1, Nat.lt_of_lt_of_le h2 hb.size, (hb.cell h2).trans h3, (hb.cell h2).trans h4⟩

theorem text_get (t : Texts) (j : Nat) (hj : j < t.length) : (t.flatMap textCells)[j * 2]? = some (encStr t[j].1) ∧ (t.flatMap textCells)[j * 2 + 1]? = some (encStr t[j].2) := by
  induction t generalizing j with
  | nil => simp at hj
  | cons p t ih =>
    rw [List.flatMap_cons]
    match j with
    | 0 => exact ⟨rfl, rfl⟩
    | j + 1 =>
      have := ih j (by simpa using hj)
      have e : (j + 1) * 2 = j * 2 + 2 := by omega
      rw [e]
      exact this
theorem own_text {w : World} {B : Nat} {v : Value} {t : Texts} (h : OwnT w B v t) : TextAt w v t := by
  rcases h.2 with ⟨rfl, h0⟩ | ⟨g, cap, cur, rfl, _, hb, _⟩
  · exact ⟨none, 0, by rw [h0], fun j hj => by omega⟩
  · refine ⟨_, _, rfl, fun j hj => ⟨g, 0, rfl, (Array.getElem?_eq_some_iff.1 hb).1, ?_, ?_⟩⟩
    · rw [Nat.zero_add, World.ownsRow.cellAt h (j * 2) (by omega)]
      exact (text_get t j hj).1
    · rw [Nat.zero_add, World.ownsRow.cellAt h (j * 2 + 1) (by omega)]
      exact (text_get t j hj).2

/-- behind an append of one text -/
theorem tapp_done {w wr wb : World} {B : Nat} {v v' : Value} {l : Texts} {a b : Str} {o : Obj} (hb : Below B w wr) (hB : B ≤ wr.heap.size) (ho : OwnT wr B v l) (h1 : wb.ownsRow B 59 2 v' (l.length + 1) (l.flatMap textCells ++ [encStr a, encStr b])) (hg : (wr.alloc o).grownBy wb v.ownBlock) :
    OwnT wb B v' (l ++ [(a, b)]) ∧ Below B w wb := by
  refine ⟨?_, app_below hb hB ho hg⟩
  show wb.ownsRow B 59 2 v' (l ++ [(a, b)]).length ((l ++ [(a, b)]).flatMap textCells)
  rw [List.length_append, List.flatMap_append]
  exact h1
theorem two_new (w : World) (a b : Str) : ∀ j u, [encStr a, encStr b][j]? = some u → (w.alloc (.cells #[encStr a, encStr b] 59)).cell? ((⟨w.heap.size, 0, none⟩ : Addr).add j) = some u := by
  intro j u hj
  have h := heap_alloc_new w (.cells #[encStr a, encStr b] 59)
  rw [Addr.add_lit, cell_of_block h]
  match j, hj with
  | 0, hj => simp at hj; subst hj; rfl
  | 1, hj => simp at hj; subst hj; rfl
theorem two_ok (a b : Str) : ∀ u ∈ [encStr a, encStr b], u.oneCell' = true := by
  intro u hu
  simp at hu
  rcases hu with rfl | rfl <;> rfl

def rmT (t : Texts) (id : Str) : Texts := t.filter fun p => !(p.1 == id)
theorem rmT_take (t : Texts) (id : Str) {j : Nat} (hj : j < t.length) : rmT (t.take (j + 1)) id = if t[j].1 == id then rmT (t.take j) id else rmT (t.take j) id ++ [t[j]] := by
  unfold rmT
  rw [List.take_succ_eq_append_getElem hj, List.filter_append]
  split
  · rename_i h; simp [h]
  · rename_i h; simp [h]
theorem rmT_len (t : Texts) (id : Str) : (rmT t id).length ≤ t.length := List.length_filter_le _ _

def RmTPost (w : World) (t : Texts) : Ending → World → Prop := fun e w' => ∃ v, e = .returned v ∧ OwnT w' w.heap.size v t ∧ Below w.heap.size w w'

set_option maxHeartbeats 4000000 in
theorem refremove_any {w : World} {v : Value} {t : Texts} (hr : TextAt w v t) (hlen : t.length ≤ 1000) (id : Str) : Calls Try.prog 18 #[v, encStr id] w (RmTPost w (rmT t id)) := by
  obtain ⟨p, cap, rfl, hc⟩ := hr
  obtain ⟨n, hn⟩ : ∃ n, n = t.length := ⟨_, rfl⟩
  have HC := Lib.hid hc
  have HN := Lib.hid hn
  rw [← hn] at hlen ⊢
  clear hc hn
  obtain ⟨i9, hi9, hz90, hz91, hz92⟩ := info_parts info59
  go_enter Try.func18, Try.ntmps18
  go_wp2
  go_loopw [5, 6] (fun o i wr => ∃ (u : Value) (j : Nat), j ≤ n ∧ o = u ∧ i = .int .i64 j ∧ Hid (OwnT wr w.heap.size u (rmT (t.take j) id) ∧ Below w.heap.size w wr)) (fun _ i _ => n - (intOf i).toNat)
  case atStart => exact ⟨_, 0, by omega, rfl, rfl, Lib.hid ⟨ownT_nil _ _, Below.refl _ _⟩⟩
  case round =>
    obtain ⟨u, j, hj, rfl, rfl, hst⟩ := hrel
    by_cases hjn : j < n
    · have hjl : j < t.length := by rw [← HN.out]; exact hjn
      obtain ⟨b', o', rfl, hlt, k1, k2⟩ := HC.out j hjl
      have c1 := (hst.out.2.cell (p := ⟨b', o' + j * 2, none⟩) hlt).trans k1
      have c2 := (hst.out.2.cell (p := ⟨b', o' + j * 2 + 1, none⟩) hlt).trans k2
      obtain ⟨a, ha⟩ : ∃ a, a = t[j].1 := ⟨_, rfl⟩
      obtain ⟨b, hb⟩ : ∃ b, b = t[j].2 := ⟨_, rfl⟩
      rw [← ha] at c1
      rw [← hb] at c2
      have HAB : Hid (t[j] = (a, b)) := by show t[j] = (a, b); rw [ha, hb]
      have hjI : (j : Int) < n := by omega
      have hj0 : (0 : Int) ≤ j := by omega
      have hrl : (rmT (t.take j) id).length ≤ j := by
        have h1 := rmT_len (t.take j) id
        rw [List.length_take] at h1
        omega
      obtain ⟨r, hrr⟩ : ∃ r, r = rmT (t.take j) id := ⟨_, rfl⟩
      rw [← hrr] at hrl hst
      have HR := Lib.hid hrr
      clear k1 k2 ha hb hrr
      cases hh : a == id with
      | true =>
        go_wp2
        go_roundw
        case rel => exact ⟨_, j + 1, by omega, rfl, by go_num, Lib.hid (by rw [rmT_take t id hjl, HAB.out, if_pos hh, ← HR.out]; exact hst.out)⟩
        case measure => simp [intOf]; omega
      | false =>
        have HST := Lib.hid hst.out
        clear hst
        go_wp2_with (first
          | (at_builtin; refine wpList_append_own _ rfl _ _ 33 rfl w.heap.size 59 i9 _ 2 32 und33 hi9 hz90 hz91 hz92 rfl (by decide) _ _ _ rfl (World.ownsRow.alloc HST.out.1 _) ⟨wr.heap.size, 0, none⟩ 1 1 [encStr a, encStr b] rfl rfl ?_ ?_ ?_ ?_ ?_ ?_
             exact two_new wr a b
             exact two_ok a b
             (unfold maxLen; omega)
             omega
             (have := HST.out.2.size; simp only [World.size_alloc]; omega)
             intro v2 w2 h1 h2 _
             have HA2 := Lib.hid (tapp_done (a := a) (b := b) HST.out.2 HST.out.2.size HST.out.1 h1 h2)
             clear h1 h2))
        go_roundw
        case rel => exact ⟨_, j + 1, by omega, rfl, by go_num, Lib.hid (by rw [rmT_take t id hjl, HAB.out, if_neg (by rw [hh]; exact Bool.false_ne_true), ← HR.out]; exact HA2.out)⟩
        case measure => simp [intOf]; omega
    · obtain rfl : j = n := by omega
      have hjI : decide ((j : Int) < j) = false := by simp
      have h1 := hst.out
      rw [HN.out, List.take_length] at h1
      have H1 := Lib.hid h1
      clear h1 hst
      go_wp2
      go_ret
      exact ⟨_, rfl, H1.out.1, H1.out.2⟩

set_option maxHeartbeats 4000000 in
theorem refset_any {w : World} {v : Value} {t : Texts} (hr : TextAt w v t) (hlen : t.length ≤ 1000) (id text : Str) : Calls Try.prog 16 #[v, encStr id, encStr text] w (RmTPost w (rmT t id ++ [(id, text)])) := by
  have HRM := Lib.hid (refremove_any hr hlen id)
  have hrl := rmT_len t id
  obtain ⟨r, hrr⟩ : ∃ r, r = rmT t id := ⟨_, rfl⟩
  rw [← hrr] at HRM hrl ⊢
  clear hrr
  obtain ⟨i9, hi9, hz90, hz91, hz92⟩ := info_parts info59
  go_enter Try.func16, Try.ntmps16
  go_wp2_with (first
    | (go_at_call 18; refine HRM.out.mono ?_; rintro e w1 ⟨u, rfl, hst⟩
       have HST := Lib.hid hst
       clear hst)
    | (at_builtin; refine wpList_append_own _ rfl _ _ 33 rfl w.heap.size 59 i9 _ 2 32 und33 hi9 hz90 hz91 hz92 rfl (by decide) _ _ _ rfl (World.ownsRow.alloc HST.out.1 _) ⟨w1.heap.size, 0, none⟩ 1 1 [encStr id, encStr text] rfl rfl ?_ ?_ ?_ ?_ ?_ ?_
       exact two_new w1 id text
       exact two_ok id text
       (unfold maxLen; omega)
       omega
       (have := HST.out.2.size; simp only [World.size_alloc]; omega)
       intro v2 w2 h1 h2 _
       have HA2 := Lib.hid (tapp_done (a := id) (b := text) HST.out.2 HST.out.2.size HST.out.1 h1 h2)
       clear h1 h2))
  go_ret
  exact ⟨_, rfl, HA2.out.1, HA2.out.2⟩
end Go.Proofs.Ytokfiikpfckahaa
