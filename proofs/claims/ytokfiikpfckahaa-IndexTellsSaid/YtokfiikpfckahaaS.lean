/- What came in, read as strings, truth values and steps: from the form's own reading. No program is run. No condition. -/
import Derived.Test.YtokfiikpfckahaaQ
import Derived.ProofKit
import Derived.OpenShut
import Derived.ShutString
import Derived.ChangeOld
import Derived.Deep.Slices
import Derived.SizedLaws
set_option linter.unusedVariables false
set_option linter.unusedSimpArgs false
namespace Go.Proofs.Ytokfiikpfckahaa
open Go.RowKit Go.Lib Go.Ix Go.Sort Go.Mf
set_option maxRecDepth 100000

/-- one call of an index in memory -/
structure StepD where
  d : Int
  id : Str
  text : Str
  wv : Value
  words : List Str
instance : Inhabited StepD := ⟨⟨0, [], [], default, []⟩⟩

def StepIn (w : World) (b p : Nat) (s : StepD) : Prop :=
  w.cell? ⟨b, p, none⟩ = some (.int .i64 s.d) ∧ w.cell? ⟨b, p + 1, none⟩ = some (encStr s.id) ∧ w.cell? ⟨b, p + 2, none⟩ = some (encStr s.text) ∧ w.cell? ⟨b, p + 3, none⟩ = some s.wv ∧ RowAt w s.wv s.words

def StepsAt (w : World) (v : Value) (l : List StepD) : Prop := ∃ a c, v = .slice a l.length c ∧ ∀ j (h : j < l.length), ∃ b o, a = some ⟨b, o, none⟩ ∧ b < w.heap.size ∧ StepIn w b (o + j * 4) l[j]

theorem StepsAt.up {w w' : World} {v : Value} {l : List StepD} (h : StepsAt w v l) (hb : Below w.heap.size w w') : StepsAt w' v l := by
  obtain ⟨a, c, rfl, h⟩ := h
  refine ⟨a, c, rfl, fun j hj => ?_⟩
  obtain ⟨b, o, h1, h2, h3, h4, h5, h6, h7⟩ := h j hj
  exact ⟨b, o, h1, Nat.lt_of_lt_of_le h2 hb.size, (hb.cell h2).trans h3, (hb.cell h2).trans h4, (hb.cell h2).trans h5, (hb.cell h2).trans h6, h7.up hb⟩

section
variable {H : Type} {enc : TypeId × Value → H} {w : World}

def Reads (enc : TypeId × Value → H) (w : World) (t : TypeId) (cs : List Value) : Prop :=
  ∃ (n : Nat) (x : DataW H × List MemPlace), DataW.trod enc Try.prog w 0 (fun _ => true) true n t cs = some x ∧ ∀ q ∈ x.1.weights Try.prog t, q ≤ reachBytes

theorem Reads.int {t : TypeId} {k : IntKind} {cs : List Value} (ht : Try.prog.underlying t = some (.int k)) (h : Reads enc w t cs) : ∃ n, cs = [.int k n] ∧ (Lit.int k n).wf = true := by
  obtain ⟨n, x, h, _⟩ := h
  obtain ⟨k, h1, _, h2⟩ := DataW.trod_int ht h
  exact ⟨k, h1, h2⟩
theorem Reads.field {t : TypeId} {fs : Array Field} {cs : List Value} (ht : Try.prog.underlying t = some (.struct fs)) (h : Reads enc w t cs) :
    cs.length = Try.prog.cellsOf t ∧ ∀ (i : Nat) (f : Field), fs[i]? = some f → Reads enc w f.type ((cs.drop f.offset).take (Try.prog.cellsOf f.type)) := by
  obtain ⟨n, x, h, hw⟩ := h
  obtain ⟨xs, m, _, rfl, hl, hxl, hf⟩ := DataW.trod_struct ht h
  refine ⟨hl, fun i f hi => ?_⟩
  have hil : i < fs.size := (Array.getElem?_eq_some_iff.1 hi).1
  obtain ⟨y, hy⟩ : ∃ y, xs[i]? = some y := ⟨xs[i]'(by omega), List.getElem?_eq_getElem _⟩
  refine ⟨m, y, (hf i f hi).trans hy, fun q hq => hw q ?_⟩
  simp only [DataW.weights, ht]
  refine DataW.weights_mem_each (j := i) (t := f.type) (d := y.1) ?_ ?_ q hq
  · rw [List.getElem?_map, Array.getElem?_toList, hi]; rfl
  · rw [List.getElem?_map, hy]; rfl
theorem weights_all {e : TypeId} : ∀ {l : List (DataW H)} {d : DataW H}, d ∈ l → ∀ q ∈ d.weights Try.prog e, q ∈ DataW.weightsAll Try.prog e l
  | a :: l, d, h, q, hq => by
    simp only [DataW.weightsAll, List.mem_append]
    rcases List.mem_cons.1 h with h | h
    · subst h; exact .inl hq
    · exact .inr (weights_all h q hq)
theorem Reads.slice {t e : TypeId} {cs : List Value} (ht : Try.prog.underlying t = some (.slice e)) (h : Reads enc w t cs) :
    cs = [.slice none 0 0] ∨ ∃ (a : Addr) (len cap : Nat), cs = [.slice (some a) len cap] ∧ len ≤ cap ∧ cap ≤ maxLen ∧ len * Try.prog.bytesOf e ≤ reachBytes ∧
      ∀ i, i < len → ∃ cs', w.cells? 0 (a.add (i * Try.prog.cellsOf e)) (Try.prog.cellsOf e) = some cs' ∧ Reads enc w e cs' := by
  obtain ⟨n, x, h, hw⟩ := h
  rcases Go.Deep.open_slice ht h with ⟨h1, _⟩ | ⟨a, len, cap, m, k, D, Pl, rfl, _, hl, hm, hmm, rfl, hi⟩
  · exact .inl h1
  · simp only [if_true] at hmm
    refine .inr ⟨a, len, cap, rfl, hl, hm, ?_, fun i hil => ?_⟩
    · have := hw (((List.range len).map D).length + ((List.range (m - len)).map fun j => D (len + j)).length |>.mul (Try.prog.bytesOf e)) (by simp only [DataW.weights, ht]; exact List.mem_cons_self ..)
      simp only [List.length_map, List.length_range] at this
      exact Nat.le_trans (Nat.mul_le_mul_right _ (by omega)) this
    · obtain ⟨cs', h1, h2⟩ := hi i (by omega)
      refine ⟨cs', h1, k, _, h2, fun q hq => hw q ?_⟩
      simp only [DataW.weights, ht]
      exact List.mem_cons_of_mem _ (List.mem_append_left _ (weights_all (List.mem_map.2 ⟨i, List.mem_range.2 hil, rfl⟩) q hq))

theorem cells9 : Try.prog.cellsOf 9 = 1 := by kernel_rfl
theorem cells4 : Try.prog.cellsOf 4 = 1 := by kernel_rfl
theorem cells3 : Try.prog.cellsOf 3 = 1 := by kernel_rfl
theorem cells23 : Try.prog.cellsOf 23 = 1 := by kernel_rfl
theorem cells35 : Try.prog.cellsOf 35 = 4 := by kernel_rfl

theorem addr_at {a : Addr} {n : Nat} {v : Value} (h : w.cell? (a.add n) = some v) (h0 : a.spot = none) : w.cell? ⟨a.block, a.off + n, none⟩ = some v := by
  obtain ⟨b, o, s⟩ := a
  dsimp only at h0
  subst h0
  rw [Addr.add_lit] at h
  exact h

/-- a slice whose elements are rows of cells: each row with what is known of it -/
theorem Reads.rows {t e : TypeId} {sz : Nat} {v : Value} (ht : Try.prog.underlying t = some (.slice e)) (hc : Try.prog.cellsOf e = sz) (hsz : 0 < sz) (h : Reads enc w t [v]) :
    ∃ a n c, v = .slice a n c ∧ n * Try.prog.bytesOf e ≤ reachBytes ∧ n ≤ maxLen ∧ ∃ css : Nat → List Value, (∀ i, i < n → (css i).length = sz ∧ Reads enc w e (css i)) ∧
      (0 < n → ∃ b o, a = some ⟨b, o, none⟩ ∧ b < w.heap.size ∧ ∀ i, i < n → ∀ j u, (css i)[j]? = some u → w.cell? ⟨b, o + (i * sz + j), none⟩ = some u) := by
  rcases h.slice ht with h1 | ⟨a, n, c, h1, hnc, hcm, hby, hi⟩
  · simp only [List.cons.injEq, and_true] at h1
    exact ⟨none, 0, 0, h1, by omega, Nat.zero_le _, fun _ => [], fun i hi => by omega, fun h => by omega⟩
  · simp only [List.cons.injEq, and_true] at h1
    rw [hc] at hi
    obtain ⟨css, hcss⟩ := Go.Deep.choose_lt (α := List Value) (p := fun i cs' => w.cells? 0 (a.add (i * sz)) sz = some cs' ∧ Reads enc w e cs') hi
    refine ⟨some a, n, c, h1, hby, by omega, css, fun i hi => ⟨(World.cells?_some (hcss i hi).1).2.1, (hcss i hi).2⟩, fun hn => ?_⟩
    have hcell : ∀ i, i < n → ∀ j, j < sz → w.cell? (a.add (i * sz + j)) = (css i)[j]? := fun i hi j hj => by
      obtain ⟨_, _, h3⟩ := World.cells?_some (hcss i hi).1
      rw [← h3 j hj, Go.Deep.add_add]
    have h00 := hcell 0 hn 0 hsz
    have hl0 := (World.cells?_some (hcss 0 hn).1).2.1
    rw [List.getElem?_eq_getElem (by omega)] at h00
    have hsp : a.spot = none := by
      have := World.cell?_spot h00
      simpa [Addr.add] using this
    have hb : a.block < w.heap.size := by
      have := World.block_lt_of_cell? _ _ h00
      simpa [Addr.add] using this
    refine ⟨a.block, a.off, by rw [← hsp], hb, fun i hi j u hu => ?_⟩
    have hl := (World.cells?_some (hcss i hi).1).2.1
    have hj : j < sz := by rw [← hl]; exact (List.getElem?_eq_some_iff.1 hu).1
    exact addr_at ((hcell i hi j hj).trans hu) hsp

theorem Reads.sub {t : TypeId} {fs : Array Field} {cs : List Value} (ht : Try.prog.underlying t = some (.struct fs)) (h : Reads enc w t cs) (i off : Nat) (ty : TypeId) (n : Nat) {f : Field} (hi : fs[i]? = some f) (h1 : f.offset = off) (h2 : f.type = ty) (h3 : Try.prog.cellsOf ty = n) :
    Reads enc w ty ((cs.drop off).take n) := by
  subst h1 h2 h3
  exact (h.field ht).2 i f hi
theorem Reads.one {t : TypeId} {cs : List Value} {k : Nat} (hk : k < cs.length) (h : Reads enc w t ((cs.drop k).take 1)) : ∃ v, cs[k]? = some v ∧ Reads enc w t [v] := by
  refine ⟨cs[k], List.getElem?_eq_getElem hk, ?_⟩
  have e : (cs.drop k).take 1 = [cs[k]] := by rw [List.drop_eq_getElem_cons hk, List.take_succ_cons, List.take_zero]
  rwa [e] at h

theorem Reads.str {v : Value} (h : Reads enc w 9 [v]) : ∃ s : Str, v = encStr s := by
  obtain ⟨n, x, h, _⟩ := h
  obtain ⟨S, h1, _⟩ := DataW.trod_string Try.underlying9 h
  simp only [List.cons.injEq, and_true] at h1
  subst h1
  exact ⟨S.data.toList, by show Value.string S = .string ⟨S.data.toList.toArray⟩; simp⟩
theorem Reads.truth {v : Value} (h : Reads enc w 4 [v]) : ∃ b : Bool, v = .bool b := by
  obtain ⟨n, x, h, _⟩ := h
  obtain ⟨S, h1, _⟩ := DataW.trod_bool Try.underlying4 h
  simp only [List.cons.injEq, and_true] at h1
  exact ⟨S, h1⟩
theorem one_cell {l : List Value} (h : l.length = 1) : ∃ v, l = [v] := by
  match l, h with
  | [v], _ => exact ⟨v, rfl⟩

theorem Reads.row {v : Value} (h : Reads enc w 23 [v]) : ∃ ws, RowAt w v ws := by
  obtain ⟨a, n, c, rfl, hby, hn, css, hcss, hcell⟩ := h.rows und23 cells9 (by omega)
  have hex : ∀ i, i < n → ∃ s : Str, css i = [encStr s] := fun i hi => by
    obtain ⟨hl, hr⟩ := hcss i hi
    obtain ⟨u, hu⟩ := one_cell hl
    rw [hu] at hr
    obtain ⟨s, rfl⟩ := hr.str
    exact ⟨s, hu⟩
  obtain ⟨f, hf⟩ := Go.Deep.choose_lt (α := Str) (p := fun i s => css i = [encStr s]) hex
  refine ⟨(List.range n).map f, a, c, by simp, fun j hj => ?_⟩
  have hjn : j < n := by simpa using hj
  obtain ⟨b, o, h1, h2, h3⟩ := hcell (by omega)
  refine ⟨b, o, h1, h2, ?_⟩
  have := h3 j hjn 0 (encStr (f j)) (by rw [hf j hjn]; rfl)
  simpa using this

theorem Reads.bools {v : Value} (h : Reads enc w 47 [v]) : ∃ m, BoolsAt w v m := by
  obtain ⟨a, n, c, rfl, hby, hn, css, hcss, hcell⟩ := h.rows Try.underlying47 cells4 (by omega)
  refine ⟨n, a, c, rfl, fun j hj => ?_⟩
  obtain ⟨b, o, h1, h2, h3⟩ := hcell (by omega)
  obtain ⟨hl, hr⟩ := hcss j hj
  obtain ⟨u, hu⟩ := one_cell hl
  rw [hu] at hr
  obtain ⟨x, rfl⟩ := hr.truth
  refine ⟨b, o, h1, h2, x, ?_⟩
  have := h3 j hj 0 (.bool x) (by rw [hu]; rfl)
  simpa using this

theorem Reads.step {cs : List Value} {b p : Nat} (h : Reads enc w 35 cs) (hc : ∀ j u, cs[j]? = some u → w.cell? ⟨b, p + j, none⟩ = some u) : ∃ s, StepIn w b p s := by
  have hl := (h.field Try.underlying35).1
  rw [cells35] at hl
  obtain ⟨v0, e0, r0⟩ := (h.sub Try.underlying35 0 0 3 1 rfl rfl rfl cells3).one (by omega)
  obtain ⟨v1, e1, r1⟩ := (h.sub Try.underlying35 1 1 9 1 rfl rfl rfl cells9).one (by omega)
  obtain ⟨v2, e2, r2⟩ := (h.sub Try.underlying35 2 2 9 1 rfl rfl rfl cells9).one (by omega)
  obtain ⟨v3, e3, r3⟩ := (h.sub Try.underlying35 3 3 23 1 rfl rfl rfl cells23).one (by omega)
  obtain ⟨d, hd, _⟩ := r0.int Try.underlying3
  simp only [List.cons.injEq, and_true] at hd
  subst hd
  obtain ⟨i, rfl⟩ := r1.str
  obtain ⟨t, rfl⟩ := r2.str
  obtain ⟨ws, hws⟩ := r3.row
  exact ⟨⟨d, i, t, v3, ws⟩, hc 0 _ e0, hc 1 _ e1, hc 2 _ e2, hc 3 _ e3, hws⟩

theorem Reads.steps {v : Value} (h : Reads enc w 29 [v]) : ∃ l, StepsAt w v l := by
  obtain ⟨a, n, c, rfl, hby, hn, css, hcss, hcell⟩ := h.rows Try.underlying29 cells35 (by omega)
  rcases Nat.eq_zero_or_pos n with h0 | hpos
  · subst h0
    exact ⟨[], a, c, rfl, fun j hj => by simp at hj⟩
  · obtain ⟨b, o, h1, h2, h3⟩ := hcell hpos
    obtain ⟨s, hs⟩ := Go.Deep.choose_lt (α := StepD) (p := fun i s => StepIn w b (o + i * 4) s) (fun i hi => (hcss i hi).2.step (fun j u hu => by rw [Nat.add_assoc]; exact h3 i hi j u hu))
    refine ⟨(List.range n).map s, a, c, by simp, fun j hj => ?_⟩
    have hjn : j < n := by simpa using hj
    exact ⟨b, o, h1, h2, by simpa using hs j hjn⟩
end
end Go.Proofs.Ytokfiikpfckahaa
