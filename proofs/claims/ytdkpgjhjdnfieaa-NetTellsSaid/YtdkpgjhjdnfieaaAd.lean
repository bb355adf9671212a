/- What came in, read as steps, messages and rows: from the form's own reading. No program is run. No condition. -/
import Derived.Test.YtdkpgjhjdnfieaaAb
import Derived.ProofKit
import Derived.OpenShut
import Derived.ShutString
import Derived.ChangeOld
import Derived.Deep.Slices
import Derived.SizedLaws
set_option linter.unusedVariables false
set_option linter.unusedSimpArgs false
namespace Go.Proofs.Ytdkpgjhjdnfieaa
open Go.RowKit Go.Mf
set_option maxRecDepth 100000

section
variable {H : Type} {enc : TypeId × Value → H} {w : World}

def Reads (enc : TypeId × Value → H) (w : World) (t : TypeId) (cs : List Value) : Prop :=
  ∃ (n : Nat) (x : DataW H × List MemPlace), DataW.trod enc Try.prog w 0 (fun _ => true) true n t cs = some x ∧ ∀ q ∈ x.1.weights Try.prog t, q ≤ reachBytes

theorem Reads.int {t : TypeId} {k : IntKind} {cs : List Value} (ht : Try.prog.underlying t = some (.int k)) (h : Reads enc w t cs) : ∃ n, cs = [.int k n] ∧ (Lit.int k n).wf = true := by
  obtain ⟨n, x, h, _⟩ := h
  obtain ⟨k, h1, _, h2⟩ := DataW.trod_int ht h
  exact ⟨k, h1, h2⟩
theorem Reads.field {t : TypeId} {fs : Array Field} {cs : List Value} (ht : Try.prog.underlying t = some (.struct fs)) (h : Reads enc w t cs) :
    cs.length = Try.prog.cellsOf t ∧ ∀ (i : Nat) (f : Field), fs[i]? = some f → Reads enc w f.type ((cs.drop f.offset).take (Try.prog.cellsOf f.type)) := by
  obtain ⟨n, x, h, hw⟩ := h
  obtain ⟨xs, m, _, rfl, hl, hxl, hf⟩ := DataW.trod_struct ht h
  refine ⟨hl, fun i f hi => ?_⟩
  have hil : i < fs.size := (Array.getElem?_eq_some_iff.1 hi).1
  obtain ⟨y, hy⟩ : ∃ y, xs[i]? = some y := ⟨xs[i]'(by omega), List.getElem?_eq_getElem _⟩
  refine ⟨m, y, (hf i f hi).trans hy, fun q hq => hw q ?_⟩
  simp only [DataW.weights, ht]
  refine DataW.weights_mem_each (j := i) (t := f.type) (d := y.1) ?_ ?_ q hq
  · rw [List.getElem?_map, Array.getElem?_toList, hi]; rfl
  · rw [List.getElem?_map, hy]; rfl
theorem weights_all {e : TypeId} : ∀ {l : List (DataW H)} {d : DataW H}, d ∈ l → ∀ q ∈ d.weights Try.prog e, q ∈ DataW.weightsAll Try.prog e l
  | a :: l, d, h, q, hq => by
    simp only [DataW.weightsAll, List.mem_append]
    rcases List.mem_cons.1 h with h | h
    · subst h; exact .inl hq
    · exact .inr (weights_all h q hq)
theorem Reads.slice {t e : TypeId} {cs : List Value} (ht : Try.prog.underlying t = some (.slice e)) (h : Reads enc w t cs) :
    cs = [.slice none 0 0] ∨ ∃ (a : Addr) (len cap : Nat), cs = [.slice (some a) len cap] ∧ len ≤ cap ∧ cap ≤ maxLen ∧ len * Try.prog.bytesOf e ≤ reachBytes ∧
      ∀ i, i < len → ∃ cs', w.cells? 0 (a.add (i * Try.prog.cellsOf e)) (Try.prog.cellsOf e) = some cs' ∧ Reads enc w e cs' := by
  obtain ⟨n, x, h, hw⟩ := h
  rcases Go.Deep.open_slice ht h with ⟨h1, _⟩ | ⟨a, len, cap, m, k, D, Pl, rfl, _, hl, hm, hmm, rfl, hi⟩
  · exact .inl h1
  · simp only [if_true] at hmm
    refine .inr ⟨a, len, cap, rfl, hl, hm, ?_, fun i hil => ?_⟩
    · have := hw (((List.range len).map D).length + ((List.range (m - len)).map fun j => D (len + j)).length |>.mul (Try.prog.bytesOf e)) (by simp only [DataW.weights, ht]; exact List.mem_cons_self ..)
      simp only [List.length_map, List.length_range] at this
      exact Nat.le_trans (Nat.mul_le_mul_right _ (by omega)) this
    · obtain ⟨cs', h1, h2⟩ := hi i (by omega)
      refine ⟨cs', h1, k, _, h2, fun q hq => hw q ?_⟩
      simp only [DataW.weights, ht]
      exact List.mem_cons_of_mem _ (List.mem_append_left _ (weights_all (List.mem_map.2 ⟨i, List.mem_range.2 hil, rfl⟩) q hq))

/-- a type all of whose cells are numbers, strings and slices -/
def inF (P : Program) (j : Nat) (f : Field) : Bool := decide (f.offset ≤ j ∧ j < f.offset + P.cellsOf f.type)
def covers (P : Program) (fs : List Field) (n : Nat) : Bool := (List.range n).all fun j => fs.any (inF P j)
def plainT (P : Program) : Nat → TypeId → Bool
  | 0, _ => false
  | n + 1, t => match P.underlying t with
    | some (.int _) => true
    | some .string => true
    | some (.slice _) => true
    | some (.struct fs) => (fs.toList.all fun f => plainT P n f.type) && covers P fs.toList (P.cellsOf t)
    | _ => false
theorem Reads.plain : ∀ {n : Nat} {t : TypeId} {cs : List Value}, plainT Try.prog n t = true → Reads enc w t cs → ∀ u ∈ cs, u.oneCell' = true
  | 0, _, _, h, _ => by cases h
  | n + 1, t, cs, h, hr => by
    unfold plainT at h
    split at h
    · rename_i k hk
      obtain ⟨q, rfl, _⟩ := hr.int hk
      intro u hu; rw [List.mem_singleton] at hu; subst hu; rfl
    · rename_i hk
      obtain ⟨m, x, h1, _⟩ := hr
      obtain ⟨s, rfl, _⟩ := DataW.trod_string hk h1
      intro u hu; rw [List.mem_singleton] at hu; subst hu; rfl
    · rename_i e hk
      rcases hr.slice hk with rfl | ⟨a, len, cap, rfl, _⟩ <;> (intro u hu; rw [List.mem_singleton] at hu; subst hu; rfl)
    · rename_i fs hk
      simp only [Bool.and_eq_true, covers, List.all_eq_true, List.any_eq_true, inF, decide_eq_true_eq, List.mem_range] at h
      obtain ⟨hl, hf⟩ := hr.field hk
      intro u hu
      obtain ⟨j, hj, rfl⟩ := List.getElem_of_mem hu
      obtain ⟨f, hfm, hf1, hf2⟩ := h.2 j (by rw [← hl]; exact hj)
      obtain ⟨i, hi, he⟩ := List.getElem_of_mem hfm
      have hfi : fs[i]? = some f := by rw [← Array.getElem?_toList, List.getElem?_eq_getElem hi, he]
      refine Reads.plain (h.1 f hfm) (hf i f hfi) cs[j] ?_
      rw [List.mem_iff_getElem?]
      refine ⟨j - f.offset, ?_⟩
      rw [List.getElem?_take, if_pos (by omega), List.getElem?_drop, show f.offset + (j - f.offset) = j by omega, List.getElem?_eq_getElem hj]
    · cases h

theorem cells86 : Try.prog.cellsOf 86 = 20 := by kernel_rfl
theorem cells96 : Try.prog.cellsOf 96 = 50 := by kernel_rfl
theorem cells94 : Try.prog.cellsOf 94 = 49 := by kernel_rfl
theorem cells92 : Try.prog.cellsOf 92 = 12 := by kernel_rfl
theorem cells42 : Try.prog.cellsOf 42 = 34 := by kernel_rfl
theorem cells44 : Try.prog.cellsOf 44 = 38 := by kernel_rfl
theorem cells35 : Try.prog.cellsOf 35 = 8 := by kernel_rfl
theorem cells40 : Try.prog.cellsOf 40 = 14 := by kernel_rfl
theorem cells38 : Try.prog.cellsOf 38 = 1 := by kernel_rfl
theorem cells84 : Try.prog.cellsOf 84 = 1 := by kernel_rfl
theorem cells33 : Try.prog.cellsOf 33 = 1 := by kernel_rfl
theorem cells9 : Try.prog.cellsOf 9 = 1 := by kernel_rfl
theorem cells99 : Try.prog.cellsOf 99 = 5 := by kernel_rfl
theorem cells3 : Try.prog.cellsOf 3 = 1 := by kernel_rfl
theorem bytes9 : Try.prog.bytesOf 9 = 16 := by kernel_rfl
theorem bytes99 : Try.prog.bytesOf 99 = 64 := by kernel_rfl
theorem bytes96 : Try.prog.bytesOf 96 = 576 := by kernel_rfl

def Old (w : World) : Nat → Prop := fun k => k < w.heap.size

theorem addr_at {a : Addr} {n : Nat} {v : Value} (h : w.cell? (a.add n) = some v) (h0 : a.spot = none) : w.cell? ⟨a.block, a.off + n, none⟩ = some v := by
  obtain ⟨b, o, s⟩ := a
  dsimp only at h0
  subst h0
  rw [Addr.add_lit] at h
  exact h

/-- a slice whose elements are rows of cells: each row with what is known of it -/
theorem Reads.rows {t e : TypeId} {sz : Nat} {v : Value} (ht : Try.prog.underlying t = some (.slice e)) (hc : Try.prog.cellsOf e = sz) (hsz : 0 < sz) (h : Reads enc w t [v]) :
    ∃ a n c, v = .slice a n c ∧ n * Try.prog.bytesOf e ≤ reachBytes ∧ n ≤ maxLen ∧ ∃ css : Nat → List Value, (∀ i, i < n → (css i).length = sz ∧ Reads enc w e (css i)) ∧
      (0 < n → ∃ b o, a = some ⟨b, o, none⟩ ∧ Old w b ∧ ∀ i, i < n → ∀ j u, (css i)[j]? = some u → w.cell? ⟨b, o + (i * sz + j), none⟩ = some u) := by
  rcases h.slice ht with h1 | ⟨a, n, c, h1, hnc, hcm, hby, hi⟩
  · simp only [List.cons.injEq, and_true] at h1
    exact ⟨none, 0, 0, h1, by omega, Nat.zero_le _, fun _ => [], fun i hi => by omega, fun h => by omega⟩
  · simp only [List.cons.injEq, and_true] at h1
    rw [hc] at hi
    obtain ⟨css, hcss⟩ := Go.Deep.choose_lt (α := List Value) (p := fun i cs' => w.cells? 0 (a.add (i * sz)) sz = some cs' ∧ Reads enc w e cs') hi
    refine ⟨some a, n, c, h1, hby, by omega, css, fun i hi => ⟨(World.cells?_some (hcss i hi).1).2.1, (hcss i hi).2⟩, fun hn => ?_⟩
    have hcell : ∀ i, i < n → ∀ j, j < sz → w.cell? (a.add (i * sz + j)) = (css i)[j]? := fun i hi j hj => by
      obtain ⟨_, _, h3⟩ := World.cells?_some (hcss i hi).1
      rw [← h3 j hj, Go.Deep.add_add]
    have h00 := hcell 0 hn 0 hsz
    have hl0 := (World.cells?_some (hcss 0 hn).1).2.1
    rw [List.getElem?_eq_getElem (by omega)] at h00
    have hsp : a.spot = none := by
      have := World.cell?_spot h00
      simpa [Addr.add] using this
    have hb : a.block < w.heap.size := by
      have := World.block_lt_of_cell? _ _ h00
      simpa [Addr.add] using this
    refine ⟨a.block, a.off, by rw [← hsp], hb, fun i hi j u hu => ?_⟩
    have hl := (World.cells?_some (hcss i hi).1).2.1
    have hj : j < sz := by rw [← hl]; exact (List.getElem?_eq_some_iff.1 hu).1
    exact addr_at ((hcell i hi j hj).trans hu) hsp

theorem flat_fun {css : Nat → List Value} {sz n : Nat} (h : ∀ i, i < n → (css i).length = sz) : ∀ x ∈ (List.range n).map css, x.length = sz := fun x hx => by
  obtain ⟨i, hi, rfl⟩ := List.mem_map.1 hx
  exact h i (List.mem_range.1 hi)

theorem Reads.rowsIn {t e : TypeId} {sz bt : Nat} {v : Value} (ht : Try.prog.underlying t = some (.slice e)) (hc : Try.prog.cellsOf e = sz) (hb : Try.prog.bytesOf e = bt) (hsz : 0 < sz) (hbt : 0 < bt) (hp : plainT Try.prog 3 e = true) (h : Reads enc w t [v]) :
    ∃ n xs, RowsIn w (Old w) sz bt v n xs := by
  obtain ⟨a, n, c, rfl, hby, hn, css, hcss, hcell⟩ := h.rows ht hc hsz
  rw [hb] at hby
  have hlen := fun i hi => (hcss i hi).1
  have hfl : ((List.range n).map css).flatten.length = n * sz := by rw [flat_len_n (flat_fun hlen), List.length_map, List.length_range]
  have hnb : n * bt ≤ 140737488355328 := by simp only [reachBytes] at hby; omega
  have hn2 : n ≤ n * bt := Nat.le_mul_of_pos_right n hbt
  refine ⟨n, ((List.range n).map css).flatten, a, c, rfl, hfl, hnb, by omega, fun u hu => ?_, fun hpos => ?_⟩
  · obtain ⟨x, hx, hux⟩ := List.mem_flatten.1 hu
    obtain ⟨i, hi, rfl⟩ := List.mem_map.1 hx
    exact Reads.plain hp (hcss i (List.mem_range.1 hi)).2 u hux
  · obtain ⟨b, o, h1, h2, h3⟩ := hcell hpos
    refine ⟨b, o, h1, h2, fun j u hu => ?_⟩
    have hj : j < n * sz := by rw [← hfl]; exact (List.getElem?_eq_some_iff.1 hu).1
    have hi : j / sz < n := Nat.div_lt_of_lt_mul (by rw [Nat.mul_comm]; exact hj)
    have hjm : j % sz < sz := Nat.mod_lt _ hsz
    have he : j = j / sz * sz + j % sz := by rw [Nat.mul_comm]; exact (Nat.div_add_mod j sz).symm
    have hget : ((List.range n).map css)[j / sz]? = some (css (j / sz)) := by rw [List.getElem?_map, List.getElem?_range hi]; rfl
    have := flat_get (flat_fun hlen) hget hjm
    rw [← he, hu] at this
    rw [he]
    exact h3 (j / sz) hi (j % sz) u this.symm

instance : Inhabited ActD := ⟨⟨[], 0, [], 0, []⟩⟩
instance : Inhabited EntD := ⟨⟨[], default, 0, []⟩⟩
instance : Inhabited MsgD := ⟨⟨[], [], 0, []⟩⟩
instance : Inhabited StepD := ⟨⟨0, 0, 0, 0, default, 0, 0⟩⟩
theorem Reads.sub {t : TypeId} {fs : Array Field} {cs : List Value} (ht : Try.prog.underlying t = some (.struct fs)) (h : Reads enc w t cs) (i off : Nat) (ty : TypeId) (n : Nat) {f : Field} (hi : fs[i]? = some f) (h1 : f.offset = off) (h2 : f.type = ty) (h3 : Try.prog.cellsOf ty = n) :
    Reads enc w ty ((cs.drop off).take n) := by
  subst h1 h2 h3
  exact (h.field ht).2 i f hi
theorem chunk_one {cs : List Value} {k : Nat} {l : List Value} {v : Value} (hl : l = [v]) (h : (cs.drop k).take 1 = l) : cs[k]? = some v := by
  subst hl
  have := congrArg (fun l => l[0]?) h
  simp only [List.getElem?_take, List.getElem?_drop, List.getElem?_cons_zero] at this
  simpa using this

theorem Reads.one {t : TypeId} {cs : List Value} {k : Nat} (hk : k < cs.length) (h : Reads enc w t ((cs.drop k).take 1)) : ∃ v, cs[k]? = some v ∧ Reads enc w t [v] := by
  refine ⟨cs[k], List.getElem?_eq_getElem hk, ?_⟩
  have e : (cs.drop k).take 1 = [cs[k]] := by rw [List.drop_eq_getElem_cons hk, List.take_succ_cons, List.take_zero]
  rwa [e] at h

theorem Reads.act {cs : List Value} (h : Reads enc w 86 cs) : ∃ A, ActIn w (Old w) cs A := by
  have hone := Reads.plain (n := 4) (t := 86) (by kernel_rfl) h
  have hl := (h.field Try.underlying86).1
  rw [cells86] at hl
  have h9 := h.sub Try.underlying86 9 9 38 1 rfl rfl rfl cells38
  have h13 := h.sub Try.underlying86 13 15 84 1 rfl rfl rfl cells84
  obtain ⟨v1, e1, r1⟩ := h9.one (by omega)
  obtain ⟨v2, e2, r2⟩ := h13.one (by omega)
  obtain ⟨n1, x1, i1⟩ := r1.rowsIn Try.underlying38 cells9 bytes9 (by omega) (by omega) (by kernel_rfl)
  obtain ⟨n2, x2, i2⟩ := r2.rowsIn Try.underlying84 cells99 bytes99 (by omega) (by omega) (by kernel_rfl)
  exact ⟨⟨_, n1, x1, n2, x2⟩, hl, hone, rfl, v1, v2, e1, e2, i1, i2⟩

theorem chunk_two {cs : List Value} {a b c d : Nat} (h : c + d ≤ b) : (((cs.drop a).take b).drop c).take d = (cs.drop (a + c)).take d := by
  rw [List.drop_take, List.take_take, Nat.min_eq_left (by omega), List.drop_drop]

theorem Reads.ent {cs : List Value} (h : Reads enc w 96 cs) : ∃ E, EntIn w (Old w) cs E := by
  have hone := Reads.plain (n := 6) (t := 96) (by kernel_rfl) h
  have hl := (h.field Try.underlying96).1
  rw [cells96] at hl
  have hi := h.sub Try.underlying96 1 1 94 49 rfl rfl rfl cells94
  have ha := hi.sub Try.underlying94 1 1 86 20 rfl rfl rfl cells86
  rw [chunk_two (by omega)] at ha
  have hd := hi.sub Try.underlying94 4 37 92 12 rfl rfl rfl cells92
  rw [chunk_two (by omega)] at hd
  have ht := hd.sub Try.underlying92 6 6 38 1 rfl rfl rfl cells38
  rw [chunk_two (by omega)] at ht
  obtain ⟨A, hA⟩ := ha.act
  obtain ⟨v3, e3, r3⟩ := ht.one (by omega)
  obtain ⟨n3, x3, i3⟩ := r3.rowsIn Try.underlying38 cells9 bytes9 (by omega) (by omega) (by kernel_rfl)
  exact ⟨⟨_, A, n3, x3⟩, hl, hone, rfl, hA, v3, e3, i3⟩

theorem Reads.ents {v : Value} (h : Reads enc w 33 [v]) : ∃ L, EntsIn w (Old w) v L := by
  obtain ⟨a, n, c, rfl, hby, hn, css, hcss, hcell⟩ := h.rows Try.underlying33 cells96 (by omega)
  rw [bytes96] at hby
  have hlen := fun i hi => (hcss i hi).1
  obtain ⟨E, hE⟩ := Go.Deep.choose_lt (α := EntD) (p := fun i e => EntIn w (Old w) (css i) e) (fun i hi => (hcss i hi).2.ent)
  refine ⟨(List.range n).map E, a, c, (List.range n).map css, by simp, by simp only [List.length_map, List.length_range, reachBytes] at hby ⊢; omega, by simp, fun j cs e h1 h2 => ?_, fun hpos => ?_⟩
  · have hj : j < n := by have := (List.getElem?_eq_some_iff.1 h1).1; simpa using this
    rw [List.getElem?_map, List.getElem?_range hj] at h1 h2
    simp only [Option.map_some, Option.some.injEq] at h1 h2
    subst h1; subst h2
    exact hE j hj
  · simp only [List.length_map, List.length_range] at hpos
    obtain ⟨b, o, h1, h2, h3⟩ := hcell hpos
    have hfl : ((List.range n).map css).flatten.length = n * 50 := by rw [flat_len_n (flat_fun hlen), List.length_map, List.length_range]
    refine ⟨b, o, h1, h2, fun j u hu => ?_⟩
    have hj : j < n * 50 := by rw [← hfl]; exact (List.getElem?_eq_some_iff.1 hu).1
    have hi : j / 50 < n := by omega
    have hjm : j % 50 < 50 := by omega
    have he : j = j / 50 * 50 + j % 50 := by omega
    have hget : ((List.range n).map css)[j / 50]? = some (css (j / 50)) := by rw [List.getElem?_map, List.getElem?_range hi]; rfl
    have := flat_get (flat_fun hlen) hget hjm
    rw [← he, hu] at this
    rw [he]
    exact h3 (j / 50) hi (j % 50) u this.symm

theorem Reads.msg {cs : List Value} (h : Reads enc w 42 cs) : ∃ (M : MsgD) (f t : Int), MsgIn w (Old w) cs M ∧ cs[1]? = some (.int .i64 f) ∧ cs[2]? = some (.int .i64 t) := by
  have hone := Reads.plain (n := 8) (t := 42) (by kernel_rfl) h
  have hl := (h.field Try.underlying42).1
  rw [cells42] at hl
  have h1 := h.sub Try.underlying42 1 1 3 1 rfl rfl rfl cells3
  have h2 := h.sub Try.underlying42 2 2 3 1 rfl rfl rfl cells3
  obtain ⟨u1, e1, r1⟩ := h1.one (by omega)
  obtain ⟨u2, e2, r2⟩ := h2.one (by omega)
  obtain ⟨f, hf1, _⟩ := r1.int Try.underlying3
  obtain ⟨t, ht1, _⟩ := r2.int Try.underlying3
  simp only [List.cons.injEq, and_true] at hf1 ht1
  subst hf1; subst ht1
  have hb := h.sub Try.underlying42 3 3 35 8 rfl rfl rfl cells35
  have he := hb.sub Try.underlying35 2 7 33 1 rfl rfl rfl cells33
  rw [chunk_two (by omega)] at he
  have hv := h.sub Try.underlying42 5 20 40 14 rfl rfl rfl cells40
  have hk := hv.sub Try.underlying40 3 13 38 1 rfl rfl rfl cells38
  rw [chunk_two (by omega)] at hk
  obtain ⟨v1, x1, y1⟩ := he.one (by omega)
  obtain ⟨v2, x2, y2⟩ := hk.one (by omega)
  obtain ⟨L, hL⟩ := y1.ents
  obtain ⟨nl, lk, hlk⟩ := y2.rowsIn Try.underlying38 cells9 bytes9 (by omega) (by omega) (by kernel_rfl)
  exact ⟨⟨_, L, nl, lk⟩, f, t, ⟨hl, hone, rfl, v1, v2, x1, x2, hL, hlk⟩, e1, e2⟩

theorem Reads.intCell {cs : List Value} {k : Nat} (hk : k < cs.length) (h : Reads enc w 3 ((cs.drop k).take 1)) : ∃ n, cs[k]? = some (.int .i64 n) ∧ i64ok n := by
  obtain ⟨u1, e1, r1⟩ := h.one hk
  obtain ⟨f, hf1, hwf⟩ := r1.int Try.underlying3
  simp only [List.cons.injEq, and_true] at hf1
  subst hf1
  exact ⟨f, e1, Go.bounds_i64 hwf⟩

theorem Reads.step {cs : List Value} {b p : Nat} (h : Reads enc w 44 cs) (hc : ∀ j u, cs[j]? = some u → w.cell? ⟨b, p + j, none⟩ = some u) : ∃ s, StepIn w (Old w) b p s := by
  have hl := (h.field Try.underlying44).1
  rw [cells44] at hl
  have h0 := h.sub Try.underlying44 0 0 3 1 rfl rfl rfl cells3
  have h1 := h.sub Try.underlying44 1 1 3 1 rfl rfl rfl cells3
  have h2 := h.sub Try.underlying44 2 2 3 1 rfl rfl rfl cells3
  have h3 := h.sub Try.underlying44 3 3 3 1 rfl rfl rfl cells3
  have h4 := h.sub Try.underlying44 4 4 42 34 rfl rfl rfl cells42
  obtain ⟨d, d1, d2⟩ := h0.intCell (by omega)
  obtain ⟨f, f1, f2⟩ := h1.intCell (by omega)
  obtain ⟨t, t1, t2⟩ := h2.intCell (by omega)
  obtain ⟨i, i1, i2⟩ := h3.intCell (by omega)
  obtain ⟨M, mf, mt, m1, m2, m3⟩ := h4.msg
  refine ⟨⟨d, f, t, i, M, mf, mt⟩, hc 0 _ d1, hc 1 _ f1, hc 2 _ t1, hc 3 _ i1, d2, f2, t2, i2, _, fun j u hu => ?_, m1, m2, m3⟩
  rw [List.getElem?_take] at hu
  split at hu
  · rw [List.getElem?_drop] at hu
    rw [Nat.add_assoc]
    exact hc _ u hu
  · cases hu

theorem Reads.steps {v : Value} (h : Reads enc w 22 [v]) : ∃ l, StepsIn w (Old w) v l := by
  obtain ⟨a, n, c, rfl, hby, hn, css, hcss, hcell⟩ := h.rows Try.underlying22 cells44 (by omega)
  rcases Nat.eq_zero_or_pos n with h0 | hpos
  · subst h0
    exact ⟨[], a, c, rfl, by simp, fun h => absurd rfl h⟩
  · obtain ⟨b, o, h1, h2, h3⟩ := hcell hpos
    obtain ⟨s, hs⟩ := Go.Deep.choose_lt (α := StepD) (p := fun i s => StepIn w (Old w) b (o + i * 38) s) (fun i hi => (hcss i hi).2.step (fun j u hu => by rw [Nat.add_assoc]; exact h3 i hi j u hu))
    refine ⟨(List.range n).map s, a, c, by simp, by simpa [maxLen] using hn, fun _ => ⟨b, o, h1, h2, fun j t ht => ?_⟩⟩
    have hj : j < n := by have := (List.getElem?_eq_some_iff.1 ht).1; simpa using this
    rw [List.getElem?_map, List.getElem?_range hj] at ht
    simp only [Option.map_some, Option.some.injEq] at ht
    subst ht
    exact hs j hj
end
end Go.Proofs.Ytdkpgjhjdnfieaa
