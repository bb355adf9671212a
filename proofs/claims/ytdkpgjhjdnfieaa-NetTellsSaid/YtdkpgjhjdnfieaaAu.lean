/- What came in, read as messages whose cells are of their kinds. No program is run. No condition. -/
import Derived.Test.YtdkpgjhjdnfieaaAp
set_option linter.unusedVariables false
set_option linter.unusedSimpArgs false
namespace Go.Proofs.Ytdkpgjhjdnfieaa
open Go.RowKit Go.Mf
set_option maxRecDepth 100000

theorem All2.put {ks : List CK} {cs : List Value} (h : All2 ks cs) {i : Nat} {K : CK} (hi : ks[i]? = some K) {v : Value} (hv : K.ok v) : All2 ks (cs.set i v) :=
  All2.mk (by rw [List.length_set]; exact h.len) (fun j K' hj => by
    by_cases e : i = j
    · subst e
      rw [hi] at hj
      cases hj
      obtain ⟨u, hu, _⟩ := h.get i _ hi
      have hl := (List.getElem?_eq_some_iff.1 hu).1
      exact ⟨v, by rw [List.getElem?_set_self hl], hv⟩
    · obtain ⟨u, hu, ho⟩ := h.get j K' hj
      exact ⟨u, by rw [List.getElem?_set_ne e]; exact hu, ho⟩)
theorem nilS_ok : CK.sl.ok nilS := ⟨_, _, _, rfl⟩

section
variable {H : Type} {enc : TypeId × Value → H} {w : World}
theorem Reads.rowsInK {t e : TypeId} {sz bt : Nat} {v : Value} (ht : Try.prog.underlying t = some (.slice e)) (hc : Try.prog.cellsOf e = sz) (hb : Try.prog.bytesOf e = bt) (hsz : 0 < sz) (hbt : 0 < bt) (hp : plainT Try.prog 3 e = true) (h : Reads enc w t [v]) :
    ∃ (n : Nat) (css : Nat → List Value), RowsIn w (Old w) sz bt v n ((List.range n).map css).flatten ∧ ∀ i, i < n → (css i).length = sz ∧ Reads enc w e (css i) := by
  obtain ⟨a, n, c, rfl, hby, hn, css, hcss, hcell⟩ := h.rows ht hc hsz
  rw [hb] at hby
  have hlen := fun i hi => (hcss i hi).1
  have hfl : ((List.range n).map css).flatten.length = n * sz := by rw [flat_len_n (flat_fun hlen), List.length_map, List.length_range]
  have hnb : n * bt ≤ 140737488355328 := by simp only [reachBytes] at hby; omega
  have hn2 : n ≤ n * bt := Nat.le_mul_of_pos_right n hbt
  refine ⟨n, css, ⟨a, c, rfl, hfl, hnb, by omega, fun u hu => ?_, fun hpos => ?_⟩, hcss⟩
  · obtain ⟨x, hx, hux⟩ := List.mem_flatten.1 hu
    obtain ⟨i, hi, rfl⟩ := List.mem_map.1 hx
    exact Reads.plain hp (hcss i (List.mem_range.1 hi)).2 u hux
  · obtain ⟨b, o, h1, h2, h3⟩ := hcell hpos
    refine ⟨b, o, h1, h2, fun j u hu => ?_⟩
    have hj : j < n * sz := by rw [← hfl]; exact (List.getElem?_eq_some_iff.1 hu).1
    have hi : j / sz < n := Nat.div_lt_of_lt_mul (by rw [Nat.mul_comm]; exact hj)
    have hjm : j % sz < sz := Nat.mod_lt _ hsz
    have he : j = j / sz * sz + j % sz := by rw [Nat.mul_comm]; exact (Nat.div_add_mod j sz).symm
    have hget : ((List.range n).map css)[j / sz]? = some (css (j / sz)) := by rw [List.getElem?_map, List.getElem?_range hi]; rfl
    have := flat_get (flat_fun hlen) hget hjm
    rw [← he, hu] at this
    rw [he]
    exact h3 (j / sz) hi (j % sz) u this.symm
theorem Reads.strs {v : Value} (h : Reads enc w 38 [v]) : ∃ n xs, RowsIn w (Old w) 1 16 v n xs ∧ ∀ u ∈ xs, CK.str.ok u := by
  obtain ⟨n, css, h1, h2⟩ := h.rowsInK Try.underlying38 cells9 bytes9 (by omega) (by omega) (by kernel_rfl)
  refine ⟨n, _, h1, fun u hu => ?_⟩
  obtain ⟨x, hx, hux⟩ := List.mem_flatten.1 hu
  obtain ⟨i, hi, rfl⟩ := List.mem_map.1 hx
  obtain ⟨h3, h4⟩ := h2 i (List.mem_range.1 hi)
  have := Reads.kinds (n := 2) (ks := [.str]) (by kernel_rfl) h3 h4
  obtain ⟨u', r, e, ho, e2⟩ := this
  rw [e] at hux
  have e3 : r = [] := e2
  rw [e3, List.mem_singleton] at hux
  rw [hux]; exact ho
theorem Reads.wraps {v : Value} (h : Reads enc w 84 [v]) : ∃ n xs, RowsIn w (Old w) 5 64 v n xs ∧ WrTy n xs := by
  obtain ⟨n, css, h1, h2⟩ := h.rowsInK Try.underlying84 cells99 bytes99 (by omega) (by omega) (by kernel_rfl)
  refine ⟨n, _, h1, fun k hk => ?_⟩
  obtain ⟨h3, h4⟩ := h2 k hk
  have := Reads.kinds (n := 3) (ks := [.int .i64, .int .i64, .str, .str, .str]) (by kernel_rfl) h3 h4
  obtain ⟨u0, r0, e0, ⟨i0, rfl⟩, u1, r1, e1, ⟨i1, rfl⟩, u2, r2, e2, ⟨s2, rfl⟩, u3, r3, e3, ⟨s3, rfl⟩, u4, r4, e4, ⟨s4, rfl⟩, e5⟩ := this
  have e5' : r4 = [] := e5
  subst e5' e4 e3 e2 e1
  refine ⟨i0, i1, s2, s3, s4, fun j u hu => ?_⟩
  have hj : j < 5 := (List.getElem?_eq_some_iff.1 hu).1
  have hget : ((List.range n).map css)[k]? = some (css k) := by rw [List.getElem?_map, List.getElem?_range hk]; rfl
  rw [flat_get (flat_fun (fun i hi => (h2 i hi).1)) hget hj, e0]
  exact hu
theorem Reads.actT {cs : List Value} (h : Reads enc w 86 cs) : ∃ A, ActIn w (Old w) cs A ∧ ActTy A := by
  have hone := Reads.plain (n := 4) (t := 86) (by kernel_rfl) h
  have hl := (h.field Try.underlying86).1
  rw [cells86] at hl
  have hk := Reads.kinds (n := 4) (ks := K86) (by kernel_rfl) hl h
  have h9 := h.sub Try.underlying86 9 9 38 1 rfl rfl rfl cells38
  have h13 := h.sub Try.underlying86 13 15 84 1 rfl rfl rfl cells84
  obtain ⟨v1, e1, r1⟩ := h9.one (by omega)
  obtain ⟨v2, e2, r2⟩ := h13.one (by omega)
  obtain ⟨n1, x1, i1, t1⟩ := r1.strs
  obtain ⟨n2, x2, i2, t2⟩ := r2.wraps
  exact ⟨⟨_, n1, x1, n2, x2⟩, ⟨hl, hone, rfl, v1, v2, e1, e2, i1, i2⟩, (hk.put (i := 9) rfl nilS_ok).put (i := 15) rfl nilS_ok, t1, t2⟩
theorem Reads.entT {cs : List Value} (h : Reads enc w 96 cs) : ∃ E, EntIn w (Old w) cs E ∧ EntTy E := by
  have hone := Reads.plain (n := 6) (t := 96) (by kernel_rfl) h
  have hl := (h.field Try.underlying96).1
  rw [cells96] at hl
  have hk := Reads.kinds (n := 6) (ks := K96) (by kernel_rfl) hl h
  have hi := h.sub Try.underlying96 1 1 94 49 rfl rfl rfl cells94
  have ha := hi.sub Try.underlying94 1 1 86 20 rfl rfl rfl cells86
  rw [chunk_two (by omega)] at ha
  have hd := hi.sub Try.underlying94 4 37 92 12 rfl rfl rfl cells92
  rw [chunk_two (by omega)] at hd
  have ht := hd.sub Try.underlying92 6 6 38 1 rfl rfl rfl cells38
  rw [chunk_two (by omega)] at ht
  obtain ⟨A, hA, hAT⟩ := ha.actT
  obtain ⟨v3, e3, r3⟩ := ht.one (by omega)
  obtain ⟨n3, x3, i3, t3⟩ := r3.strs
  exact ⟨⟨_, A, n3, x3⟩, ⟨hl, hone, rfl, hA, v3, e3, i3⟩, ((hk.put (i := 11) rfl nilS_ok).put (i := 17) rfl nilS_ok).put (i := 44) rfl nilS_ok, hAT, t3⟩
theorem Reads.entsT {v : Value} (h : Reads enc w 33 [v]) : ∃ L, EntsIn w (Old w) v L ∧ ∀ E ∈ L, EntTy E := by
  obtain ⟨a, n, c, rfl, hby, hn, css, hcss, hcell⟩ := h.rows Try.underlying33 cells96 (by omega)
  rw [bytes96] at hby
  have hlen := fun i hi => (hcss i hi).1
  obtain ⟨E, hE⟩ := Go.Deep.choose_lt (α := EntD) (p := fun i e => EntIn w (Old w) (css i) e ∧ EntTy e) (fun i hi => (hcss i hi).2.entT)
  refine ⟨(List.range n).map E, ⟨a, c, (List.range n).map css, by simp, by simp only [List.length_map, List.length_range, reachBytes] at hby ⊢; omega, by simp, fun j cs e h1 h2 => ?_, fun hpos => ?_⟩, fun e he => ?_⟩
  · have hj : j < n := by have := (List.getElem?_eq_some_iff.1 h1).1; simpa using this
    rw [List.getElem?_map, List.getElem?_range hj] at h1 h2
    simp only [Option.map_some, Option.some.injEq] at h1 h2
    subst h1; subst h2
    exact (hE j hj).1
  · simp only [List.length_map, List.length_range] at hpos
    obtain ⟨b, o, h1, h2, h3⟩ := hcell hpos
    have hfl : ((List.range n).map css).flatten.length = n * 50 := by rw [flat_len_n (flat_fun hlen), List.length_map, List.length_range]
    refine ⟨b, o, h1, h2, fun j u hu => ?_⟩
    have hj : j < n * 50 := by rw [← hfl]; exact (List.getElem?_eq_some_iff.1 hu).1
    have hi : j / 50 < n := by omega
    have hjm : j % 50 < 50 := by omega
    have he : j = j / 50 * 50 + j % 50 := by omega
    have hget : ((List.range n).map css)[j / 50]? = some (css (j / 50)) := by rw [List.getElem?_map, List.getElem?_range hi]; rfl
    have := flat_get (flat_fun hlen) hget hjm
    rw [← he, hu] at this
    rw [he]
    exact h3 (j / 50) hi (j % 50) u this.symm
  · obtain ⟨i, hi, rfl⟩ := List.mem_map.1 he
    exact (hE i (List.mem_range.1 hi)).2
theorem Reads.msgT {cs : List Value} (h : Reads enc w 42 cs) : ∃ (M : MsgD) (f t : Int), MsgIn w (Old w) cs M ∧ cs[1]? = some (.int .i64 f) ∧ cs[2]? = some (.int .i64 t) ∧ MsgTy M := by
  have hone := Reads.plain (n := 8) (t := 42) (by kernel_rfl) h
  have hl := (h.field Try.underlying42).1
  rw [cells42] at hl
  have hk := Reads.kinds (n := 8) (ks := K42) (by kernel_rfl) hl h
  have h1 := h.sub Try.underlying42 1 1 3 1 rfl rfl rfl cells3
  have h2 := h.sub Try.underlying42 2 2 3 1 rfl rfl rfl cells3
  obtain ⟨u1, e1, r1⟩ := h1.one (by omega)
  obtain ⟨u2, e2, r2⟩ := h2.one (by omega)
  obtain ⟨f, hf1, _⟩ := r1.int Try.underlying3
  obtain ⟨t, ht1, _⟩ := r2.int Try.underlying3
  simp only [List.cons.injEq, and_true] at hf1 ht1
  subst hf1; subst ht1
  have hb := h.sub Try.underlying42 3 3 35 8 rfl rfl rfl cells35
  have he := hb.sub Try.underlying35 2 7 33 1 rfl rfl rfl cells33
  rw [chunk_two (by omega)] at he
  have hv := h.sub Try.underlying42 5 20 40 14 rfl rfl rfl cells40
  have hk2 := hv.sub Try.underlying40 3 13 38 1 rfl rfl rfl cells38
  rw [chunk_two (by omega)] at hk2
  obtain ⟨v1, x1, y1⟩ := he.one (by omega)
  obtain ⟨v2, x2, y2⟩ := hk2.one (by omega)
  obtain ⟨L, hL, hLT⟩ := y1.entsT
  obtain ⟨nl, lk, hlk, hlt⟩ := y2.strs
  exact ⟨⟨_, L, nl, lk⟩, f, t, ⟨hl, hone, rfl, v1, v2, x1, x2, hL, hlk⟩, e1, e2, (hk.put (i := 10) rfl nilS_ok).put (i := 33) rfl nilS_ok, hLT, hlt⟩
end
end Go.Proofs.Ytdkpgjhjdnfieaa
