/- The reference's add. Condition: the net lies in memory as stated. -/
import Derived.Test.YtdkpgjhjdnfieaaAy
import Derived.Laws.OwnMore
set_option linter.unusedVariables false
set_option linter.unusedSimpArgs false
namespace Go.Proofs.Ytdkpgjhjdnfieaa
open Go.RowKit Go.Mf
set_option maxRecDepth 100000

/-- the cells of messages that a slice shows: none and nil, or in memory -/
def Src (w : World) (u : Value) (m : Nat) (news : List Value) : Prop := news.length = m * 34 ∧ (∀ z ∈ news, z.oneCell' = true) ∧ ((u = .slice none 0 0 ∧ m = 0) ∨ ∃ b o c, u = .slice (some ⟨b, o, none⟩) m c ∧ (∀ (j : Nat) (z : Value), news[j]? = some z → w.cell? ⟨b, o + j, none⟩ = some z))
theorem Src.up {w w' : World} {u : Value} {m : Nat} {news : List Value} (h : Src w u m news) (hb : Below w.heap.size w w') : Src w' u m news := by
  obtain ⟨h1, h2, h3⟩ := h
  refine ⟨h1, h2, h3.imp id (fun ⟨b, o, c, h4, h5⟩ => ⟨b, o, c, h4, fun j z hz => cell_later hb (h5 j z hz)⟩)⟩
/-- append of a slice that reads as messages, nil or not, behind an owned row -/
theorem wp_append_msgs {o : Oper} {a : Act} {w : World} {K : Act → World → Prop} {Q : Exit → Act → World → Prop} (s x : Operand) (ho : o.op = .call { callee := .builtin .append, args := #[s, x], argTypes := #[68, 68] })
    (base : Nat) (v : Value) (n : Nat) (xs : List Value) (hs : a.eval s = v) (hown : w.ownsRow base 42 34 v n xs) (u : Value) (m : Nat) (news : List Value) (hx : a.eval x = u) (hu : Src w u m news)
    (h63 : n + m ≤ 100000000) (hbase : base ≤ w.heap.size) (h : ∀ v' w', w'.ownsRow base 42 34 v' (n + m) (xs ++ news) → w.grownBy w' v.ownBlock → K (a.put o.dst v') w') : o.wp Try.prog a w K Q := by
  obtain ⟨i0, hi0, hz0, hz1, hz2⟩ := info_parts info42
  obtain ⟨hl, h1, ⟨rfl, rfl⟩ | ⟨b, off, c, rfl, hc⟩⟩ := hu
  · have hn : news = [] := List.length_eq_zero_iff.1 (by omega)
    subst hn
    have hh := h _ w (by rw [List.append_nil]; exact hown) ⟨rfl, rfl, rfl, Nat.le_refl _, fun _ _ _ => rfl⟩
    have hrun := run_append_owned_none (P := Try.prog) (w := w) base 68 o.type 42 i0 34 und68 hi0 v n xs hown
    unfold Oper.wp execOp
    simp only [ho, resolve, invoke, builtin, Sem.run_bind, Sem.run_pure, Result.andThen_ok, List.map_toArray, List.map_cons, List.map_nil, hs, hx, hrun]
    exact hh
  · exact wp_append_own _ s x 68 ho base 42 i0 _ 34 344 und68 hi0 hz0 hz1 hz2 rfl (by decide) v n xs hs hown ⟨b, off, none⟩ m c news hx hl (fun j z hz => by rw [Addr.add_lit]; exact hc j z hz) h1 (by simp only [maxLen]; omega) (by omega) hbase (fun v' w' q1 q2 _ => h v' w' q1 q2)
theorem own_base0 {w : World} {B e sz : Nat} {v : Value} {n : Nat} {xs : List Value} (h : w.ownsRow B e sz v n xs) : w.ownsRow 0 e sz v n xs := by
  obtain ⟨h1, h2⟩ := h
  refine ⟨h1, h2.imp id (fun ⟨g, cap, cur, e, _, r⟩ => ⟨g, cap, cur, e, Nat.zero_le _, r⟩)⟩
theorem own_elem {w : World} {B e sz : Nat} {v : Value} {n : Nat} {xs : List Value} (h : w.ownsRow B e sz v n xs) {g : Nat} (hg : v.ownBlock = some g) : ∃ cur, w.heap[g]? = some (.cells cur e (0, 0)) := by
  rcases h.2 with ⟨rfl, _⟩ | ⟨g', cap, cur, rfl, _, hh, _⟩
  · simp [Value.ownBlock] at hg
  · simp only [Value.ownBlock, Option.some.injEq] at hg
    subst hg; exact ⟨cur, hh⟩
/-- only block y is written; what T' has beyond T is new -/
def RFr (T T' : Nat → Prop) (y : Nat) (w w' : World) : Prop := Fr (fun k => k = y) (fun k => k = y) w w' ∧ ∀ k, T' k → T k ∨ w.heap.size ≤ k
/-- another list is put in its place -/
theorem rset_fin {w w3 : World} {T : Nat → Prop} {y n B : Nat} {L C L' : Value} {l l' : List RM} {cuts : List (Int × Int)} (h : RefIn w T y n L C l cuts) (hb : Below w.heap.size w w3) (hB : w.heap.size ≤ B) (hown : w3.ownsRow B 42 34 L' l'.length (l'.map RM.c).flatten)
    (hok : MsgsOk (l'.map RM.c)) (hft : ∀ m ∈ l', m.c[1]? = some (.int .i64 m.f) ∧ m.c[2]? = some (.int .i64 m.t)) :
    RefIn (w3.setCell ⟨y, 1, none⟩ L') (fun k => T k ∨ w.heap.size ≤ k ∧ k < w3.heap.size) y n L' C l' cuts ∧ RFr T (fun k => T k ∨ w.heap.size ≤ k ∧ k < w3.heap.size) y w (w3.setCell ⟨y, 1, none⟩ L') := by
  have hyl := h.lt y h.ty
  have hs := hb.size
  have hown' := hown.lt
  have ne : ∀ k, k ≠ y → (w3.setCell ⟨y, 1, none⟩ L').heap[k]? = w3.heap[k]? := fun k hk => Below.heap_setCell _ _ _ _ hk
  obtain ⟨gs, g1, g2⟩ := h.hc
  have hcy : ∀ g, C.ownBlock = some g → g ≠ y := fun g hg e => by
    obtain ⟨cur, hc⟩ := own_elem g1 hg
    rw [e, h.hy] at hc
    simp at hc
  refine ⟨{ hy := ?_, hl := own_base0 (own_heap hown (fun g hg hlt => ne g (by have := hown' g hg; omega))), ok := hok, ft := hft,
            hc := ⟨gs, own_heap g1 (fun g hg hlt => by rw [ne g (hcy g hg)]; exact hb.block g hlt), fun i p hp => ?_⟩,
            lt := fun k hk => by simp; rcases hk with hk | hk; (have := h.lt k hk; omega); omega, ty := .inl h.ty, tl := fun g hg => .inr (by have := hown' g hg; omega), tc := fun g hg => .inl (h.tc g hg) },
          ⟨hb.os, hb.tape, hb.output, by simp; exact hs, fun k hk hn => by rw [ne k hn]; exact hb.block k hk, fun k hk => .inl hk⟩, fun k hk => hk.imp id (fun h => h.1)⟩
  · have := setCell_block ((hb.block y hyl).trans h.hy) 1 L'
    rw [this]; rfl
  · obtain ⟨u, hu, q⟩ := g2 i p hp
    exact ⟨_, hu, q.keep (fun _ h _ => .inl h) (fun k hk hn _ hl => by rw [ne k hn]; exact hb.block k hl)⟩
def RAddPost (w : World) (T : Nat → Prop) (y n : Nat) (C : Value) (l' : List RM) (cuts : List (Int × Int)) : Ending → World → Prop := fun e w' =>
  e = .returned (.tuple #[]) ∧ ∃ T' L', RefIn w' T' y n L' C l' cuts ∧ RFr T T' y w w'
/-- the list as a source of append -/
theorem RefIn.src {w : World} {T : Nat → Prop} {y n : Nat} {L C : Value} {l : List RM} {cuts : List (Int × Int)} (h : RefIn w T y n L C l cuts) : Src w L l.length (l.map RM.c).flatten := by
  refine ⟨h.hl.1, h.ok.one, ?_⟩
  have hc := fun g hg => h.hl.cells (g := g) hg
  rcases h.hl.2 with ⟨rfl, e⟩ | ⟨g, cap, cur, rfl, _⟩
  · exact .inl ⟨rfl, e⟩
  · exact .inr ⟨g, 0, cap, rfl, fun j z hz => by have := hc g rfl j z hz; rw [Addr.add_lit] at this; exact this⟩
end Go.Proofs.Ytdkpgjhjdnfieaa
