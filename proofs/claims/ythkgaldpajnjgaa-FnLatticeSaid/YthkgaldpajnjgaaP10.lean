/-
  Two lists that a call builds side by side, beside a congruence in a block. Conditions stand in each lemma.
-/
import Derived.Test.YthkgaldpajnjgaaP9
namespace Go.Proofs.Ythkgaldpajnjgaa
open Go.RowKit
set_option linter.unusedVariables false

theorem row_own {w : World} {B e n c g n' : Nat} {xs : List Value} (h : w.ownsRow B e 1 (.slice (some ⟨g, 0, none⟩) n c) n' xs) : w.ownsRow g e 1 (.slice (some ⟨g, 0, none⟩) n c) n' xs := by
  refine ⟨h.1, ?_⟩
  rcases h.2 with hn | ⟨g', cap, cur, hv, hlo, rest⟩
  · exact .inl hn
  · refine .inr ⟨g', cap, cur, hv, ?_, rest⟩
    simp only [Value.slice.injEq, Option.some.injEq, Addr.mk.injEq, and_true] at hv
    exact Nat.le_of_eq hv.1
structure LatW (W w : World) (q : Nat) (m f a : Int) (g1 c1 : Nat) (xs : List Int) (g2 c2 : Nat) (ys : List Int) : Prop where
  one : w.ownsRow W.heap.size 2 1 (.slice (some ⟨g1, 0, none⟩) xs.length c1) xs.length (xs.map (Value.int .i64))
  two : w.ownsRow W.heap.size 2 1 (.slice (some ⟨g2, 0, none⟩) ys.length c2) ys.length (ys.map (Value.int .i64))
  ne : g1 ≠ g2
  box : Blk w q (cgr m f a) 25
  q1 : q ≠ g1
  q2 : q ≠ g2
  below : Below W.heap.size W w
theorem LatW.swap {W w : World} {q : Nat} {m f a : Int} {g1 c1 : Nat} {xs : List Int} {g2 c2 : Nat} {ys : List Int} (h : LatW W w q m f a g1 c1 xs g2 c2 ys) : LatW W w q m f a g2 c2 ys g1 c1 xs :=
  ⟨h.two, h.one, h.ne.symm, h.box, h.q2, h.q1, h.below⟩
theorem LatW.later {W w w' : World} {q : Nat} {m f a : Int} {g1 c1 : Nat} {xs : List Int} {g2 c2 : Nat} {ys : List Int} (h : LatW W w q m f a g1 c1 xs g2 c2 ys) (hb : Below w.heap.size w w') : LatW W w' q m f a g1 c1 xs g2 c2 ys :=
  ⟨row_kept h.one (hb.block g1 (h.one.lt g1 rfl).2), row_kept h.two (hb.block g2 (h.two.lt g2 rfl).2), h.ne, h.box.later hb, h.q1, h.q2, bw_call h.below hb⟩
theorem LatW.cells {W w : World} {q : Nat} {m f a : Int} {g1 c1 : Nat} {xs : List Int} {g2 c2 : Nat} {ys : List Int} (h : LatW W w q m f a g1 c1 xs g2 c2 ys) :
    w.cell? ⟨q, 0, none⟩ = some (.int .i64 m) ∧ w.cell? ⟨q, 1, none⟩ = some (.int .i64 f) := by
  obtain ⟨h0, h1, _⟩ := cgr_cells h.box; exact ⟨h0, h1⟩
theorem LatW.list {W w : World} {q : Nat} {m f a : Int} {g1 c1 : Nat} {xs : List Int} {g2 c2 : Nat} {ys : List Int} (h : LatW W w q m f a g1 c1 xs g2 c2 ys) : HasL W.heap.size w (some ⟨g1, 0, none⟩) c1 xs :=
  .inr ⟨g1, rfl, (h.one.lt g1 rfl).1, row_own h.one⟩
/-- Both lists as they are made. -/
theorem LatW.made {W w : World} {q : Nat} {m f a : Int} (x : Int) (hq : Blk w q (cgr m f a) 25) (hb : Below W.heap.size W w) :
    LatW W ((w.alloc (.cells #[.int .i64 x] 2)).alloc (.cells #[.int .i64 0] 2)) q m f a w.heap.size 1 [x] (w.heap.size + 1) 1 [0] := by
  have h1 := World.ownsRow_lit (base := W.heap.size) (e := 2) (size := 1) w #[.int .i64 x] 1 hb.size (by decide) rfl
  have h2 := World.ownsRow_lit (base := W.heap.size) (e := 2) (size := 1) (w.alloc (.cells #[.int .i64 x] 2)) #[.int .i64 0] 1 (by simp; have := hb.size; omega) (by decide) rfl
  have b1 : Below (w.alloc (.cells #[.int .i64 x] 2)).heap.size (w.alloc (.cells #[.int .i64 x] 2)) ((w.alloc (.cells #[.int .i64 x] 2)).alloc (.cells #[.int .i64 0] 2)) := bw_alloc (bw_refl _) _
  have hlt := hq.lt
  refine ⟨row_kept h1 (b1.block _ (by simp)), ?_, by omega, (hq.alloc _).alloc _, by omega, by omega, bw_alloc (bw_alloc hb _) _⟩
  rw [show (w.alloc (.cells #[.int .i64 x] 2)).heap.size = w.heap.size + 1 by simp] at h2
  exact h2
/-- A store into the second one. -/
theorem LatW.stored {W w : World} {q : Nat} {m f a : Int} {g1 c1 : Nat} {xs : List Int} {g2 c2 : Nat} {ys : List Int} (h : LatW W w q m f a g1 c1 xs g2 c2 ys) (j : Nat) (z : Int) : LatW W (w.setCell ⟨g2, j, none⟩ (.int .i64 z)) q m f a g1 c1 xs g2 c2 (ys.set j z) := by
  have h2 := (h.two.stored j (.int .i64 z)).1
  refine ⟨row_kept h.one (Below.heap_setCell w ⟨g2, j, none⟩ _ g1 h.ne), ?_, h.ne, h.box.far h.q2 _, h.q1, h.q2, h.below.setCell (h.two.lt g2 rfl).1 _⟩
  simpa [List.map_set] using h2
theorem LatW.grown {W w w' : World} {q : Nat} {m f a : Int} {g1 c1 : Nat} {xs : List Int} {g2 c2 : Nat} {ys : List Int} (h : LatW W w q m f a g1 c1 xs g2 c2 ys) {z : Int} {g cap : Nat}
    (hown : w'.ownsRow W.heap.size 2 1 (.slice (some ⟨g, 0, none⟩) (xs.length + 1) cap) (xs.length + 1) (xs.map (Value.int .i64) ++ [.int .i64 z])) (hg : w.grownBy w' (some g1)) (hat : some g1 = some g ∨ g = w.heap.size) :
    LatW W w' q m f a g cap (xs ++ [z]) g2 c2 ys := by
  have hg2 := (h.two.lt g2 rfl).2
  have hq := h.box.lt
  refine ⟨by simpa using hown, h.two.kept hg (by right; simp [Value.ownBlock]; exact fun e => h.ne e.symm), ?_, ?_, ?_, h.q2, ?_⟩
  · rcases hat with e | e
    · cases e; exact h.ne
    · omega
  · exact (hg.block q hq (by simp; exact h.q1)).trans h.box
  · rcases hat with e | e
    · cases e; exact h.q1
    · omega
  · exact h.below.grown hg h.below.size fun k' hk' => by cases hk'; exact (h.one.lt g1 rfl).1
/-- append to the first one, inside a region that draws. -/
theorem stepTwo {ops : Array Oper} {o : Oper} {a' : Act} {K : Act → World → Prop} {Q : Exit → Act → World → Prop} {E : Prop} (hgd : o.guard = none) (s x : Operand)
    (ho : o.op = .call { callee := .builtin .append, args := #[s, x], argTypes := #[29, 29] })
    {W wr : World} {q : Nat} {m f a : Int} {g1 c1 : Nat} {xs : List Int} {g2 c2 : Nat} {ys : List Int} {z : Int} {e' bx n : Nat} (hn : xs.length = n) (hs : a'.eval s = .slice (some ⟨g1, 0, none⟩) n c1) (h2 : LatW W wr q m f a g1 c1 xs g2 c2 ys)
    (hx : a'.eval x = .slice (some ⟨bx, 0, none⟩) 1 1) (hbx : wr.heap[bx]? = some (.cells #[.int .i64 z] e')) (h8 : n < 1000)
    (h : ∀ g cap w', LatW W w' q m f a g cap (xs ++ [z]) g2 c2 ys → K (a'.put o.dst (.slice (some ⟨g, 0, none⟩) (n + 1) cap)) w') :
    if Region.wanted o (yielded ops a'.tmps) = true then Oper.wp Try.prog o a' wr K Q else E := by
  subst hn
  obtain ⟨i, hi, hz0, hz1, hz2⟩ := tI.info
  refine step_append_lies (P := Try.prog) _ hgd s x 29 ho W.heap.size 2 i (.int .i64 0) 1 8 tI.under hi hz0 hz1 hz2 rfl (by decide) _ _ _ hs h2.one ⟨bx, 0, none⟩ 1 1 [.int .i64 z] hx rfl ?_ ?_ (by decide) ?_ (by omega) h2.below.size _ rfl ?_
  · exact World.news_of_block (cs := #[.int .i64 z]) (t := e') hbx
  · intro u hu; simp at hu; subst hu; rfl
  · unfold maxLen; omega
  · intro g cap w' hown' hgrow hat hlt
    exact h g cap w' (h2.grown hown' hgrow hat)
/-- The same at a plain region. -/
theorem wpTwo {ops : Array Oper} {rest : List Oper} {o : Oper} {a' : Act} {Q : Exit → Act → World → Prop} (hgd : o.guard = none) (s x : Operand)
    (ho : o.op = .call { callee := .builtin .append, args := #[s, x], argTypes := #[29, 29] })
    {W wr : World} {q : Nat} {m f a : Int} {g1 c1 : Nat} {xs : List Int} {g2 c2 : Nat} {ys : List Int} {z : Int} {e' bx n : Nat} (hn : xs.length = n) (hs : a'.eval s = .slice (some ⟨g1, 0, none⟩) n c1) (h2 : LatW W wr q m f a g1 c1 xs g2 c2 ys)
    (hx : a'.eval x = .slice (some ⟨bx, 0, none⟩) 1 1) (hbx : wr.heap[bx]? = some (.cells #[.int .i64 z] e')) (h8 : n < 1000)
    (h : ∀ g cap w', LatW W w' q m f a g cap (xs ++ [z]) g2 c2 ys → wpList Try.prog ops Q rest (a'.put o.dst (.slice (some ⟨g, 0, none⟩) (n + 1) cap)) w') : wpList Try.prog ops Q (o :: rest) a' wr := by
  subst hn
  obtain ⟨i, hi, hz0, hz1, hz2⟩ := tI.info
  refine wpList_append_lies (P := Try.prog) _ hgd s x 29 ho W.heap.size 2 i (.int .i64 0) 1 8 tI.under hi hz0 hz1 hz2 rfl (by decide) _ _ _ hs h2.one ⟨bx, 0, none⟩ 1 1 [.int .i64 z] hx rfl ?_ ?_ (by decide) ?_ (by omega) h2.below.size _ rfl ?_
  · exact World.news_of_block (cs := #[.int .i64 z]) (t := e') hbx
  · intro u hu; simp at hu; subst hu; rfl
  · unfold maxLen; omega
  · intro g cap w' hown' hgrow hat hlt
    exact h g cap w' (h2.grown hown' hgrow hat)
end Go.Proofs.Ythkgaldpajnjgaa
