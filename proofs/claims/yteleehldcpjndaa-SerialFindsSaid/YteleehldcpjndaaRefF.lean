/- Where the reference's rows lie in memory, while they are made and behind it. No condition. -/
import Derived.Test.YteleehldcpjndaaRefE
import Derived.Test.YteleehldcpjndaaLawE
import Derived.Deep.RegionHeld3
import Derived.Deep.AppendLies
namespace Go.Proofs.Yteleehldcpjndaa
open Go Go.RowKit

/-- a row of ints in a block -/
def RowB (w : World) (g n : Nat) (f : Nat → Int) : Prop := ∃ C, w.heap[g]? = some (.cells C 3 (0, 0)) ∧ ∀ v, v < n → C[v]? = some (.int .i64 (f v))

theorem tag_ne {w : World} {x y : Nat} {C C' : Array Value} {t t' : TypeId} {f f' : Nat × Nat} (h : w.heap[x]? = some (.cells C t f)) (h' : w.heap[y]? = some (.cells C' t' f')) (ht : t ≠ t') : x ≠ y := by
  rintro rfl
  rw [h] at h'
  simp only [Option.some.injEq, Obj.cells.injEq] at h'
  exact ht h'.2.1

theorem owns_tag {w : World} {base size n : Nat} {e : TypeId} {v : Value} {xs : List Value} (h : w.ownsRow base e size v n xs) {r : Nat} (hr : v.ownBlock = some r) : ∃ C, w.heap[r]? = some (.cells C e (0, 0)) := by
  rcases h.2 with ⟨rfl, _⟩ | ⟨g, cp, cur, rfl, _, hh, _⟩
  · simp [Value.ownBlock] at hr
  · simp only [Value.ownBlock, Option.some.injEq] at hr
    subst hr
    exact ⟨_, hh⟩

theorem owns_far {w : World} {base size n : Nat} {e t : TypeId} {v : Value} {xs : List Value} {r : Nat} {C : Array Value} {f : Nat × Nat} (h : w.ownsRow base e size v n xs) (hr : w.heap[r]? = some (.cells C t f)) (ht : t ≠ e) : v.ownBlock ≠ some r := by
  intro e
  obtain ⟨C', h1⟩ := owns_tag h e
  exact tag_ne hr h1 ht rfl

theorem kept_ne {w w' : World} {base size n : Nat} {e : TypeId} {v : Value} {xs : List Value} {row : Option Nat} (h : w.ownsRow base e size v n xs) (hg : w.grownBy w' row) (hr : ∀ r, row = some r → v.ownBlock ≠ some r) : w'.ownsRow base e size v n xs := by
  refine h.kept hg ?_
  cases row with
  | none => cases hb : v.ownBlock with
    | none => exact .inl rfl
    | some r => exact .inr (by simp)
  | some r => exact .inr (hr r rfl)

theorem grown_setCell (w : World) (a : Addr) (u : Value) : w.grownBy (w.setCell a u) (some a.block) :=
  ⟨rfl, rfl, rfl, by simp, fun k _ hk => Below.heap_setCell _ _ _ k (fun e => hk (by rw [e]))⟩

section
variable {w w' : World} {g n k m base : Nat} {f : Nat → Int} {F : Nat → Nat → Int} {v : Value} {rs : List (Nat × Nat)} {row : Option Nat}

theorem RowB.cell (h : RowB w g n f) {i : Nat} (hi : i < n) : w.cell? ⟨g, i, none⟩ = some (.int .i64 (f i)) := by
  obtain ⟨C, h1, h2⟩ := h
  rw [cell_of_block h1 i]; exact h2 i hi

theorem RowB.lt (h : RowB w g n f) : g < w.heap.size := by obtain ⟨C, h1, _⟩ := h; exact lt_of_block h1

theorem RowB.kept (h : RowB w g n f) (hg : w.grownBy w' row) (hne : ∀ r, row = some r → r ≠ g) : RowB w' g n f := by
  obtain ⟨C, h1, h2⟩ := h
  exact ⟨C, (hg.block g (lt_of_block h1) (fun e => hne g e.symm rfl)).trans h1, h2⟩

theorem RowB.far (h : RowB w g n f) {r : Nat} {C : Array Value} {t : TypeId} {fr : Nat × Nat} (hr : w.heap[r]? = some (.cells C t fr)) (ht : t ≠ 3) : r ≠ g := by
  obtain ⟨C', h1, _⟩ := h
  exact tag_ne hr h1 ht

theorem RowB.congr {f' : Nat → Int} (h : RowB w g n f) (he : ∀ v, v < n → f v = f' v) : RowB w g n f' := by
  obtain ⟨C, h1, h2⟩ := h
  exact ⟨C, h1, fun v hv => by rw [← he v hv]; exact h2 v hv⟩

theorem RowB.of_owns {cap : Nat} (h : w.ownsRow base 3 1 (.slice (some ⟨g, 0, none⟩) n cap) n ((List.range n).map fun v => Value.int .i64 (f v))) : RowB w g n f := by
  rcases h.2 with ⟨h1, _⟩ | ⟨g', cp, cur, hv, hb, hg, hn, hm, hsz, ht⟩
  · cases h1
  · simp only [Value.slice.injEq, Option.some.injEq, Addr.mk.injEq, and_true, true_and] at hv
    obtain ⟨rfl, rfl⟩ := hv
    refine ⟨cur, hg, fun v hv => ?_⟩
    have h1 : (cur.toList.take (n * 1))[v]? = ((List.range n).map fun v => Value.int .i64 (f v))[v]? := by rw [ht]
    rw [List.getElem?_take_of_lt (by omega), List.getElem?_map, List.getElem?_range hv] at h1
    simpa using h1

/-- the values of a list of rows -/
def rowVs (m : Nat) (rs : List (Nat × Nat)) : List Value := rs.map fun p => .slice (some ⟨p.1, 0, none⟩) m p.2

/-- a list of rows -/
structure RowsB (w : World) (base : Nat) (v : Value) (k m : Nat) (rs : List (Nat × Nat)) (F : Nat → Nat → Int) : Prop where
  len : rs.length = k
  own : w.ownsRow base 67 1 v k (rowVs m rs)
  rows : ∀ i, i < k → RowB w (rs.getD i (0, 0)).1 m (F i)

theorem RowsB.nil (w : World) (base m : Nat) (F : Nat → Nat → Int) : RowsB w base (.slice none 0 0) 0 m [] F := ⟨rfl, World.ownsRow_nil _ _ _ _, fun i hi => by omega⟩

theorem RowsB.kept (h : RowsB w base v k m rs F) (hg : w.grownBy w' row) (h1 : ∀ r, row = some r → v.ownBlock ≠ some r) (h2 : ∀ r, row = some r → ∀ i, i < k → r ≠ (rs.getD i (0, 0)).1) : RowsB w' base v k m rs F :=
  ⟨h.len, kept_ne h.own hg h1, fun i hi => (h.rows i hi).kept hg (fun r hr => h2 r hr i hi)⟩

theorem RowsB.cell {cp : Nat} (h : RowsB w base (.slice (some ⟨g, 0, none⟩) k cp) k m rs F) {i : Nat} (hi : i < k) : w.cell? ⟨g, i, none⟩ = some (.slice (some ⟨(rs.getD i (0, 0)).1, 0, none⟩) m (rs.getD i (0, 0)).2) := by
  rw [h.own.cellAt i (by omega)]
  unfold rowVs
  rw [List.getElem?_map, List.getD_eq_getElem?_getD, List.getElem?_eq_getElem (by rw [h.len]; exact hi)]
  rfl

/-- one row more -/
theorem RowsB.snoc {v' : Value} {p : Nat × Nat} (h : RowsB w base v k m rs F) (hg : w.grownBy w' v.ownBlock) (hown : w'.ownsRow base 67 1 v' (k + 1) (rowVs m rs ++ [.slice (some ⟨p.1, 0, none⟩) m p.2])) (hr : RowB w p.1 m (F k)) : RowsB w' base v' (k + 1) m (rs ++ [p]) F := by
  have hfar : ∀ (g' : Nat) (f' : Nat → Int), RowB w g' m f' → RowB w' g' m f' := by
    intro g' f' hb
    refine hb.kept hg ?_
    intro r hr'
    obtain ⟨C, h1⟩ := owns_tag h.own hr'
    exact hb.far h1 (by decide)
  refine ⟨by rw [List.length_append, h.len]; rfl, ?_, ?_⟩
  · unfold rowVs at hown ⊢
    rw [List.map_append]; exact hown
  · intro i hi
    by_cases hik : i < k
    · rw [List.getD_eq_getElem?_getD, List.getElem?_append_left (by rw [h.len]; exact hik), ← List.getD_eq_getElem?_getD]
      exact hfar _ _ (h.rows i hik)
    · obtain rfl : i = k := by omega
      rw [List.getD_eq_getElem?_getD, List.getElem?_append_right (by rw [h.len]; exact Nat.le_refl _), h.len, Nat.sub_self]
      exact hfar _ _ hr
end

/-- what Table has at hand: the scheme's box, its result, its rows' box, the lists -/
structure TT (s : Sch) (a : Option Addr) (cap : Nat) (w : World) (C : Array Value) (S : List Bytes) (vB vN vW : Value) (k n : Nat) (rs qs : List (Nat × Nat)) (wr : World) : Prop where
  sbox : wr.heap[w.heap.size]? = some (.cells #[.string s.A, .int .i64 s.L, .slice a s.bs.length cap, .bool s.chk] 24 (0, 0))
  res : wr.heap[w.heap.size + 1]? = some (.cells #[.slice none 0 0, .slice none 0 0, .slice none 0 0] 29 (0, 0))
  tbox : wr.heap[w.heap.size + 3]? = some (.cells C 29 (0, 0))
  below : Below w.heap.size w wr
  beg : wr.ownsRow (w.heap.size + 2) 9 1 vB S.length (S.map strV)
  nx : RowsB wr (w.heap.size + 4) vN k s.A.size rs s.rx
  wy : RowsB wr (w.heap.size + 4) vW n S.length qs (fun n i => (s.rw_ n i : Int))
  sep : ∀ r, vN.ownBlock = some r → vW.ownBlock ≠ some r

section
variable {s : Sch} {a : Option Addr} {cap k n : Nat} {w wr w' : World} {C : Array Value} {S : List Bytes} {vB vN vW : Value} {rs qs : List (Nat × Nat)} {row : Option Nat}

theorem TT.grown (h : TT s a cap w C S vB vN vW k n rs qs wr) (hg : wr.grownBy w' row)
    (hr : ∀ r, row = some r → w.heap.size + 4 ≤ r ∧ vB.ownBlock ≠ some r ∧ vN.ownBlock ≠ some r ∧ vW.ownBlock ≠ some r ∧ (∀ i, i < k → r ≠ (rs.getD i (0, 0)).1) ∧ (∀ i, i < n → r ≠ (qs.getD i (0, 0)).1)) :
    TT s a cap w C S vB vN vW k n rs qs w' where
  sbox := (hg.block _ (lt_of_block h.sbox) (fun e => by have := (hr _ e.symm).1; omega)).trans h.sbox
  res := (hg.block _ (lt_of_block h.res) (fun e => by have := (hr _ e.symm).1; omega)).trans h.res
  tbox := (hg.block _ (lt_of_block h.tbox) (fun e => by have := (hr _ e.symm).1; omega)).trans h.tbox
  below := h.below.grown hg h.below.size (fun r e => by have := (hr r e).1; omega)
  beg := kept_ne h.beg hg (fun r e => (hr r e).2.1)
  nx := h.nx.kept hg (fun r e => (hr r e).2.2.1) (fun r e => (hr r e).2.2.2.2.1)
  wy := h.wy.kept hg (fun r e => (hr r e).2.2.2.1) (fun r e => (hr r e).2.2.2.2.2)
  sep := h.sep

theorem TT.next (h : TT s a cap w C S vB vN vW k n rs qs wr) (hb : Below wr.heap.size wr w') : TT s a cap w C S vB vN vW k n rs qs w' :=
  h.grown (grown_below hb none) (fun r e => by cases e)

theorem TT.drew (h : TT s a cap w C S vB vN vW k n rs qs wr) : TT s a cap w C S vB vN vW k n rs qs wr.drew := h.next (Below.refl _ _).drew
theorem TT.alloc (h : TT s a cap w C S vB vN vW k n rs qs wr) (o : Obj) : TT s a cap w C S vB vN vW k n rs qs (wr.alloc o) := h.next ((Below.refl _ _).alloc (Nat.le_refl _) o)

/-- a store into the rows' box -/
theorem TT.put (h : TT s a cap w C S vB vN vW k n rs qs wr) (j : Nat) (u : Value) : TT s a cap w (C.setIfInBounds j u) S vB vN vW k n rs qs (wr.setCell ⟨w.heap.size + 3, j, none⟩ u) := by
  have hg := grown_setCell wr ⟨w.heap.size + 3, j, none⟩ u
  have hr : ∀ r, some (w.heap.size + 3) = some r → r = w.heap.size + 3 := fun r e => by injection e with e; exact e.symm
  refine ⟨(hg.block _ (lt_of_block h.sbox) (by simp)).trans h.sbox, (hg.block _ (lt_of_block h.res) (by simp)).trans h.res, block_setCell h.tbox j u, h.below.grown hg h.below.size (fun r e => by have := hr r e; omega), kept_ne h.beg hg ?_, h.nx.kept hg ?_ ?_, h.wy.kept hg ?_ ?_, h.sep⟩
  · intro r e; rw [hr r e]; exact owns_far h.beg h.tbox (by decide)
  · intro r e; rw [hr r e]; exact owns_far h.nx.own h.tbox (by decide)
  · intro r e i hi; rw [hr r e]; exact (h.nx.rows i hi).far h.tbox (by decide)
  · intro r e; rw [hr r e]; exact owns_far h.wy.own h.tbox (by decide)
  · intro r e i hi; rw [hr r e]; exact (h.wy.rows i hi).far h.tbox (by decide)

/-- one beginning more -/
theorem TT.growB {v' : Value} {S' : List Bytes} (h : TT s a cap w C S vB (.slice none 0 0) (.slice none 0 0) 0 0 [] [] wr) (hg : wr.grownBy w' vB.ownBlock) (hown : w'.ownsRow (w.heap.size + 2) 9 1 v' S'.length (S'.map strV)) :
    TT s a cap w C S' v' (.slice none 0 0) (.slice none 0 0) 0 0 [] [] w' := by
  have hlt := fun r e => (h.beg.lt r e).1
  refine ⟨(hg.block _ (lt_of_block h.sbox) (fun e => by have := hlt _ e.symm; omega)).trans h.sbox, (hg.block _ (lt_of_block h.res) (fun e => by have := hlt _ e.symm; omega)).trans h.res, (hg.block _ (lt_of_block h.tbox) ?_).trans h.tbox, h.below.grown hg h.below.size (fun r e => by have := hlt r e; omega), hown, RowsB.nil _ _ _ _, RowsB.nil _ _ _ _, fun r e => by simp [Value.ownBlock]⟩
  intro e
  exact owns_far h.beg h.tbox (by decide) e.symm

/-- one row more -/
theorem TT.growN {v' : Value} {p : Nat × Nat} (h : TT s a cap w C S vB vN (.slice none 0 0) k 0 rs [] wr) (hg : wr.grownBy w' vN.ownBlock) (hown : w'.ownsRow (w.heap.size + 4) 67 1 v' (k + 1) (rowVs s.A.size rs ++ [.slice (some ⟨p.1, 0, none⟩) s.A.size p.2])) (hrow : RowB wr p.1 s.A.size (s.rx k)) :
    TT s a cap w C S vB v' (.slice none 0 0) (k + 1) 0 (rs ++ [p]) [] w' := by
  have hlt := fun r e => (h.nx.own.lt r e).1
  refine ⟨(hg.block _ (lt_of_block h.sbox) (fun e => by have := hlt _ e.symm; omega)).trans h.sbox, (hg.block _ (lt_of_block h.res) (fun e => by have := hlt _ e.symm; omega)).trans h.res, (hg.block _ (lt_of_block h.tbox) (fun e => by have := hlt _ e.symm; omega)).trans h.tbox, h.below.grown hg h.below.size (fun r e => by have := hlt r e; omega), kept_ne h.beg hg ?_, h.nx.snoc hg hown hrow, RowsB.nil _ _ _ _, fun r e => by simp [Value.ownBlock]⟩
  intro r e
  obtain ⟨C', h1⟩ := owns_tag h.nx.own e
  exact owns_far h.beg h1 (by decide)

/-- one row of counts more -/
theorem TT.growW {g cp : Nat} {p : Nat × Nat} (h : TT s a cap w C S vB vN vW k n rs qs wr) (hg : wr.grownBy w' vW.ownBlock) (hown : w'.ownsRow (w.heap.size + 4) 67 1 (.slice (some ⟨g, 0, none⟩) (n + 1) cp) (n + 1) (rowVs S.length qs ++ [.slice (some ⟨p.1, 0, none⟩) S.length p.2])) (hat : vW.ownBlock = some g ∨ wr.heap.size ≤ g) (hrow : RowB wr p.1 S.length (fun i => (s.rw_ n i : Int))) :
    TT s a cap w C S vB vN (.slice (some ⟨g, 0, none⟩) (n + 1) cp) k (n + 1) rs (qs ++ [p]) w' := by
  have hlt := fun r e => (h.wy.own.lt r e).1
  refine ⟨(hg.block _ (lt_of_block h.sbox) (fun e => by have := hlt _ e.symm; omega)).trans h.sbox, (hg.block _ (lt_of_block h.res) (fun e => by have := hlt _ e.symm; omega)).trans h.res, (hg.block _ (lt_of_block h.tbox) (fun e => by have := hlt _ e.symm; omega)).trans h.tbox, h.below.grown hg h.below.size (fun r e => by have := hlt r e; omega), kept_ne h.beg hg ?_, h.nx.kept hg ?_ ?_, h.wy.snoc hg hown hrow, ?_⟩
  · intro r e
    obtain ⟨C', h1⟩ := owns_tag h.wy.own e
    exact owns_far h.beg h1 (by decide)
  · intro r e e'
    exact h.sep r e' e
  · intro r e i hi
    obtain ⟨C', h1⟩ := owns_tag h.wy.own e
    exact (h.nx.rows i hi).far h1 (by decide)
  · intro r e
    simp only [Value.ownBlock]
    rcases hat with h1 | h1
    · intro e2
      have := h.sep r e
      rw [h1, e2] at this
      exact this rfl
    · have := (h.nx.own.lt r e).2
      simp; omega

theorem TT.in_ (h : TT s a cap w C S vB vN vW k n rs qs wr) (hs : s.In w a) : s.In wr a := hs.below h.below

theorem TT.s0 (h : TT s a cap w C S vB vN vW k n rs qs wr) : wr.cell? ⟨w.heap.size, 0, none⟩ = some (.string s.A) := cell_of_block h.sbox 0
theorem TT.s1 (h : TT s a cap w C S vB vN vW k n rs qs wr) : wr.cell? ⟨w.heap.size, 1, none⟩ = some (.int .i64 s.L) := cell_of_block h.sbox 1
theorem TT.s2 (h : TT s a cap w C S vB vN vW k n rs qs wr) : wr.cell? ⟨w.heap.size, 2, none⟩ = some (.slice a s.bs.length cap) := cell_of_block h.sbox 2
theorem TT.s3 (h : TT s a cap w C S vB vN vW k n rs qs wr) : wr.cell? ⟨w.heap.size, 3, none⟩ = some (.bool s.chk) := cell_of_block h.sbox 3
theorem TT.t0 {x y z : Value} (h : TT s a cap w #[x, y, z] S vB vN vW k n rs qs wr) : wr.cell? ⟨w.heap.size + 3, 0, none⟩ = some x := cell_of_block h.tbox 0
theorem TT.t1 {x y z : Value} (h : TT s a cap w #[x, y, z] S vB vN vW k n rs qs wr) : wr.cell? ⟨w.heap.size + 3, 1, none⟩ = some y := cell_of_block h.tbox 1
theorem TT.t2 {x y z : Value} (h : TT s a cap w #[x, y, z] S vB vN vW k n rs qs wr) : wr.cell? ⟨w.heap.size + 3, 2, none⟩ = some z := cell_of_block h.tbox 2
theorem TT.free (h : TT s a cap w C S vB vN vW k n rs qs wr) (j : Nat) : wr.frozen? ⟨w.heap.size + 3, j, none⟩ = false := free_block h.tbox j

theorem TT.bcell {g cp : Nat} (h : TT s a cap w C S (.slice (some ⟨g, 0, none⟩) S.length cp) vN vW k n rs qs wr) {i : Nat} (hi : i < S.length) : wr.cell? ⟨g, i, none⟩ = some (.string (mkB (S.getD i []))) := by
  rw [h.beg.cellAt i (by omega), List.getElem?_map, List.getD_eq_getElem?_getD, List.getElem?_eq_getElem hi]
  rfl

theorem strs_map (S : List Bytes) : S.map strV = (S.map mkB).map Value.string := by
  rw [List.map_map]; rfl

theorem TT.strs {ao : Option Addr} {cp : Nat} (h : TT s a cap w C S (.slice ao S.length cp) vN vW k n rs qs wr) : StrsAt wr ao (S.map mkB) := by
  have h1 := h.beg
  rw [strs_map] at h1
  have h2 : (S.map mkB).length = S.length := by simp
  rw [← h2] at h1
  exact strsAt_own h1
end
end Go.Proofs.Yteleehldcpjndaa
