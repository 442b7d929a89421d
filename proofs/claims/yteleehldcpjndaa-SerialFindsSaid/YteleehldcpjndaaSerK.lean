/- The contract of package serial's build. Condition: the scheme is well-formed. -/
import Derived.Test.YteleehldcpjndaaSerJ
import Derived.StillTailTactics
namespace Go.Proofs.Yteleehldcpjndaa
open Go Go.RowKit

/-- the number of a beginning -/
def numOf (S : List Bytes) (u : Bytes) : Option Int := if u ∈ S then some (S.idxOf u : Int) else none

theorem numOf_none {S : List Bytes} {u : Bytes} (h : u ∉ S) : numOf S u = none := by simp [numOf, h]
theorem numOf_some {S : List Bytes} {u : Bytes} (h : u ∈ S) : numOf S u = some (S.idxOf u : Int) := by simp [numOf, h]

theorem numOf_snoc {S : List Bytes} {u : Bytes} (h : u ∉ S) : (fun k' => if k' = u then some (S.length : Int) else numOf S k') = numOf (S ++ [u]) := by
  funext k
  by_cases hk : k = u
  · subst hk
    simp only [if_true]
    rw [numOf_some (by simp)]
    congr 2
    rw [List.idxOf_append]
    simp [h]
  · rw [if_neg hk]
    by_cases hm : k ∈ S
    · rw [numOf_some hm, numOf_some (by simp [hm])]
      congr 2
      rw [List.idxOf_append, if_pos hm]
    · rw [numOf_none hm, numOf_none (by simp [hm, hk])]

/-- the beginnings, and one more -/
def preF (S : List Bytes) (u : Bytes) : List Bytes := if u ∈ S then S else S ++ [u]

/-- and the first n beginnings of a banned string -/
def addB (S : List Bytes) (b : Bytes) : Nat → List Bytes
  | 0 => S
  | n + 1 => preF (addB S b n) (b.take (n + 1))

/-- the beginnings of banned strings -/
def begs (B : List Bytes) : List Bytes := B.foldl (fun S b => addB S b b.length) [[]]

theorem preF_len (S : List Bytes) (u : Bytes) : (preF S u).length ≤ S.length + 1 := by
  unfold preF; split <;> simp
theorem addB_len (S : List Bytes) (b : Bytes) : ∀ n, (addB S b n).length ≤ S.length + n
  | 0 => Nat.le_refl _
  | n + 1 => by have := addB_len S b n; have := preF_len (addB S b n) (b.take (n + 1)); simp only [addB]; omega

theorem begs_snoc (B : List Bytes) (k : Nat) (h : k < B.length) : begs (B.take (k + 1)) = addB (begs (B.take k)) (B.getD k []) (B.getD k []).length := by
  unfold begs
  rw [List.take_succ_eq_append_getElem h, List.foldl_append, List.getD_eq_getElem?_getD, List.getElem?_eq_getElem h]
  rfl

/-- the numbers of the edges -/
def tab (S B : List Bytes) (A : Bytes) (i v : Nat) : Int := longestOf B (numOf S) (S.getD i [] ++ [A.getD v 0])

def strV (u : Bytes) : Value := .string ⟨u.toArray⟩

/-- the state of build's first loops: the numbers, the beginnings, the scheme's box -/
structure Bld (w : World) (A : ByteArray) (L : Nat) (a : Option Addr) (n cap : Nat) (chk : Bool) (S : List Bytes) (v : Value) (wr : World) : Prop where
  map : MapFn wr (w.heap.size + 1 + 1) keyS (numOf S)
  row : wr.ownsRow (w.heap.size + 1) 9 1 v S.length (S.map strV)
  box : wr.heap[w.heap.size]? = some (.cells #[.string A, .int .i64 L, .slice a n cap, .bool chk] 24 (0, 0))
  below : Below w.heap.size w wr

section
variable {w : World} {A : ByteArray} {L : Nat} {a : Option Addr} {n cap : Nat} {chk : Bool} {S : List Bytes} {v : Value} {wr : World}

theorem owns_shape {w : World} {base size n : Nat} {e : TypeId} {v : Value} {xs : List Value} (h : w.ownsRow base e size v n xs) : ∃ ao cp, v = .slice ao n cp := by
  rcases h.2 with ⟨rfl, rfl⟩ | ⟨g, cp, cur, rfl, _⟩
  · exact ⟨_, _, rfl⟩
  · exact ⟨_, _, rfl⟩

theorem Bld.row_ne (h : Bld w A L a n cap chk S v wr) : some (w.heap.size + 1 + 1) ≠ v.ownBlock := by
  intro e
  obtain ⟨es, clock, hb, _⟩ := h.map
  rcases h.row.2 with ⟨rfl, _⟩ | ⟨g, cp, cur, rfl, hg, hh, _⟩
  · simp [Value.ownBlock] at e
  · simp only [Value.ownBlock, Option.some.injEq] at e
    rw [← e, hb] at hh; cases hh

theorem Bld.row_ne' (h : Bld w A L a n cap chk S v wr) : some w.heap.size ≠ v.ownBlock := by
  intro e
  have := (h.row.lt _ e.symm).1
  omega

/-- behind a store into the numbers -/
theorem Bld.put {w' : World} (h : Bld w A L a n cap chk S v wr) (hg : wr.grownBy w' (some (w.heap.size + 1 + 1))) :
    w'.ownsRow (w.heap.size + 1) 9 1 v S.length (S.map strV) ∧ w'.heap[w.heap.size]? = some (.cells #[.string A, .int .i64 L, .slice a n cap, .bool chk] 24 (0, 0)) ∧ Below w.heap.size w w' := by
  have hlt := h.map.lt
  refine ⟨h.row.kept hg (.inr (fun e => h.row_ne e.symm)), (hg.block _ (by omega) (by simp; omega)).trans h.box, h.below.grown hg h.below.size (fun k hk => by cases hk; omega)⟩

/-- behind an append to the beginnings -/
theorem Bld.app {w' : World} {v' : Value} {S' : List Bytes} (hrow : wr.ownsRow (w.heap.size + 1) 9 1 v S.length (S.map strV)) (hmap : MapFn wr (w.heap.size + 1 + 1) keyS (numOf S')) (hbox : wr.heap[w.heap.size]? = some (.cells #[.string A, .int .i64 L, .slice a n cap, .bool chk] 24 (0, 0)))
    (hbel : Below w.heap.size w wr) (o : Obj) (hown : w'.ownsRow (w.heap.size + 1) 9 1 v' S'.length (S'.map strV)) (hg : (wr.alloc o).grownBy w' v.ownBlock) : Bld w A L a n cap chk S' v' w' := by
  have hlt := hmap.lt
  have hb2 : Below w.heap.size w (wr.alloc o) := hbel.alloc hbel.size o
  have hne : some (w.heap.size + 1 + 1) ≠ v.ownBlock := by
    intro e
    obtain ⟨es, clock, hb, _⟩ := hmap
    rcases hrow.2 with ⟨rfl, _⟩ | ⟨g, cp, cur, rfl, hg, hh, _⟩
    · simp [Value.ownBlock] at e
    · simp only [Value.ownBlock, Option.some.injEq] at e
      rw [← e, hb] at hh; cases hh
  have hne' : some w.heap.size ≠ v.ownBlock := by
    intro e
    have := (hrow.lt _ e.symm).1
    omega
  refine ⟨?_, hown, ?_, hb2.grown hg hb2.size (fun k hk => by have := (hrow.lt k hk).1; omega)⟩
  · exact hmap.of_block ((hg.block _ (by simp; omega) hne).trans (Below.heap_alloc _ _ _ hlt))
  · exact (hg.block _ (by simp; omega) hne').trans ((Below.heap_alloc _ _ _ (by omega)).trans hbox)

theorem begs_pos (B : List Bytes) : 0 < (begs B).length := by
  have h1 : ∀ (S : List Bytes) u, S.length ≤ (preF S u).length := by intro S u; unfold preF; split <;> simp
  have h2 : ∀ (S : List Bytes) b n, S.length ≤ (addB S b n).length := by
    intro S b n
    induction n with
    | zero => exact Nat.le_refl _
    | succ n ih => exact Nat.le_trans ih (h1 _ _)
  have h3 : ∀ (B : List Bytes) (S : List Bytes), S.length ≤ (B.foldl (fun S b => addB S b b.length) S).length := by
    intro B
    induction B with
    | nil => intro S; exact Nat.le_refl _
    | cons b B ih => intro S; exact Nat.le_trans (h2 _ _ _) (ih _)
  exact h3 B [[]]

theorem preF_mem (S : List Bytes) (u x : Bytes) : x ∈ preF S u ↔ x ∈ S ∨ x = u := by
  unfold preF
  split
  · constructor
    · exact .inl
    · rintro (h | rfl)
      · exact h
      · assumption
  · simp

theorem addB_mem (S : List Bytes) (b x : Bytes) : ∀ n, x ∈ addB S b n ↔ x ∈ S ∨ ∃ j, 1 ≤ j ∧ j ≤ n ∧ x = b.take j
  | 0 => by simp only [addB]; constructor; exact .inl; rintro (h | ⟨j, h1, h2, _⟩); exact h; omega
  | n + 1 => by
    simp only [addB]
    rw [preF_mem, addB_mem S b x n]
    constructor
    · rintro ((h | ⟨j, h1, h2, h3⟩) | h)
      · exact .inl h
      · exact .inr ⟨j, h1, by omega, h3⟩
      · exact .inr ⟨n + 1, by omega, Nat.le_refl _, h⟩
    · rintro (h | ⟨j, h1, h2, h3⟩)
      · exact .inl (.inl h)
      · by_cases hj : j = n + 1
        · subst hj; exact .inr h3
        · exact .inl (.inr ⟨j, h1, by omega, h3⟩)

theorem begs_mem (B : List Bytes) (x : Bytes) : x ∈ begs B ↔ x = [] ∨ ∃ b ∈ B, ∃ j, 1 ≤ j ∧ j ≤ b.length ∧ x = b.take j := by
  have h : ∀ (B : List Bytes) (S : List Bytes), x ∈ B.foldl (fun S b => addB S b b.length) S ↔ x ∈ S ∨ ∃ b ∈ B, ∃ j, 1 ≤ j ∧ j ≤ b.length ∧ x = b.take j := by
    intro B
    induction B with
    | nil => intro S; simp
    | cons b B ih =>
      intro S
      rw [List.foldl_cons, ih, addB_mem]
      constructor
      · rintro ((h | ⟨j, h⟩) | ⟨b', hb', h⟩)
        · exact .inl h
        · exact .inr ⟨b, by simp, j, h⟩
        · exact .inr ⟨b', by simp [hb'], h⟩
      · rintro (h | ⟨b', hb', h⟩)
        · exact .inl (.inl h)
        · rcases List.mem_cons.1 hb' with rfl | hb'
          · obtain ⟨j, h⟩ := h
            exact .inl (.inr ⟨j, h⟩)
          · exact .inr ⟨b', hb', h⟩
  have := h B [[]]
  simpa [begs] using this

theorem strs_of_owns {w : World} {base : Nat} {e : TypeId} {ao : Option Addr} {cp : Nat} {S : List Bytes} (h : w.ownsRow base e 1 (.slice ao S.length cp) S.length (S.map strV)) (h0 : 0 < S.length) :
    ∃ g, ao = some ⟨g, 0, none⟩ ∧ Hid (∀ i, i < S.length → w.cell? ⟨g, i, none⟩ = some (strV (S.getD i []))) := by
  rcases h.2 with ⟨h1, h2⟩ | ⟨g, cap, cur, h1, hg, hh, hc, hm, hs, ht⟩
  · omega
  · simp only [Value.slice.injEq] at h1
    obtain ⟨rfl, _, rfl⟩ := h1
    refine ⟨g, rfl, Lib.hid ?_⟩
    intro i hi
    have h2 : (cur.toList.take (S.length * 1))[i]? = some (strV (S.getD i [])) := by
      rw [ht, List.getElem?_map, List.getD_eq_getElem?_getD, List.getElem?_eq_getElem hi]; rfl
    rw [List.getElem?_take] at h2
    split at h2
    · simp only [World.cell?, hh]
      simpa using h2
    · cases h2

/-- the state of build's last loops -/
structure Bld2 (w : World) (A : ByteArray) (L : Nat) (a : Option Addr) (bs : List ByteArray) (cap : Nat) (chk : Bool) (S Bs : List Bytes) (xb NM g k u : Nat) (wi : World) : Prop where
  map : MapFn wi (w.heap.size + 1 + 1) keyS (numOf S)
  box : wi.heap[w.heap.size]? = some (.cells #[.string A, .int .i64 L, .slice a bs.length cap, .bool chk] 24 (0, 0))
  x : wi.heap[xb]? = some (.cells #[.string A, .int .i64 L, .slice a bs.length cap, .bool chk, .map (some NM)] 76 (0, 0))
  cells : Hid (∀ i, i < S.length → wi.cell? ⟨g, i, none⟩ = some (strV (S.getD i [])))
  strs : StrsAt wi a bs
  ne : w.heap.size + 1 + 1 < NM
  tabs : ∃ f, MapFn wi NM key2 f ∧ ∀ i v : Nat, v < A.size → (i < k ∨ (i = k ∧ v < u)) → f ((i : Int), (v : Int)) = some (tab S Bs A.data.toList i v)
  below : Below w.heap.size w wi

theorem Bld2.start {A : ByteArray} {L : Nat} {a : Option Addr} {bs : List ByteArray} {cap cp g : Nat} {chk : Bool} {S Bs : List Bytes} (h : Bld w A L a bs.length cap chk S (.slice (some ⟨g, 0, none⟩) S.length cp) wr) (hst : StrsAt w a bs) (hc : Hid (∀ i, i < S.length → wr.cell? ⟨g, i, none⟩ = some (strV (S.getD i [])))) :
    Bld2 w A L a bs cap chk S Bs (wr.heap.size + 1) wr.heap.size g 0 0 ((wr.alloc (.map #[] 0)).alloc (.cells #[.string A, .int .i64 L, .slice a bs.length cap, .bool chk, .map (some wr.heap.size)] 76)) := by
  have hlt := h.map.lt
  have hb2 : Below wr.heap.size wr ((wr.alloc (.map #[] 0)).alloc (.cells #[.string A, .int .i64 L, .slice a bs.length cap, .bool chk, .map (some wr.heap.size)] 76)) := ((Below.refl _ _).alloc (Nat.le_refl _) _).alloc (by simp) _
  refine ⟨h.map.below hb2 hlt, (hb2.block _ (by omega)).trans h.box, ?_, Lib.hid fun i hi => (hb2.cell (lt_of_cell (hc.out i hi))).trans (hc.out i hi), (hst.below h.below).below hb2, hlt, ⟨fun _ => none, ?_, fun i v _ hh => by omega⟩, h.below.trans (hb2.mono h.below.size)⟩
  · have := (MapKept.heap_alloc (wr.alloc (.map #[] 0)) (.cells #[.string A, .int .i64 L, .slice a bs.length cap, .bool chk, .map (some wr.heap.size)] 76)).1
    simpa using this
  · exact (MapFn.new wr key2).of_block (Below.heap_alloc _ _ _ (by simp))

/-- behind a store into the table -/
theorem Bld2.put {A : ByteArray} {L : Nat} {a : Option Addr} {bs : List ByteArray} {cap g k u xb NM : Nat} {chk : Bool} {S Bs : List Bytes} {w' : World} (h : Bld2 w A L a bs cap chk S Bs xb NM g k u wr) {f : Int × Int → Option Int} (hf : MapFn wr NM key2 f)
    (hft : ∀ i v : Nat, v < A.size → (i < k ∨ (i = k ∧ v < u)) → f ((i : Int), (v : Int)) = some (tab S Bs A.data.toList i v))
    (hf' : MapFn w' NM key2 (fun k' => if k' = ((k : Int), (u : Int)) then some (tab S Bs A.data.toList k u) else f k')) (hg : wr.grownBy w' (some NM)) : Bld2 w A L a bs cap chk S Bs xb NM g k (u + 1) w' := by
  have hlt := h.map.lt
  have hxne : xb ≠ NM := by
    intro e; subst e
    obtain ⟨es, clock, hb, _⟩ := hf
    rw [h.x] at hb; cases hb
  have hxlt : xb < wr.heap.size := (Array.getElem?_eq_some_iff.1 h.x).1
  have hblt : w.heap.size < wr.heap.size := (Array.getElem?_eq_some_iff.1 h.box).1
  have hne := h.ne
  refine ⟨h.map.of_block (hg.block _ hlt (by simp; omega)), (hg.block _ hblt (by simp; omega)).trans h.box, (hg.block _ hxlt (by simpa using hxne)).trans h.x, Lib.hid fun i hi => cell_grown hf hg (h.cells.out i hi), ?_, h.ne, ⟨_, hf', ?_⟩, h.below.grown hg h.below.size (fun k hk => by cases hk; omega)⟩
  · intro hpos
    obtain ⟨b, off, ha, hc⟩ := h.strs hpos
    exact ⟨b, off, ha, Lib.hid fun i hi => cell_grown hf hg (hc.out i hi)⟩
  · intro i v hv hh
    by_cases e : ((i : Int), (v : Int)) = ((k : Int), (u : Int))
    · simp only [e, if_true]
      simp only [Prod.mk.injEq, Int.natCast_inj] at e
      rw [e.1, e.2]
    · simp only [e, if_false]
      refine hft i v hv ?_
      simp only [Prod.mk.injEq, Int.natCast_inj, not_and] at e
      omega

set_option maxRecDepth 100000 in
set_option maxHeartbeats 2000000 in
theorem build_any {w : World} (A : ByteArray) (L : Nat) (a : Option Addr) (cap : Nat) (chk : Bool) (bs : List ByteArray) (hA36 : A.size ≤ 36) (hb16 : bs.length ≤ 16) (hb8 : ∀ b ∈ bs, b.size ≤ 8) (hst : StrsAt w a bs) :
    Calls Try.prog 66 #[.agg #[.string A, .int .i64 L, .slice a bs.length cap, .bool chk]] w
      fun e w' => ∃ xb M g, e = .returned (.pointer (some ⟨xb, 0, none⟩)) ∧ SchAt w' xb A L chk M g ∧
        (∀ i v : Nat, i < (begs (bs.map (·.data.toList))).length → v < A.size → g ((i : Int), (v : Int)) = some (tab (begs (bs.map (·.data.toList))) (bs.map (·.data.toList)) A.data.toList i v)) ∧ Below w.heap.size w w' := by
  obtain ⟨i0, hi, hz0, hz1, hz2⟩ := info_parts infoStr
  have hmm := @run_makeMap Try.prog
  have hnew : ∀ W : World, W.heap.size = w.heap.size + 1 + 1 → MapFn (W.alloc (.map #[] 0)) (w.heap.size + 1 + 1) keyS (fun _ => none) := by
    intro W hW; rw [← hW]; exact MapFn.new W keyS
  have HNEW := Lib.hid hnew
  have hbx : ∀ W3 : World, (((w.alloc (.cells #[.string A, .int .i64 L, .slice a bs.length cap, .bool chk] 24)).alloc (.cells #[.string ⟨#[]⟩] 9)).alloc (.map #[] 0)).grownBy W3 (some (w.heap.size + 1 + 1)) →
      W3.heap[w.heap.size]? = some (.cells #[.string A, .int .i64 L, .slice a bs.length cap, .bool chk] 24 (0, 0)) ∧ W3.heap[w.heap.size + 1]? = some (.cells #[.string ⟨#[]⟩] 9 (0, 0)) ∧ Below w.heap.size w W3 := by
    intro W3 hg
    refine ⟨?_, ?_, ?_⟩
    · refine (hg.block w.heap.size (by simp; omega) (by simp; omega)).trans ?_
      exact (Below.heap_alloc _ _ _ (by simp; omega)).trans ((Below.heap_alloc _ _ _ (by simp)).trans (MapKept.heap_alloc w _).1)
    · refine (hg.block (w.heap.size + 1) (by simp) (by simp)).trans ?_
      refine (Below.heap_alloc _ _ _ (by simp)).trans ?_
      have := (MapKept.heap_alloc (w.alloc (.cells #[.string A, .int .i64 L, .slice a bs.length cap, .bool chk] 24)) (.cells #[.string ⟨#[]⟩] 9)).1
      simpa using this
    · exact ((((Below.refl _ _).alloc (Nat.le_refl _) _).alloc (by simp) _).alloc (by simp; omega) _).grown hg (by simp; omega) (fun k hk => by cases hk; omega)
  have HBX := Lib.hid hbx
  clear hnew hbx
  go_enter Try.func66, Try.ntmps66
  go_wp2_with (refine wpList_mapUpdate_fn _ rfl _ _ _ 100 (.inr rfl) 9 3 keyS klawS Try.underlying100 (w.heap.size + 1 + 1) (fun _ => none) rfl (HNEW.out _ (by simp)) [] 0 rfl rfl ?_; intro w3 hf3 hg3; obtain ⟨hbox3, hrow3, hbel3⟩ := HBX.out _ hg3; have hf4 := Lib.hid hf3; have hbox4 := Lib.hid hbox3; have hrow4 := Lib.hid hrow3; have c2 : w3.cell? ⟨w.heap.size, 2, none⟩ = some (.slice a bs.length cap) := cell_of_block hbox3 2; clear hf3 hg3 hbox3 hrow3)
  obtain ⟨Bs, hBs⟩ : ∃ Bs, Bs = bs.map (·.data.toList) := ⟨_, rfl⟩
  have hBl : Bs.length = bs.length := by rw [hBs]; simp
  have hBg : ∀ k, k < bs.length → Bs.getD k [] = (bs.getD k ⟨#[]⟩).data.toList := by
    intro k hk
    rw [hBs, List.getD_eq_getElem?_getD, List.getElem?_map, List.getElem?_eq_getElem hk, List.getD_eq_getElem?_getD, List.getElem?_eq_getElem hk]; rfl
  have HBS := Lib.hid hBs
  have HBL := Lib.hid hBl
  have HBG := Lib.hid hBg
  clear hBs hBl hBg
  go_loopw [3, 21] (fun vv kk wr => ∃ k : Nat, k ≤ bs.length ∧ kk = .int .i64 k ∧ Bld w A L a bs.length cap chk (begs (Bs.take k)) vv wr ∧ Hid ((begs (Bs.take k)).length ≤ 1 + 8 * k))
    (fun _ kk _ => bs.length - (intOf kk).toNat)
  case atStart =>
    refine ⟨0, Nat.zero_le _, rfl, ⟨?_, ?_, hbox4.out, hbel3⟩, Lib.hid (by simp [begs])⟩
    · have : (fun k' : List UInt8 => if k' = [] then some (0 : Int) else none) = numOf [[]] := by
        funext k'
        by_cases hk : k' = []
        · subst hk; rfl
        · simp [numOf, hk]
      rw [this] at hf4
      exact hf4.out
    · refine ⟨rfl, .inr ⟨w.heap.size + 1, 1, #[.string ⟨#[]⟩], rfl, by omega, hrow4.out, by simp [begs], by decide, rfl, rfl⟩⟩
  case round =>
    obtain ⟨k, hk, rfl, hB, hlen⟩ := hrel
    by_cases hlt : k < bs.length
    · obtain ⟨bb, off, ha, hcell⟩ := (hst.below hB.below) (by omega)
      have hce := hcell.out k hlt
      obtain ⟨ban, hban⟩ : ∃ ban, ban = bs.getD k ⟨#[]⟩ := ⟨_, rfl⟩
      have hb8' : ban.size ≤ 8 := by rw [hban]; exact hb8 _ (by rw [List.getD_eq_getElem?_getD, List.getElem?_eq_getElem hlt]; simp)
      rw [← hban] at hce
      have hbg := HBG.out k hlt
      rw [← hban] at hbg
      have hsn := begs_snoc Bs k (by rw [HBL.out]; exact hlt)
      rw [hbg, size_toList] at hsn
      have HSN := Lib.hid hsn
      clear hban hbg hsn
      subst ha
      obtain ⟨wo, rfl⟩ : ∃ wo : World, wo = wr := ⟨_, rfl⟩
      go_wp2_with fail
      go_loopw [3, 7] (fun vv nn wi => ∃ n : Nat, 1 ≤ n ∧ n ≤ ban.size + 1 ∧ nn = .int .i64 n ∧ Bld w A L (some ⟨bb, off, none⟩) bs.length cap chk (addB (begs (Bs.take k)) ban.data.toList (n - 1)) vv wi ∧ Hid ((addB (begs (Bs.take k)) ban.data.toList (n - 1)).length ≤ 1 + 8 * k + (n - 1)))
        (fun _ nn _ => ban.size + 1 - (intOf nn).toNat)
      case atStart => exact ⟨1, Nat.le_refl _, by omega, rfl, hB, hlen⟩
      case round =>
        obtain ⟨n, hn1, hn2, rfl, hBi, hleni⟩ := hrel
        by_cases hlt2 : n ≤ ban.size
        · obtain ⟨Si, hSi⟩ : ∃ Si, Si = addB (begs (Bs.take k)) ban.data.toList (n - 1) := ⟨_, rfl⟩
          have hnext : addB (begs (Bs.take k)) ban.data.toList n = preF Si (ban.data.toList.take n) := by
            obtain ⟨m, rfl⟩ : ∃ m, n = m + 1 := ⟨n - 1, by omega⟩
            rw [hSi]; rfl
          rw [← hSi] at hBi hleni
          have HNEXT := Lib.hid hnext
          have hex : (ban.extract 0 n).data.toList = ban.data.toList.take n := by rw [Lib.extract_data]; simp
          have hlk := lookS hBi.map (ban.extract 0 n)
          rw [hex] at hlk
          have HEX := Lib.hid hex
          clear hSi hnext hex
          by_cases hin : ban.data.toList.take n ∈ Si
          · rw [numOf_some hin] at hlk
            have HIN := Lib.hid hin
            clear hin
            have HN2 : Hid (addB (begs (Bs.take k)) ban.data.toList (n + 1 - 1) = Si) := by
              show _ = _; rw [Nat.add_sub_cancel, HNEXT.out]; unfold preF; rw [if_pos HIN.out]
            go_wp2
            go_roundw
            case rel => exact ⟨n + 1, by omega, by omega, by go_num, by rw [HN2.out]; exact hBi, Lib.hid (by have := hleni.out; rw [HN2.out]; omega)⟩
            case measure => simp [intOf]; omega
          · rw [numOf_none hin] at hlk
            have HIN := Lib.hid hin
            have HN2 : Hid (addB (begs (Bs.take k)) ban.data.toList (n + 1 - 1) = Si ++ [ban.data.toList.take n]) := by
              show _ = _; rw [Nat.add_sub_cancel, HNEXT.out]; unfold preF; rw [if_neg hin]
            clear hin
            obtain ⟨ao, cp, rfl⟩ := owns_shape hBi.row
            have hSl : Si.length ≤ 1000 := by have := hleni.out; omega
            go_wp2_with (first | (at_mapUpdate; refine wpList_mapUpdate_fn _ rfl _ _ _ 100 (.inl rfl) 9 3 keyS klawS Try.underlying100 (w.heap.size + 1 + 1) (numOf Si) rfl hBi.map (ban.extract 0 n).data.toList (Si.length : Nat) rfl rfl ?_; intro w4 hf5 hg5; obtain ⟨hrow5, hbox5, hbel5⟩ := hBi.put hg5; have hf6 := Lib.hid hf5; have hbox6 := Lib.hid hbox5; clear hf5 hg5 hbox5) | (at_builtin; refine wpList_append_own _ rfl _ _ 22 rfl (w.heap.size + 1) 9 i0 (.string ByteArray.empty) 1 16 Try.underlying22 hi hz0 hz1 hz2 rfl (by decide) _ _ _ rfl (hrow5.alloc _) ⟨w4.heap.size, 0, none⟩ 1 1 [.string (ban.extract 0 n)] rfl rfl ?c1 ?c2 ?c3 ?c4 ?c5 ?_))
            case c1 =>
              intro j u hj
              match j, hj with
              | 0, hj => simp at hj; subst hj; simp [Addr.add]
            case c2 => intro u hu; simp at hu; subst hu; rfl
            case c3 => unfold maxLen; omega
            case c4 => omega
            case c5 => have := hbel5.size; have := hBi.below.size; have := hBi.map.lt; have := (hf6.out).lt; simp; omega
            intro v' w5 hown' hgrow' _
            have hmap6 : MapFn w4 (w.heap.size + 1 + 1) keyS (numOf (Si ++ [ban.data.toList.take n])) := by
              have h6 := hf6.out
              rw [HEX.out, numOf_snoc HIN.out] at h6
              exact h6
            have hown2 : w5.ownsRow (w.heap.size + 1) 9 1 v' (Si ++ [ban.data.toList.take n]).length ((Si ++ [ban.data.toList.take n]).map strV) := by
              have e : strV (ban.data.toList.take n) = .string (ban.extract 0 n) := by rw [← HEX.out]; rfl
              rw [List.map_append, List.length_append]
              simp only [List.map_cons, List.map_nil, List.length_cons, List.length_nil, e]
              exact hown'
            have hB2 := Bld.app hrow5 hmap6 hbox6.out hbel5 _ hown2 hgrow'
            clear hown' hgrow' hown2 hmap6 hrow5
            go_wp2
            go_roundw
            case rel => exact ⟨n + 1, by omega, by omega, by go_num, by rw [HN2.out]; exact hB2, Lib.hid (by have := hleni.out; rw [HN2.out, List.length_append]; simp only [List.length_cons, List.length_nil]; omega)⟩
            case measure => simp [intOf]; omega
        · obtain rfl : n = ban.size + 1 := by omega
          have hle2 := hleni.out
          rw [Nat.add_sub_cancel, ← HSN.out] at hBi hle2
          have HLE := Lib.hid hle2
          clear hle2
          go_wp2
          go_roundw
          case rel => exact ⟨k + 1, by omega, by go_num, hBi, Lib.hid (by have := HLE.out; omega)⟩
          case measure => simp [intOf]; omega
    · obtain rfl : k = bs.length := by omega
      have hB2 := hB
      have htk : Bs.take bs.length = Bs := List.take_of_length_le (by rw [HBL.out]; exact Nat.le_refl _)
      rw [htk] at hB2
      have hle2 := hlen.out
      rw [htk] at hle2
      clear hB hlen htk
      obtain ⟨S, hS⟩ : ∃ S, S = begs Bs := ⟨_, rfl⟩
      rw [← hS] at hB2 hle2
      have HS := Lib.hid hS
      clear hS
      obtain ⟨ao, cp, rfl⟩ := owns_shape hB2.row
      obtain ⟨wo, rfl⟩ : ∃ wo : World, wo = wr := ⟨_, rfl⟩
      have c0 : wo.cell? ⟨w.heap.size, 0, none⟩ = some (.string A) := cell_of_block hB2.box 0
      have c1 : wo.cell? ⟨w.heap.size, 1, none⟩ = some (.int .i64 L) := cell_of_block hB2.box 1
      have c2 : wo.cell? ⟨w.heap.size, 2, none⟩ = some (.slice a bs.length cap) := cell_of_block hB2.box 2
      have c3 : wo.cell? ⟨w.heap.size, 3, none⟩ = some (.bool chk) := cell_of_block hB2.box 3
      have hS0 : 0 < S.length := by rw [HS.out]; exact begs_pos Bs
      obtain ⟨g, rfl, hcells⟩ := strs_of_owns hB2.row hS0
      have hB3 := Bld2.start (Bs := Bs) hB2 hst hcells
      go_wp2_with fail
      clear c0 c1 c2 c3
      go_loopw [60] (fun kk wi => ∃ k : Nat, k ≤ S.length ∧ kk = .int .i64 k ∧ Bld2 w A L a bs cap chk S Bs (wo.heap.size + 1) wo.heap.size g k 0 wi)
        (fun kk _ => S.length - (intOf kk).toNat)
      case atStart => exact ⟨0, Nat.zero_le _, rfl, hB3⟩
      case round =>
        obtain ⟨k, hk, rfl, hB4⟩ := hrel
        by_cases hlt3 : k < S.length
        · obtain ⟨wq, rfl⟩ : ∃ wq : World, wq = wr := ⟨_, rfl⟩
          have hce := hB4.cells.out k hlt3
          have c0 : wq.cell? ⟨w.heap.size, 0, none⟩ = some (.string A) := cell_of_block hB4.box 0
          obtain ⟨st, hst2⟩ : ∃ st : ByteArray, st = ⟨(S.getD k []).toArray⟩ := ⟨_, rfl⟩
          have hce2 : wq.cell? ⟨g, k, none⟩ = some (.string st) := by rw [hst2]; exact hce
          have hst8 : st.size ≤ 8 := by
            have hmem : S.getD k [] ∈ begs Bs := by
              rw [← HS.out, List.getD_eq_getElem?_getD, List.getElem?_eq_getElem hlt3]; simp
            have hsz : st.size = (S.getD k []).length := by rw [hst2]; rfl
            rw [hsz]
            rcases (begs_mem _ _).1 hmem with h | ⟨b, hb, j, hj1, hj2, h⟩
            · rw [h]; simp
            · rw [h, List.length_take]
              rw [HBS.out, List.mem_map] at hb
              obtain ⟨b0, hb0, rfl⟩ := hb
              have := hb8 b0 hb0
              rw [size_toList]; omega
          have HST := Lib.hid hst2
          clear hce hst2
          go_wp2_with fail
          go_loopw [68] (fun uu wi => ∃ u : Nat, u ≤ A.size ∧ uu = .int .i64 u ∧ Bld2 w A L a bs cap chk S Bs (wo.heap.size + 1) wo.heap.size g k u wi)
            (fun uu _ => A.size - (intOf uu).toNat)
          case atStart => exact ⟨0, Nat.zero_le _, rfl, hB4⟩
          case round =>
            obtain ⟨u, hu, rfl, hB5⟩ := hrel
            obtain ⟨wz, rfl⟩ : ∃ wz : World, wz = wr := ⟨_, rfl⟩
            have c0 : wz.cell? ⟨w.heap.size, 0, none⟩ = some (.string A) := cell_of_block hB5.box 0
            have c2 : wz.cell? ⟨w.heap.size, 2, none⟩ = some (.slice a bs.length cap) := cell_of_block hB5.box 2
            have x4 : wz.cell? ⟨wo.heap.size + 1, 4, none⟩ = some (.map (some wo.heap.size)) := cell_of_block hB5.x 4
            by_cases hlt4 : u < A.size
            · have hrd : (st ++ A.extract u (u + 1)).data.toList = S.getD k [] ++ [A.data.toList.getD u 0] := by
                rw [app_data, extract_one A u hlt4, HST.out]
              have hrs : (st ++ A.extract u (u + 1)).size ≤ 1000 := by
                rw [← size_toList, hrd]
                have := HST.out
                have h2 : st.size = (S.getD k []).length := by rw [this]; rfl
                rw [List.length_append, ← h2]; simp only [List.length_cons, List.length_nil]; omega
              have HRD := Lib.hid hrd
              have HRS := Lib.hid hrs
              clear hrd hrs
              go_wp2_with fail
              go_still_tail 12, (by kernel_rfl)
              still_call ((longest_any (w := wz.drew) (st ++ A.extract u (u + 1)) HRS.out a cap bs (by unfold maxLen; omega) hB5.strs (numOf S) (w.heap.size + 1 + 1) hB5.map).mono fun e w' h => ⟨h.1, h.2.symm⟩)
              repeat still_step
              try refine wpStill_nil ?_
              change wpList _ _ _ _ _ wz.drew
              obtain ⟨f, hf, hft⟩ := hB5.tabs
              have hfd : MapFn wz.drew wo.heap.size key2 f := hf
              have HFT := Lib.hid hft
              have htab : longestOf (bs.map (·.data.toList)) (numOf S) (st ++ A.extract u (u + 1)).data.toList = tab S Bs A.data.toList k u := by
                rw [HRD.out, ← HBS.out]; rfl
              have HTAB := Lib.hid htab
              have hB6 : Bld2 w A L a bs cap chk S Bs (wo.heap.size + 1) wo.heap.size g k u wz.drew := ⟨hB5.map, hB5.box, hB5.x, hB5.cells, hB5.strs, hB5.ne, hB5.tabs, hB5.below.drew⟩
              clear hft htab c0 c2 x4
              generalize wz.drew = w2 at *
              go_wp2_with (at_mapUpdate; refine wpList_mapUpdate_fn _ rfl _ _ _ 74 (.inl rfl) 93 3 key2 klaw2 Try.underlying74 wo.heap.size f rfl hfd ((k : Int), (u : Int)) _ rfl rfl ?_; intro w4 hf5 hg5; rw [HTAB.out] at hf5; have hB7 := hB6.put hfd HFT.out hf5 hg5; clear hf5 hg5)
              go_roundw
              case rel => exact ⟨u + 1, by omega, by go_num, hB7⟩
              case measure => simp [intOf]; omega
            · obtain rfl : u = A.size := by omega
              have hB6 : Bld2 w A L a bs cap chk S Bs (wo.heap.size + 1) wo.heap.size g (k + 1) 0 wz := by
                refine ⟨hB5.map, hB5.box, hB5.x, hB5.cells, hB5.strs, hB5.ne, ?_, hB5.below⟩
                obtain ⟨f, hf, hft⟩ := hB5.tabs
                exact ⟨f, hf, fun i v hv hh => hft i v hv (by omega)⟩
              go_wp2
              go_roundw
              case rel => exact ⟨k + 1, by omega, by go_num, hB6⟩
              case measure => simp [intOf]; omega
        · obtain rfl : k = S.length := by omega
          obtain ⟨f, hf, hft⟩ := hB4.tabs
          have HFT := Lib.hid hft
          clear hft
          go_wp2
          go_ret
          refine ⟨wo.heap.size + 1, wo.heap.size, f, rfl, ⟨cell_of_block hB4.x 0, cell_of_block hB4.x 1, cell_of_block hB4.x 3, cell_of_block hB4.x 4, hf⟩, ?_, hB4.below⟩
          intro i v hi' hv'
          rw [← HBS.out, ← HS.out] at *
          exact HFT.out i v hv' (.inl hi')
end
end Go.Proofs.Yteleehldcpjndaa
