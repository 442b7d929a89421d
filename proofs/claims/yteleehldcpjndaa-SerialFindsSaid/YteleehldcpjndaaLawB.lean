/- What a law has at hand: its scheme in a box, in each world on its way; plain facts on numbers and serials. Condition: the scheme's parts are in memory. -/
import Derived.Test.YteleehldcpjndaaLawA
namespace Go.Proofs.Yteleehldcpjndaa
open Go Go.RowKit

/-- block B holds the scheme; its parts are in memory; nothing that was there in w0 has changed -/
structure Ctx (s : Sch) (a : Option Addr) (cap : Nat) (w0 : World) (B : Nat) (w : World) : Prop where
  box : w.heap[B]? = some (.cells #[.string s.A, .int .i64 s.L, .slice a s.bs.length cap, .bool s.chk] 24 (0, 0))
  in_ : s.In w a
  below : Below w0.heap.size w0 w

section
variable {s : Sch} {a : Option Addr} {cap B : Nat} {w0 w : World}

theorem Ctx.next {w' : World} (h : Ctx s a cap w0 B w) (hb : Below w.heap.size w w') : Ctx s a cap w0 B w' :=
  ⟨(hb.block _ (Array.getElem?_eq_some_iff.1 h.box).1).trans h.box, h.in_.below hb, h.below.trans (hb.mono h.below.size)⟩

theorem Ctx.c0 (h : Ctx s a cap w0 B w) : w.cell? ⟨B, 0, none⟩ = some (.string s.A) := cell_of_block h.box 0
theorem Ctx.c1 (h : Ctx s a cap w0 B w) : w.cell? ⟨B, 1, none⟩ = some (.int .i64 s.L) := cell_of_block h.box 1
theorem Ctx.c2 (h : Ctx s a cap w0 B w) : w.cell? ⟨B, 2, none⟩ = some (.slice a s.bs.length cap) := cell_of_block h.box 2
theorem Ctx.c3 (h : Ctx s a cap w0 B w) : w.cell? ⟨B, 3, none⟩ = some (.bool s.chk) := cell_of_block h.box 3

theorem Ctx.start (h : s.In w a) : Ctx s a cap w w.heap.size (w.alloc (.cells #[.string s.A, .int .i64 s.L, .slice a s.bs.length cap, .bool s.chk] 24)) :=
  ⟨(MapKept.heap_alloc w _).1, h.boxed _, (Below.refl _ _).alloc (Nat.le_refl _) _⟩
end

section
variable {w : World} {s : Sch} {a : Option Addr} {cap : Nat}

/-- the walk's first world -/
def boxW (s : Sch) (a : Option Addr) (cap : Nat) (w : World) : World := w.alloc (.cells #[.string s.A, .int .i64 s.L, .slice a s.bs.length cap, .bool s.chk] 24)

theorem Ctx.start' (h : s.In w a) : Ctx s a cap w w.heap.size (boxW s a cap w) := Ctx.start h

end

/-! ### plain -/

theorem alpha_index {A : ByteArray} (h : okAlpha A.data.toList = true) {v : Nat} (hv : v < A.size) : Lib.indexByte A.data.toList (A.data.toList.getD v 0) = v := by
  unfold okAlpha at h
  rw [List.all_eq_true] at h
  have hl : v < A.data.toList.length := by rw [size_toList]; exact hv
  have h1 := h v (by simpa using hv)
  unfold okAt at h1
  simp only [Bool.and_eq_true, decide_eq_true_eq] at h1
  have h2 := h1.2
  have hge := Lib.indexByte_ge A.data.toList (A.data.toList.getD v 0)
  have h3 := Lib.indexByte_some (l := A.data.toList) (c := A.data.toList.getD v 0) (o := (Lib.indexByte A.data.toList (A.data.toList.getD v 0)).toNat) (by omega)
  by_cases h4 : v < (Lib.indexByte A.data.toList (A.data.toList.getD v 0)).toNat
  · have := h3.2 v h4
    rw [List.getD_eq_getElem?_getD, List.getElem?_eq_getElem hl] at this
    exact absurd rfl this
  · omega

section
variable {s : Sch}

theorem bods_len (O : s.Ok) {T : List Nat} (h : T ∈ s.bods) : T.length = s.L.toNat ∧ (∀ v ∈ T, v < s.A.size) ∧ okay s.B (txt s.A.data.toList T) := by
  have := (mem_bodies _ _ O.nonempty _ _).1 h
  rw [size_toList] at this
  exact this

theorem vals_txt (O : s.Ok) {T : List Nat} (h : ∀ v ∈ T, v < s.A.size) : vals s.A.data.toList (txt s.A.data.toList T) = T.map Int.ofNat := by
  unfold vals txt
  rw [List.map_map]
  apply List.map_congr_left
  intro v hv
  exact alpha_index O.alpha (h v hv)

theorem idxs_txt (O : s.Ok) {T : List Nat} (h : ∀ v ∈ T, v < s.A.size) : idxs s.A.data.toList (txt s.A.data.toList T) = T := by
  unfold idxs txt
  rw [List.map_map]
  have : ∀ v ∈ T, (idx s.A.data.toList ∘ fun v => s.A.data.toList.getD v 0) v = v := by
    intro v hv
    simp only [Function.comp, idx]
    rw [alpha_index O.alpha (h v hv)]; rfl
  rw [List.map_congr_left this]; simp

theorem ser_take (O : s.Ok) {T : List Nat} (h : T ∈ s.bods) : (s.ser T).take s.L.toNat = txt s.A.data.toList T := by
  obtain ⟨h1, _, _⟩ := bods_len O h
  unfold Sch.ser serialOf
  rw [List.take_append_of_le_length (by rw [txt_len, h1]; exact Nat.le_refl _), List.take_of_length_le (by rw [txt_len, h1]; exact Nat.le_refl _)]

theorem ser_len (O : s.Ok) {T : List Nat} (h : T ∈ s.bods) : (s.ser T).length = sz s.L.toNat s.chk := by
  obtain ⟨h1, _, _⟩ := bods_len O h
  unfold Sch.ser serialOf sz
  rw [List.length_append, txt_len, h1]
  cases s.chk <;> simp

theorem getD_mem {A : Bytes} {v : Nat} (h : v < A.length) : A.contains (A.getD v 0) = true := by
  rw [List.getD_eq_getElem?_getD, List.getElem?_eq_getElem h]; simp

theorem ser_of (O : s.Ok) {T : List Nat} (h : T ∈ s.bods) : ofB (s.ser T) s.A.data.toList = true := by
  obtain ⟨_, h2, _⟩ := bods_len O h
  have ha := O.a2
  unfold Sch.ser serialOf
  have h3 : ofB (txt s.A.data.toList T) s.A.data.toList = true := of_txt (by rw [size_toList]; exact h2)
  unfold ofB at *
  rw [List.all_append, h3, Bool.true_and]
  split
  · simp only [List.all_cons, List.all_nil, Bool.and_true]
    exact getD_mem (Nat.mod_lt _ (by rw [size_toList]; omega))
  · rfl

theorem ser_err (O : s.Ok) {T : List Nat} (h : T ∈ s.bods) : s.serr (s.ser T) = 0 := by
  obtain ⟨h1, h2, h3⟩ := bods_len O h
  unfold Sch.serr serialErr
  rw [ser_take O h, idxs_txt O h2]
  rw [if_neg (by rw [ser_len O h, ser_of O h]; simp)]
  rw [if_neg (by rw [(walk_okay_table O.table T (by rw [size_toList]; exact h2)).2 h3]; simp)]
  rw [if_neg (by simp [Sch.ser])]

theorem ser_word (O : s.Ok) {T : List Nat} (h : T ∈ s.bods) : s.word (s.ser T) = T := by
  unfold Sch.word
  rw [ser_take O h, idxs_txt O (bods_len O h).2.1]

theorem num_of (O : s.Ok) {n : Nat} {T : List Nat} (h : s.bods[n]? = some T) : (s.bods.filter fun p => wlt p (s.word (s.ser T))).length = n := by
  obtain ⟨hlt, he⟩ := List.getElem?_eq_some_iff.1 h
  rw [ser_word O (he ▸ List.getElem_mem hlt)]
  rw [← he]
  exact filter_lt_get _ (bodies_sorted _ _ _) n hlt

theorem wlt_first : ∀ (T U : List Nat) (i : Nat), (∀ j, j < i → T.getD j 0 = U.getD j 0) → i < T.length → i < U.length → T.getD i 0 < U.getD i 0 → wlt T U = true
  | [], _, i, _, h, _, _ => by simp at h
  | _ :: _, [], i, _, _, h, _ => by simp at h
  | a :: T, b :: U, 0, _, _, _, h => by simp at h; simp [wlt, h]
  | a :: T, b :: U, i + 1, hj, h1, h2, h => by
    have h0 := hj 0 (by omega)
    simp at h0
    subst h0
    have := wlt_first T U i (fun j hj' => by have := hj (j + 1) (by omega); simpa using this) (by simpa using h1) (by simpa using h2) (by simpa using h)
    simp [wlt, this]

theorem vals_ser (O : s.Ok) {T : List Nat} (h : T ∈ s.bods) (i : Nat) (hi : i < s.L.toNat) : (vals s.A.data.toList (s.ser T)).getD i 0 = ((T.getD i 0 : Nat) : Int) := by
  obtain ⟨h1, h2, _⟩ := bods_len O h
  have e : vals s.A.data.toList (s.ser T) = T.map Int.ofNat ++ vals s.A.data.toList ((s.ser T).drop s.L.toNat) := by
    rw [← vals_txt O h2, ← ser_take O h]
    unfold vals
    rw [← List.map_append, List.take_append_drop]
  rw [e, List.getD_eq_getElem?_getD, List.getElem?_append_left (by simpa [h1] using hi), List.getElem?_map, List.getElem?_eq_getElem (by rw [h1]; exact hi), List.getD_eq_getElem?_getD, List.getElem?_eq_getElem (by rw [h1]; exact hi)]
  rfl

theorem eq_of_getD {T U : List Nat} (h : T.length = U.length) (hj : ∀ j, j < T.length → T.getD j 0 = U.getD j 0) : T = U := by
  apply List.ext_getElem h
  intro i h1 h2
  have := hj i h1
  rw [List.getD_eq_getElem?_getD, List.getElem?_eq_getElem h1, List.getD_eq_getElem?_getD, List.getElem?_eq_getElem h2] at this
  simpa using this

theorem nth_lt {n m : Nat} {T U : List Nat} (hn : s.bods[n]? = some T) (hm : s.bods[m]? = some U) (h : n < m) : wlt T U = true := by
  obtain ⟨h1, e1⟩ := List.getElem?_eq_some_iff.1 hn
  obtain ⟨h2, e2⟩ := List.getElem?_eq_some_iff.1 hm
  have := List.pairwise_iff_getElem.1 (bodies_sorted s.A.data.toList s.B s.L.toNat) n m h1 h2 h
  rw [← e1, ← e2]; exact this

theorem nth_inj {n m : Nat} {T : List Nat} (hn : s.bods[n]? = some T) (hm : s.bods[m]? = some T) : n = m := by
  rcases Nat.lt_trichotomy n m with h | h | h
  · have := nth_lt hn hm h; rw [wlt_irrefl] at this; cases this
  · exact h
  · have := nth_lt hm hn h; rw [wlt_irrefl] at this; cases this

theorem inverse_same (O : s.Ok) {n m : Nat} {T U : List Nat} (hn : s.bods[n]? = some T) (hm : s.bods[m]? = some U) (h : ∀ j, j < sz s.L.toNat s.chk → (vals s.A.data.toList (s.ser T)).getD j 0 = (vals s.A.data.toList (s.ser U)).getD j 0) : n = m := by
  have hT : T ∈ s.bods := List.mem_of_getElem? hn
  have hU : U ∈ s.bods := List.mem_of_getElem? hm
  have : T = U := by
    refine eq_of_getD (by rw [(bods_len O hT).1, (bods_len O hU).1]) ?_
    intro j hj
    rw [(bods_len O hT).1] at hj
    have := h j (by unfold sz; omega)
    rw [vals_ser O hT j hj, vals_ser O hU j hj] at this
    exact Int.ofNat.inj this
  subst this
  exact nth_inj hn hm

theorem inverse_diff (O : s.Ok) {n m i : Nat} {T U : List Nat} (hn : s.bods[n]? = some T) (hm : s.bods[m]? = some U) (h : ∀ j, j < i → (vals s.A.data.toList (s.ser T)).getD j 0 = (vals s.A.data.toList (s.ser U)).getD j 0)
    (hd : (vals s.A.data.toList (s.ser T)).getD i 0 ≠ (vals s.A.data.toList (s.ser U)).getD i 0) : n ≠ m ∧ ((vals s.A.data.toList (s.ser T)).getD i 0 < (vals s.A.data.toList (s.ser U)).getD i 0 ↔ n < m) := by
  have hT : T ∈ s.bods := List.mem_of_getElem? hn
  have hU : U ∈ s.bods := List.mem_of_getElem? hm
  have hlT := (bods_len O hT).1
  have hlU := (bods_len O hU).1
  have hiL : i < s.L.toNat := by
    refine Classical.byContradiction fun hc => ?_
    have : T = U := by
      refine eq_of_getD (by rw [hlT, hlU]) ?_
      intro j hj
      rw [hlT] at hj
      have := h j (by omega)
      rw [vals_ser O hT j hj, vals_ser O hU j hj] at this
      exact Int.ofNat.inj this
    rw [this] at hd; exact hd rfl
  have hj2 : ∀ j, j < i → T.getD j 0 = U.getD j 0 := by
    intro j hj
    have := h j hj
    rw [vals_ser O hT j (by omega), vals_ser O hU j (by omega)] at this
    exact Int.ofNat.inj this
  rw [vals_ser O hT i hiL, vals_ser O hU i hiL] at hd ⊢
  have hne : n ≠ m := by
    intro e; subst e
    rw [hn] at hm
    have := Option.some.inj hm
    rw [this] at hd; exact hd rfl
  refine ⟨hne, ?_⟩
  constructor
  · intro hlt
    rcases Nat.lt_or_gt_of_ne hne with h1 | h1
    · exact h1
    · have a1 := nth_lt hm hn h1
      have a2 := wlt_first T U i hj2 (by omega) (by omega) (by omega)
      have := wlt_trans _ _ _ a1 a2
      rw [wlt_irrefl] at this; cases this
  · intro hlt
    have a1 := nth_lt hn hm hlt
    refine Classical.byContradiction fun hc => ?_
    have a2 := wlt_first U T i (fun j hj => (hj2 j hj).symm) (by omega) (by omega) (by omega)
    have := wlt_trans _ _ _ a1 a2
    rw [wlt_irrefl] at this; cases this
end
end Go.Proofs.Yteleehldcpjndaa
