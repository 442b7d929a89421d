/- Plain: all words of a length, grown at their ends; the bodies among them. Condition: the scheme is valid. -/
import Derived.Test.YteleehldcpjndaaDigits
import Derived.Test.YteleehldcpjndaaRTab
namespace Go.Proofs.Yteleehldcpjndaa
open Go Go.RowKit

theorem words_snoc (m : Nat) : ∀ L, words m (L + 1) = (words m L).flatMap fun u => (List.range m).map fun c => u ++ [c]
  | 0 => by
    simp only [words, List.map_cons, List.map_nil, List.flatMap_cons, List.flatMap_nil, List.append_nil, List.nil_append]
    induction m with
    | zero => rfl
    | succ m ih => rw [List.range_succ, List.flatMap_append, List.map_append, ih]; rfl
  | L + 1 => by
    show (List.range m).flatMap (fun v => (words m (L + 1)).map (v :: ·)) = ((List.range m).flatMap fun v => (words m L).map (v :: ·)).flatMap _
    rw [words_snoc m L, List.flatMap_assoc]
    congr 1
    funext v
    rw [List.flatMap_map, List.map_flatMap]
    congr 1
    funext u
    rw [List.map_map]
    rfl

/-- the grown words while they are written down -/
def wpart (m : Nat) (W : List (List Nat)) (k c : Nat) : List (List Nat) := ((W.take k).flatMap fun u => (List.range m).map fun c => u ++ [c]) ++ (List.range c).map fun c => W.getD k [] ++ [c]

theorem wpart_zero (m : Nat) (W : List (List Nat)) : wpart m W 0 0 = [] := rfl

theorem wpart_succ (m : Nat) (W : List (List Nat)) (k c : Nat) : wpart m W k (c + 1) = wpart m W k c ++ [W.getD k [] ++ [c]] := by
  unfold wpart
  rw [List.range_succ, List.map_append, List.append_assoc]; rfl

theorem wpart_next (m : Nat) (W : List (List Nat)) {k : Nat} (h : k < W.length) : wpart m W k m = wpart m W (k + 1) 0 := by
  unfold wpart
  rw [List.take_succ_eq_append_getElem h, List.flatMap_append, List.getD_eq_getElem?_getD, List.getElem?_eq_getElem h]
  simp

theorem wpart_all (m : Nat) (W : List (List Nat)) : wpart m W W.length 0 = W.flatMap fun u => (List.range m).map fun c => u ++ [c] := by
  unfold wpart
  rw [List.take_length]
  simp

theorem wpart_len (m : Nat) (W : List (List Nat)) (k c : Nat) (hk : k ≤ W.length) : (wpart m W k c).length = k * m + c := by
  unfold wpart
  rw [List.length_append, flat_len _ m _ (fun a _ => by simp), List.length_take, Nat.min_eq_left hk]
  simp

theorem wpart_lt (m : Nat) (W : List (List Nat)) {k c : Nat} (hk : k < W.length) (hc : c < m) : (wpart m W k c).length + 1 ≤ W.length * m := by
  rw [wpart_len m W k c (by omega)]
  have h1 : (k + 1) * m ≤ W.length * m := Nat.mul_le_mul_right _ hk
  rw [Nat.succ_mul] at h1
  omega

theorem mem_words (A : Bytes) (L : Nat) (p : List Nat) : p ∈ words A.length L ↔ p.length = L ∧ ∀ v ∈ p, v < A.length := by
  have h1 := mem_bodies A [] (fun b hb => by simp at hb) L p
  unfold bodies at h1
  rw [bodies_words] at h1
  rw [h1]
  constructor
  · rintro ⟨h2, h3, _⟩; exact ⟨h2, h3⟩
  · rintro ⟨h2, h3⟩; exact ⟨h2, h3, fun b hb => by simp at hb⟩

theorem words_sorted (A : Bytes) (L : Nat) : (words A.length L).Pairwise fun x y => wlt x y = true := by
  have h1 := bodies_sorted A [] L
  unfold bodies at h1
  rwa [bodies_words] at h1

section
variable {s : Sch}

/-- whether a word is allowed -/
def Sch.okw (s : Sch) (p : List Nat) : Bool := (walk s.tt 0 p).isSome

theorem okw_iff (W : s.Wf) {p : List Nat} (hp : ∀ v ∈ p, v < s.A.size) : s.okw p = true ↔ okay s.B (txt s.A.data.toList p) :=
  walk_okay_table W.table p (by rw [size_toList]; exact hp)

theorem bods_words (W : s.Wf) : s.bods = (words s.A.size s.L.toNat).filter s.okw := by
  have hw : words s.A.size s.L.toNat = words s.A.data.toList.length s.L.toNat := by rw [size_toList]
  rw [hw]
  refine sorted_ext _ _ (bodies_sorted _ _ _) ((words_sorted s.A.data.toList s.L.toNat).filter _) ?_
  intro p
  rw [List.mem_filter, mem_words]
  have h1 := mem_bodies s.A.data.toList s.B W.nonempty s.L.toNat p
  show p ∈ bodies _ _ _ ↔ _
  rw [h1, size_toList]
  constructor
  · rintro ⟨h2, h3, h4⟩
    exact ⟨⟨h2, h3⟩, (okw_iff W h3).2 h4⟩
  · rintro ⟨⟨h2, h3⟩, h4⟩
    exact ⟨h2, h3, (okw_iff W h3).1 h4⟩

/-- the serials of the first words -/
def Sch.outs (s : Sch) (i : Nat) : List Bytes := (((words s.A.size s.L.toNat).take i).filter s.okw).map s.ser

theorem outs_no {i : Nat} (h : i < (words s.A.size s.L.toNat).length) (hn : s.okw ((words s.A.size s.L.toNat).getD i []) = false) : s.outs (i + 1) = s.outs i := by
  unfold Sch.outs
  rw [List.take_succ_eq_append_getElem h, List.filter_append, List.map_append]
  rw [List.getD_eq_getElem?_getD, List.getElem?_eq_getElem h, Option.getD_some] at hn
  simp [hn]

theorem outs_ok {i : Nat} (h : i < (words s.A.size s.L.toNat).length) (hn : s.okw ((words s.A.size s.L.toNat).getD i []) = true) : s.outs (i + 1) = s.outs i ++ [s.ser ((words s.A.size s.L.toNat).getD i [])] := by
  unfold Sch.outs
  rw [List.take_succ_eq_append_getElem h, List.filter_append, List.map_append]
  rw [List.getD_eq_getElem?_getD, List.getElem?_eq_getElem h, Option.getD_some] at hn ⊢
  simp [hn]

theorem outs_all (W : s.Wf) : s.outs (words s.A.size s.L.toNat).length = s.bods.map s.ser := by
  unfold Sch.outs
  rw [List.take_length, ← bods_words W]

theorem outs_len (s : Sch) (i : Nat) : (s.outs i).length ≤ i := by
  unfold Sch.outs
  rw [List.length_map]
  refine Nat.le_trans (List.length_filter_le _ _) ?_
  rw [List.length_take]; exact Nat.min_le_left _ _

theorem word_mem {i : Nat} (h : i < (words s.A.size s.L.toNat).length) : ((words s.A.size s.L.toNat).getD i []).length = s.L.toNat ∧ ∀ v ∈ (words s.A.size s.L.toNat).getD i [], v < s.A.size := by
  have h1 : (words s.A.size s.L.toNat).getD i [] ∈ words s.A.data.toList.length s.L.toNat := by
    rw [size_toList, List.getD_eq_getElem?_getD, List.getElem?_eq_getElem h]
    exact List.getElem_mem h
  have := (mem_words _ _ _).1 h1
  rwa [size_toList] at this
end
end Go.Proofs.Yteleehldcpjndaa
