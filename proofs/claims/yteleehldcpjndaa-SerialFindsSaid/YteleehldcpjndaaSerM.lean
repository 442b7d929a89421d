/- Plain laws: which words a counter counts. Condition: the table is that of the automaton. -/
import Derived.Test.YteleehldcpjndaaSerL
namespace Go.Proofs.Yteleehldcpjndaa
open Go Go.RowKit

/-- a mask lets the letters by, from a place on -/
def letsFrom (A mask : ByteArray) : Nat → List Nat → Bool
  | _, [] => true
  | a, v :: p => lets1 A mask a v && letsFrom A mask (a + 1) p

theorem walk_cstep (A mask : ByteArray) (t : Nat → Nat → Option Nat) (sums : Bool) : ∀ (p : List Nat) (a i q : Nat), (sums = false → q = 0) →
    walk (cstep A mask t sums) (a, i, q) p = if letsFrom A mask a p then (walk t i p).map (fun j => (a + p.length, j, if sums then foldAll A.size q p else 0)) else none
  | [], a, i, q, hq => by
    cases sums
    · simp [walk, letsFrom, hq rfl]
    · simp [walk, letsFrom, foldAll]
  | v :: p, a, i, q, hq => by
    simp only [walk, letsFrom, cstep]
    cases ht : t i v with
    | none => simp
    | some j =>
      by_cases hl : lets1 A mask a v = true
      case neg => simp [hl]
      case pos =>
        simp only [hl, if_true, Bool.true_and]
        rw [walk_cstep A mask t sums p (a + 1) j _ (by intro h; simp [h])]
        cases sums
        · simp only [Bool.false_eq_true, if_false, List.length_cons]
          congr 2; funext j'; simp only [Prod.mk.injEq, and_true]; omega
        · simp only [if_true, List.length_cons, foldAll, List.foldl_cons]
          congr 2; funext j'; simp only [Prod.mk.injEq, and_true]; omega

/-- a body's serial matches the mask -/
def fitsM (A mask : ByteArray) (L : Nat) (chk : Bool) (p : List Nat) : Bool :=
  letsFrom A mask 0 p && !(sumsB L chk mask && bt A (check1 A.size (foldAll A.size A.size p)) != bt mask L)

theorem mpaths_eq {A mask : ByteArray} {S B : List Bytes} {L : Nat} {chk : Bool} {t : Nat → Nat → Option Nat} (T : Table A.data.toList S B t) :
    mpaths A mask L t (sumsB L chk mask) L (0, 0, start1 A.size L chk mask) = (bodies A.data.toList B L).filter (fitsM A mask L chk) := by
  have hAl : A.data.toList.length = A.size := by simp
  apply sorted_ext
  · exact paths_sorted _ _ _ _ _
  · exact (bodies_sorted _ _ _).filter _
  intro p
  rw [List.mem_filter, mem_bodies _ _ T.begins.full, hAl]
  unfold mpaths
  rw [mem_paths]
  constructor
  · rintro ⟨h1, h2, s, h3, h4⟩
    rw [walk_cstep _ _ _ _ _ _ _ _ (by intro h; simp [start1, h])] at h3
    split at h3
    · rename_i hl
      cases hw : walk t 0 p with
      | none => rw [hw] at h3; simp at h3
      | some j =>
        rw [hw] at h3
        simp only [Option.map_some, Option.some.injEq] at h3
        subst h3
        refine ⟨⟨h1, h2, (walk_okay_table T p (by rw [hAl]; exact h2)).1 (by rw [hw]; rfl)⟩, ?_⟩
        unfold fitsM
        rw [hl, Bool.true_and]
        unfold cfin at h4
        cases hs : sumsB L chk mask
        · rfl
        · rw [hs] at h4
          simp only [if_true, start1, hs] at h4
          exact h4
    · cases h3
  · rintro ⟨⟨h1, h2, h3⟩, h4⟩
    refine ⟨h1, h2, ?_⟩
    have hw := (walk_okay_table T p (by rw [hAl]; exact h2)).2 h3
    obtain ⟨j, hj⟩ := Option.isSome_iff_exists.1 hw
    unfold fitsM at h4
    rw [Bool.and_eq_true] at h4
    rw [walk_cstep _ _ _ _ _ _ _ _ (by intro h; simp [start1, h]), if_pos h4.1, hj]
    refine ⟨_, rfl, ?_⟩
    unfold cfin
    cases hs : sumsB L chk mask
    · rfl
    · have := h4.2
      rw [hs] at this
      simp only [if_true, start1, hs]
      exact this

/-- the mask that all serials match -/
def anyM (L : Nat) (chk : Bool) : ByteArray := ⟨(List.replicate (sz L chk) 63).toArray⟩

theorem bt_any {L : Nat} {chk : Bool} {i : Nat} (h : i < sz L chk) : bt (anyM L chk) i = 63 := by
  unfold bt anyM
  show (List.replicate (sz L chk) (63 : UInt8)).getD i 0 = 63
  rw [List.getD_eq_getElem?_getD, List.getElem?_replicate, if_pos h]; rfl

theorem any_size (L : Nat) (chk : Bool) : (anyM L chk).size = sz L chk := by
  rw [← size_toList]
  show (List.replicate (sz L chk) (63 : UInt8)).length = _
  simp

theorem sums_any (L : Nat) (chk : Bool) : sumsB L chk (anyM L chk) = false := by
  unfold sumsB
  cases chk
  · rfl
  · rw [bt_any (by simp [sz])]; rfl

theorem letsFrom_any (A : ByteArray) (L : Nat) (chk : Bool) : ∀ (p : List Nat) (a : Nat), a + p.length ≤ sz L chk → letsFrom A (anyM L chk) a p = true
  | [], _, _ => rfl
  | v :: p, a, h => by
    simp only [List.length_cons] at h
    simp only [letsFrom, lets1]
    rw [bt_any (by omega), letsFrom_any A L chk p (a + 1) (by omega)]; rfl

theorem mpaths_any {A : ByteArray} {S B : List Bytes} {L : Nat} {chk : Bool} {t : Nat → Nat → Option Nat} (T : Table A.data.toList S B t) :
    mpaths A (anyM L chk) L t (sumsB L chk (anyM L chk)) L (0, 0, start1 A.size L chk (anyM L chk)) = bodies A.data.toList B L := by
  rw [mpaths_eq T, List.filter_eq_self]
  intro p hp
  have hl := ((mem_bodies _ _ T.begins.full _ _).1 hp).1
  unfold fitsM
  rw [letsFrom_any A L chk p 0 (by unfold sz; omega), sums_any]; rfl

end Go.Proofs.Yteleehldcpjndaa
