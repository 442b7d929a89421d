/- Plain laws: the table that build makes is that of the automaton of the banned strings; what a counter counts. Condition: the scheme is well-formed. -/
import Derived.Test.YteleehldcpjndaaSerK
namespace Go.Proofs.Yteleehldcpjndaa
open Go Go.RowKit

theorem numOf_get {S : List Bytes} {u : Bytes} (h : u ∈ S) : ∃ hj : S.idxOf u < S.length, S[S.idxOf u] = u :=
  ⟨List.idxOf_lt_length_of_mem h, List.getElem_idxOf (List.idxOf_lt_length_of_mem h)⟩

theorem firstEnd_spec {S : List Bytes} (h0 : ∃ h : 0 < S.length, S[0] = []) (r : Bytes) : ∀ n, n ≤ r.length → (∀ p ∈ S, p <:+ r → p.length ≤ n) → ∃ j : Nat, firstEnd (numOf S) r n = j ∧ ∃ hj : j < S.length, Longest S S[j] r
  | 0, _, hp => by
    obtain ⟨h, h1⟩ := h0
    refine ⟨0, rfl, h, ?_⟩
    rw [h1]
    refine ⟨h1 ▸ List.getElem_mem h, List.nil_suffix, ?_⟩
    intro p hpS hs
    have := hp p hpS hs
    simpa using this
  | n + 1, hn, hp => by
    simp only [firstEnd]
    by_cases hm : r.drop (r.length - (n + 1)) ∈ S
    · rw [numOf_some hm]
      obtain ⟨hj, hg⟩ := numOf_get hm
      refine ⟨_, rfl, hj, ?_⟩
      rw [hg]
      refine ⟨hm, List.drop_suffix _ _, ?_⟩
      intro p hpS hs
      have := hp p hpS hs
      rw [List.length_drop]; omega
    · rw [numOf_none hm]
      refine firstEnd_spec h0 r n (by omega) ?_
      intro p hpS hs
      have h1 := hp p hpS hs
      by_cases he : p.length = n + 1
      · exfalso
        apply hm
        have : p = r.drop (r.length - p.length) := (List.suffix_iff_eq_drop.1 hs)
        rw [he] at this
        rw [← this]; exact hpS
      · omega

/-- the table as a partial function -/
def tabT (S B : List Bytes) (A : Bytes) (i v : Nat) : Option Nat := if tab S B A i v < 0 then none else some (tab S B A i v).toNat

theorem begs_head (B : List Bytes) : ∃ h : 0 < (begs B).length, (begs B)[0] = [] := by
  have h1 : ∀ (S : List Bytes) u, S <+: preF S u := by intro S u; unfold preF; split; exact List.prefix_rfl; exact List.prefix_append _ _
  have h2 : ∀ (S : List Bytes) b n, S <+: addB S b n := by
    intro S b n
    induction n with
    | zero => exact List.prefix_rfl
    | succ n ih => exact ih.trans (h1 _ _)
  have h3 : ∀ (B : List Bytes) (S : List Bytes), S <+: (B.foldl (fun S b => addB S b b.length) S) := by
    intro B
    induction B with
    | nil => intro S; exact List.prefix_rfl
    | cons b B ih => intro S; exact (h2 _ _ _).trans (ih _)
  obtain ⟨x, hx⟩ := h3 B [[]]
  have : begs B = [] :: x := by unfold begs; rw [← hx]; rfl
  exact ⟨by rw [this]; simp, by simp [this]⟩

theorem begs_begins {B : List Bytes} (hB : ∀ b ∈ B, b ≠ []) : Begins (begs B) B where
  nil := (begs_mem B []).2 (.inl rfl)
  full := hB
  pre p c h := by
    rcases (begs_mem B _).1 h with h | ⟨b, hb, j, hj1, hj2, h⟩
    · simp at h
    · have hl := congrArg List.length h
      rw [List.length_append, List.length_take] at hl
      simp only [List.length_cons, List.length_nil] at hl
      by_cases hj : j = 1
      · have : p = [] := List.length_eq_zero_iff.1 (by omega)
        exact (begs_mem B p).2 (.inl this)
      · refine (begs_mem B p).2 (.inr ⟨b, hb, j - 1, by omega, by omega, ?_⟩)
        have h2 := congrArg (List.take (j - 1)) h
        rw [List.take_append_of_le_length (by omega), List.take_of_length_le (by omega), List.take_take, Nat.min_eq_left (by omega)] at h2
        exact h2
  ban p c h := by
    by_cases hp : p = []
    · exact (begs_mem B p).2 (.inl hp)
    · refine (begs_mem B p).2 (.inr ⟨p ++ [c], h, p.length, ?_, by simp, by simp⟩)
      cases p
      · exact absurd rfl hp
      · simp

theorem tab_table {A : Bytes} {B : List Bytes} (hB : ∀ b ∈ B, b ≠ []) : Table A (begs B) B (tabT (begs B) B A) where
  begins := begs_begins hB
  zero := begs_head B
  dead i v hi hv h := by
    unfold tabT at h
    split at h
    · rename_i hz
      unfold tab longestOf at hz
      rw [List.getD_eq_getElem?_getD, List.getElem?_eq_getElem hi, List.getD_eq_getElem?_getD, List.getElem?_eq_getElem hv] at hz
      simp only [Option.getD_some] at hz
      split at hz
      · assumption
      · obtain ⟨j, hj, _⟩ := firstEnd_spec (begs_head B) ((begs B)[i] ++ [A[v]]) _ (Nat.le_refl _) (fun p _ hs => hs.length_le)
        rw [hj] at hz; omega
    · cases h
  next i v hi hv j h := by
    unfold tabT at h
    split at h
    · cases h
    · rename_i hz
      simp only [Option.some.injEq] at h
      unfold tab longestOf at hz h
      rw [List.getD_eq_getElem?_getD, List.getElem?_eq_getElem hi, List.getD_eq_getElem?_getD, List.getElem?_eq_getElem hv] at hz h
      simp only [Option.getD_some] at hz h
      cases hb : bad B ((begs B)[i] ++ [A[v]])
      · rw [hb] at h hz
        obtain ⟨j', hj', hl⟩ := firstEnd_spec (begs_head B) ((begs B)[i] ++ [A[v]]) _ (Nat.le_refl _) (fun p _ hs => hs.length_le)
        simp only [Bool.false_eq_true, if_false] at h
        rw [hj'] at h
        simp only [Int.toNat_natCast] at h
        subst h
        exact ⟨rfl, hl⟩
      · rw [hb] at hz; simp at hz

theorem tab_neg {A : Bytes} {B : List Bytes} {i v : Nat} (h : tab (begs B) B A i v < 0) : tab (begs B) B A i v = -1 := by
  unfold tab longestOf at *
  split at h
  · rename_i hb; rw [if_pos hb]
  · obtain ⟨j, hj, _⟩ := firstEnd_spec (begs_head B) ((begs B).getD i [] ++ [A.getD v 0]) _ (Nat.le_refl _) (fun p _ hs => hs.length_le)
    rw [hj] at h; omega

/-- the table in memory -/
theorem nxis_of {g : Int × Int → Option Int} {A : ByteArray} {B : List Bytes} (hB : ∀ b ∈ B, b ≠ []) (hg : ∀ i v : Nat, i < (begs B).length → v < A.size → g ((i : Int), (v : Int)) = some (tab (begs B) B A.data.toList i v)) :
    NxIs g (begs B).length A.size (tabT (begs B) B A.data.toList) := by
  intro i v hi hv
  have hl : A.data.toList.length = A.size := by simp
  have hj : ∀ j, tabT (begs B) B A.data.toList i v = some j → j < (begs B).length := fun j h => ((tab_table hB).next i v hi (by omega) j h).2.1
  refine ⟨?_, hj⟩
  rw [hg i v hi hv]
  unfold tabT
  by_cases hz : tab (begs B) B A.data.toList i v < 0
  · rw [if_pos hz, tab_neg hz]
  · rw [if_neg hz]; simp only; congr 1; omega

/-- a word is walked through by the table as the strings' own automaton walks -/
theorem walk_table {A : Bytes} {S B : List Bytes} {t : Nat → Nat → Option Nat} (T : Table A S B t) : ∀ (p : List Nat) (i : Nat) (u : Bytes), (∀ v ∈ p, v < A.length) → (hi : i < S.length) → Longest S S[i] u → ((walk t i p).isSome = (walk (sstep A B) u p).isSome)
  | [], i, u, _, _, _ => rfl
  | v :: p, i, u, hp, hi, hl => by
    have hv : v < A.length := hp v (by simp)
    have hbl := bad_longest T.begins hl A[v]
    have hgd : A.getD v 0 = A[v] := by rw [List.getD_eq_getElem?_getD, List.getElem?_eq_getElem hv]; rfl
    simp only [walk, sstep, hgd]
    cases ht : t i v with
    | none =>
      have := T.dead i v hi hv ht
      rw [hbl] at this
      rw [this]; rfl
    | some j =>
      obtain ⟨h1, hj, h2⟩ := T.next i v hi hv j ht
      rw [hbl] at h1
      rw [h1]
      simp only [Bool.false_eq_true, if_false]
      exact walk_table T p j (u ++ [A[v]]) (fun w hw => hp w (by simp [hw])) hj (longest_longest T.begins hl _ h2)

theorem walk_okay_table {A : Bytes} {S B : List Bytes} {t : Nat → Nat → Option Nat} (T : Table A S B t) (p : List Nat) (hp : ∀ v ∈ p, v < A.length) : (walk t 0 p).isSome = true ↔ okay B (txt A p) := by
  obtain ⟨h0, hz⟩ := T.zero
  rw [walk_table T p 0 [] hp h0 (by rw [hz]; exact longest_nil T.begins)]
  have := walk_okay A B p [] (okay_nil B T.begins.full)
  rw [List.nil_append] at this
  rw [← this, Option.isSome_iff_exists]

end Go.Proofs.Yteleehldcpjndaa
