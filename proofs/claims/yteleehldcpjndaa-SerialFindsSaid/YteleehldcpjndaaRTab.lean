/- Plain: the reference's rows are the automaton of the banned strings. Condition: no banned string is empty. -/
import Derived.Test.YteleehldcpjndaaLawC
namespace Go.Proofs.Yteleehldcpjndaa
open Go Go.RowKit

/-- the proper beginnings of banned strings -/
def rbegs (B : List Bytes) : List Bytes := B.foldl (fun S b => addB S b (b.length - 1)) [[]]

theorem rbegs_snoc (B : List Bytes) (k : Nat) (h : k < B.length) : rbegs (B.take (k + 1)) = addB (rbegs (B.take k)) (B.getD k []) ((B.getD k []).length - 1) := by
  unfold rbegs
  rw [List.take_succ_eq_append_getElem h, List.foldl_append, List.getD_eq_getElem?_getD, List.getElem?_eq_getElem h]
  rfl

theorem rbegs_mem (B : List Bytes) (x : Bytes) : x ∈ rbegs B ↔ x = [] ∨ ∃ b ∈ B, ∃ j, 1 ≤ j ∧ j ≤ b.length - 1 ∧ x = b.take j := by
  have h : ∀ (B : List Bytes) (S : List Bytes), x ∈ B.foldl (fun S b => addB S b (b.length - 1)) S ↔ x ∈ S ∨ ∃ b ∈ B, ∃ j, 1 ≤ j ∧ j ≤ b.length - 1 ∧ x = b.take j := by
    intro B
    induction B with
    | nil => intro S; simp
    | cons b B ih =>
      intro S
      rw [List.foldl_cons, ih, addB_mem]
      constructor
      · rintro ((h | ⟨j, h⟩) | ⟨b', hb', h⟩)
        · exact .inl h
        · exact .inr ⟨b, by simp, j, h⟩
        · exact .inr ⟨b', by simp [hb'], h⟩
      · rintro (h | ⟨b', hb', h⟩)
        · exact .inl (.inl h)
        · rcases List.mem_cons.1 hb' with rfl | hb'
          · obtain ⟨j, h⟩ := h
            exact .inl (.inr ⟨j, h⟩)
          · exact .inr ⟨b', hb', h⟩
  have := h B [[]]
  simpa [rbegs] using this

theorem rbegs_head (B : List Bytes) : ∃ h : 0 < (rbegs B).length, (rbegs B)[0] = [] := by
  have h1 : ∀ (S : List Bytes) u, S <+: preF S u := by intro S u; unfold preF; split; exact List.prefix_rfl; exact List.prefix_append _ _
  have h2 : ∀ (S : List Bytes) b n, S <+: addB S b n := by
    intro S b n
    induction n with
    | zero => exact List.prefix_rfl
    | succ n ih => exact ih.trans (h1 _ _)
  have h3 : ∀ (B : List Bytes) (S : List Bytes), S <+: (B.foldl (fun S b => addB S b (b.length - 1)) S) := by
    intro B
    induction B with
    | nil => intro S; exact List.prefix_rfl
    | cons b B ih => intro S; exact (h2 _ _ _).trans (ih _)
  obtain ⟨x, hx⟩ := h3 B [[]]
  have : rbegs B = [] :: x := by unfold rbegs; rw [← hx]; rfl
  exact ⟨by rw [this]; simp, by simp [this]⟩

theorem rbegs_begins {B : List Bytes} (hB : ∀ b ∈ B, b ≠ []) : Begins (rbegs B) B where
  nil := (rbegs_mem B []).2 (.inl rfl)
  full := hB
  pre p c h := by
    rcases (rbegs_mem B _).1 h with h | ⟨b, hb, j, hj1, hj2, h⟩
    · simp at h
    · have hl := congrArg List.length h
      rw [List.length_append, List.length_take] at hl
      simp only [List.length_cons, List.length_nil] at hl
      by_cases hj : j = 1
      · have : p = [] := List.length_eq_zero_iff.1 (by omega)
        exact (rbegs_mem B p).2 (.inl this)
      · refine (rbegs_mem B p).2 (.inr ⟨b, hb, j - 1, by omega, by omega, ?_⟩)
        have h2 := congrArg (List.take (j - 1)) h
        rw [List.take_append_of_le_length (by omega), List.take_of_length_le (by omega), List.take_take, Nat.min_eq_left (by omega)] at h2
        exact h2
  ban p c h := by
    by_cases hp : p = []
    · exact (rbegs_mem B p).2 (.inl hp)
    · refine (rbegs_mem B p).2 (.inr ⟨p ++ [c], h, p.length, ?_, by simp, by simp⟩)
      cases p
      · exact absurd rfl hp
      · simp

/-- the rows of any such list of beginnings -/
theorem table_of {A : Bytes} {S B : List Bytes} (H : Begins S B) (h0 : ∃ h : 0 < S.length, S[0] = []) : Table A S B (tabT S B A) where
  begins := H
  zero := h0
  dead i v hi hv h := by
    unfold tabT at h
    split at h
    · rename_i hz
      unfold tab longestOf at hz
      rw [List.getD_eq_getElem?_getD, List.getElem?_eq_getElem hi, List.getD_eq_getElem?_getD, List.getElem?_eq_getElem hv] at hz
      simp only [Option.getD_some] at hz
      split at hz
      · assumption
      · obtain ⟨j, hj, _⟩ := firstEnd_spec h0 (S[i] ++ [A[v]]) _ (Nat.le_refl _) (fun p _ hs => hs.length_le)
        rw [hj] at hz; omega
    · cases h
  next i v hi hv j h := by
    unfold tabT at h
    split at h
    · cases h
    · rename_i hz
      simp only [Option.some.injEq] at h
      unfold tab longestOf at hz h
      rw [List.getD_eq_getElem?_getD, List.getElem?_eq_getElem hi, List.getD_eq_getElem?_getD, List.getElem?_eq_getElem hv] at hz h
      simp only [Option.getD_some] at hz h
      cases hb : bad B (S[i] ++ [A[v]])
      · rw [hb] at h hz
        obtain ⟨j', hj', hl⟩ := firstEnd_spec h0 (S[i] ++ [A[v]]) _ (Nat.le_refl _) (fun p _ hs => hs.length_le)
        simp only [Bool.false_eq_true, if_false] at h
        rw [hj'] at h
        simp only [Int.toNat_natCast] at h
        subst h
        exact ⟨rfl, hl⟩
      · rw [hb] at hz; simp at hz

/-- an entry of the rows: a beginning's number, or -1 -/
theorem tab_cases {A : Bytes} {S B : List Bytes} (h0 : ∃ h : 0 < S.length, S[0] = []) (i v : Nat) : tab S B A i v = -1 ∨ ∃ j : Nat, j < S.length ∧ tab S B A i v = j := by
  unfold tab longestOf
  split
  · exact .inl rfl
  · obtain ⟨j, hj, hl, _⟩ := firstEnd_spec h0 (S.getD i [] ++ [A.getD v 0]) _ (Nat.le_refl _) (fun p _ hs => hs.length_le)
    exact .inr ⟨j, hl, hj⟩

/-- from a state of the rows the same words are let as behind the text that it stands for -/
theorem paths_table {A : Bytes} {S B : List Bytes} {t : Nat → Nat → Option Nat} (T : Table A S B t) (n i : Nat) (u : Bytes) (hi : i < S.length) (hl : Longest S S[i] u) :
    paths A.length t (fun _ => true) n i = paths A.length (sstep A B) (fun _ => true) n u := by
  refine paths_bisim _ _ _ _ _ (fun _ i u => ∃ hi : i < S.length, Longest S S[i] u) (fun _ _ _ => rfl) ?_ n i u ⟨hi, hl⟩
  rintro _ i u v hv ⟨hi, hl⟩
  have hbl := bad_longest T.begins hl A[v]
  have hgd : A.getD v 0 = A[v] := by rw [List.getD_eq_getElem?_getD, List.getElem?_eq_getElem hv]; rfl
  simp only [sstep, hgd]
  cases ht : t i v with
  | none =>
    have := T.dead i v hi hv ht
    rw [hbl] at this
    rw [this]; trivial
  | some j =>
    obtain ⟨h1, hj, h2⟩ := T.next i v hi hv j ht
    rw [hbl] at h1
    rw [h1]
    exact ⟨hj, longest_longest T.begins hl _ h2⟩

theorem paths_bodies {A : Bytes} {S B : List Bytes} {t : Nat → Nat → Option Nat} (T : Table A S B t) (L : Nat) : paths A.length t (fun _ => true) L 0 = bodies A B L := by
  obtain ⟨h0, hz⟩ := T.zero
  exact paths_table T L 0 [] h0 (by rw [hz]; exact longest_nil T.begins)

section
variable (s : Sch)

/-- the reference's beginnings, rows and counts -/
def Sch.S (s : Sch) : List Bytes := rbegs s.B
def Sch.rt (s : Sch) : Nat → Nat → Option Nat := tabT s.S s.B s.A.data.toList
def Sch.rx (s : Sch) (i v : Nat) : Int := tab s.S s.B s.A.data.toList i v
def Sch.rw_ (s : Sch) (n i : Nat) : Nat := cnt s.A.size s.rt (fun _ => true) capM n i
/-- the words that are let from a state -/
def Sch.rp (s : Sch) (n i : Nat) : List (List Nat) := paths s.A.size s.rt (fun _ => true) n i

theorem Sch.rw_eq (n i : Nat) : s.rw_ n i = min (s.rp n i).length capM := cnt_eq _ _ _ _ (by decide) _ _

theorem Sch.rw_le (n i : Nat) : s.rw_ n i ≤ capM := by rw [s.rw_eq]; exact Nat.min_le_right _ _

variable {s : Sch}

theorem Sch.Wf.rtable (W : s.Wf) : Table s.A.data.toList s.S s.B s.rt := table_of (rbegs_begins W.nonempty) (rbegs_head _)

theorem Sch.Wf.rp_bods (W : s.Wf) : s.rp s.L.toNat 0 = s.bods := by
  unfold Sch.rp
  have := paths_bodies W.rtable s.L.toNat
  rw [size_toList] at this
  exact this

theorem Sch.Wf.rw_bods (W : s.Wf) : s.rw_ s.L.toNat 0 = min s.bods.length capM := by rw [s.rw_eq, W.rp_bods]

theorem Sch.rx_cases (i v : Nat) : s.rx i v = -1 ∨ ∃ j : Nat, j < s.S.length ∧ s.rx i v = j := tab_cases (rbegs_head _) i v

theorem Sch.rt_none {i v : Nat} (h : s.rx i v < 0) : s.rt i v = none := by
  unfold Sch.rt tabT
  unfold Sch.rx at h
  rw [if_pos h]
theorem Sch.rt_some {i v j : Nat} (h : s.rx i v = j) : s.rt i v = some j := by
  unfold Sch.rt tabT
  unfold Sch.rx at h
  rw [if_neg (by omega), h]; rfl

/-- a count while it is made: the first v letters -/
def Sch.rpart (s : Sch) (n i v : Nat) : Nat := (List.range v).foldl (fun tot v => match s.rt i v with
  | none => tot
  | some t => min (tot + s.rw_ n t) capM) 0

theorem Sch.rpart_succ (n i v : Nat) : s.rpart n i (v + 1) = match s.rt i v with
  | none => s.rpart n i v
  | some t => min (s.rpart n i v + s.rw_ n t) capM := by
  unfold Sch.rpart
  rw [List.range_succ, List.foldl_append]; rfl

theorem Sch.rpart_all (n i : Nat) : s.rpart n i s.A.size = s.rw_ (n + 1) i := by
  unfold Sch.rpart Sch.rw_
  rw [cnt]
  congr 1
  funext tot v
  cases s.rt i v <;> rfl

theorem Sch.rpart_le (n i : Nat) : ∀ v, s.rpart n i v ≤ capM
  | 0 => Nat.zero_le _
  | v + 1 => by
    rw [Sch.rpart_succ]
    cases s.rt i v with
    | none => exact Sch.rpart_le n i v
    | some t => exact Nat.min_le_right _ _
end
end Go.Proofs.Yteleehldcpjndaa
