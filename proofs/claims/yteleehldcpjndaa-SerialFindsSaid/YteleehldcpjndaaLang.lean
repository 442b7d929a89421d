/- Plain lemmas on serials: the automaton of the banned strings, and the strings that it lets. No condition. -/
import Derived.Test.YteleehldcpjndaaAuto
namespace Go.Proofs.Yteleehldcpjndaa

abbrev Bytes := List UInt8

/-- a banned string is an end of the text -/
def bad (B : List Bytes) (u : Bytes) : Bool := B.any fun b => b.isSuffixOf u

/-- no banned string occurs in the text -/
def okay (B : List Bytes) (u : Bytes) : Prop := ∀ b ∈ B, ¬ b <:+: u

theorem bad_iff (B : List Bytes) (u : Bytes) : bad B u = true ↔ ∃ b ∈ B, b <:+ u := by
  simp [bad, List.any_eq_true, List.isSuffixOf_iff_suffix]

theorem bad_false_iff (B : List Bytes) (u : Bytes) : bad B u = false ↔ ∀ b ∈ B, ¬ b <:+ u := by
  rw [← Bool.not_eq_true, bad_iff]; simp

theorem infix_snoc {b u : Bytes} {c : UInt8} : b <:+: (u ++ [c]) ↔ b <:+: u ∨ b <:+ (u ++ [c]) := by
  constructor
  · rintro ⟨s, t, h⟩
    rcases List.eq_nil_or_concat t with rfl | ⟨t', d, rfl⟩
    · right; exact ⟨s, by simpa using h⟩
    · left
      refine ⟨s, t', ?_⟩
      have h' : (s ++ b ++ t') ++ [d] = u ++ [c] := by simpa [List.append_assoc] using h
      exact (List.append_inj' h' rfl).1
  · rintro (h | h)
    · exact h.trans (List.prefix_append u [c]).isInfix
    · exact h.isInfix

theorem okay_snoc (B : List Bytes) (u : Bytes) (c : UInt8) : okay B (u ++ [c]) ↔ okay B u ∧ bad B (u ++ [c]) = false := by
  rw [bad_false_iff]
  constructor
  · intro h
    exact ⟨fun b hb hi => h b hb (infix_snoc.2 (.inl hi)), fun b hb hs => h b hb (infix_snoc.2 (.inr hs))⟩
  · rintro ⟨h1, h2⟩ b hb hi
    rcases infix_snoc.1 hi with h | h
    · exact h1 b hb h
    · exact h2 b hb h

theorem okay_nil (B : List Bytes) (hB : ∀ b ∈ B, b ≠ []) : okay B [] := by
  intro b hb h
  exact hB b hb (List.infix_nil.1 h)

/-- s is the longest end of u that lies in S -/
def Longest (S : List Bytes) (s u : Bytes) : Prop := s ∈ S ∧ s <:+ u ∧ ∀ p ∈ S, p <:+ u → p.length ≤ s.length

/-- the beginnings: with each string that is not empty its beginning without the last byte; of each banned string the like -/
structure Begins (S B : List Bytes) : Prop where
  nil : [] ∈ S
  pre : ∀ p c, p ++ [c] ∈ S → p ∈ S
  ban : ∀ p c, p ++ [c] ∈ B → p ∈ S
  full : ∀ b ∈ B, b ≠ []

theorem suffix_snoc {p u : Bytes} {c d : UInt8} : (p ++ [c]) <:+ (u ++ [d]) ↔ c = d ∧ p <:+ u := by
  constructor
  · rintro ⟨s, h⟩
    have h' : (s ++ p) ++ [c] = u ++ [d] := by simpa [List.append_assoc] using h
    obtain ⟨h1, h2⟩ := List.append_inj' h' rfl
    exact ⟨by simpa using h2, ⟨s, h1⟩⟩
  · rintro ⟨rfl, s, h⟩
    exact ⟨s, by rw [← h]; simp [List.append_assoc]⟩

theorem suffix_both {a b u : Bytes} (h1 : a <:+ u) (h2 : b <:+ u) (h : a.length ≤ b.length) : a <:+ b :=
  List.suffix_of_suffix_length_le h1 h2 h

/-- whether a banned string is an end hangs on the longest end alone -/
theorem bad_longest {S B : List Bytes} (H : Begins S B) {s u : Bytes} (hs : Longest S s u) (c : UInt8) : bad B (s ++ [c]) = bad B (u ++ [c]) := by
  rw [Bool.eq_iff_iff, bad_iff, bad_iff]
  constructor
  · rintro ⟨b, hb, h⟩
    exact ⟨b, hb, h.trans (suffix_snoc.2 ⟨rfl, hs.2.1⟩)⟩
  · rintro ⟨b, hb, h⟩
    refine ⟨b, hb, ?_⟩
    rcases List.eq_nil_or_concat b with rfl | ⟨p, d, rfl⟩
    · exact absurd rfl (H.full _ hb)
    · rw [List.concat_eq_append] at h hb ⊢
      obtain ⟨rfl, h'⟩ := suffix_snoc.1 h
      exact suffix_snoc.2 ⟨rfl, suffix_both h' hs.2.1 (hs.2.2 p (H.ban p _ hb) h')⟩

/-- the longest end behind a byte is the longest end of the longest end and the byte -/
theorem longest_longest {S B : List Bytes} (H : Begins S B) {s u t : Bytes} (hs : Longest S s u) (c : UInt8) (ht : Longest S t (s ++ [c])) : Longest S t (u ++ [c]) := by
  refine ⟨ht.1, ht.2.1.trans (suffix_snoc.2 ⟨rfl, hs.2.1⟩), ?_⟩
  intro p hp h
  apply ht.2.2 p hp
  rcases List.eq_nil_or_concat p with rfl | ⟨q, d, rfl⟩
  · exact List.nil_suffix
  · rw [List.concat_eq_append] at h hp ⊢
    obtain ⟨rfl, h'⟩ := suffix_snoc.1 h
    exact suffix_snoc.2 ⟨rfl, suffix_both h' hs.2.1 (hs.2.2 q (H.pre q _ hp) h')⟩

theorem longest_nil {S B : List Bytes} (H : Begins S B) : Longest S [] [] := by
  refine ⟨H.nil, List.nil_suffix, ?_⟩
  intro p _ h
  have : p = [] := List.suffix_nil.1 h
  simp [this]

/-- the table of an automaton: from state i by the letter v -/
structure Table (A : Bytes) (S B : List Bytes) (nx : Nat → Nat → Option Nat) : Prop where
  begins : Begins S B
  dead : ∀ i v (hi : i < S.length) (hv : v < A.length), nx i v = none → bad B (S[i] ++ [A[v]]) = true
  next : ∀ i v (hi : i < S.length) (hv : v < A.length) j, nx i v = some j → bad B (S[i] ++ [A[v]]) = false ∧ ∃ hj : j < S.length, Longest S S[j] (S[i] ++ [A[v]])
  zero : ∃ h : 0 < S.length, S[0] = []

/-- the letters as bytes -/
def txt (A : Bytes) (p : List Nat) : Bytes := p.map fun v => A.getD v 0

/-- the strings' own automaton: what was read -/
def sstep (A : Bytes) (B : List Bytes) (u : Bytes) (v : Nat) : Option Bytes := if bad B (u ++ [A.getD v 0]) then none else some (u ++ [A.getD v 0])

/-- all allowed bodies, in order -/
def bodies (A : Bytes) (B : List Bytes) (L : Nat) : List (List Nat) := paths A.length (sstep A B) (fun _ => true) L []

theorem walk_sstep (A : Bytes) (B : List Bytes) : ∀ (p : List Nat) (u : Bytes), okay B u → (walk (sstep A B) u p = if bad B u then none else walk (sstep A B) u p) := by
  intro p u h
  have : bad B u = false := by rw [bad_false_iff]; exact fun b hb hs => h b hb hs.isInfix
  simp [this]

theorem walk_okay (A : Bytes) (B : List Bytes) : ∀ (p : List Nat) (u : Bytes), okay B u → ((∃ t, walk (sstep A B) u p = some t) ↔ okay B (u ++ txt A p)) := by
  intro p
  induction p with
  | nil => intro u h; simp [walk, txt, h]
  | cons v p ih =>
    intro u h
    simp only [walk, sstep, txt, List.map_cons]
    by_cases hb : bad B (u ++ [A.getD v 0]) = true
    · simp only [hb, if_true]
      constructor
      · rintro ⟨t, ht⟩; cases ht
      · intro h'
        exfalso
        have h2 : ¬ okay B (u ++ [A.getD v 0]) := fun h3 => by have := ((okay_snoc B u (A.getD v 0)).1 h3).2; rw [hb] at this; cases this
        apply h2
        intro b hb' hi
        exact h' b hb' (hi.trans ⟨[], p.map fun v => A.getD v 0, by simp⟩)
    · have hb : bad B (u ++ [A.getD v 0]) = false := by simpa using hb
      simp only [hb]
      have := ih (u ++ [A.getD v 0]) ((okay_snoc B u _).2 ⟨h, hb⟩)
      simp only [txt, List.append_assoc, List.singleton_append] at this
      simpa using this

theorem walk_txt (A : Bytes) (B : List Bytes) : ∀ (p : List Nat) (u t : Bytes), walk (sstep A B) u p = some t → t = u ++ txt A p := by
  intro p
  induction p with
  | nil => intro u t h; simp [walk] at h; simp [txt, h]
  | cons v p ih =>
    intro u t h
    simp only [walk, sstep] at h
    split at h
    · cases h
    · rename_i s hs
      split at hs
      · cases hs
      · simp at hs; subst hs
        have := ih _ _ h
        rw [this]; simp [txt]

theorem mem_bodies (A : Bytes) (B : List Bytes) (hB : ∀ b ∈ B, b ≠ []) (L : Nat) (p : List Nat) :
    p ∈ bodies A B L ↔ (p.length = L ∧ (∀ v ∈ p, v < A.length) ∧ okay B (txt A p)) := by
  unfold bodies
  rw [mem_paths]
  have := walk_okay A B p [] (okay_nil B hB)
  simp only [List.nil_append] at this
  rw [← this]
  simp

theorem bodies_sorted (A : Bytes) (B : List Bytes) (L : Nat) : (bodies A B L).Pairwise fun x y => wlt x y = true := paths_sorted _ _ _ _ _

end Go.Proofs.Yteleehldcpjndaa
