/- Plain: without banned strings the words of a length are the numbers' digits, in order. No condition. -/
import Derived.Test.YteleehldcpjndaaLang
namespace Go.Proofs.Yteleehldcpjndaa

/-- the last L digits of a number -/
def digs (m : Nat) : Nat → Nat → List Nat
  | 0, _ => []
  | L + 1, n => (n / m ^ L % m) :: digs m L n

/-- all words of a length -/
def words (m : Nat) : Nat → List (List Nat)
  | 0 => [[]]
  | L + 1 => (List.range m).flatMap fun v => (words m L).map (v :: ·)

theorem bad_nil (u : Bytes) : bad [] u = false := rfl

theorem bodies_words (A : Bytes) : ∀ (L : Nat) (u : Bytes), paths A.length (sstep A []) (fun _ => true) L u = words A.length L
  | 0, u => rfl
  | L + 1, u => by
    unfold paths words
    congr 1
    funext v
    simp only [sstep, bad_nil, Bool.false_eq_true, if_false]
    rw [bodies_words A L]

theorem flat_get {α β : Type} (f : α → List β) (len : Nat) : ∀ (l : List α), (∀ a ∈ l, (f a).length = len) → ∀ (i j : Nat) (hi : i < l.length), j < len → (l.flatMap f)[i * len + j]? = (f l[i])[j]?
  | [], _, _, _, hi, _ => by simp at hi
  | a :: l, h, 0, j, _, hj => by
    rw [List.flatMap_cons, Nat.zero_mul, Nat.zero_add, List.getElem?_append_left (by rw [h a (by simp)]; exact hj)]; rfl
  | a :: l, h, i + 1, j, hi, hj => by
    rw [List.flatMap_cons, List.getElem?_append_right (by rw [h a (by simp), Nat.succ_mul]; omega), h a (by simp)]
    rw [show (i + 1) * len + j - len = i * len + j by rw [Nat.succ_mul]; omega]
    rw [flat_get f len l (fun b hb => h b (by simp [hb])) i j (by simpa using hi) hj]
    rfl

theorem flat_len {α β : Type} (f : α → List β) (len : Nat) : ∀ (l : List α), (∀ a ∈ l, (f a).length = len) → (l.flatMap f).length = l.length * len
  | [], _ => by simp
  | a :: l, h => by
    rw [List.flatMap_cons, List.length_append, h a (by simp), flat_len f len l (fun b hb => h b (by simp [hb])), List.length_cons, Nat.succ_mul]; omega

theorem words_len (m : Nat) : ∀ L, (words m L).length = m ^ L
  | 0 => by simp [words]
  | L + 1 => by
    unfold words
    rw [flat_len _ (m ^ L) _ (fun a _ => by rw [List.length_map, words_len m L]), List.length_range, Nat.pow_succ, Nat.mul_comm]

theorem digs_mod (m : Nat) : ∀ (L M n : Nat), L ≤ M → digs m L (n % m ^ M) = digs m L n
  | 0, _, _, _ => rfl
  | L + 1, M, n, h => by
    unfold digs
    rw [digs_mod m L M n (by omega)]
    congr 1
    obtain ⟨d, rfl⟩ : ∃ d, M = L + 1 + d := ⟨M - (L + 1), by omega⟩
    have e : m ^ (L + 1 + d) = m ^ L * m ^ (1 + d) := by rw [← Nat.pow_add]; congr 1; omega
    rw [e, Nat.mod_mul_right_div_self, Nat.pow_add, Nat.pow_one, Nat.mod_mul_right_mod]

theorem words_get (m : Nat) : ∀ (L n : Nat), n < m ^ L → (words m L)[n]? = some (digs m L n)
  | 0, n, h => by
    have : n = 0 := by simpa using h
    subst this; rfl
  | L + 1, n, h => by
    have hpos : 0 < m ^ L := by
      rcases Nat.eq_zero_or_pos (m ^ L) with h0 | h0
      · rw [Nat.pow_succ, h0] at h; omega
      · exact h0
    have hq : n / m ^ L < m := by
      rw [Nat.div_lt_iff_lt_mul hpos, Nat.mul_comm, ← Nat.pow_succ]; exact h
    have hr := Nat.mod_lt n hpos
    have hn : n / m ^ L * m ^ L + n % m ^ L = n := by rw [Nat.mul_comm]; exact Nat.div_add_mod n (m ^ L)
    unfold words
    have := flat_get (fun v => (words m L).map (v :: ·)) (m ^ L) (List.range m) (fun a _ => by rw [List.length_map, words_len m L]) (n / m ^ L) (n % m ^ L) (by simpa using hq) hr
    rw [hn] at this
    rw [this, List.getElem?_map, words_get m L _ hr, List.getElem_range, digs_mod m L L n (Nat.le_refl _)]
    show some (n / m ^ L :: digs m L n) = some (n / m ^ L % m :: digs m L n)
    rw [Nat.mod_eq_of_lt hq]

theorem bodies_digs (A : Bytes) (L n : Nat) (h : n < A.length ^ L) : (bodies A [] L)[n]? = some (digs A.length L n) := by
  unfold bodies
  rw [bodies_words]; exact words_get _ _ _ h

theorem bodies_count (A : Bytes) (L : Nat) : (bodies A [] L).length = A.length ^ L := by
  unfold bodies
  rw [bodies_words]; exact words_len _ _
end Go.Proofs.Yteleehldcpjndaa
