/- Plain: a check character notices each change of one byte. Condition: the scheme is valid and has a check character. -/
import Derived.Test.YteleehldcpjndaaRefO
import Derived.Test.YteleehldcpjndaaLawOpen
namespace Go.Proofs.Yteleehldcpjndaa
open Go Go.RowKit

theorem mod_small {z m : Nat} (h : z < 2 * (m + 1)) : z % (m + 1) = if z ≤ m then z else z - (m + 1) := by
  split
  · exact Nat.mod_eq_of_lt (by omega)
  · rw [Nat.mod_eq_sub_mod (by omega), Nat.mod_eq_of_lt (by omega)]

/-- a sum in 1 .. m -/
def nx1 (m q v : Nat) : Nat := if q + v ≤ m then q + v else q + v - m

theorem nx1_eq {m q v : Nat} (hq1 : 1 ≤ q) (hq : q ≤ m) (hv : v < m) : (if (q + v) % m = 0 then m else (q + v) % m) = nx1 m q v := by
  unfold nx1
  by_cases h1 : q + v < m
  · rw [Nat.mod_eq_of_lt h1, if_neg (by omega), if_pos (by omega)]
  · by_cases h2 : q + v = m
    · rw [h2, Nat.mod_self, if_pos rfl, if_pos (Nat.le_refl _)]
    · have h3 : (q + v) % m = q + v - m := by rw [Nat.mod_eq_sub_mod (by omega), Nat.mod_eq_of_lt (by omega)]
      rw [h3, if_neg (by omega), if_neg (by omega)]

theorem fold1_form {m q v : Nat} (hq1 : 1 ≤ q) (hq : q ≤ m) (hv : v < m) : fold1 m q v = if 2 * nx1 m q v ≤ m then 2 * nx1 m q v else 2 * nx1 m q v - (m + 1) := by
  unfold fold1
  rw [nx1_eq hq1 hq hv, mod_small]
  unfold nx1
  split <;> omega

theorem fold1_range {m q v : Nat} (he : m % 2 = 0) (hq1 : 1 ≤ q) (hq : q ≤ m) (hv : v < m) : 1 ≤ fold1 m q v ∧ fold1 m q v ≤ m := by
  rw [fold1_form hq1 hq hv]
  unfold nx1
  split <;> split <;> omega

theorem fold1_inj_q {m q q' v : Nat} (he : m % 2 = 0) (hq1 : 1 ≤ q) (hq : q ≤ m) (hq1' : 1 ≤ q') (hq' : q' ≤ m) (hv : v < m) (h : fold1 m q v = fold1 m q' v) : q = q' := by
  rw [fold1_form hq1 hq hv, fold1_form hq1' hq' hv] at h
  unfold nx1 at h
  split at h <;> split at h <;> split at h <;> split at h <;> omega

theorem fold1_inj_v {m q v v' : Nat} (he : m % 2 = 0) (hq1 : 1 ≤ q) (hq : q ≤ m) (hv : v < m) (hv' : v' < m) (h : fold1 m q v = fold1 m q v') : v = v' := by
  rw [fold1_form hq1 hq hv, fold1_form hq1 hq hv'] at h
  unfold nx1 at h
  split at h <;> split at h <;> split at h <;> split at h <;> omega

theorem foldAll_range {m : Nat} (he : m % 2 = 0) : ∀ (l : List Nat) (q : Nat), 1 ≤ q → q ≤ m → (∀ v ∈ l, v < m) → 1 ≤ foldAll m q l ∧ foldAll m q l ≤ m
  | [], q, h1, h2, _ => ⟨h1, h2⟩
  | v :: l, q, h1, h2, hl => by
    have h := fold1_range he h1 h2 (hl v (by simp))
    exact foldAll_range he l _ h.1 h.2 (fun u hu => hl u (by simp [hu]))

theorem foldAll_inj {m : Nat} (he : m % 2 = 0) : ∀ (l : List Nat) (q q' : Nat), 1 ≤ q → q ≤ m → 1 ≤ q' → q' ≤ m → (∀ v ∈ l, v < m) → foldAll m q l = foldAll m q' l → q = q'
  | [], _, _, _, _, _, _, _, h => h
  | v :: l, q, q', h1, h2, h1', h2', hl, h => by
    have hv := hl v (by simp)
    have a := fold1_range he h1 h2 hv
    have b := fold1_range he h1' h2' hv
    have := foldAll_inj he l _ _ a.1 a.2 b.1 b.2 (fun u hu => hl u (by simp [hu])) h
    exact fold1_inj_q he h1 h2 h1' h2' hv this

theorem foldAll_two {m : Nat} (he : m % 2 = 0) : ∀ (l l' : List Nat) (q i : Nat), 1 ≤ q → q ≤ m → (∀ v ∈ l, v < m) → (∀ v ∈ l', v < m) → l.length = l'.length → (∀ j, j ≠ i → l.getD j 0 = l'.getD j 0) → foldAll m q l = foldAll m q l' → l = l'
  | [], [], _, _, _, _, _, _, _, _, _ => rfl
  | [], _ :: _, _, _, _, _, _, _, hl, _, _ => by simp at hl
  | _ :: _, [], _, _, _, _, _, _, hl, _, _ => by simp at hl
  | v :: l, v' :: l', q, i, h1, h2, hv, hv', hl, hj, h => by
    have hvm := hv v (by simp)
    have hvm' := hv' v' (by simp)
    have a := fold1_range he h1 h2 hvm
    have b := fold1_range he h1 h2 hvm'
    match i, hj with
    | 0, hj =>
      have htl : l = l' := by
        apply eq_of_getD (by simpa using hl)
        intro j _
        have := hj (j + 1) (by omega)
        simpa using this
      subst htl
      have := foldAll_inj he l _ _ a.1 a.2 b.1 b.2 (fun u hu => hv u (by simp [hu])) h
      rw [fold1_inj_v he h1 h2 hvm hvm' this]
    | i + 1, hj =>
      have h0 : v = v' := by simpa using hj 0 (by omega)
      subst h0
      have := foldAll_two he l l' _ i a.1 a.2 (fun u hu => hv u (by simp [hu])) (fun u hu => hv' u (by simp [hu])) (by simpa using hl) (fun j hji => by have := hj (j + 1) (by omega); simpa using this) h
      rw [this]

theorem check1_inj {m p p' : Nat} (h1 : 1 ≤ p) (h2 : p ≤ m) (h1' : 1 ≤ p') (h2' : p' ≤ m) (h : check1 m p = check1 m p') : p = p' := by
  have e : ∀ q, 1 ≤ q → q ≤ m → check1 m q = if q = 1 then 0 else m + 1 - q := by
    intro q hq1 hq2
    unfold check1
    split
    · subst_vars; rw [Nat.add_sub_cancel, Nat.mod_self]
    · exact Nat.mod_eq_of_lt (by omega)
  rw [e p h1 h2, e p' h1' h2'] at h
  split at h <;> split at h <;> omega

theorem chg_getD (A x : Bytes) (i v j : Nat) (hi : i < x.length) : (chg A x i v).getD j 0 = if j = i then A.getD v 0 else x.getD j 0 := by
  unfold chg
  simp only [List.getD_eq_getElem?_getD]
  have hl : (x.take i).length = i := by rw [List.length_take]; omega
  by_cases h1 : j < i
  · rw [if_neg (by omega), List.append_assoc, List.getElem?_append_left (by omega), List.getElem?_take_of_lt h1]
  · by_cases h2 : j = i
    · subst h2
      rw [if_pos rfl, List.append_assoc, List.getElem?_append_right (by omega), hl, Nat.sub_self]
      simp
    · rw [if_neg h2, List.append_assoc, List.getElem?_append_right (by omega), hl]
      obtain ⟨d, hd⟩ : ∃ d, j - i = d + 1 := ⟨j - i - 1, by omega⟩
      rw [hd]
      simp only [List.singleton_append, List.getElem?_cons_succ, List.getElem?_drop]
      congr 2
      omega

theorem chg_len (A x : Bytes) (i v : Nat) (hi : i < x.length) : (chg A x i v).length = x.length := by
  unfold chg
  simp only [List.length_append, List.length_take, List.length_drop, List.length_cons, List.length_nil]
  omega

section
variable {s : Sch}

theorem letter_inj (O : s.Ok) {v v' : Nat} (hv : v < s.A.size) (hv' : v' < s.A.size) (h : s.A.data.toList.getD v 0 = s.A.data.toList.getD v' 0) : v = v' := by
  have h1 := alpha_index O.alpha hv
  have h2 := alpha_index O.alpha hv'
  rw [h, h2] at h1
  omega

theorem getD_lt {l : List Nat} {m : Nat} (h : ∀ v ∈ l, v < m) (hm : 0 < m) (i : Nat) : l.getD i 0 < m := by
  rw [List.getD_eq_getElem?_getD]
  by_cases hi : i < l.length
  · rw [List.getElem?_eq_getElem hi]; exact h _ (List.getElem_mem hi)
  · rw [List.getElem?_eq_none (by omega)]; exact hm

/-- two serials that are one but at one place are one -/
theorem ser_apart (O : s.Ok) (hc : s.chk = true) {T U : List Nat} (hT : T ∈ s.bods) (hU : U ∈ s.bods) {i : Nat} (h : ∀ j, j ≠ i → (s.ser U).getD j 0 = (s.ser T).getD j 0) : U = T := by
  obtain ⟨t1, t2, _⟩ := bods_len O hT
  obtain ⟨u1, u2, _⟩ := bods_len O hU
  have hm2 := O.a2
  have he := O.even hc
  have hj : ∀ j, j ≠ i → U.getD j 0 = T.getD j 0 := by
    intro j hji
    by_cases hjL : j < s.L.toNat
    · have h1 := h j hji
      rw [ser_getD O hU j hjL, ser_getD O hT j hjL] at h1
      exact letter_inj O (getD_lt u2 (by omega) j) (getD_lt t2 (by omega) j) h1
    · rw [List.getD_eq_getElem?_getD, List.getD_eq_getElem?_getD, List.getElem?_eq_none (by omega), List.getElem?_eq_none (by omega)]
  by_cases hi : i = s.L.toNat
  · apply eq_of_getD (by omega)
    intro j hjl
    exact hj j (by omega)
  · have h1 := h s.L.toNat (fun e => hi e.symm)
    rw [ser_last O hU hc, ser_last O hT hc] at h1
    have r1 := foldAll_range he T s.A.size (by omega) (Nat.le_refl _) t2
    have r2 := foldAll_range he U s.A.size (by omega) (Nat.le_refl _) u2
    have h2 := letter_inj O (check1_lt s.A.size _ (by omega)) (check1_lt s.A.size _ (by omega)) h1
    have h3 := check1_inj r2.1 r2.2 r1.1 r1.2 h2
    exact foldAll_two he U T s.A.size i (by omega) (Nat.le_refl _) u2 t2 (by omega) hj h3

/-- a changed serial is none -/
theorem chg_none (O : s.Ok) (hc : s.chk = true) {T : List Nat} (hT : T ∈ s.bods) {i v : Nat} (hi : i < (s.ser T).length) (hne : chg s.A.data.toList (s.ser T) i v ≠ s.ser T) : s.serr (chg s.A.data.toList (s.ser T) i v) ≠ 0 := by
  intro h0
  obtain ⟨h1, h2⟩ := ser_of_text O h0
  apply hne
  have h3 : s.word (chg s.A.data.toList (s.ser T) i v) = T := by
    refine ser_apart O hc hT h1 (i := i) ?_
    intro j hji
    rw [h2, chg_getD _ _ _ _ _ hi, if_neg hji]
  rw [← h2, h3]

theorem npart_apart (O : s.Ok) (hc : s.chk = true) {T : List Nat} (hT : T ∈ s.bods) : s.npart (s.ser T) (s.ser T).length 0 = [] := by
  rw [List.eq_nil_iff_forall_not_mem]
  intro u hu
  unfold Sch.npart Sch.nrow at hu
  rw [List.mem_append] at hu
  rcases hu with hu | hu
  · simp only [List.mem_flatMap, List.mem_range, List.mem_filter, List.mem_map] at hu
    obtain ⟨j, hj, ⟨v, hv, rfl⟩, hg⟩ := hu
    unfold Sch.good at hg
    rw [Bool.and_eq_true, decide_eq_true_eq, decide_eq_true_eq] at hg
    exact chg_none O hc hT hj hg.1 hg.2
  · simp at hu

/-- the error of a changed serial -/
theorem chg_err (O : s.Ok) (hc : s.chk = true) {T : List Nat} (hT : T ∈ s.bods) {i v : Nat} (hi : i < (s.ser T).length) (hv : v < s.A.size) (hne : s.A.data.toList.getD v 0 ≠ (s.ser T).getD i 0) :
    s.serr (chg s.A.data.toList (s.ser T) i v) = 21 ∨ s.serr (chg s.A.data.toList (s.ser T) i v) = 22 := by
  have hch : chg s.A.data.toList (s.ser T) i v ≠ s.ser T := by
    intro h
    have h1 := chg_getD s.A.data.toList (s.ser T) i v i hi
    rw [h, if_pos rfl] at h1
    exact hne h1.symm
  have h0 := chg_none O hc hT hi hch
  have hsyn : s.syn (chg s.A.data.toList (s.ser T) i v) = true := by
    rw [syn_iff]
    refine ⟨by rw [chg_len _ _ _ _ hi, ser_len O hT], ?_⟩
    have hof := ser_of O hT
    unfold ofB at *
    rw [List.all_eq_true] at *
    intro c hcm
    unfold chg at hcm
    simp only [List.mem_append, List.mem_singleton] at hcm
    rcases hcm with (h1 | h1) | h1
    · exact hof c (List.mem_of_mem_take h1)
    · rw [h1]; exact getD_mem (by rw [size_toList]; exact hv)
    · exact hof c (List.mem_of_mem_drop h1)
  rw [serr_syn hsyn] at h0 ⊢
  split
  · exact .inl rfl
  · rename_i h1
    rw [if_neg h1] at h0
    split
    · exact .inr rfl
    · rename_i h2
      rw [if_neg h2] at h0
      exact absurd rfl h0
end
end Go.Proofs.Yteleehldcpjndaa
