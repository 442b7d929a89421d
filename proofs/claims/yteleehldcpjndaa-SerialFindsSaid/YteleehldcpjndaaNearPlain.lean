/- Plain: what Near has found, sorted. Condition: the scheme is valid, the text has a serial's length and the alphabet's bytes. -/
import Derived.Test.YteleehldcpjndaaValGrow
import Derived.Test.YteleehldcpjndaaCheck1
namespace Go.Proofs.Yteleehldcpjndaa
open Go Go.RowKit

/-! ### the order of lists -/

theorem cmpI_lt (x y : Int) : Lib.compareInt x y < 0 ↔ x < y := by unfold Lib.compareInt; split <;> (try split) <;> omega
theorem cmpI_gt (x y : Int) : 0 < Lib.compareInt x y ↔ y < x := by unfold Lib.compareInt; split <;> (try split) <;> omega
theorem cmpI_eq (x y : Int) : Lib.compareInt x y = 0 ↔ x = y := by unfold Lib.compareInt; split <;> (try split) <;> omega

theorem cmpL_self : ∀ x, cmpL x x = 0
  | [] => rfl
  | a :: x => by rw [cmpL, if_pos ((cmpI_eq a a).2 rfl), cmpL_self x]

theorem cmpL_zero : ∀ x y, cmpL x y = 0 → x = y
  | [], [], _ => rfl
  | [], _ :: _, h => by simp [cmpL] at h
  | _ :: _, [], h => by simp [cmpL] at h
  | a :: x, b :: y, h => by
    rw [cmpL] at h
    split at h
    · rename_i h0
      rw [(cmpI_eq a b).1 h0, cmpL_zero x y h]
    · rename_i h0; exact absurd h h0

theorem cmpL_lt_iff (a b : Int) (x y : List Int) : cmpL (a :: x) (b :: y) < 0 ↔ a < b ∨ (a = b ∧ cmpL x y < 0) := by
  rw [cmpL]
  split
  · rename_i h0
    have := (cmpI_eq a b).1 h0
    constructor
    · intro h; exact .inr ⟨this, h⟩
    · rintro (h | ⟨_, h⟩)
      · omega
      · exact h
  · rename_i h0
    have h1 : a ≠ b := fun e => h0 ((cmpI_eq a b).2 e)
    rw [cmpI_lt]
    constructor
    · intro h; exact .inl h
    · rintro (h | ⟨h, _⟩)
      · exact h
      · exact absurd h h1

theorem cmpL_tri : ∀ x y, cmpL x y < 0 ∨ x = y ∨ cmpL y x < 0
  | [], [] => .inr (.inl rfl)
  | [], _ :: _ => .inl (by simp [cmpL])
  | _ :: _, [] => .inr (.inr (by simp [cmpL]))
  | a :: x, b :: y => by
    rw [cmpL_lt_iff, cmpL_lt_iff]
    rcases (show a < b ∨ a = b ∨ b < a by omega) with h | rfl | h
    · exact .inl (.inl h)
    · rcases cmpL_tri x y with h | rfl | h
      · exact .inl (.inr ⟨rfl, h⟩)
      · exact .inr (.inl rfl)
      · exact .inr (.inr (.inr ⟨rfl, h⟩))
    · exact .inr (.inr (.inl h))

theorem cmpL_trans : ∀ x y z, cmpL x y < 0 → cmpL y z < 0 → cmpL x z < 0
  | [], [], _, h, _ => by simp [cmpL] at h
  | [], _ :: _, [], _, h => by simp [cmpL] at h
  | [], _ :: _, _ :: _, _, _ => by simp [cmpL]
  | _ :: _, [], _, h, _ => by simp [cmpL] at h
  | _ :: _, _ :: _, [], _, h => by simp [cmpL] at h
  | a :: x, b :: y, c :: z, h1, h2 => by
    rw [cmpL_lt_iff] at *
    rcases h1 with h1 | ⟨rfl, h1⟩ <;> rcases h2 with h2 | ⟨rfl, h2⟩
    · left; omega
    · left; exact h1
    · left; exact h2
    · right; exact ⟨rfl, cmpL_trans x y z h1 h2⟩

theorem cmpL_asym (x y : List Int) (h1 : cmpL x y < 0) (h2 : cmpL y x < 0) : False := by
  have := cmpL_trans x y x h1 h2
  rw [cmpL_self] at this; omega

theorem cmpL_words : ∀ (T U : List Nat) (r r' : List Int), T.length = U.length → (cmpL (T.map Int.ofNat ++ r) (U.map Int.ofNat ++ r') < 0 ↔ wlt T U = true ∨ (T = U ∧ cmpL r r' < 0))
  | [], [], r, r', _ => by simp [wlt]
  | [], _ :: _, _, _, h => by simp at h
  | _ :: _, [], _, _, h => by simp at h
  | a :: T, b :: U, r, r', h => by
    have ih := cmpL_words T U r r' (by simpa using h)
    simp only [List.map_cons, List.cons_append]
    rw [cmpL_lt_iff, ih]
    simp only [wlt, Bool.or_eq_true, decide_eq_true_eq, Bool.and_eq_true, beq_iff_eq, List.cons.injEq]
    constructor
    · rintro (h1 | ⟨h1, h2 | ⟨rfl, h2⟩⟩)
      · exact .inl (.inl (by simp at h1; omega))
      · exact .inl (.inr ⟨Int.ofNat.inj h1, h2⟩)
      · exact .inr ⟨⟨Int.ofNat.inj h1, rfl⟩, h2⟩
    · rintro ((h1 | ⟨h1, h2⟩) | ⟨⟨h1, rfl⟩, h2⟩)
      · exact .inl (by simp; omega)
      · exact .inr ⟨by rw [h1], .inl h2⟩
      · exact .inr ⟨by rw [h1], .inr ⟨rfl, h2⟩⟩

/-! ### strings of an alphabet -/

abbrev Str (A : Bytes) := { x : Bytes // x.length ≤ 1000 ∧ ofB x A = true }

instance (A : Bytes) : Inhabited (Str A) := ⟨⟨[], by simp, rfl⟩⟩

def cfS (A : Bytes) (x y : Str A) : Int := cmpL (vals A x.1) (vals A y.1)

theorem vals_inj {A x y : Bytes} (hx : ofB x A = true) (hy : ofB y A = true) (h : vals A x = vals A y) : x = y := by
  have h1 : idxs A x = idxs A y := by
    have e : ∀ z : Bytes, idxs A z = (vals A z).map Int.toNat := by
      intro z
      unfold idxs vals
      rw [List.map_map]; rfl
    rw [e, e, h]
  rw [← txt_idxs hx, ← txt_idxs hy, h1]

theorem lt_cfS {A : Bytes} (x y : Str A) : ltOf (cfS A) x y = true ↔ cmpL (vals A x.1) (vals A y.1) < 0 := by
  unfold ltOf cfS
  rw [decide_eq_true_eq]

theorem lt_cfS_false {A : Bytes} (x y : Str A) : ltOf (cfS A) x y = false ↔ ¬ cmpL (vals A x.1) (vals A y.1) < 0 := by
  unfold ltOf cfS
  rw [decide_eq_false_iff_not]

theorem swoS (A : Bytes) : Go.Sort.SWO (ltOf (cfS A)) where
  irrefl x := by rw [lt_cfS_false, cmpL_self]; omega
  trans x y z h1 h2 := by
    rw [lt_cfS] at *
    exact cmpL_trans _ _ _ h1 h2
  ntrans x y z h1 h2 := by
    rw [lt_cfS_false] at *
    intro h3
    rcases cmpL_tri (vals A y.1) (vals A x.1) with h | h | h
    · exact h2 (cmpL_trans _ _ _ h h3)
    · rw [h] at h2; exact h2 h3
    · exact h1 h

theorem totS (A : Bytes) (x y : Str A) (h1 : ltOf (cfS A) x y = false) (h2 : ltOf (cfS A) y x = false) : x = y := by
  rw [lt_cfS_false] at *
  rcases cmpL_tri (vals A x.1) (vals A y.1) with h | h | h
  · exact absurd h h1
  · exact Subtype.ext (vals_inj x.2.2 y.2.2 h)
  · exact absurd h h2

/-! ### what Near finds -/

/-- at how many places two texts differ -/
def apartN (u x : Bytes) : Nat := ((List.range u.length).filter fun i => u.getD i 0 != x.getD i 0).length

section
variable {s : Sch}

/-- the words of the serials one place apart -/
def Sch.nearT (s : Sch) (x : Bytes) : List (List Nat) := s.bods.filter fun T => decide (apartN (s.ser T) x = 1)

theorem filter_one {l : List Nat} {p : Nat → Bool} (h : (l.filter p).length = 1) : ∃ i, i ∈ l ∧ p i = true ∧ ∀ j, j ∈ l → p j = true → j = i := by
  match hf : l.filter p, h with
  | [i], _ =>
    have hi : i ∈ l.filter p := by rw [hf]; simp
    rw [List.mem_filter] at hi
    refine ⟨i, hi.1, hi.2, fun j hj hp => ?_⟩
    have : j ∈ l.filter p := List.mem_filter.2 ⟨hj, hp⟩
    rw [hf] at this
    simpa using this

theorem filter_only {l : List Nat} {p : Nat → Bool} (hl : l.Nodup) {i : Nat} (hi : i ∈ l) (hp : p i = true) (h : ∀ j, j ∈ l → p j = true → j = i) : (l.filter p).length = 1 := by
  have hn : (l.filter p).Nodup := List.Pairwise.filter p hl
  match hf : l.filter p, hn with
  | [], _ =>
    have : i ∈ l.filter p := List.mem_filter.2 ⟨hi, hp⟩
    rw [hf] at this; simp at this
  | [_], _ => rfl
  | a :: b :: r, hn =>
    have ha : a ∈ l.filter p := by rw [hf]; simp
    have hb : b ∈ l.filter p := by rw [hf]; simp
    rw [List.mem_filter] at ha hb
    have e1 := h a ha.1 ha.2
    have e2 := h b hb.1 hb.2
    have := (List.pairwise_cons.1 hn).1 b (by simp)
    exact absurd (e1.trans e2.symm) this

theorem range_nodup (n : Nat) : (List.range n).Nodup := List.nodup_range

theorem bytes_ext {x y : Bytes} (hl : x.length = y.length) (h : ∀ j, j < x.length → x.getD j 0 = y.getD j 0) : x = y := by
  apply List.ext_getElem hl
  intro i h1 h2
  have := h i h1
  rw [List.getD_eq_getElem?_getD, List.getElem?_eq_getElem h1, List.getD_eq_getElem?_getD, List.getElem?_eq_getElem h2] at this
  simpa using this

/-- one place apart: another byte of the alphabet at one place -/
theorem apart_iff {A u x : Bytes} (hl : u.length = x.length) (hu : ofB u A = true) : apartN u x = 1 ↔ ∃ i, i < x.length ∧ ∃ v, v < A.length ∧ u = chg A x i v ∧ u ≠ x := by
  constructor
  · intro h
    obtain ⟨i, hi, hp, hall⟩ := filter_one h
    rw [List.mem_range] at hi
    have hp : u.getD i 0 ≠ x.getD i 0 := by simpa using hp
    have hc : A.contains (u.getD i 0) = true := by
      rw [List.getD_eq_getElem?_getD, List.getElem?_eq_getElem hi]
      exact List.all_eq_true.1 hu _ (List.getElem_mem hi)
    refine ⟨i, by omega, idx A (u.getD i 0), idx_lt hc, ?_, fun e => hp (by rw [e])⟩
    apply bytes_ext (by rw [chg_len _ _ _ _ (by omega)]; exact hl)
    intro j hj
    rw [chg_getD _ _ _ _ _ (by omega)]
    split
    · rename_i e; rw [e, idx_get hc]
    · rename_i e
      apply Classical.byContradiction
      intro hne
      exact e (hall j (List.mem_range.2 hj) (by simpa using hne))
  · rintro ⟨i, hi, v, hv, he, hne⟩
    refine filter_only (range_nodup _) (i := i) (List.mem_range.2 (by omega)) ?_ ?_
    · simp only [bne_iff_ne, ne_eq]
      intro hc
      apply hne
      apply bytes_ext hl
      intro j hj
      by_cases hji : j = i
      · rw [hji]; exact hc
      · rw [he, chg_getD _ _ _ _ _ hi, if_neg hji]
    · intro j hj hp
      apply Classical.byContradiction
      intro hji
      have : u.getD j 0 = x.getD j 0 := by rw [he, chg_getD _ _ _ _ _ hi, if_neg hji]
      rw [this] at hp
      simp at hp

theorem mem_npart {x u : Bytes} : u ∈ s.npart x x.length 0 ↔ ∃ i, i < x.length ∧ ∃ v, v < s.A.size ∧ u = chg s.A.data.toList x i v ∧ u ≠ x ∧ s.serr u = 0 := by
  unfold Sch.npart Sch.nrow
  simp only [List.range_zero, List.map_nil, List.filter_nil, List.append_nil, List.mem_flatMap, List.mem_range, List.mem_filter, List.mem_map]
  constructor
  · rintro ⟨i, hi, ⟨v, hv, rfl⟩, hg⟩
    unfold Sch.good at hg
    rw [Bool.and_eq_true, decide_eq_true_eq, decide_eq_true_eq] at hg
    exact ⟨i, hi, v, hv, rfl, hg.1, hg.2⟩
  · rintro ⟨i, hi, v, hv, rfl, h1, h2⟩
    refine ⟨i, hi, ⟨v, hv, rfl⟩, ?_⟩
    unfold Sch.good
    rw [decide_eq_true h1, decide_eq_true h2]; rfl

theorem npart_nodup (O : s.Ok) {x : Bytes} : (s.npart x x.length 0).Nodup := by
  unfold Sch.npart Sch.nrow
  simp only [List.range_zero, List.map_nil, List.filter_nil, List.append_nil]
  rw [List.Nodup, List.pairwise_flatMap]
  constructor
  · intro i hi
    rw [List.mem_range] at hi
    apply List.Pairwise.filter
    rw [List.pairwise_map]
    refine List.Pairwise.imp_of_mem ?_ (range_nodup s.A.size)
    intro v v' hv hv' hne e
    rw [List.mem_range] at hv hv'
    have h1 := chg_getD s.A.data.toList x i v i hi
    rw [e, chg_getD _ _ _ _ _ hi, if_pos rfl, if_pos rfl] at h1
    exact hne (letter_inj O hv hv' h1.symm)
  · refine List.Pairwise.imp_of_mem ?_ (range_nodup x.length)
    intro i j hi hj hne u hu u' hu' e
    rw [List.mem_range] at hi hj
    subst e
    rw [List.mem_filter, List.mem_map] at hu hu'
    obtain ⟨⟨v, _, rfl⟩, hg⟩ := hu
    obtain ⟨⟨v', _, e⟩, _⟩ := hu'
    unfold Sch.good at hg
    rw [Bool.and_eq_true, decide_eq_true_eq] at hg
    apply hg.1
    apply bytes_ext (chg_len _ _ _ _ hi)
    intro k hk
    rw [chg_len _ _ _ _ hi] at hk
    by_cases hki : k = i
    · rw [← e, chg_getD _ _ _ _ _ hj, if_neg (by omega)]
    · rw [chg_getD _ _ _ _ _ hi, if_neg hki]

theorem mem_near (O : s.Ok) {x u : Bytes} (hx : s.syn x = true) : u ∈ s.npart x x.length 0 ↔ u ∈ (s.nearT x).map s.ser := by
  obtain ⟨hxl, hxo⟩ := syn_iff.1 hx
  rw [mem_npart, List.mem_map]
  unfold Sch.nearT
  constructor
  · rintro ⟨i, hi, v, hv, h1, h2, h3⟩
    obtain ⟨h4, h5⟩ := ser_of_text O h3
    refine ⟨s.word u, List.mem_filter.2 ⟨h4, ?_⟩, h5⟩
    rw [h5, decide_eq_true_eq]
    have hul : u.length = x.length := by rw [h1, chg_len _ _ _ _ hi]
    have huo : ofB u s.A.data.toList = true := by rw [← h5]; exact ser_of O h4
    exact (apart_iff hul huo).2 ⟨i, hi, v, by rw [size_toList]; exact hv, h1, h2⟩
  · rintro ⟨T, hT, rfl⟩
    rw [List.mem_filter, decide_eq_true_eq] at hT
    have hul : (s.ser T).length = x.length := by rw [ser_len O hT.1, hxl]
    obtain ⟨i, hi, v, hv, h1, h2⟩ := (apart_iff hul (ser_of O hT.1)).1 hT.2
    rw [size_toList] at hv
    exact ⟨i, hi, v, hv, h1, h2, ser_err O hT.1⟩

theorem vals_ser_split (O : s.Ok) {T : List Nat} (h : T ∈ s.bods) : ∃ r, vals s.A.data.toList (s.ser T) = T.map Int.ofNat ++ r := by
  obtain ⟨_, h2, _⟩ := bods_len O h
  refine ⟨vals s.A.data.toList ((s.ser T).drop s.L.toNat), ?_⟩
  rw [← vals_txt O h2, ← ser_take O h]
  unfold vals
  rw [← List.map_append, List.take_append_drop]

theorem cmp_ser (O : s.Ok) {T U : List Nat} (hT : T ∈ s.bods) (hU : U ∈ s.bods) (h : wlt T U = true) : cmpL (vals s.A.data.toList (s.ser T)) (vals s.A.data.toList (s.ser U)) < 0 := by
  obtain ⟨r, h1⟩ := vals_ser_split O hT
  obtain ⟨r', h2⟩ := vals_ser_split O hU
  rw [h1, h2, cmpL_words _ _ _ _ (by rw [(bods_len O hT).1, (bods_len O hU).1])]
  exact .inl h

/-- the sorted list -/
theorem near_sorted (O : s.Ok) {x : Bytes} (hx : s.syn x = true) (D : List (Str s.A.data.toList)) (hD : D.map (·.1) = s.npart x x.length 0) :
    (D.mergeSort fun x y => !(ltOf (cfS s.A.data.toList)) y x).map (·.1) = (s.nearT x).map s.ser := by
  have hperm := List.mergeSort_perm D (fun x y => !(ltOf (cfS s.A.data.toList)) y x)
  have hsub : ∀ u, u ∈ (s.nearT x).map s.ser → ofB u s.A.data.toList = true := by
    intro u hu
    obtain ⟨T, hT, rfl⟩ := List.mem_map.1 hu
    exact ser_of O (List.mem_filter.1 hT).1
  have hnd : ((D.mergeSort fun x y => !(ltOf (cfS s.A.data.toList)) y x).map (·.1)).Nodup := by
    have h1 := (hperm.map (·.1)).symm.nodup (l := D.map (·.1))
    apply h1
    rw [hD]; exact npart_nodup O
  have hsorted : ((s.nearT x).map s.ser).Pairwise (fun u v => ¬ cmpL (vals s.A.data.toList v) (vals s.A.data.toList u) < 0 ∧ u ≠ v) := by
    rw [List.pairwise_map]
    unfold Sch.nearT
    refine List.Pairwise.imp_of_mem ?_ ((bodies_sorted s.A.data.toList s.B s.L.toNat).filter _)
    intro T U hT hU h
    have hT := (List.mem_filter.1 hT).1
    have hU := (List.mem_filter.1 hU).1
    have h1 := cmp_ser O hT hU h
    refine ⟨fun h2 => cmpL_asym _ _ h1 h2, fun e => ?_⟩
    rw [e, cmpL_self] at h1; omega
  refine List.Perm.eq_of_pairwise (le := fun u v => ¬ cmpL (vals s.A.data.toList v) (vals s.A.data.toList u) < 0) ?_ ?_ (hsorted.imp fun h => h.1) ?_
  · intro u v hu hv h1 h2
    obtain ⟨d, _, rfl⟩ := List.mem_map.1 hu
    rcases cmpL_tri (vals s.A.data.toList d.1) (vals s.A.data.toList v) with h | h | h
    · exact absurd h h2
    · exact vals_inj d.2.2 (hsub v hv) h
    · exact absurd h h1
  · rw [List.pairwise_map]
    have h1 := List.pairwise_mergeSort (le := fun x y => !(ltOf (cfS s.A.data.toList)) y x) ?_ ?_ D
    · refine h1.imp ?_
      intro a b h
      simp only [Bool.not_eq_true'] at h
      exact (lt_cfS_false _ _).1 h
    · intro a b c h1 h2
      simp only [Bool.not_eq_true'] at *
      exact (swoS s.A.data.toList).ntrans c b a h2 h1
    · intro a b
      simp only [Bool.or_eq_true, Bool.not_eq_true']
      rw [lt_cfS_false, lt_cfS_false]
      by_cases h : cmpL (vals s.A.data.toList b.1) (vals s.A.data.toList a.1) < 0
      · exact .inr (fun h2 => cmpL_asym _ _ h h2)
      · exact .inl h
  · rw [List.perm_ext_iff_of_nodup hnd (hsorted.imp fun h => h.2)]
    intro u
    rw [(hperm.map (·.1)).mem_iff, hD, mem_near O hx]
end
end Go.Proofs.Yteleehldcpjndaa
