/- Plain lemmas on automata: paths, capped counts, the k-th path, the number of lower paths. No condition. -/
namespace Go.Proofs.Yteleehldcpjndaa

theorem foldl_cap (M : Nat) (F : Nat → Nat → Nat) (f : Nat → Nat) (h : ∀ tot v, tot ≤ M → F tot v = min (tot + f v) M) (l : List Nat) :
    ∀ a b, a = min b M → l.foldl F a = min (b + (l.map f).sum) M := by
  induction l with
  | nil => intro a b hab; simpa using hab
  | cons v l ih =>
    intro a b hab
    simp only [List.foldl_cons, List.map_cons, List.sum_cons]
    rw [ih _ (b + f v) (by rw [h _ _ (by omega)]; omega)]
    congr 1; omega

section
variable {σ : Type} (m : Nat) (step : σ → Nat → Option σ) (fin : σ → Bool)

/-- all accepted words of n letters from a state, in order -/
def paths : Nat → σ → List (List Nat)
  | 0, s => if fin s then [[]] else []
  | n + 1, s => (List.range m).flatMap fun v => match step s v with
    | none => []
    | some t => (paths n t).map (v :: ·)

/-- the counts, capped -/
def cnt (M : Nat) : Nat → σ → Nat
  | 0, s => if fin s then 1 else 0
  | n + 1, s => (List.range m).foldl (fun tot v => match step s v with
    | none => tot
    | some t => min (tot + cnt M n t) M) 0

theorem cnt_eq (M : Nat) (hM : 1 ≤ M) : ∀ n s, cnt m step fin M n s = min (paths m step fin n s).length M := by
  intro n
  induction n with
  | zero => intro s; simp only [cnt, paths]; split <;> simp; omega
  | succ n ih =>
    intro s
    simp only [cnt, paths, List.length_flatMap]
    rw [foldl_cap M _ (fun v => (match step s v with | none => [] | some t => (paths m step fin n t).map (v :: ·)).length)
      (by
        intro tot v ht
        cases hs : step s v with
        | none => simp; omega
        | some t => simp [ih]; omega) (List.range m) 0 0 (by omega)]
    simp

/-- the letter of a greedy descent among those from a list, with counts c; the rest of k -/
def pick (c : Nat → Option Nat) : List Nat → Nat → Option (Nat × Nat)
  | [], _ => none
  | v :: l, k => match c v with
    | none => pick c l k
    | some n => if k < n then some (v, k) else pick c l (k - n)

/-- the k-th path by a greedy descent over counts c -/
def nth (c : Nat → σ → Nat) : Nat → σ → Nat → List Nat
  | 0, _, _ => []
  | n + 1, s, k => match pick (fun v => (step s v).map (c n)) (List.range m) k with
    | none => []
    | some (v, k') => match step s v with
      | none => []
      | some t => v :: nth c n t k'

theorem pick_flat (f : Nat → Option (List (List Nat))) (l : List Nat) : ∀ k, k < (l.flatMap fun v => (f v).getD []).length →
    ∃ v k' L, pick (fun v => (f v).map List.length) l k = some (v, k') ∧ f v = some L ∧ ∃ h : k' < L.length, ∃ h' : k < (l.flatMap fun v => (f v).getD []).length, (l.flatMap fun v => (f v).getD [])[k] = L[k'] := by
  induction l with
  | nil => intro k h; simp at h
  | cons v l ih =>
    intro k h
    simp only [pick]
    cases hf : f v with
    | none =>
      simp only [List.flatMap_cons, hf, Option.getD_none, List.nil_append] at h
      obtain ⟨v', k', L, h1, h2, h3, h4, h5⟩ := ih k h
      refine ⟨v', k', L, by simpa using h1, h2, h3, by simpa [hf] using h, ?_⟩
      simp only [List.flatMap_cons, hf, Option.getD_none, List.nil_append]; exact h5
    | some L =>
      by_cases hk : k < L.length
      · refine ⟨v, k, L, by simp [hk], hf, hk, h, ?_⟩
        simp only [List.flatMap_cons, hf, Option.getD_some]
        rw [List.getElem_append_left hk]
      · simp only [List.flatMap_cons, hf, Option.getD_some, List.length_append] at h
        obtain ⟨v', k', L', h1, h2, h3, h4, h5⟩ := ih (k - L.length) (by omega)
        refine ⟨v', k', L', by simpa [hk] using h1, h2, h3, by simp only [List.flatMap_cons, hf, Option.getD_some, List.length_append]; omega, ?_⟩
        simp only [List.flatMap_cons, hf, Option.getD_some]
        rw [List.getElem_append_right (by omega)]; exact h5

theorem paths_succ (n : Nat) (s : σ) : paths m step fin (n + 1) s = (List.range m).flatMap fun v => ((step s v).map fun t => (paths m step fin n t).map (v :: ·)).getD [] := by
  simp only [paths]; congr 1; funext v; cases step s v <;> rfl

theorem pick_congr (c d : Nat → Option Nat) (l : List Nat) (h : ∀ v ∈ l, c v = d v) : ∀ k, pick c l k = pick d l k := by
  induction l with
  | nil => intro k; rfl
  | cons v l ih =>
    intro k
    simp only [pick, h v (by simp)]
    cases d v with
    | none => exact ih (fun v hv => h v (by simp [hv])) k
    | some n => simp only; split
                · rfl
                · exact ih (fun v hv => h v (by simp [hv])) _

theorem pick_mem (c : Nat → Option Nat) (l : List Nat) : ∀ k v k', pick c l k = some (v, k') → v ∈ l := by
  induction l with
  | nil => intro k v k' h; simp [pick] at h
  | cons x l ih =>
    intro k v k' h
    simp only [pick] at h
    cases hc : c x with
    | none => rw [hc] at h; exact List.mem_cons_of_mem _ (ih _ _ _ h)
    | some n =>
      rw [hc] at h; simp only at h
      split at h
      · simp at h; simp [h.1]
      · exact List.mem_cons_of_mem _ (ih _ _ _ h)

/-- the length of the paths of a following state is at most that of the state's -/
theorem paths_sub (n : Nat) (s t : σ) (v : Nat) (hv : v < m) (h : step s v = some t) : (paths m step fin n t).length ≤ (paths m step fin (n + 1) s).length := by
  rw [paths_succ, List.length_flatMap]
  have : (paths m step fin n t).length ∈ (List.range m).map fun v => (((step s v).map fun t => (paths m step fin n t).map (v :: ·)).getD []).length := by
    rw [List.mem_map]; exact ⟨v, by simpa using hv, by simp [h]⟩
  have key : ∀ (l : List Nat) x, x ∈ l → x ≤ l.sum := by
    intro l; induction l with
    | nil => intro x hx; simp at hx
    | cons a l ih => intro x hx; simp at hx; rcases hx with rfl | hx; · simp
                     have := ih x hx; simp; omega
  exact key _ _ this

theorem nth_eq (c : Nat → σ → Nat) : ∀ n s k, (∀ j t, (paths m step fin j t).length ≤ (paths m step fin n s).length → j ≤ n → c j t = (paths m step fin j t).length) →
    (h : k < (paths m step fin n s).length) → nth m step c n s k = (paths m step fin n s)[k] := by
  intro n
  induction n with
  | zero =>
    intro s k _ h
    simp only [paths] at h ⊢
    split at h
    · rename_i hf; simp at h; subst h; simp [nth, hf]
    · simp at h
  | succ n ih =>
    intro s k hc h
    have h0 := h
    rw [paths_succ] at h0
    obtain ⟨v, k', L, h1, h2, h3, h4, h5⟩ := pick_flat (fun v => (step s v).map fun t => (paths m step fin n t).map (v :: ·)) (List.range m) k h0
    have hp : pick (fun v => (step s v).map (c n)) (List.range m) k = some (v, k') := by
      rw [← h1]; apply pick_congr
      intro u hu
      cases hs : step s u with
      | none => rfl
      | some t =>
        simp only [Option.map_some, List.length_map]
        rw [hc n t (paths_sub m step fin n s t u (by simpa using hu) hs) (by omega)]
    have hv := pick_mem _ _ _ _ _ hp
    simp only [nth, hp]
    cases hs : step s v with
    | none => rw [hs] at h2; simp at h2
    | some t =>
      rw [hs] at h2; simp at h2; subst h2
      simp only
      have hsub := paths_sub m step fin n s t v (by simpa using hv) hs
      simp at h3
      rw [ih t k' (fun j u hu hj => hc j u (by omega) (by omega)) h3]
      have : (paths m step fin (n + 1) s)[k] = (v :: (paths m step fin n t)[k']) := by
        simp only [paths_succ]; rw [h5]; simp
      rw [this]

/-- words are compared letter by letter -/
def wlt : List Nat → List Nat → Bool
  | [], [] => false
  | [], _ :: _ => true
  | _ :: _, [] => false
  | a :: x, b :: y => a < b || (a == b && wlt x y)

/-- the number of lower paths by a descent over counts c -/
def less (c : Nat → σ → Nat) : Nat → σ → List Nat → Nat
  | 0, _, _ => 0
  | _, _, [] => 0
  | n + 1, s, w :: x => ((List.range w).map fun v => ((step s v).map (c n)).getD 0).sum + (match step s w with
    | none => 0
    | some t => less c n t x)

theorem filter_flat (p : List Nat → Bool) (f : Nat → List (List Nat)) (l : List Nat) : ((l.flatMap f).filter p).length = (l.map fun v => ((f v).filter p).length).sum := by
  induction l with
  | nil => rfl
  | cons v l ih => simp [List.flatMap_cons, List.filter_append, ih]

theorem wlt_irrefl : ∀ x, wlt x x = false
  | [] => rfl
  | a :: x => by simp [wlt, wlt_irrefl x]

theorem wlt_trans : ∀ x y z, wlt x y = true → wlt y z = true → wlt x z = true
  | [], [], _, h, _ => by simp [wlt] at h
  | [], _ :: _, [], _, h => by simp [wlt] at h
  | [], _ :: _, _ :: _, _, _ => rfl
  | _ :: _, [], _, h, _ => by simp [wlt] at h
  | _ :: _, _ :: _, [], _, h => by simp [wlt] at h
  | a :: x, b :: y, c :: z, h1, h2 => by
    simp only [wlt, Bool.or_eq_true, decide_eq_true_eq, Bool.and_eq_true, beq_iff_eq] at h1 h2 ⊢
    rcases h1 with h1 | ⟨rfl, h1⟩ <;> rcases h2 with h2 | ⟨rfl, h2⟩
    · left; omega
    · left; exact h1
    · left; exact h2
    · right; exact ⟨rfl, wlt_trans x y z h1 h2⟩

theorem wlt_tri : ∀ x y, x.length = y.length → wlt x y = false → wlt y x = false → x = y
  | [], [], _, _, _ => rfl
  | [], _ :: _, h, _, _ => by simp at h
  | _ :: _, [], h, _, _ => by simp at h
  | a :: x, b :: y, h, h1, h2 => by
    simp only [wlt, Bool.or_eq_false_iff, decide_eq_false_iff_not, Bool.and_eq_false_iff, beq_eq_false_iff_ne] at h1 h2
    have hab : a = b := by omega
    subst hab
    simp at h1 h2 h
    rw [wlt_tri x y h h1 h2]

theorem paths_len : ∀ n s p, p ∈ paths m step fin n s → p.length = n := by
  intro n
  induction n with
  | zero => intro s p h; simp only [paths] at h; split at h <;> simp at h; simp [h]
  | succ n ih =>
    intro s p h
    simp only [paths, List.mem_flatMap] at h
    obtain ⟨v, _, h⟩ := h
    cases hs : step s v with
    | none => rw [hs] at h; simp at h
    | some t =>
      rw [hs] at h; simp at h
      obtain ⟨q, hq, rfl⟩ := h
      simp [ih t q hq]

/-- the state behind a word -/
def walk : σ → List Nat → Option σ
  | s, [] => some s
  | s, v :: x => match step s v with
    | none => none
    | some t => walk t x

theorem mem_paths : ∀ n s p, p ∈ paths m step fin n s ↔ (p.length = n ∧ (∀ v ∈ p, v < m) ∧ ∃ t, walk step s p = some t ∧ fin t = true) := by
  intro n
  induction n with
  | zero =>
    intro s p
    simp only [paths]
    constructor
    · intro h; split at h <;> simp at h; subst h; simp [walk, *]
    · rintro ⟨h, _, t, h2, h3⟩
      have : p = [] := List.length_eq_zero_iff.1 h
      subst this; simp [walk] at h2; subst h2; simp [h3]
  | succ n ih =>
    intro s p
    simp only [paths, List.mem_flatMap]
    constructor
    · rintro ⟨v, hv, h⟩
      cases hs : step s v with
      | none => rw [hs] at h; simp at h
      | some t =>
        rw [hs] at h; simp at h
        obtain ⟨q, hq, rfl⟩ := h
        obtain ⟨h1, h2, h3⟩ := (ih t q).1 hq
        refine ⟨by simp [h1], ?_, by simpa [walk, hs] using h3⟩
        intro u hu; simp at hu; rcases hu with rfl | hu
        · simpa using hv
        · exact h2 u hu
    · rintro ⟨h1, h2, t, h3, h4⟩
      cases p with
      | nil => simp at h1
      | cons v q =>
        refine ⟨v, by simpa using h2 v (by simp), ?_⟩
        simp only [walk] at h3
        cases hs : step s v with
        | none => rw [hs] at h3; simp at h3
        | some u =>
          rw [hs] at h3; simp at h3
          simp only [List.mem_map]
          exact ⟨q, (ih u q).2 ⟨by simpa using h1, fun v hv => h2 v (by simp [hv]), t, h3, h4⟩, rfl⟩

theorem pairwise_flat {R : List Nat → List Nat → Prop} (f : Nat → List (List Nat)) (l : List Nat) (h1 : ∀ v ∈ l, (f v).Pairwise R)
    (h2 : l.Pairwise fun u v => ∀ x ∈ f u, ∀ y ∈ f v, R x y) : (l.flatMap f).Pairwise R := by
  induction l with
  | nil => simp
  | cons v l ih =>
    rw [List.flatMap_cons, List.pairwise_append]
    rw [List.pairwise_cons] at h2
    refine ⟨h1 v (by simp), ih (fun u hu => h1 u (by simp [hu])) h2.2, ?_⟩
    intro x hx y hy
    rw [List.mem_flatMap] at hy
    obtain ⟨u, hu, hy⟩ := hy
    exact h2.1 u hu x hx y hy

theorem paths_sorted : ∀ n s, (paths m step fin n s).Pairwise fun x y => wlt x y = true := by
  intro n
  induction n with
  | zero => intro s; simp only [paths]; split <;> simp
  | succ n ih =>
    intro s
    rw [paths]
    apply pairwise_flat
    · intro v _
      cases hs : step s v with
      | none => simp
      | some t => simp only [List.pairwise_map]; exact (ih t).imp (fun h => by simp [wlt, h])
    · have : (List.range m).Pairwise (· < ·) := List.pairwise_lt_range
      refine this.imp ?_
      intro u v huv x hx y hy
      cases hu : step s u with
      | none => rw [hu] at hx; simp at hx
      | some t =>
        cases hv : step s v with
        | none => rw [hv] at hy; simp at hy
        | some t' =>
          rw [hu] at hx; rw [hv] at hy; simp at hx hy
          obtain ⟨a, _, rfl⟩ := hx
          obtain ⟨b, _, rfl⟩ := hy
          simp [wlt, huv]

theorem sum_range_split (f : Nat → Nat) (w m : Nat) (h : w ≤ m) : ((List.range m).map f).sum = ((List.range w).map f).sum + ((List.range' w (m - w)).map f).sum := by
  have : List.range m = List.range w ++ List.range' w (m - w) := by
    rw [List.range_eq_range', List.range_eq_range']
    have := @List.range'_append_1 0 w (m - w)
    rw [Nat.zero_add] at this
    rw [this]; congr 1; omega
  rw [this]; simp

theorem less_eq (c : Nat → σ → Nat) : ∀ n s w, (∀ j t, (paths m step fin j t).length ≤ (paths m step fin n s).length → j ≤ n → c j t = (paths m step fin j t).length) →
    w.length = n → (∀ v ∈ w, v < m) → less step c n s w = ((paths m step fin n s).filter fun p => wlt p w).length := by
  intro n
  induction n with
  | zero =>
    intro s w _ hw _
    have : w = [] := List.length_eq_zero_iff.1 hw
    subst this
    simp only [less, paths]; split <;> simp [wlt]
  | succ n ih =>
    intro s w hc hw hm
    cases w with
    | nil => simp at hw
    | cons a x =>
      have ha : a < m := hm a (by simp)
      simp only [less]
      rw [paths, filter_flat, sum_range_split _ a m (by omega)]
      congr 1
      · congr 1
        apply List.map_congr_left
        intro v hv
        have hv : v < a := by simpa using hv
        cases hs : step s v with
        | none => simp
        | some t =>
          simp only [Option.map_some, Option.getD_some, List.filter_map, List.length_map]
          rw [hc n t (paths_sub m step fin n s t v (by omega) hs) (by omega)]
          have : (paths m step fin n t).filter ((fun p => wlt p (a :: x)) ∘ (v :: ·)) = paths m step fin n t := by
            rw [List.filter_eq_self]; intro p _; simp [wlt, hv]
          rw [this]
      · have h1 : m - a = (m - a - 1) + 1 := by omega
        rw [h1, List.range'_succ]
        simp only [List.map_cons, List.sum_cons]
        have h0 : ((List.range' (a + 1) (m - a - 1)).map fun v => (((match step s v with
            | none => []
            | some t => (paths m step fin n t).map (v :: ·)).filter fun p => wlt p (a :: x))).length).sum = 0 := by
          have : ∀ l : List Nat, (∀ y ∈ l, y = 0) → l.sum = 0 := by
            intro l; induction l with
            | nil => intro _; rfl
            | cons y l ih => intro h; simp [h y (by simp), ih (fun z hz => h z (by simp [hz]))]
          apply this
          intro y hy
          simp only [List.mem_map, List.mem_range'_1] at hy
          obtain ⟨v, ⟨hv, _⟩, rfl⟩ := hy
          cases hs : step s v with
          | none => simp
          | some t =>
            simp only [List.filter_map, List.length_map, List.length_eq_zero_iff, List.filter_eq_nil_iff]
            intro p _
            have h3 : ¬ v < a := by omega
            have h4 : ¬ v = a := by omega
            simp [wlt, h3, h4]
        rw [h0, Nat.add_zero]
        cases hs : step s a with
        | none => simp
        | some t =>
          simp only [List.filter_map, List.length_map]
          rw [ih t x (fun j u hu hj => hc j u (Nat.le_trans hu (paths_sub m step fin n s t a ha hs)) (by omega)) (by simpa using hw) (fun v hv => hm v (by simp [hv]))]
          congr 1
          apply List.filter_congr
          intro p _
          simp [wlt]
end

theorem sorted_ext : ∀ (x y : List (List Nat)), x.Pairwise (fun a b => wlt a b = true) → y.Pairwise (fun a b => wlt a b = true) → (∀ p, p ∈ x ↔ p ∈ y) → x = y
  | [], [], _, _, _ => rfl
  | [], b :: y, _, _, h => by have := (h b).2 (by simp); simp at this
  | a :: x, [], _, _, h => by have := (h a).1 (by simp); simp at this
  | a :: x, b :: y, hx, hy, h => by
    rw [List.pairwise_cons] at hx hy
    have hab : a = b := by
      have h1 := (h a).1 (by simp)
      have h2 := (h b).2 (by simp)
      simp at h1 h2
      rcases h1 with h1 | h1
      · exact h1
      · rcases h2 with h2 | h2
        · exact h2.symm
        · have := wlt_trans _ _ _ (hy.1 a h1) (hx.1 b h2)
          rw [wlt_irrefl] at this; cases this
    subst hab
    congr 1
    apply sorted_ext x y hx.2 hy.2
    intro p
    have := h p
    simp only [List.mem_cons] at this
    constructor
    · intro hp
      rcases this.1 (.inr hp) with rfl | h
      · have := hx.1 p hp; rw [wlt_irrefl] at this; cases this
      · exact h
    · intro hp
      rcases this.2 (.inr hp) with rfl | h
      · have := hy.1 p hp; rw [wlt_irrefl] at this; cases this
      · exact h

/-- in a sorted list the k-th word has k lower ones -/
theorem filter_lt_get : ∀ (x : List (List Nat)), x.Pairwise (fun a b => wlt a b = true) → ∀ k (h : k < x.length), (x.filter fun p => wlt p x[k]).length = k
  | [], _, k, h => by simp at h
  | a :: x, hx, 0, _ => by
    rw [List.pairwise_cons] at hx
    simp only [List.getElem_cons_zero, List.filter_cons, wlt_irrefl]
    simp only [Bool.false_eq_true, if_false, List.length_eq_zero_iff, List.filter_eq_nil_iff]
    intro p hp hlt
    have := wlt_trans _ _ _ hlt (hx.1 p hp)
    rw [wlt_irrefl] at this; cases this
  | a :: x, hx, k + 1, h => by
    rw [List.pairwise_cons] at hx
    have hk : k < x.length := by simpa using h
    simp only [List.getElem_cons_succ, List.filter_cons, hx.1 _ (List.getElem_mem hk), if_true, List.length_cons]
    rw [filter_lt_get x hx.2 k hk]

/-- two automata whose states are related have the same paths -/
theorem paths_bisim {σ τ : Type} (m : Nat) (step : σ → Nat → Option σ) (fin : σ → Bool) (step' : τ → Nat → Option τ) (fin' : τ → Bool) (R : Nat → σ → τ → Prop)
    (h0 : ∀ s t, R 0 s t → fin s = fin' t)
    (hs : ∀ n s t v, v < m → R (n + 1) s t → match step s v, step' t v with
      | none, none => True
      | some s', some t' => R n s' t'
      | _, _ => False) : ∀ n s t, R n s t → paths m step fin n s = paths m step' fin' n t := by
  intro n
  induction n with
  | zero => intro s t h; simp [paths, h0 s t h]
  | succ n ih =>
    intro s t h
    simp only [paths]
    have : ∀ l : List Nat, (∀ v ∈ l, v < m) → l.flatMap (fun v => match step s v with
        | none => []
        | some u => (paths m step fin n u).map (v :: ·)) = l.flatMap (fun v => match step' t v with
        | none => []
        | some u => (paths m step' fin' n u).map (v :: ·)) := by
      intro l
      induction l with
      | nil => intro _; rfl
      | cons v l ihl =>
        intro hl
        rw [List.flatMap_cons, List.flatMap_cons, ihl (fun u hu => hl u (by simp [hu]))]
        congr 1
        have := hs n s t v (hl v (by simp)) h
        cases h1 : step s v <;> cases h2 : step' t v <;> rw [h1, h2] at this <;> simp at this
        show List.map _ _ = List.map _ _
        rw [ih _ _ this]
    exact this _ (by simp)
end Go.Proofs.Yteleehldcpjndaa
