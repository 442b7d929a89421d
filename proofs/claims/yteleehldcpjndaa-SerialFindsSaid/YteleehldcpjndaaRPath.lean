/- Plain: the descents of the reference's Text and Number over its rows. Condition: the scheme is valid. -/
import Derived.Test.YteleehldcpjndaaRTab
namespace Go.Proofs.Yteleehldcpjndaa
open Go Go.RowKit

section
variable {s : Sch}

/-- the words from a state that begin with a letter -/
def Sch.ro (s : Sch) (n i v : Nat) : List (List Nat) := match s.rt i v with
  | none => []
  | some t => (s.rp n t).map (v :: ·)

/-- the words from a state that begin with a letter from c on -/
def Sch.rf (s : Sch) (n i c : Nat) : List (List Nat) := (List.range' c (s.A.size - c)).flatMap (s.ro n i)

theorem Sch.rf_zero (n i : Nat) : s.rf n i 0 = s.rp (n + 1) i := by
  unfold Sch.rf Sch.rp
  rw [paths, Nat.sub_zero, ← List.range_eq_range']
  congr 1
  funext v
  unfold Sch.ro
  cases s.rt i v <;> rfl

theorem Sch.rf_step {n i c : Nat} (h : c < s.A.size) : s.rf n i c = s.ro n i c ++ s.rf n i (c + 1) := by
  unfold Sch.rf
  rw [show s.A.size - c = (s.A.size - (c + 1)) + 1 by omega, List.range'_succ, List.flatMap_cons]

theorem Sch.rf_end (n i : Nat) : s.rf n i s.A.size = [] := by
  unfold Sch.rf
  rw [Nat.sub_self]; rfl

theorem Sch.rf_none {n i c k : Nat} {T : List Nat} (h : c < s.A.size) (ht : s.rt i c = none) (hk : (s.rf n i c)[k]? = some T) : (s.rf n i (c + 1))[k]? = some T := by
  rw [Sch.rf_step h] at hk
  unfold Sch.ro at hk
  rw [ht] at hk
  exact hk

theorem Sch.rf_hit {n i c k t : Nat} {T : List Nat} (h : c < s.A.size) (ht : s.rt i c = some t) (hlt : k < (s.rp n t).length) (hk : (s.rf n i c)[k]? = some T) : ∃ T', T = c :: T' ∧ (s.rp n t)[k]? = some T' := by
  rw [Sch.rf_step h] at hk
  unfold Sch.ro at hk
  rw [ht] at hk
  simp only at hk
  rw [List.getElem?_append_left (by rw [List.length_map]; exact hlt), List.getElem?_map, List.getElem?_eq_getElem hlt] at hk
  simp only [Option.map_some, Option.some.injEq] at hk
  exact ⟨_, hk.symm, List.getElem?_eq_getElem hlt⟩

theorem Sch.rf_miss {n i c k t : Nat} {T : List Nat} (h : c < s.A.size) (ht : s.rt i c = some t) (hge : ¬ k < (s.rp n t).length) (hk : (s.rf n i c)[k]? = some T) : (s.rf n i (c + 1))[k - (s.rp n t).length]? = some T := by
  rw [Sch.rf_step h] at hk
  unfold Sch.ro at hk
  rw [ht] at hk
  simp only at hk
  rw [List.getElem?_append_right (by rw [List.length_map]; omega), List.length_map] at hk
  exact hk

theorem Sch.rp_sub {n i v t : Nat} (hv : v < s.A.size) (ht : s.rt i v = some t) : (s.rp n t).length ≤ (s.rp (n + 1) i).length := paths_sub s.A.size s.rt (fun _ => true) n i t v hv ht

theorem Sch.rw_exact {n t : Nat} (h : (s.rp n t).length < capM) : s.rw_ n t = (s.rp n t).length := by
  rw [s.rw_eq, Nat.min_eq_left (by omega)]

theorem Sch.rp_zero (i : Nat) : s.rp 0 i = [[]] := rfl

/-! ### Number -/

/-- the words from a state that begin with a letter below c: their number -/
def Sch.rs (s : Sch) (n i c : Nat) : Nat := ((List.range c).map fun v => ((s.rt i v).map (s.rw_ n)).getD 0).sum

theorem Sch.rs_succ (n i c : Nat) : s.rs n i (c + 1) = s.rs n i c + ((s.rt i c).map (s.rw_ n)).getD 0 := by
  unfold Sch.rs
  rw [List.range_succ, List.map_append, List.sum_append]
  simp

theorem Sch.rs_none {n i c : Nat} (h : s.rt i c = none) : s.rs n i (c + 1) = s.rs n i c := by rw [Sch.rs_succ, h]; rfl
theorem Sch.rs_some {n i c t : Nat} (h : s.rt i c = some t) : s.rs n i (c + 1) = s.rs n i c + s.rw_ n t := by rw [Sch.rs_succ, h]; rfl

theorem Sch.rs_mono (n i : Nat) {c d : Nat} (h : c ≤ d) : s.rs n i c ≤ s.rs n i d := by
  induction d with
  | zero => have : c = 0 := by omega
            subst this; exact Nat.le_refl _
  | succ d ih =>
    by_cases hc : c = d + 1
    · subst hc; exact Nat.le_refl _
    · have := ih (by omega)
      rw [Sch.rs_succ]; omega

/-- how many words from a state are below a word -/
def Sch.rl (s : Sch) (n i : Nat) (W : List Nat) : Nat := less s.rt s.rw_ n i W

theorem Sch.rl_zero (i : Nat) (W : List Nat) : s.rl 0 i W = 0 := rfl

theorem Sch.rl_cons (n i v : Nat) (W : List Nat) : s.rl (n + 1) i (v :: W) = s.rs n i v + (match s.rt i v with | none => 0 | some t => s.rl n t W) := by
  unfold Sch.rl Sch.rs
  rw [less]
  cases s.rt i v <;> rfl

theorem Sch.rl_some {n i v t : Nat} {W : List Nat} (h : s.rt i v = some t) : s.rl (n + 1) i (v :: W) = s.rs n i v + s.rl n t W := by rw [Sch.rl_cons, h]

theorem Sch.Ok.rlen (O : s.Ok) : (s.rp s.L.toNat 0).length = s.bods.length := by rw [O.rp_bods]

theorem Sch.Ok.rl_bods (O : s.Ok) {W : List Nat} (hl : W.length = s.L.toNat) (hv : ∀ v ∈ W, v < s.A.size) : s.rl s.L.toNat 0 W = (s.bods.filter fun p => wlt p W).length := by
  have hc := O.cap
  unfold Sch.rl
  rw [less_eq s.A.size s.rt (fun _ => true) s.rw_ s.L.toNat 0 W (fun j t h _ => ?_) hl hv]
  · have := O.rp_bods
    unfold Sch.rp at this
    rw [this]
  · have h1 := O.rlen
    have h2 : (s.rp j t).length ≤ (s.rp s.L.toNat 0).length := h
    exact Sch.rw_exact (by omega)

/-- an allowed word is walked through by the rows -/
theorem Sch.Wf.walk_rt (W : s.Wf) {T : List Nat} (hv : ∀ v ∈ T, v < s.A.size) (ho : okay s.B (txt s.A.data.toList T)) : (walk s.rt 0 T).isSome = true :=
  (walk_okay_table W.rtable T (by rw [size_toList]; exact hv)).2 ho

theorem walk_split {σ : Type} (step : σ → Nat → Option σ) : ∀ (x : List Nat) (s : σ) (v : Nat), (walk step s (v :: x)).isSome = true → ∃ t, step s v = some t ∧ (walk step t x).isSome = true
  | x, s, v, h => by
    simp only [walk] at h
    cases hs : step s v with
    | none => rw [hs] at h; cases h
    | some t => rw [hs] at h; exact ⟨t, rfl, h⟩

theorem Sch.rt_cases {i v : Nat} : (s.rt i v = none ∧ s.rx i v = -1) ∨ ∃ j : Nat, j < s.S.length ∧ s.rt i v = some j ∧ s.rx i v = j := by
  rcases Sch.rx_cases (s := s) i v with h | ⟨j, hj, h⟩
  · exact .inl ⟨Sch.rt_none (by rw [h]; decide), h⟩
  · exact .inr ⟨j, hj, Sch.rt_some h, h⟩
end
end Go.Proofs.Yteleehldcpjndaa
