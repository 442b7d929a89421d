/- few's bound, and the contract of copied. Condition: the scheme's parts are in memory. -/
import Derived.Test.YteleehldcpjndaaRefA
import Derived.Laws.AppendOwnNone
namespace Go.Proofs.Yteleehldcpjndaa
open Go Go.RowKit

section
variable {w : World} {s : Sch} {a : Option Addr} {cap : Nat}

set_option maxRecDepth 100000 in
set_option maxHeartbeats 1000000 in
theorem few_len (h : s.In w a) : Calls Try.prog 16 #[s.val a cap] w (BoolOf w fun r => r = true → s.bs.length ≤ 20) := by
  have hlen := h.len
  have hal := h.alpha
  have hbn := h.bans
  unfold maxLen at hlen hal
  have hw : ∀ w2, Below w.heap.size w w2 → s.In w2 a := fun w2 hb => h.below hb
  have HIN := Lib.hid hw
  clear h hw
  obtain ⟨A, L, bs, chk⟩ := s
  unfold Sch.val
  dsimp only at *
  go_enter Try.func16, Try.ntmps16
  go_wp2_with fail
  go_loop [3, 4] (fun zz kk => ∃ (k : Nat) (z : Int), k ≤ bs.length ∧ k ≤ 20 ∧ kk = .int .i64 k ∧ zz = .int .i64 z) (fun _ kk => bs.length - (intOf kk).toNat)
  case atStart => exact ⟨0, _, Nat.zero_le _, by omega, rfl, rfl⟩
  case round =>
    obtain ⟨k, z, hk, hk20, rfl, rfl⟩ := hrel
    by_cases hlt : k < bs.length
    · by_cases hlt2 : k < 20
      · obtain ⟨b, off, ha, hc⟩ := ((HIN.out w (Below.refl _ _)).strs) (by dsimp only; omega)
        dsimp only at hc
        have hce := hc.out k hlt
        have hcl := cell_alloc hce (.cells #[.string A, .int .i64 L, .slice (some ⟨b, off, none⟩) bs.length cap, .bool chk] 24)
        obtain ⟨ban, hban⟩ : ∃ ban, ban = bs.getD k ⟨#[]⟩ := ⟨_, rfl⟩
        rw [← hban] at hce hcl
        clear hban
        subst ha
        go_wp2
        go_round
        case rel => exact ⟨k + 1, _, by omega, by omega, by go_num, rfl⟩
        case measure => simp [intOf]; omega
      · have hd : decide ((k : Int) < 20) = false := by rw [decide_eq_false_iff_not]; omega
        go_wp2
        all_goals
          go_ret
          exact ⟨⟨_, rfl, by intro hr; first | omega | (simp at hr) | (simp at hr; omega)⟩, (Below.refl _ _).alloc (Nat.le_refl _) _⟩
    · go_wp2
      all_goals
        go_ret
        exact ⟨⟨_, rfl, by intro hr; first | omega | (simp at hr) | (simp at hr; omega)⟩, (Below.refl _ _).alloc (Nat.le_refl _) _⟩

/-! ### a further banned string, plainly -/
/-- a scheme with a further banned string -/
def Sch.more (s : Sch) (ban : ByteArray) : Sch := ⟨s.A, s.L, s.bs ++ [ban], s.chk⟩

theorem okay_more (ban : ByteArray) (u : Bytes) : okay (s.more ban).B u ↔ okay s.B u ∧ okay [ban.data.toList] u := by
  unfold okay Sch.B Sch.more
  dsimp only
  rw [List.map_append]
  constructor
  · intro h
    exact ⟨fun b hb => h b (List.mem_append_left _ hb), fun b hb => h b (List.mem_append_right _ (by simpa using hb))⟩
  · rintro ⟨h1, h2⟩ b hb
    rcases List.mem_append.1 hb with h | h
    · exact h1 b h
    · exact h2 b (by simpa using h)

theorem cerr_eq (O : s.Ok) (x : Bytes) (h1 : x.length = s.L.toNat) (h2 : ofB x s.A.data.toList = true) : (s.cerr x = 0 ∧ okay s.B x) ∨ (s.cerr x = 21 ∧ ¬ okay s.B x) := by
  have hw := walk_okay_table O.table (idxs s.A.data.toList x) (idxs_lt h2)
  rw [txt_idxs h2] at hw
  unfold Sch.cerr
  rw [if_neg (by rw [h1, h2]; simp)]
  cases hh : (walk s.tt 0 (idxs s.A.data.toList x)).isSome
  · right
    refine ⟨by rw [if_pos rfl], fun hc => ?_⟩
    have := hw.2 hc
    rw [hh] at this
    cases this
  · left
    exact ⟨by rw [if_neg (by simp)], hw.1 hh⟩

theorem cerr_four (x : Bytes) (h : x.length ≠ s.L.toNat ∨ ofB x s.A.data.toList = false) : s.cerr x = 4 := by
  unfold Sch.cerr
  rw [if_pos h]

theorem cstr_no {x : Bytes} (h : s.cerr x ≠ 0) : s.cstr x = [] := by
  unfold Sch.cstr
  rw [if_neg h]

theorem more_err (O : s.Ok) {ban : ByteArray} (O2 : (s.more ban).Ok) {x : Bytes} (h : s.cerr x ≠ 0) : (s.more ban).cerr x = s.cerr x := by
  by_cases h1 : x.length = s.L.toNat ∧ ofB x s.A.data.toList = true
  · rcases cerr_eq O x h1.1 h1.2 with ⟨h2, _⟩ | ⟨h2, h3⟩
    · exact absurd h2 h
    · rcases cerr_eq O2 x h1.1 h1.2 with ⟨_, h5⟩ | ⟨h4, _⟩
      · exact absurd ((okay_more ban x).1 h5).1 h3
      · rw [h2, h4]
  · have h2 : x.length ≠ s.L.toNat ∨ ofB x s.A.data.toList = false := by
      by_cases h3 : x.length = s.L.toNat
      · right
        cases hh : ofB x s.A.data.toList
        · rfl
        · exact absurd ⟨h3, hh⟩ h1
      · exact .inl h3
    rw [cerr_four x h2, cerr_four (s := s.more ban) x h2]

theorem cerr_zero (O : s.Ok) {x : Bytes} (h : s.cerr x = 0) : x.length = s.L.toNat ∧ ofB x s.A.data.toList = true ∧ okay s.B x := by
  by_cases h1 : x.length = s.L.toNat ∧ ofB x s.A.data.toList = true
  · rcases cerr_eq O x h1.1 h1.2 with ⟨_, h2⟩ | ⟨h2, _⟩
    · exact ⟨h1.1, h1.2, h2⟩
    · rw [h] at h2; cases h2
  · have h2 : x.length ≠ s.L.toNat ∨ ofB x s.A.data.toList = false := by
      by_cases h3 : x.length = s.L.toNat
      · right
        cases hh : ofB x s.A.data.toList
        · rfl
        · exact absurd ⟨h3, hh⟩ h1
      · exact .inl h3
    rw [cerr_four x h2] at h; cases h

theorem more_ok (O : s.Ok) {ban : ByteArray} (O2 : (s.more ban).Ok) {x : Bytes} (h : s.cerr x = 0) (hb : okay [ban.data.toList] x) : (s.more ban).cerr x = 0 ∧ (s.more ban).cstr x = s.cstr x := by
  obtain ⟨h1, h2, h3⟩ := cerr_zero O h
  have h4 : (s.more ban).cerr x = 0 := by
    rcases cerr_eq O2 x h1 h2 with ⟨h5, _⟩ | ⟨_, h5⟩
    · exact h5
    · exact absurd ((okay_more ban x).2 ⟨h3, hb⟩) h5
  refine ⟨h4, ?_⟩
  unfold Sch.cstr
  rw [if_pos h4, if_pos h]; rfl

theorem more_no (O : s.Ok) {ban : ByteArray} (O2 : (s.more ban).Ok) {x : Bytes} (h : s.cerr x = 0) (hb : ¬ okay [ban.data.toList] x) : (s.more ban).cerr x = 21 := by
  obtain ⟨h1, h2, _⟩ := cerr_zero O h
  rcases cerr_eq O2 x h1 h2 with ⟨_, h5⟩ | ⟨h5, _⟩
  · exact absurd ((okay_more ban x).1 h5).2 hb
  · exact h5
end
end Go.Proofs.Yteleehldcpjndaa
