/- The contracts of guillochelaw02's few and awake, and of the reference's Long and Value. Condition: the scheme's parts are in memory. -/
import Derived.Test.YteleehldcpjndaaSerP
namespace Go.Proofs.Yteleehldcpjndaa
open Go Go.RowKit

/-- the scheme that awake tries -/
def aw : Sch := ⟨⟨#[48, 49]⟩, 3, [⟨#[49, 49]⟩], false⟩

theorem aw_err : aw.err = 0 := by decide +kernel
theorem aw_serr : aw.serr [49, 48, 49] = 0 := by decide +kernel
theorem aw_low : (aw.bods.filter fun p => wlt p (aw.word [49, 48, 49])).length = 4 := by decide +kernel
theorem aw_nth : aw.bods[3]? = some [1, 0, 0] := by decide +kernel
theorem aw_ser : aw.ser [1, 0, 0] = [49, 48, 48] := by decide +kernel

/-- some bool is returned, nothing old is changed -/
def SomeBool (w : World) (e : Ending) (w' : World) : Prop := ∃ b, e = .returned (.bool b) ∧ Below w.heap.size w w'

theorem indexByte_none {l : List UInt8} {c : UInt8} (h : ∀ j : Nat, l[j]? ≠ some c) : Lib.indexByte l c = -1 := by
  have h1 := Lib.indexByte_ge l c
  by_cases h2 : Lib.indexByte l c = -1
  · exact h2
  · have h3 := (Lib.indexByte_some (l := l) (c := c) (o := (Lib.indexByte l c).toNat) (by omega)).1
    exact absurd h3 (h _)

theorem indexByte_at {l : List UInt8} {c : UInt8} {k : Nat} (h : ∀ j : Nat, j < k → l[j]? ≠ some c) (hk : l[k]? = some c) : Lib.indexByte l c = k := by
  have h1 := Lib.indexByte_ge l c
  by_cases h2 : Lib.indexByte l c = -1
  · exact absurd hk (Lib.indexByte_none h2 k)
  · have h3 := Lib.indexByte_some (l := l) (c := c) (o := (Lib.indexByte l c).toNat) (by omega)
    by_cases h4 : (Lib.indexByte l c).toNat < k
    · exact absurd h3.1 (h _ h4)
    · by_cases h5 : k < (Lib.indexByte l c).toNat
      · exact absurd hk (h3.2 k h5)
      · omega

section
variable {w : World} {s : Sch} {a : Option Addr} {cap : Nat}

set_option maxRecDepth 100000 in
set_option maxHeartbeats 1000000 in
theorem awake_any : Calls Try.prog 17 #[] w fun e w' => e = .returned (.bool true) ∧ Below w.heap.size w w' := by
  have hin : ∀ w2 : World, w2.heap[w.heap.size]? = some (.cells #[.string ⟨#[49, 49]⟩] 9 (0, 0)) → aw.In w2 (some ⟨w.heap.size, 0, none⟩) := by
    intro w2 hb
    refine ⟨by decide, by decide, ?_, by decide, ?_⟩
    · intro b hb; simp [aw] at hb; subst hb; decide
    · intro _
      refine ⟨w.heap.size, 0, rfl, Lib.hid ?_⟩
      intro i hi
      obtain rfl : i = 0 := by simp [aw] at hi; exact hi
      exact cell_of_block hb 0
  have hnum := fun w2 h => number_ok (w := w2) (s := aw) (a := some ⟨w.heap.size, 0, none⟩) (cap := 1) ⟨#[49, 48, 49]⟩ (by decide) (hin w2 h) aw_err aw_serr
  have htxt := fun w2 h => text_ok (w := w2) (s := aw) (a := some ⟨w.heap.size, 0, none⟩) (cap := 1) 3 (hin w2 h) aw_err [1, 0, 0] aw_nth
  rw [show (List.filter (fun p => wlt p (aw.word (⟨#[49, 48, 49]⟩ : ByteArray).data.toList)) aw.bods).length = 4 from aw_low] at hnum
  rw [aw_ser] at htxt
  have HN := Lib.hid hnum
  have HT := Lib.hid htxt
  clear hin hnum htxt
  unfold Sch.val aw at HN HT
  dsimp only at HN HT
  obtain ⟨W, hW⟩ : ∃ W, W = (w.alloc (.cells #[.string ⟨#[49, 49]⟩] 9)).alloc (.cells #[.string ⟨#[48, 49]⟩, .int .i64 3, .slice (some ⟨w.heap.size, 0, none⟩) 1 1, .bool false] 24) := ⟨_, rfl⟩
  have hW1 : W.heap[w.heap.size]? = some (.cells #[.string ⟨#[49, 49]⟩] 9 (0, 0)) := by
    rw [hW]; exact (Below.heap_alloc _ _ _ (by simp)).trans (MapKept.heap_alloc w _).1
  have hW2 : W.heap[w.heap.size + 1]? = some (.cells #[.string ⟨#[48, 49]⟩, .int .i64 3, .slice (some ⟨w.heap.size, 0, none⟩) 1 1, .bool false] 24 (0, 0)) := by
    have := (MapKept.heap_alloc (w.alloc (.cells #[.string ⟨#[49, 49]⟩] 9)) (.cells #[.string ⟨#[48, 49]⟩, .int .i64 3, .slice (some ⟨w.heap.size, 0, none⟩) 1 1, .bool false] 24)).1
    rw [hW]; simpa using this
  have hW3 : W.heap.size = w.heap.size + 1 + 1 := by rw [hW]; simp
  have hW4 : Below w.heap.size w W := by rw [hW]; exact ((Below.refl _ _).alloc (Nat.le_refl _) _).alloc (by simp) _
  have HW := Lib.hid hW
  have HW1 := Lib.hid hW1
  have HW2 := Lib.hid hW2
  have HW3 := Lib.hid hW3
  clear hW hW1 hW2 hW3
  go_enter Try.func17, Try.ntmps17
  go_wp2_with fail
  rw [← HW.out]
  refine (HN.out W HW1.out).mono ?_
  rintro e w2 ⟨rfl, hb2⟩
  have hbk : w2.heap[w.heap.size]? = some (.cells #[.string ⟨#[49, 49]⟩] 9 (0, 0)) := (hb2.block _ (by rw [HW3.out]; omega)).trans HW1.out
  have hbx := (hb2.block _ (by rw [HW3.out]; omega)).trans HW2.out
  have c0 : w2.cell? ⟨w.heap.size + 1, 0, none⟩ = some (.string ⟨#[48, 49]⟩) := cell_of_block hbx 0
  have c1 : w2.cell? ⟨w.heap.size + 1, 1, none⟩ = some (.int .i64 3) := cell_of_block hbx 1
  have c2 : w2.cell? ⟨w.heap.size + 1, 2, none⟩ = some (.slice (some ⟨w.heap.size, 0, none⟩) 1 1) := cell_of_block hbx 2
  have c3 : w2.cell? ⟨w.heap.size + 1, 3, none⟩ = some (.bool false) := cell_of_block hbx 3
  have hb3 := hW4.trans (hb2.mono hW4.size)
  have HBK := Lib.hid hbk
  clear hb2 hbx hbk
  go_wp2_with fail
  refine (HT.out w2 HBK.out).mono ?_
  rintro e w4 ⟨rfl, hb4⟩
  have hb5 := hb3.trans (hb4.mono hb3.size)
  clear hb3 hb4 c0 c1 c2 c3
  go_wp2
  go_ret
  exact ⟨rfl, hb5⟩

set_option maxRecDepth 100000 in
set_option maxHeartbeats 1000000 in
theorem few_any (h : s.In w a) : Calls Try.prog 16 #[s.val a cap] w (SomeBool w) := by
  have hlen := h.len
  have hal := h.alpha
  have hbn := h.bans
  unfold maxLen at hlen hal
  have hw : ∀ w2, Below w.heap.size w w2 → s.In w2 a := fun w2 hb => h.below hb
  have HIN := Lib.hid hw
  clear h hw
  obtain ⟨A, L, bs, chk⟩ := s
  unfold Sch.val
  dsimp only at *
  go_enter Try.func16, Try.ntmps16
  go_wp2_with fail
  go_loop [3, 4] (fun zz kk => ∃ (k : Nat) (z : Int), k ≤ bs.length ∧ k ≤ 20 ∧ kk = .int .i64 k ∧ zz = .int .i64 z) (fun _ kk => bs.length - (intOf kk).toNat)
  case atStart => exact ⟨0, _, Nat.zero_le _, by omega, rfl, rfl⟩
  case round =>
    obtain ⟨k, z, hk, hk20, rfl, rfl⟩ := hrel
    by_cases hlt : k < bs.length
    · by_cases hlt2 : k < 20
      · obtain ⟨b, off, ha, hc⟩ := ((HIN.out w (Below.refl _ _)).strs) (by dsimp only; omega)
        dsimp only at hc
        have hce := hc.out k hlt
        have hcl := cell_alloc hce (.cells #[.string A, .int .i64 L, .slice (some ⟨b, off, none⟩) bs.length cap, .bool chk] 24)
        obtain ⟨ban, hban⟩ : ∃ ban, ban = bs.getD k ⟨#[]⟩ := ⟨_, rfl⟩
        rw [← hban] at hce hcl
        clear hban
        subst ha
        go_wp2
        go_round
        case rel => exact ⟨k + 1, _, by omega, by omega, by go_num, rfl⟩
        case measure => simp [intOf]; omega
      · have hd : decide ((k : Int) < 20) = false := by rw [decide_eq_false_iff_not]; omega
        go_wp2
        all_goals
          go_ret
          exact ⟨_, rfl, (Below.refl _ _).alloc (Nat.le_refl _) _⟩
    · go_wp2
      all_goals
        go_ret
        exact ⟨_, rfl, (Below.refl _ _).alloc (Nat.le_refl _) _⟩

set_option maxHeartbeats 1000000 in
theorem long_any (hL : -9223372036854775808 ≤ s.L ∧ s.L < 9223372036854775807) : Calls Try.prog 24 #[s.val a cap] w fun e w' => e = .returned (.int .i64 (s.L + (if s.chk then 1 else 0))) ∧ Below w.heap.size w w' := by
  obtain ⟨A, L, bs, chk⟩ := s
  unfold Sch.val
  dsimp only at *
  cases chk
  all_goals
    go_enter Try.func24, Try.ntmps24
    go_wp2
    go_ret
    exact ⟨by simp, (Below.refl _ _).alloc (Nat.le_refl _) _⟩

set_option maxHeartbeats 1000000 in
theorem value_any (A : ByteArray) (c : UInt8) (hA : A.size ≤ maxLen) : Calls Try.prog 25 #[.string A, .int .u8 c.toNat] w fun e w' => e = .returned (.int .i64 (Lib.indexByte A.data.toList c)) ∧ w = w' := by
  unfold maxLen at hA
  go_enter Try.func25, Try.ntmps25
  go_wp2_with fail
  go_loop [5] (fun i => ∃ k : Nat, k ≤ A.size ∧ i = .int .i64 k ∧ Hid (∀ j, j < k → A.data.toList[j]? ≠ some c)) (fun i => A.size - (intOf i).toNat)
  case atStart => exact ⟨0, Nat.zero_le _, rfl, Lib.hid (fun j hj => by omega)⟩
  case round =>
    obtain ⟨k, hk, rfl, hno⟩ := hrel
    by_cases hlt : k < A.size
    · have hgk : A.data.toList[k]? = some A[k] := Lib.data_getElem? A k hlt
      have HGK := Lib.hid hgk
      clear hgk
      by_cases hc : A[k] = c
      · have hd : ((A[k].toNat : Int) == (c.toNat : Int)) = true := by rw [hc]; simp
        have hfin : Lib.indexByte A.data.toList c = k := indexByte_at hno.out (by rw [HGK.out, hc])
        have HF := Lib.hid hfin
        clear hc hfin
        go_wp2
        go_ret
        exact ⟨by rw [HF.out]; rfl, rfl⟩
      · have hd : ((A[k].toNat : Int) == (c.toNat : Int)) = false := by
          rw [beq_eq_false_iff_ne]; intro e; exact hc (UInt8.toNat_inj.1 (by omega))
        have HC := Lib.hid hc
        clear hc
        go_wp2
        go_round
        case rel =>
          refine ⟨k + 1, by omega, by go_num, Lib.hid (fun j hj => ?_)⟩
          by_cases hjk : j = k
          · subst hjk; rw [HGK.out]; intro e; exact HC.out (Option.some.inj e)
          · exact hno.out j (by omega)
        case measure => simp [intOf]; omega
    · obtain rfl : k = A.size := by omega
      have hfin : Lib.indexByte A.data.toList c = -1 := indexByte_none (fun j => by
        by_cases hj : j < A.size
        · exact hno.out j hj
        · rw [List.getElem?_eq_none (by rw [size_toList]; omega)]; simp)
      have HF := Lib.hid hfin
      clear hfin
      go_wp2
      go_ret
      exact ⟨by rw [HF.out]; rfl, rfl⟩
end
end Go.Proofs.Yteleehldcpjndaa
