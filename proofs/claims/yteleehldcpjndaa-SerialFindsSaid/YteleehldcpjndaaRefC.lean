/- The contracts of the reference's Sum, Serial and Small. Condition: the scheme's parts are in memory, the body is of the alphabet. -/
import Derived.Test.YteleehldcpjndaaRefB
namespace Go.Proofs.Yteleehldcpjndaa
open Go Go.RowKit

theorem check1_iff {m p c : Nat} (hm : 2 ≤ m) (hp : p ≤ m) (hc : c < m) : (p + c) % m = 1 ↔ c = check1 m p := by
  unfold check1
  have e1 : (p + c) % m = if p + c < m then p + c else if p + c < 2 * m then p + c - m else p + c - 2 * m := by
    split
    · rw [Nat.mod_eq_of_lt (by omega)]
    · split
      · rw [Nat.mod_eq_sub_mod (by omega), Nat.mod_eq_of_lt (by omega)]
      · omega
  have e2 : (m + 1 - p) % m = if m + 1 - p < m then m + 1 - p else m + 1 - p - m := by
    split
    · rw [Nat.mod_eq_of_lt (by omega)]
    · rw [Nat.mod_eq_sub_mod (by omega), Nat.mod_eq_of_lt (by omega)]
  rw [e1, e2]
  split <;> split <;> (try split) <;> omega

theorem foldAll_more (m q : Nat) (A : List UInt8) (l : List UInt8) (c : UInt8) : foldAll m q (idxs A (l ++ [c])) = fold1 m (foldAll m q (idxs A l)) (idx A c) := by
  unfold foldAll idxs
  rw [List.map_append, List.foldl_append]; rfl

set_option maxHeartbeats 1000000 in
theorem sum_ref (A s : ByteArray) (w : World) (hA2 : 2 ≤ A.size) (hA : A.size ≤ 36) (hs : s.size ≤ 1000) (hof : ofB s.data.toList A.data.toList = true) :
    Calls Try.prog 55 #[.string A, .string s] w fun e w' =>
      e = .returned (.string ⟨#[A.data.toList.getD (check1 A.size (foldAll A.size A.size (idxs A.data.toList s.data.toList))) 0]⟩) ∧ w = w' := by
  have HAL : Hid (A.size ≤ maxLen) := Lib.hid (by unfold maxLen; omega)
  have HOF := Lib.hid hof
  clear hof
  go_enter Try.func55, Try.ntmps55
  go_wp2_with fail
  go_loop [6, 7] (fun vp vi => ∃ (k q : Nat), k ≤ s.size ∧ q ≤ A.size ∧ vi = .int .i64 k ∧ vp = .int .i64 q ∧ Hid (q = foldAll A.size A.size (idxs A.data.toList (s.data.toList.take k)))) (fun _ vi => s.size - (intOf vi).toNat)
  case atStart => exact ⟨0, A.size, Nat.zero_le _, Nat.le_refl _, rfl, rfl, Lib.hid rfl⟩
  case round =>
    obtain ⟨k, q, hk, hq, rfl, rfl, hfold⟩ := hrel
    by_cases hlt : k < s.size
    · go_wp2_with fail
      refine (value_any A s[k] HAL.out).mono ?_
      rintro e w' ⟨rfl, rfl⟩
      have hin : A.data.toList.contains s[k] = true := (List.all_eq_true.1 HOF.out) _ (by simp [ByteArray.getElem_eq_getElem_data])
      have hvl := idx_lt hin
      rw [size_toList] at hvl
      have hv : Lib.indexByte A.data.toList s[k] = (idx A.data.toList s[k] : Nat) := by
        have := Lib.contains_iff_indexByte A.data.toList s[k]
        rw [hin] at this
        have h0 : 0 ≤ Lib.indexByte A.data.toList s[k] := by simpa using this.symm
        unfold idx; omega
      have HN : Hid (foldAll A.size A.size (idxs A.data.toList (s.data.toList.take (k + 1))) = fold1 A.size q (idx A.data.toList s[k])) := Lib.hid (by
        rw [take_snoc s k hlt, foldAll_more, ← hfold.out])
      rw [hv]
      clear hv hin
      generalize idx A.data.toList s[k] = v at *
      have hfl := fold1_lt A.size q v
      have hb1 : ((q : Int) + (v : Int)) % (A.size : Int) < (A.size : Int) := Int.emod_lt_of_pos _ (by omega)
      have hb2 : 0 ≤ ((q : Int) + (v : Int)) % (A.size : Int) := Int.emod_nonneg _ (by omega)
      by_cases h0 : (q + v) % A.size = 0
      · have h2 : (((q : Int) + (v : Int)) % (A.size : Int) == 0) = true := by
          rw [beq_iff_eq, ← Int.natCast_add, ← Int.natCast_emod, h0]; rfl
        have H0 := Lib.hid h0
        clear h0
        go_wp2
        go_round
        case rel =>
          refine ⟨k + 1, fold1 A.size q v, by omega, hfl, by go_num, ?_, Lib.hid HN.out.symm⟩
          simp [fold1, H0.out]
        case measure => simp [intOf]; omega
      · have h2 : (((q : Int) + (v : Int)) % (A.size : Int) == 0) = false := by
          rw [beq_eq_false_iff_ne, ← Int.natCast_add, ← Int.natCast_emod]; omega
        have H0 := Lib.hid h0
        clear h0
        go_wp2
        go_round
        case rel =>
          refine ⟨k + 1, fold1 A.size q v, by omega, hfl, by go_num, ?_, Lib.hid HN.out.symm⟩
          simp [fold1, H0.out]
        case measure => simp [intOf]; omega
    · obtain rfl : k = s.size := by omega
      have hq2 : q = foldAll A.size A.size (idxs A.data.toList s.data.toList) := by
        have := hfold.out
        rwa [List.take_of_length_le (by simp)] at this
      have HQ2 := Lib.hid hq2
      clear hfold hq2
      have hcl := check1_lt A.size q (by omega)
      go_wp2_with fail
      go_loop [9] (fun vc => ∃ c : Nat, c ≤ check1 A.size q ∧ vc = .int .i64 c) (fun vc => A.size - (intOf vc).toNat)
      case atStart => exact ⟨0, Nat.zero_le _, rfl⟩
      case round =>
        obtain ⟨c, hc, rfl⟩ := hrel
        have hiff := check1_iff (m := A.size) (p := q) (c := c) hA2 hq (by omega)
        by_cases he : c = check1 A.size q
        · have h2 : (((q : Int) + (c : Int)) % (A.size : Int) == 1) = true := by
            rw [beq_iff_eq, ← Int.natCast_add, ← Int.natCast_emod, hiff.2 he]; rfl
          have HE := Lib.hid he
          have hcA : c < A.size := by omega
          clear hiff he hc hcl
          go_wp2
          go_ret
          refine ⟨ret_str (ba_eq ?_), rfl⟩
          rw [extract_one A c hcA, HE.out, HQ2.out]
          simp
        · have h2 : (((q : Int) + (c : Int)) % (A.size : Int) == 1) = false := by
            rw [beq_eq_false_iff_ne, ← Int.natCast_add, ← Int.natCast_emod]
            intro h
            exact he (hiff.1 (by omega))
          have hc2 : c < check1 A.size q := by omega
          clear hiff he hc
          go_wp2
          go_round
          case rel => exact ⟨c + 1, hc2, by go_num⟩
          case measure => simp [intOf]; omega

section
variable {w : World} {s : Sch} {a : Option Addr} {cap : Nat}

set_option maxHeartbeats 400000 in
theorem serial_ref (hA2 : 2 ≤ s.A.size) (hA : s.A.size ≤ 36) (x : ByteArray) (hs : x.size ≤ 1000) (hof : ofB x.data.toList s.A.data.toList = true) :
    Calls Try.prog 31 #[s.val a cap, .string x] w fun e w' => e = .returned (.string ⟨(serialOf s.A.data.toList s.chk x.data.toList).toArray⟩) ∧ Below w.heap.size w w' := by
  have HOF := Lib.hid hof
  clear hof
  obtain ⟨A, L, bs, chk⟩ := s
  dsimp only at *
  unfold Sch.val
  cases chk
  · go_enter Try.func31, Try.ntmps31
    go_wp2_with fail
    go_ret
    refine ⟨ret_str (ba_eq ?_), (Below.refl _ _).alloc (Nat.le_refl _) _⟩
    simp [serialOf]
  · go_enter Try.func31, Try.ntmps31
    go_wp2_with fail
    refine (sum_ref A x _ hA2 hA hs HOF.out).mono ?_
    rintro e w' ⟨rfl, rfl⟩
    go_wp2_with fail
    go_ret
    refine ⟨ret_str (ba_eq ?_), (Below.refl _ _).alloc (Nat.le_refl _) _⟩
    simp [serialOf]
end
end Go.Proofs.Yteleehldcpjndaa
