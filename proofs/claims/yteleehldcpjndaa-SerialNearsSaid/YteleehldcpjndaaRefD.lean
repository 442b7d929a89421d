/- The contract of the reference's Small. Condition: the scheme is well-formed and its parts are in memory. -/
import Derived.Test.YteleehldcpjndaaRefC
namespace Go.Proofs.Yteleehldcpjndaa
open Go Go.RowKit

section
variable {w : World} {s : Sch} {a : Option Addr} {cap : Nat}

set_option maxRecDepth 100000 in
set_option maxHeartbeats 1000000 in
theorem small_ref (h : s.In w a) (W : s.Wf) (most : Nat) (h1 : 1 ≤ most) (h40 : most ≤ 1099511627776) :
    Calls Try.prog 30 #[s.val a cap, .int .i64 most] w fun e w' => e = .returned (.bool (decide (s.A.size ^ s.L.toNat ≤ most))) ∧ Below w.heap.size w w' := by
  have hc1 := Ctx.start' (cap := cap) h
  have hl1 := W.l1
  have hl16 := W.l16
  have ha2 := W.a2
  have ha36 := W.a36
  clear h W
  unfold Sch.val
  go_enter Try.func30, Try.ntmps30
  go_wp2_with fail
  go_loopw [5, 6] (fun vn vi wr => ∃ (i n : Nat), i ≤ s.L.toNat ∧ n ≤ most ∧ vi = .int .i64 i ∧ vn = .int .i64 n ∧ Hid (n = s.A.size ^ i) ∧ Ctx s a cap w w.heap.size wr) (fun _ vi _ => s.L.toNat - (intOf vi).toNat)
  case atStart => exact ⟨0, 1, Nat.zero_le _, h1, rfl, rfl, Lib.hid (by simp), hc1⟩
  case round =>
    obtain ⟨i, n, hi, hn, rfl, rfl, hpow, hcr⟩ := hrel
    clear hc1
    have c0 := hcr.c0
    have c1 := hcr.c1
    by_cases hlt : (i : Int) < s.L
    · have hmul : n * s.A.size ≤ 1099511627776 * 36 := Nat.mul_le_mul (by omega) ha36
      have HP : Hid (n * s.A.size = s.A.size ^ (i + 1)) := Lib.hid (by rw [Nat.pow_succ, ← hpow.out])
      obtain ⟨m, hm⟩ : ∃ m, m = n * s.A.size := ⟨_, rfl⟩
      have hmi : (n : Int) * (s.A.size : Int) = (m : Int) := by rw [hm, Int.natCast_mul]
      rw [← hm] at hmul
      have HM := Lib.hid hm
      clear hm
      by_cases hle : m ≤ most
      · go_wp2_with fail
        go_roundw
        case rel => exact ⟨i + 1, m, by omega, hle, by go_num, by first | rfl | rw [hmi], Lib.hid (by rw [HM.out]; exact HP.out), hcr⟩
        case measure => simp [intOf]; omega
      · have HF : Hid (decide (s.A.size ^ s.L.toNat ≤ most) = false) := Lib.hid (by
          rw [decide_eq_false_iff_not]
          intro hc
          have := Nat.pow_le_pow_right (show 0 < s.A.size by omega) (show i + 1 ≤ s.L.toNat by omega)
          rw [← HP.out, ← HM.out] at this
          omega)
        go_wp2_with fail
        go_ret
        exact ⟨ret_bool HF.out.symm, hcr.below⟩
    · have HF : Hid (decide (s.A.size ^ s.L.toNat ≤ most) = true) := Lib.hid (by
        rw [decide_eq_true_eq, show s.L.toNat = i by omega, ← hpow.out]; exact hn)
      go_wp2_with fail
      go_ret
      exact ⟨ret_bool HF.out.symm, hcr.below⟩
end
end Go.Proofs.Yteleehldcpjndaa
