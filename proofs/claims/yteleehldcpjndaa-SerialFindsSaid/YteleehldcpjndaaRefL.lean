/- The contracts of same and of Near where the scheme is not valid. Condition: the scheme's parts are in memory. -/
import Derived.Test.YteleehldcpjndaaLawB
import Derived.BigQuiet
import Derived.Deep.QuietTactic
namespace Go.Proofs.Yteleehldcpjndaa
open Go Go.RowKit

section
variable {w : World} {s : Sch} {a b : Option Addr} {cap cap2 : Nat}

set_option maxHeartbeats 1000000 in
/-- same of two equal lists -/
theorem same_eq (xs : List ByteArray) (hx : xs.length ≤ maxLen) (h1 : StrsAt w a xs) (h2 : StrsAt w b xs) :
    Calls Try.prog 44 #[.slice a xs.length cap, .slice b xs.length cap2] w fun e w' => e = .returned (.bool true) ∧ Below w.heap.size w w' := by
  unfold maxLen at hx
  have hd0 : ((xs.length : Int) != (xs.length : Int)) = false := by simp
  go_enter Try.func44, Try.ntmps44
  go_wp2_with fail
  go_loopw [5] (fun vi wr => ∃ i : Nat, i ≤ xs.length ∧ vi = .int .i64 i ∧ Below w.heap.size w wr) (fun vi _ => xs.length - (intOf vi).toNat)
  case atStart => exact ⟨0, Nat.zero_le _, rfl, Below.refl _ _⟩
  case round =>
    obtain ⟨i, hi, rfl, hbel⟩ := hrel
    by_cases hlt : i < xs.length
    · obtain ⟨b1, o1, ha1, hc1⟩ := (h1.below hbel) (by omega)
      obtain ⟨b2, o2, ha2, hc2⟩ := (h2.below hbel) (by omega)
      have e1 := hc1.out i hlt
      have e2 := hc2.out i hlt
      generalize xs.getD i ⟨#[]⟩ = x at e1 e2
      subst ha1 ha2
      have hd : (x.toList != x.toList) = false := by simp
      have hii : (i : Int) < (xs.length : Int) := by omega
      go_wp2_with fail
      go_quiet (fail)
      have hb2 := hbel.trans ((below_drewN wr nq).mono hbel.size)
      go_wp2_with fail
      go_roundw
      case rel => exact ⟨i + 1, by omega, by go_num, hb2⟩
      case measure => simp [intOf]; omega
    · obtain rfl : i = xs.length := by omega
      go_wp2_with fail
      go_ret
      exact ⟨rfl, hbel⟩

set_option maxHeartbeats 400000 in
theorem near_err (x : ByteArray) (h : s.In w a) (he : s.err ≠ 0) :
    Calls Try.prog 41 #[s.val a cap, .string x] w fun e w' => e = .returned (.tuple #[.slice none 0 0, .int .i64 (s.err : Nat)]) ∧ Below w.heap.size w w' := by
  have HP := Lib.hid (fun w2 (h2 : s.In w2 a) => prepare_err (cap := cap) h2 he)
  have HI := Lib.hid h
  have hd : ((s.err : Int) != 0) = true := by rw [bne_iff_ne]; omega
  clear h he
  unfold Sch.val at *
  go_enter Try.func41, Try.ntmps41
  go_wp2_with fail
  refine (HP.out _ (HI.out.boxed _)).mono ?_
  rintro e w2 ⟨rfl, hb2⟩
  have hb3 := below_box _ hb2
  have HB := Lib.hid (hb3.alloc hb3.size (.cells #[.pointer none] 68))
  clear hb2 hb3
  go_wp2
  go_ret2
  exact ⟨rfl, HB.out⟩
end
end Go.Proofs.Yteleehldcpjndaa
