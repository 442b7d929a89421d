/- The contract of package serial's step. Condition: the scheme lies in memory as 'SchAt' says. -/
import Derived.Test.YteleehldcpjndaaSerA
namespace Go.Proofs.Yteleehldcpjndaa
open Go Go.RowKit

section
variable {w : World} {p : Nat} {A : ByteArray} {L : Nat} {chk : Bool} {M : Nat} {nx : Int × Int → Option Int}

theorem below_drewN (w : World) (n : Nat) : Below w.heap.size w (w.drewN n) := ⟨rfl, rfl, rfl, Nat.le_refl _, fun _ _ => rfl⟩

theorem SchAt.look (h : SchAt w p A L chk M nx) (i v : Int) (j : Int) (hj : nx (i, v) = some j) :
    (Instr.lookup 74 (.map (some M)) (.agg #[.int .i64 i, .int .i64 v]) false).run Try.prog w = .ok (.int .i64 j) w := by
  have := h.t.lookup klaw2 Try.underlying74 (by kernel_rfl) (i, v) false
  rw [hj] at this
  exact this

/-- whether a mask lets a byte by -/
def lets1 (A mask : ByteArray) (at_ v : Nat) : Bool := bt mask at_ == 63 || bt mask at_ == bt A v

set_option maxHeartbeats 1000000 in
theorem step_dead (h : SchAt w p A L chk M nx) (mask : ByteArray) (at_ v : Nat) (i : Int) (q : Int) (hj : nx (i, (v : Int)) = some (-1)) :
    Calls Try.prog 69 #[.pointer (some ⟨p, 0, none⟩), .string mask, .int .i64 at_, .int .i64 i, .int .i64 q, .int .i64 v] w
      fun e w' => e = .returned (.tuple #[.int .i64 0, .int .i64 0, .bool false]) ∧ Below w.heap.size w w' := by
  have hlook := h.look i v _ hj
  have h4 := h.m
  clear hj
  go_enter Try.func69, Try.ntmps69
  go_wp2_with fail
  go_quiet (fail)
  go_wp2
  go_ret3
  exact ⟨rfl, below_drewN _ _⟩

set_option maxHeartbeats 1000000 in
theorem step_no (h : SchAt w p A L chk M nx) (mask : ByteArray) (at_ v : Nat) (i j : Int) (q : Int) (hj : nx (i, (v : Int)) = some j) (hne : j ≠ -1) (hat : at_ < mask.size) (hv : v < A.size) (hlet : lets1 A mask at_ v = false) :
    Calls Try.prog 69 #[.pointer (some ⟨p, 0, none⟩), .string mask, .int .i64 at_, .int .i64 i, .int .i64 q, .int .i64 v] w
      fun e w' => e = .returned (.tuple #[.int .i64 0, .int .i64 0, .bool false]) ∧ Below w.heap.size w w' := by
  have hlook := h.look i v _ hj
  have h4 := h.m
  have h1 := h.a
  have hd0 : (j == -1) = false := by rw [beq_eq_false_iff_ne]; exact hne
  have hd1 : ((mask[at_].toNat : Int) != 63) = true := by
    rw [int_ne_63, bt_get hat]; unfold lets1 at hlet; simp at hlet; simp [hlet]
  have hd2 : ((mask[at_].toNat : Int) != (A[v].toNat : Int)) = true := by
    rw [int_ne_bytes, bt_get hat, bt_get hv]; unfold lets1 at hlet; simp at hlet; simp [hlet]
  clear hj hlet hne
  go_enter Try.func69, Try.ntmps69
  go_wp2_with fail
  go_quiet (fail)
  go_wp2
  go_ret3
  exact ⟨rfl, below_drewN _ _⟩

theorem start1_pos (m L : Nat) (chk : Bool) (mask : ByteArray) (hm : 0 < m) : (0 < start1 m L chk mask) ↔ sumsB L chk mask = true := by
  unfold start1; split <;> simp_all

theorem SchAt.drewN (h : SchAt w p A L chk M nx) (n : Nat) : SchAt (w.drewN n) p A L chk M nx := h.below (below_drewN w n)

set_option maxRecDepth 100000 in
set_option maxHeartbeats 1000000 in
theorem step_yes (h : SchAt w p A L chk M nx) (mask : ByteArray) (at_ v q : Nat) (i j : Int) (hj : nx (i, (v : Int)) = some j) (hne : j ≠ -1) (hat : at_ < mask.size) (hv : v < A.size) (hlet : lets1 A mask at_ v = true)
    (hm : 0 < A.size) (hA : A.size ≤ 36) (hq : q ≤ 36) (hmask : mask.size = sz L chk) :
    Calls Try.prog 69 #[.pointer (some ⟨p, 0, none⟩), .string mask, .int .i64 at_, .int .i64 i, .int .i64 q, .int .i64 v] w
      fun e w' => e = .returned (.tuple #[.int .i64 j, .int .i64 (if sumsB L chk mask then fold1 A.size q v else 0 : Nat), .bool true]) ∧ Below w.heap.size w w' := by
  have hlook := h.look i v _ hj
  have h4 := h.m
  have h1 := h.a
  have hd0 : (j == -1) = false := by rw [beq_eq_false_iff_ne]; exact hne
  have HM := Lib.hid hmask
  clear hj hne hmask
  have hsp := start1_pos A.size L chk mask hm
  cases hs : sumsB L chk mask
  · have hs0 : ¬ 0 < start1 A.size L chk mask := by rw [hsp, hs]; simp
    clear hsp hs
    by_cases hc : bt mask at_ = 63
    · have hd1 : ((mask[at_].toNat : Int) != 63) = false := by
        rw [int_ne_63, bt_get hat, hc]; rfl
      have HC := Lib.hid hc
      clear hlet hc
      go_enter Try.func69, Try.ntmps69
      go_wp2_with fail
      go_quiet (fail)
      go_wp2_with fail
      refine (start_any (h.drewN _) mask HM.out).mono ?_
      rintro e w' ⟨rfl, rfl⟩
      go_wp2
      go_ret3
      exact ⟨by simp, below_drewN _ _⟩
    · have hd1 : ((mask[at_].toNat : Int) != 63) = true := by
        rw [int_ne_63, bt_get hat]; simp [hc]
      have hd2 : ((mask[at_].toNat : Int) != (A[v].toNat : Int)) = false := by
        rw [int_ne_bytes, bt_get hat, bt_get hv]; unfold lets1 at hlet; simp [hc] at hlet; simp [hlet]
      have HC := Lib.hid hc
      clear hlet hc
      go_enter Try.func69, Try.ntmps69
      go_wp2_with fail
      go_quiet (fail)
      go_wp2_with fail
      refine (start_any (h.drewN _) mask HM.out).mono ?_
      rintro e w' ⟨rfl, rfl⟩
      go_wp2
      go_ret3
      exact ⟨by simp, below_drewN _ _⟩
  · have hs0 : 0 < start1 A.size L chk mask := by rw [hsp, hs]
    clear hsp hs
    by_cases hc : bt mask at_ = 63
    · have hd1 : ((mask[at_].toNat : Int) != 63) = false := by
        rw [int_ne_63, bt_get hat, hc]; rfl
      have HC := Lib.hid hc
      clear hlet hc
      go_enter Try.func69, Try.ntmps69
      go_wp2_with fail
      go_quiet (fail)
      go_wp2_with fail
      refine (start_any (h.drewN _) mask HM.out).mono ?_
      rintro e w' ⟨rfl, rfl⟩
      go_wp2_with fail
      refine (fold_any (h.drewN _) q v hm hA hq (by omega)).mono ?_
      rintro e w' ⟨rfl, rfl⟩
      go_wp2
      go_ret3
      exact ⟨by simp, below_drewN _ _⟩
    · have hd1 : ((mask[at_].toNat : Int) != 63) = true := by
        rw [int_ne_63, bt_get hat]; simp [hc]
      have hd2 : ((mask[at_].toNat : Int) != (A[v].toNat : Int)) = false := by
        rw [int_ne_bytes, bt_get hat, bt_get hv]; unfold lets1 at hlet; simp [hc] at hlet; simp [hlet]
      have HC := Lib.hid hc
      clear hlet hc
      go_enter Try.func69, Try.ntmps69
      go_wp2_with fail
      go_quiet (fail)
      go_wp2_with fail
      refine (start_any (h.drewN _) mask HM.out).mono ?_
      rintro e w' ⟨rfl, rfl⟩
      go_wp2_with fail
      refine (fold_any (h.drewN _) q v hm hA hq (by omega)).mono ?_
      rintro e w' ⟨rfl, rfl⟩
      go_wp2
      go_ret3
      exact ⟨by simp, below_drewN _ _⟩
end
end Go.Proofs.Yteleehldcpjndaa
