/- The contracts of package serial's Check, Count, Text, Number and Complete. Condition: the scheme's parts are in memory. -/
import Derived.Test.YteleehldcpjndaaSerN
namespace Go.Proofs.Yteleehldcpjndaa
open Go Go.RowKit

/-- what a valid scheme is -/
structure Sch.Ok (s : Sch) : Prop extends s.Wf where
  pos : 0 < s.bods.length
  cap : s.bods.length < capM

theorem Sch.ok_of {s : Sch} (h : s.err = 0) : s.Ok := by
  unfold Sch.err at h
  split at h
  · cases h
  · rename_i hw
    split at h
    · cases h
    · rename_i hb
      exact ⟨Sch.wf_of (by simpa using hw), by omega, by omega⟩

theorem Sch.err_of {s : Sch} (h : s.Ok) (hw : s.wf = true) : s.err = 0 := by
  unfold Sch.err
  rw [if_neg (by rw [hw]; simp), if_neg]
  have := h.pos; have := h.cap; omega

theorem Sch.err_le (s : Sch) : s.err ≤ 20 := by unfold Sch.err; split; omega; split <;> omega

section
variable {w : World} {s : Sch} {a : Option Addr} {cap : Nat}

theorem prepare_err (h : s.In w a) (he : s.err ≠ 0) :
    Calls Try.prog 46 #[s.val a cap] w fun e w' => e = .returned (.tuple #[.pointer none, .int .i64 0, .int .i64 (s.err : Nat)]) ∧ Below w.heap.size w w' := by
  cases hw : s.wf
  · have he2 : s.err = 20 := by unfold Sch.err; rw [if_pos hw]
    rw [he2]
    exact prepare_bad s a cap h hw
  · refine prepare_wf s a cap h hw _ ?_ ?_
    · intro w' hr hb
      have he2 : s.err = 3 := by unfold Sch.err; rw [if_neg (by rw [hw]; simp), if_pos hr]
      rw [he2]
      exact ⟨rfl, hb⟩
    · intro w' xb h1 h2 _ _
      exact absurd (Sch.err_of ⟨Sch.wf_of hw, h1, h2⟩ hw) he

theorem prepare_ok (h : s.In w a) (he : s.err = 0) :
    Calls Try.prog 46 #[s.val a cap] w fun e w' => ∃ xb, e = .returned (.tuple #[.pointer (some ⟨xb, 0, none⟩), .int .i64 (s.bods.length : Nat), .int .i64 0]) ∧ s.At w' xb ∧ Below w.heap.size w w' := by
  have hw : s.wf = true := by
    cases hw : s.wf
    · unfold Sch.err at he; rw [if_pos hw] at he; cases he
    · rfl
  have O := Sch.ok_of he
  refine prepare_wf s a cap h hw _ ?_ ?_
  · intro w' hr hb
    have := O.pos; have := O.cap; omega
  · intro w' xb _ _ hat hb
    exact ⟨xb, rfl, hat, hb⟩

/-- a world with a box in front -/
theorem Sch.In.boxed (h : s.In w a) (o : Obj) : s.In (w.alloc o) a := h.below ((Below.refl _ _).alloc (Nat.le_refl _) o)

theorem below_box {w w2 : World} (o : Obj) (hb : Below (w.alloc o).heap.size (w.alloc o) w2) : Below w.heap.size w w2 := ((Below.refl _ _).alloc (Nat.le_refl _) _).trans (hb.mono (by simp))

set_option maxHeartbeats 400000 in
theorem count_err (h : s.In w a) (he : s.err ≠ 0) :
    Calls Try.prog 22 #[s.val a cap] w fun e w' => e = .returned (.tuple #[.int .i64 0, .int .i64 (s.err : Nat)]) ∧ Below w.heap.size w w' := by
  have HP := Lib.hid (fun w2 (h2 : s.In w2 a) => prepare_err (cap := cap) h2 he)
  have HI := Lib.hid h
  clear h
  unfold Sch.val at *
  go_enter Try.func22, Try.ntmps22
  go_wp2_with fail
  refine (HP.out _ (HI.out.boxed _)).mono ?_
  rintro e w2 ⟨rfl, hb2⟩
  have hb3 := below_box _ hb2
  clear hb2
  go_wp2
  go_ret2
  exact ⟨rfl, hb3⟩

set_option maxHeartbeats 400000 in
theorem count_ok (h : s.In w a) (he : s.err = 0) :
    Calls Try.prog 22 #[s.val a cap] w fun e w' => e = .returned (.tuple #[.int .i64 (s.bods.length : Nat), .int .i64 0]) ∧ Below w.heap.size w w' := by
  have HP := Lib.hid (fun w2 (h2 : s.In w2 a) => prepare_ok (cap := cap) h2 he)
  have HI := Lib.hid h
  clear h he
  unfold Sch.val at *
  go_enter Try.func22, Try.ntmps22
  go_wp2_with fail
  refine (HP.out _ (HI.out.boxed _)).mono ?_
  rintro e w2 ⟨xb, rfl, hat, hb2⟩
  have hb3 := below_box _ hb2
  clear hb2
  go_wp2
  go_ret2
  exact ⟨rfl, hb3⟩

set_option maxHeartbeats 400000 in
theorem check_err (h : s.In w a) :
    Calls Try.prog 33 #[s.val a cap] w fun e w' => e = .returned (.int .i64 (s.err : Nat)) ∧ Below w.heap.size w w' := by
  have HI := Lib.hid h
  clear h
  by_cases he : s.err = 0
  · have HP := Lib.hid (fun w2 (h2 : s.In w2 a) => prepare_ok (cap := cap) h2 he)
    have HE := Lib.hid he
    clear he
    unfold Sch.val at *
    go_enter Try.func33, Try.ntmps33
    go_wp2_with fail
    refine (HP.out _ (HI.out.boxed _)).mono ?_
    rintro e w2 ⟨xb, rfl, hat, hb2⟩
    have hb3 := below_box _ hb2
    clear hb2
    go_wp2
    go_ret
    exact ⟨by rw [HE.out]; rfl, hb3⟩
  · have HP := Lib.hid (fun w2 (h2 : s.In w2 a) => prepare_err (cap := cap) h2 he)
    clear he
    unfold Sch.val at *
    go_enter Try.func33, Try.ntmps33
    go_wp2_with fail
    refine (HP.out _ (HI.out.boxed _)).mono ?_
    rintro e w2 ⟨rfl, hb2⟩
    have hb3 := below_box _ hb2
    clear hb2
    go_wp2
    go_ret
    exact ⟨rfl, hb3⟩

set_option maxHeartbeats 400000 in
theorem text_err (n : Int) (h : s.In w a) (he : s.err ≠ 0) :
    Calls Try.prog 19 #[s.val a cap, .int .i64 n] w fun e w' => e = .returned (.tuple #[.string ⟨#[]⟩, .int .i64 (s.err : Nat)]) ∧ Below w.heap.size w w' := by
  have HP := Lib.hid (fun w2 (h2 : s.In w2 a) => prepare_err (cap := cap) h2 he)
  have HI := Lib.hid h
  have hd : ((s.err : Int) != 0) = true := by rw [bne_iff_ne]; omega
  clear h he
  unfold Sch.val at *
  go_enter Try.func19, Try.ntmps19
  go_wp2_with fail
  refine (HP.out _ (HI.out.boxed _)).mono ?_
  rintro e w2 ⟨rfl, hb2⟩
  have hb3 := below_box _ hb2
  clear hb2
  go_wp2
  go_ret2
  exact ⟨rfl, hb3⟩

set_option maxHeartbeats 400000 in
theorem text_range (n : Int) (h : s.In w a) (he : s.err = 0) (hn : n < 0 ∨ (s.bods.length : Int) ≤ n) :
    Calls Try.prog 19 #[s.val a cap, .int .i64 n] w fun e w' => e = .returned (.tuple #[.string ⟨#[]⟩, .int .i64 3]) ∧ Below w.heap.size w w' := by
  have HP := Lib.hid (fun w2 (h2 : s.In w2 a) => prepare_ok (cap := cap) h2 he)
  have HI := Lib.hid h
  clear h he
  unfold Sch.val at *
  rcases hn with hn | hn
  all_goals
    go_enter Try.func19, Try.ntmps19
    go_wp2_with fail
    refine (HP.out _ (HI.out.boxed _)).mono ?_
    rintro e w2 ⟨xb, rfl, hat, hb2⟩
    have hb3 := below_box _ hb2
    clear hb2
    go_wp2
    go_ret2
    exact ⟨rfl, hb3⟩

/-- the serial of a body -/
def Sch.ser (s : Sch) (p : List Nat) : Bytes := serialOf s.A.data.toList s.chk (txt s.A.data.toList p)

theorem nth_at {xb : Nat} (O : s.Ok) (hat : s.At w xb) (mask : ByteArray) (hmask : mask.size = sz s.L.toNat s.chk) (k : Nat) (T : List Nat) (hT : (s.bods.filter (fitsM s.A mask s.L.toNat s.chk))[k]? = some T) :
    Calls Try.prog 47 #[.pointer (some ⟨xb, 0, none⟩), .string mask, .int .i64 k] w
      fun e w' => e = .returned (.string ⟨(s.ser T).toArray⟩) ∧ Below w.heap.size w w' := by
  obtain ⟨M, g, h1, h2⟩ := hat.sch
  have hl1 := O.l1
  have hl16 := O.l16
  have ha2 := O.a2
  have hmp := mpaths_eq (A := s.A) (mask := mask) (L := s.L.toNat) (chk := s.chk) O.table
  refine nth_any (by omega) O.a36 (by omega) (by omega) O.ascii hmask h2 (begs_pos _) h1 k T ?_ ?_
  · rw [hmp]; exact hT
  · rw [hmp]; exact Nat.lt_of_le_of_lt (List.length_filter_le _ _) O.cap

theorem filter_any (O : s.Ok) : s.bods.filter (fitsM s.A (anyM s.L.toNat s.chk) s.L.toNat s.chk) = s.bods := by
  have h1 := mpaths_eq (A := s.A) (mask := anyM s.L.toNat s.chk) (L := s.L.toNat) (chk := s.chk) O.table
  rw [mpaths_any O.table] at h1
  exact h1.symm

theorem any_at {xb : Nat} (O : s.Ok) (hat : s.At w xb) :
    Calls Try.prog 48 #[.pointer (some ⟨xb, 0, none⟩)] w fun e w' => e = .returned (.string (anyM s.L.toNat s.chk)) ∧ Below w.heap.size w w' := by
  obtain ⟨M, g, h1, h2⟩ := hat.sch
  exact any_any h1 (by have := O.l16; omega)

set_option maxHeartbeats 400000 in
theorem text_ok (n : Nat) (h : s.In w a) (he : s.err = 0) (T : List Nat) (hn : s.bods[n]? = some T) :
    Calls Try.prog 19 #[s.val a cap, .int .i64 n] w fun e w' => e = .returned (.tuple #[.string ⟨(s.ser T).toArray⟩, .int .i64 0]) ∧ Below w.heap.size w w' := by
  have HP := Lib.hid (fun w2 (h2 : s.In w2 a) => prepare_ok (cap := cap) h2 he)
  have O := Sch.ok_of he
  have HI := Lib.hid h
  have hlt := (List.getElem?_eq_some_iff.1 hn).1
  have hN := hn
  rw [← filter_any O] at hN
  have HN := Lib.hid hN
  clear h he hn hN
  unfold Sch.val at *
  go_enter Try.func19, Try.ntmps19
  go_wp2_with fail
  refine (HP.out _ (HI.out.boxed _)).mono ?_
  rintro e w2 ⟨xb, rfl, hat, hb2⟩
  have hb3 := below_box _ hb2
  clear hb2
  go_wp2_with fail
  refine (any_at O hat).mono ?_
  rintro e w4 ⟨rfl, hb4⟩
  have hb5 := hb3.trans (hb4.mono hb3.size)
  go_wp2_with fail
  refine (nth_at O (hat.below hb4) _ (any_size _ _) n T HN.out).mono ?_
  rintro e w6 ⟨rfl, hb6⟩
  have hb7 := hb5.trans (hb6.mono hb5.size)
  clear hb3 hb4 hb5 hb6
  go_wp2
  go_ret2
  exact ⟨rfl, hb7⟩
end
end Go.Proofs.Yteleehldcpjndaa
