/- The contracts of package serial's masked, Matches, Match and Below. Condition: the scheme's parts are in memory. -/
import Derived.Test.YteleehldcpjndaaSerP
namespace Go.Proofs.Yteleehldcpjndaa
open Go Go.RowKit

/-- a mask of a scheme -/
def Sch.okM (s : Sch) (mask : ByteArray) : Bool := decide (mask.size = sz s.L.toNat s.chk) && ofB mask.data.toList (s.A.data.toList ++ [63])

section
variable {w : World} {s : Sch} {a : Option Addr} {cap : Nat}

set_option maxHeartbeats 400000 in
theorem masked_err (mask : ByteArray) (h : s.In w a) (he : s.err ≠ 0) :
    Calls Try.prog 56 #[s.val a cap, .string mask] w fun e w' => e = .returned (.tuple #[.pointer none, .int .i64 0, .int .i64 (s.err : Nat)]) ∧ Below w.heap.size w w' := by
  have HP := Lib.hid (fun w2 (h2 : s.In w2 a) => prepare_err (cap := cap) h2 he)
  have HI := Lib.hid h
  have hd : ((s.err : Int) != 0) = true := by rw [bne_iff_ne]; omega
  clear h he
  unfold Sch.val at *
  go_enter Try.func56, Try.ntmps56
  go_wp2_with fail
  refine (HP.out _ (HI.out.boxed _)).mono ?_
  rintro e w2 ⟨rfl, hb2⟩
  have hb3 := below_box _ hb2
  clear hb2
  go_wp2
  go_ret3
  exact ⟨rfl, hb3⟩

set_option maxHeartbeats 400000 in
theorem masked_no (mask : ByteArray) (hx : mask.size ≤ maxLen) (h : s.In w a) (he : s.err = 0) (hs : s.okM mask = false) :
    Calls Try.prog 56 #[s.val a cap, .string mask] w fun e w' => e = .returned (.tuple #[.pointer none, .int .i64 0, .int .i64 4]) ∧ Below w.heap.size w w' := by
  have HP := Lib.hid (fun w2 (h2 : s.In w2 a) => prepare_ok (cap := cap) h2 he)
  have O := Sch.ok_of he
  have HI := Lib.hid h
  have HX := Lib.hid hx
  have hl1 := O.l1
  have hl16 := O.l16
  have ha36 := O.a36
  clear h he hx
  unfold Sch.val at *
  by_cases hsz : mask.size = sz s.L.toNat s.chk
  · have hd0 : ((mask.size : Int) != (sz s.L.toNat s.chk : Nat)) = false := by rw [bne_eq_false_iff_eq, hsz]
    have hof : ofB mask.data.toList (s.A.data.toList ++ [63]) = false := by
      unfold Sch.okM at hs; simpa [hsz] using hs
    have HO := Lib.hid hof
    clear hsz hs hof
    go_enter Try.func56, Try.ntmps56
    go_wp2_with fail
    refine (HP.out _ (HI.out.boxed _)).mono ?_
    rintro e w2 ⟨xb, rfl, hat, hb2⟩
    have hb3 := below_box _ hb2
    clear hb2
    obtain ⟨M, g, hsch, hnx⟩ := hat.sch
    have c0 := hsch.a
    go_wp2_with fail
    refine (size_any hsch (by omega)).mono ?_
    rintro e w4 ⟨rfl, rfl⟩
    go_wp2_with fail
    refine (of_any mask _ _ HX.out).mono ?_
    rintro e w4 ⟨rfl, rfl⟩
    rw [show (s.A ++ (⟨#[63]⟩ : ByteArray)).data.toList = s.A.data.toList ++ [63] by simp, HO.out]
    go_wp2
    go_ret3
    exact ⟨rfl, hb3⟩
  · have hd0 : ((mask.size : Int) != (sz s.L.toNat s.chk : Nat)) = true := by rw [bne_iff_ne]; omega
    clear hsz hs
    go_enter Try.func56, Try.ntmps56
    go_wp2_with fail
    refine (HP.out _ (HI.out.boxed _)).mono ?_
    rintro e w2 ⟨xb, rfl, hat, hb2⟩
    have hb3 := below_box _ hb2
    clear hb2
    obtain ⟨M, g, hsch, hnx⟩ := hat.sch
    go_wp2_with fail
    refine (size_any hsch (by omega)).mono ?_
    rintro e w4 ⟨rfl, rfl⟩
    go_wp2
    go_ret3
    exact ⟨rfl, hb3⟩

set_option maxHeartbeats 400000 in
theorem masked_ok (mask : ByteArray) (hx : mask.size ≤ maxLen) (h : s.In w a) (he : s.err = 0) (hs : s.okM mask = true) :
    Calls Try.prog 56 #[s.val a cap, .string mask] w fun e w' => ∃ xb, e = .returned (.tuple #[.pointer (some ⟨xb, 0, none⟩), .int .i64 (s.bods.length : Nat), .int .i64 0]) ∧ s.At w' xb ∧ Below w.heap.size w w' := by
  have HP := Lib.hid (fun w2 (h2 : s.In w2 a) => prepare_ok (cap := cap) h2 he)
  have O := Sch.ok_of he
  have HI := Lib.hid h
  have HX := Lib.hid hx
  have hl1 := O.l1
  have hl16 := O.l16
  have ha36 := O.a36
  clear h he hx
  unfold Sch.val at *
  unfold Sch.okM at hs
  simp only [Bool.and_eq_true, decide_eq_true_eq] at hs
  obtain ⟨hsz, hof⟩ := hs
  have hd0 : ((mask.size : Int) != (sz s.L.toNat s.chk : Nat)) = false := by rw [bne_eq_false_iff_eq, hsz]
  have HO := Lib.hid hof
  clear hsz hof
  go_enter Try.func56, Try.ntmps56
  go_wp2_with fail
  refine (HP.out _ (HI.out.boxed _)).mono ?_
  rintro e w2 ⟨xb, rfl, hat, hb2⟩
  have hb3 := below_box _ hb2
  clear hb2
  obtain ⟨M, g, hsch, hnx⟩ := hat.sch
  have c0 := hsch.a
  go_wp2_with fail
  refine (size_any hsch (by omega)).mono ?_
  rintro e w4 ⟨rfl, rfl⟩
  go_wp2_with fail
  refine (of_any mask _ _ HX.out).mono ?_
  rintro e w4 ⟨rfl, rfl⟩
  rw [show (s.A ++ (⟨#[63]⟩ : ByteArray)).data.toList = s.A.data.toList ++ [63] by simp, HO.out]
  have HAT := Lib.hid hat
  go_wp2
  go_ret3
  exact ⟨xb, rfl, HAT.out, hb3⟩

theorem matches_at {xb : Nat} (O : s.Ok) (hat : s.At w xb) (mask : ByteArray) (hmask : mask.size = sz s.L.toNat s.chk) :
    Calls Try.prog 57 #[.pointer (some ⟨xb, 0, none⟩), .string mask] w
      fun e w' => e = .returned (.int .i64 ((s.mat mask).length : Nat)) ∧ Below w.heap.size w w' := by
  obtain ⟨M, g, h1, h2⟩ := hat.sch
  have hl16 := O.l16
  have ha2 := O.a2
  have hmp := mpaths_eq (A := s.A) (mask := mask) (L := s.L.toNat) (chk := s.chk) O.table
  have hc : countOf s.A mask s.L.toNat s.chk s.tt = (s.mat mask).length := by
    unfold countOf
    rw [ways_exact (by
      show (mpaths s.A mask s.L.toNat s.tt _ _ _).length < _
      rw [hmp]
      exact Nat.lt_of_le_of_lt (List.length_filter_le _ _) O.cap)]
    rw [hmp]; rfl
  rw [← hc]
  exact matches_any (by omega) O.a36 (by omega) hmask h2 (begs_pos _) h1

/-! ### Matches -/

set_option maxHeartbeats 400000 in
theorem matches_bad (mask : ByteArray) (hx : mask.size ≤ maxLen) (h : s.In w a) (hn : s.err ≠ 0 ∨ s.okM mask = false) :
    Calls Try.prog 35 #[s.val a cap, .string mask] w fun e w' => e = .returned (.tuple #[.int .i64 0, .int .i64 (if s.err = 0 then 4 else s.err : Nat)]) ∧ Below w.heap.size w w' := by
  have hm : ∀ w2, s.In w2 a → Calls Try.prog 56 #[s.val a cap, .string mask] w2 fun e w' => e = .returned (.tuple #[.pointer none, .int .i64 0, .int .i64 (if s.err = 0 then 4 else s.err : Nat)]) ∧ Below w2.heap.size w2 w' := by
    intro w2 h2
    by_cases he : s.err = 0
    · rw [if_pos he]; exact masked_no mask hx h2 he (hn.resolve_left (fun hc => hc he))
    · rw [if_neg he]; exact masked_err mask h2 he
  have hd : (((if s.err = 0 then 4 else s.err : Nat) : Int) != 0) = true := by rw [bne_iff_ne]; split <;> omega
  have HI := Lib.hid h
  have HM := Lib.hid hm
  clear h hn hm
  generalize (if s.err = 0 then 4 else s.err) = er at *
  unfold Sch.val at *
  go_enter Try.func35, Try.ntmps35
  go_wp2_with fail
  refine (HM.out _ (HI.out.boxed _)).mono ?_
  rintro e w2 ⟨rfl, hb2⟩
  have hb3 := below_box _ hb2
  clear hb2
  go_wp2
  go_ret2
  exact ⟨rfl, hb3⟩

set_option maxHeartbeats 400000 in
theorem matches_ok (mask : ByteArray) (hx : mask.size ≤ maxLen) (h : s.In w a) (he : s.err = 0) (hs : s.okM mask = true) :
    Calls Try.prog 35 #[s.val a cap, .string mask] w fun e w' => e = .returned (.tuple #[.int .i64 ((s.mat mask).length : Nat), .int .i64 0]) ∧ Below w.heap.size w w' := by
  have HP := Lib.hid (fun w2 (h2 : s.In w2 a) => masked_ok (cap := cap) mask hx h2 he hs)
  have O := Sch.ok_of he
  have HI := Lib.hid h
  have hmask : mask.size = sz s.L.toNat s.chk := by unfold Sch.okM at hs; simp only [Bool.and_eq_true, decide_eq_true_eq] at hs; exact hs.1
  have HM := Lib.hid hmask
  clear h he hx hs hmask
  unfold Sch.val at *
  go_enter Try.func35, Try.ntmps35
  go_wp2_with fail
  refine (HP.out _ (HI.out.boxed _)).mono ?_
  rintro e w2 ⟨xb, rfl, hat, hb2⟩
  have hb3 := below_box _ hb2
  clear hb2
  go_wp2_with fail
  refine (matches_at O hat mask HM.out).mono ?_
  rintro e w4 ⟨rfl, hb4⟩
  have hb5 := hb3.trans (hb4.mono hb3.size)
  clear hb3 hb4
  go_wp2
  go_ret2
  exact ⟨rfl, hb5⟩

/-! ### Match -/

set_option maxHeartbeats 400000 in
theorem match_bad (mask : ByteArray) (k : Int) (hx : mask.size ≤ maxLen) (h : s.In w a) (hn : s.err ≠ 0 ∨ s.okM mask = false) :
    Calls Try.prog 37 #[s.val a cap, .string mask, .int .i64 k] w fun e w' => e = .returned (.tuple #[.string ⟨#[]⟩, .int .i64 (if s.err = 0 then 4 else s.err : Nat)]) ∧ Below w.heap.size w w' := by
  have hm : ∀ w2, s.In w2 a → Calls Try.prog 56 #[s.val a cap, .string mask] w2 fun e w' => e = .returned (.tuple #[.pointer none, .int .i64 0, .int .i64 (if s.err = 0 then 4 else s.err : Nat)]) ∧ Below w2.heap.size w2 w' := by
    intro w2 h2
    by_cases he : s.err = 0
    · rw [if_pos he]; exact masked_no mask hx h2 he (hn.resolve_left (fun hc => hc he))
    · rw [if_neg he]; exact masked_err mask h2 he
  have hd : (((if s.err = 0 then 4 else s.err : Nat) : Int) != 0) = true := by rw [bne_iff_ne]; split <;> omega
  have HI := Lib.hid h
  have HM := Lib.hid hm
  clear h hn hm
  generalize (if s.err = 0 then 4 else s.err) = er at *
  unfold Sch.val at *
  go_enter Try.func37, Try.ntmps37
  go_wp2_with fail
  refine (HM.out _ (HI.out.boxed _)).mono ?_
  rintro e w2 ⟨rfl, hb2⟩
  have hb3 := below_box _ hb2
  clear hb2
  go_wp2
  go_ret2
  exact ⟨rfl, hb3⟩

set_option maxHeartbeats 400000 in
theorem match_range (mask : ByteArray) (k : Int) (hx : mask.size ≤ maxLen) (h : s.In w a) (he : s.err = 0) (hs : s.okM mask = true) (hk : k < 0 ∨ ((s.mat mask).length : Int) ≤ k) :
    Calls Try.prog 37 #[s.val a cap, .string mask, .int .i64 k] w fun e w' => e = .returned (.tuple #[.string ⟨#[]⟩, .int .i64 3]) ∧ Below w.heap.size w w' := by
  have HP := Lib.hid (fun w2 (h2 : s.In w2 a) => masked_ok (cap := cap) mask hx h2 he hs)
  have O := Sch.ok_of he
  have HI := Lib.hid h
  have hmask : mask.size = sz s.L.toNat s.chk := by unfold Sch.okM at hs; simp only [Bool.and_eq_true, decide_eq_true_eq] at hs; exact hs.1
  have HM := Lib.hid hmask
  clear h he hx hs hmask
  unfold Sch.val at *
  by_cases h0 : k < 0
  · clear hk
    go_enter Try.func37, Try.ntmps37
    go_wp2_with fail
    refine (HP.out _ (HI.out.boxed _)).mono ?_
    rintro e w2 ⟨xb, rfl, hat, hb2⟩
    have hb3 := below_box _ hb2
    clear hb2
    go_wp2
    go_ret2
    exact ⟨rfl, hb3⟩
  · have hk2 : ((s.mat mask).length : Int) ≤ k := hk.resolve_left h0
    clear hk
    go_enter Try.func37, Try.ntmps37
    go_wp2_with fail
    refine (HP.out _ (HI.out.boxed _)).mono ?_
    rintro e w2 ⟨xb, rfl, hat, hb2⟩
    have hb3 := below_box _ hb2
    clear hb2
    go_wp2_with fail
    refine (matches_at O hat mask HM.out).mono ?_
    rintro e w4 ⟨rfl, hb4⟩
    have hb5 := hb3.trans (hb4.mono hb3.size)
    clear hb3 hb4
    go_wp2
    go_ret2
    exact ⟨rfl, hb5⟩

set_option maxHeartbeats 400000 in
theorem match_ok (mask : ByteArray) (k : Nat) (T : List Nat) (hx : mask.size ≤ maxLen) (h : s.In w a) (he : s.err = 0) (hs : s.okM mask = true) (hT : (s.mat mask)[k]? = some T) :
    Calls Try.prog 37 #[s.val a cap, .string mask, .int .i64 k] w fun e w' => e = .returned (.tuple #[.string ⟨(s.ser T).toArray⟩, .int .i64 0]) ∧ Below w.heap.size w w' := by
  have HP := Lib.hid (fun w2 (h2 : s.In w2 a) => masked_ok (cap := cap) mask hx h2 he hs)
  have O := Sch.ok_of he
  have HI := Lib.hid h
  have hmask : mask.size = sz s.L.toNat s.chk := by unfold Sch.okM at hs; simp only [Bool.and_eq_true, decide_eq_true_eq] at hs; exact hs.1
  have HM := Lib.hid hmask
  have hk : k < (s.mat mask).length := (List.getElem?_eq_some_iff.1 hT).1
  have HT := Lib.hid hT
  clear h he hx hs hmask hT
  unfold Sch.val at *
  go_enter Try.func37, Try.ntmps37
  go_wp2_with fail
  refine (HP.out _ (HI.out.boxed _)).mono ?_
  rintro e w2 ⟨xb, rfl, hat, hb2⟩
  have hb3 := below_box _ hb2
  clear hb2
  go_wp2_with fail
  refine (matches_at O hat mask HM.out).mono ?_
  rintro e w4 ⟨rfl, hb4⟩
  have hat4 := hat.below hb4
  have hb5 := hb3.trans (hb4.mono hb3.size)
  clear hb3 hb4 hat
  go_wp2_with fail
  refine (nth_at O hat4 mask HM.out k T HT.out).mono ?_
  rintro e w6 ⟨rfl, hb6⟩
  have hb7 := hb5.trans (hb6.mono hb5.size)
  clear hb5 hb6
  go_wp2
  go_ret2
  exact ⟨rfl, hb7⟩

/-! ### Below -/

set_option maxHeartbeats 400000 in
theorem below_bad (mask : ByteArray) (n : Int) (hx : mask.size ≤ maxLen) (h : s.In w a) (hn : s.err ≠ 0 ∨ s.okM mask = false) :
    Calls Try.prog 36 #[s.val a cap, .string mask, .int .i64 n] w fun e w' => e = .returned (.tuple #[.int .i64 0, .int .i64 (if s.err = 0 then 4 else s.err : Nat)]) ∧ Below w.heap.size w w' := by
  have hm : ∀ w2, s.In w2 a → Calls Try.prog 56 #[s.val a cap, .string mask] w2 fun e w' => e = .returned (.tuple #[.pointer none, .int .i64 0, .int .i64 (if s.err = 0 then 4 else s.err : Nat)]) ∧ Below w2.heap.size w2 w' := by
    intro w2 h2
    by_cases he : s.err = 0
    · rw [if_pos he]; exact masked_no mask hx h2 he (hn.resolve_left (fun hc => hc he))
    · rw [if_neg he]; exact masked_err mask h2 he
  have hd : (((if s.err = 0 then 4 else s.err : Nat) : Int) != 0) = true := by rw [bne_iff_ne]; split <;> omega
  have HI := Lib.hid h
  have HM := Lib.hid hm
  clear h hn hm
  generalize (if s.err = 0 then 4 else s.err) = er at *
  unfold Sch.val at *
  go_enter Try.func36, Try.ntmps36
  go_wp2_with fail
  refine (HM.out _ (HI.out.boxed _)).mono ?_
  rintro e w2 ⟨rfl, hb2⟩
  have hb3 := below_box _ hb2
  clear hb2
  go_wp2
  go_ret2
  exact ⟨rfl, hb3⟩

set_option maxHeartbeats 400000 in
theorem below_range (mask : ByteArray) (n : Int) (hx : mask.size ≤ maxLen) (h : s.In w a) (he : s.err = 0) (hs : s.okM mask = true) (hk : n < 0 ∨ (s.bods.length : Int) < n) :
    Calls Try.prog 36 #[s.val a cap, .string mask, .int .i64 n] w fun e w' => e = .returned (.tuple #[.int .i64 0, .int .i64 3]) ∧ Below w.heap.size w w' := by
  have HP := Lib.hid (fun w2 (h2 : s.In w2 a) => masked_ok (cap := cap) mask hx h2 he hs)
  have HI := Lib.hid h
  clear h he hx hs
  unfold Sch.val at *
  rcases hk with h0 | h0
  all_goals
    go_enter Try.func36, Try.ntmps36
    go_wp2_with fail
    refine (HP.out _ (HI.out.boxed _)).mono ?_
    rintro e w2 ⟨xb, rfl, hat, hb2⟩
    have hb3 := below_box _ hb2
    clear hb2
    go_wp2
    go_ret2
    exact ⟨rfl, hb3⟩

set_option maxHeartbeats 400000 in
theorem below_all (mask : ByteArray) (hx : mask.size ≤ maxLen) (h : s.In w a) (he : s.err = 0) (hs : s.okM mask = true) :
    Calls Try.prog 36 #[s.val a cap, .string mask, .int .i64 (s.bods.length : Nat)] w fun e w' => e = .returned (.tuple #[.int .i64 ((s.mat mask).length : Nat), .int .i64 0]) ∧ Below w.heap.size w w' := by
  have HP := Lib.hid (fun w2 (h2 : s.In w2 a) => masked_ok (cap := cap) mask hx h2 he hs)
  have O := Sch.ok_of he
  have HI := Lib.hid h
  have hmask : mask.size = sz s.L.toNat s.chk := by unfold Sch.okM at hs; simp only [Bool.and_eq_true, decide_eq_true_eq] at hs; exact hs.1
  have HM := Lib.hid hmask
  clear h he hx hs hmask
  unfold Sch.val at *
  go_enter Try.func36, Try.ntmps36
  go_wp2_with fail
  refine (HP.out _ (HI.out.boxed _)).mono ?_
  rintro e w2 ⟨xb, rfl, hat, hb2⟩
  have hb3 := below_box _ hb2
  clear hb2
  go_wp2_with fail
  refine (matches_at O hat mask HM.out).mono ?_
  rintro e w4 ⟨rfl, hb4⟩
  have hb5 := hb3.trans (hb4.mono hb3.size)
  clear hb3 hb4
  go_wp2
  go_ret2
  exact ⟨rfl, hb5⟩

set_option maxHeartbeats 400000 in
theorem below_ok (mask : ByteArray) (n : Nat) (T : List Nat) (hx : mask.size ≤ maxLen) (h : s.In w a) (he : s.err = 0) (hs : s.okM mask = true) (hT : s.bods[n]? = some T) :
    Calls Try.prog 36 #[s.val a cap, .string mask, .int .i64 n] w fun e w' => e = .returned (.tuple #[.int .i64 (s.low mask (s.word (s.ser T)) : Nat), .int .i64 0]) ∧ Below w.heap.size w w' := by
  have HP := Lib.hid (fun w2 (h2 : s.In w2 a) => masked_ok (cap := cap) mask hx h2 he hs)
  have O := Sch.ok_of he
  have HI := Lib.hid h
  have hmask : mask.size = sz s.L.toNat s.chk := by unfold Sch.okM at hs; simp only [Bool.and_eq_true, decide_eq_true_eq] at hs; exact hs.1
  have HM := Lib.hid hmask
  have hk : n < s.bods.length := (List.getElem?_eq_some_iff.1 hT).1
  have hT2 : (s.bods.filter (fitsM s.A (anyM s.L.toNat s.chk) s.L.toNat s.chk))[n]? = some T := by rw [filter_any O]; exact hT
  have hTm : T ∈ s.bods := List.mem_of_getElem? hT
  have hlen : (s.ser T).length = sz s.L.toNat s.chk := by
    have h1 := ((mem_bodies _ _ O.nonempty _ _).1 hTm).1
    unfold Sch.ser serialOf sz
    rw [List.length_append, txt_len, h1]
    cases s.chk <;> simp
  have hof : ofB ((s.ser T).take s.L.toNat) s.A.data.toList = true := by
    have h1 := (mem_bodies _ _ O.nonempty _ _).1 hTm
    unfold Sch.ser serialOf
    rw [List.take_append_of_le_length (by rw [txt_len, h1.1]; exact Nat.le_refl _), List.take_of_length_le (by rw [txt_len, h1.1]; exact Nat.le_refl _)]
    exact of_txt h1.2.1
  have hl16 := O.l16
  have hl17 : (s.ser T).length ≤ 17 := by rw [hlen]; unfold sz; split <;> omega
  have hsz : (⟨(s.ser T).toArray⟩ : ByteArray).size = (s.ser T).length := by simp [ByteArray.size]
  have hx1 : (⟨(s.ser T).toArray⟩ : ByteArray).size ≤ maxLen := by rw [hsz]; unfold maxLen; omega
  have hx2 : s.L.toNat ≤ (⟨(s.ser T).toArray⟩ : ByteArray).size := by rw [hsz, hlen]; unfold sz; omega
  have H1 := Lib.hid hx1
  have H2 := Lib.hid hx2
  have H3 : Hid (ofB ((⟨(s.ser T).toArray⟩ : ByteArray).data.toList.take s.L.toNat) s.A.data.toList = true) := Lib.hid (by simpa using hof)
  have HT := Lib.hid hT2
  clear h he hx hs hmask hT hT2 hTm hlen hof hl17 hsz hx1 hx2
  unfold Sch.val at *
  go_enter Try.func36, Try.ntmps36
  go_wp2_with fail
  refine (HP.out _ (HI.out.boxed _)).mono ?_
  rintro e w2 ⟨xb, rfl, hat, hb2⟩
  have hb3 := below_box _ hb2
  clear hb2
  go_wp2_with fail
  refine (any_at O hat).mono ?_
  rintro e w4 ⟨rfl, hb4⟩
  have hat4 := hat.below hb4
  have hb5 := hb3.trans (hb4.mono hb3.size)
  clear hb3 hb4 hat
  go_wp2_with fail
  refine (nth_at O hat4 _ (any_size _ _) n T HT.out).mono ?_
  rintro e w6 ⟨rfl, hb6⟩
  have hat6 := hat4.below hb6
  have hb7 := hb5.trans (hb6.mono hb5.size)
  clear hb5 hb6 hat4
  go_wp2_with fail
  refine (less_at O hat6 mask HM.out _ H1.out H2.out H3.out).mono ?_
  rintro e w8 ⟨rfl, hb8⟩
  have hb9 := hb7.trans (hb8.mono hb7.size)
  clear hb7 hb8
  go_wp2
  go_ret2
  exact ⟨rfl, hb9⟩
end
end Go.Proofs.Yteleehldcpjndaa
