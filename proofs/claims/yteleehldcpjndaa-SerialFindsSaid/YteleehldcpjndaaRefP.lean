/- The contracts of the reference's Apart, and of Near where the text is no serial's. Condition: the scheme's parts are in memory. -/
import Derived.Test.YteleehldcpjndaaNearOk
import Derived.Test.YteleehldcpjndaaLawC
namespace Go.Proofs.Yteleehldcpjndaa
open Go Go.RowKit

/-- at how many of the first places two texts differ -/
def apartK (u x : Bytes) (k : Nat) : Nat := ((List.range k).filter fun i => u.getD i 0 != x.getD i 0).length

theorem apartK_all (u x : Bytes) : apartK u x u.length = apartN u x := rfl

theorem apartK_le (u x : Bytes) (k : Nat) : apartK u x k ≤ k := by
  unfold apartK
  refine Nat.le_trans (List.length_filter_le _ _) ?_
  rw [List.length_range]; exact Nat.le_refl _

theorem apartK_succ (u x : Bytes) (k : Nat) : apartK u x (k + 1) = if u.getD k 0 != x.getD k 0 then apartK u x k + 1 else apartK u x k := by
  unfold apartK
  rw [List.range_succ, List.filter_append, List.length_append]
  rw [List.filter_cons]
  cases u.getD k 0 != x.getD k 0 <;> rfl

set_option maxHeartbeats 400000 in
theorem apart_ref (m x : ByteArray) (w : World) (hm : m.size ≤ x.size) (hx : x.size ≤ maxLen) :
    Calls Try.prog 43 #[.string m, .string x] w fun e w' => e = .returned (.int .i64 (apartN m.data.toList x.data.toList : Nat)) ∧ Below w.heap.size w w' := by
  have HA : Hid (apartK m.data.toList x.data.toList m.size = apartN m.data.toList x.data.toList) := Lib.hid (by rw [← apartK_all, size_toList])
  have HLE := Lib.hid (apartK_le m.data.toList x.data.toList)
  have HS := Lib.hid (apartK_succ m.data.toList x.data.toList)
  unfold maxLen at hx
  go_enter Try.func43, Try.ntmps43
  go_wp2_with fail
  go_loopw [5, 6] (fun n i wr => ∃ k : Nat, k ≤ m.size ∧ i = .int .i64 k ∧ n = .int .i64 (apartK m.data.toList x.data.toList k : Nat) ∧ Below w.heap.size w wr) (fun _ i _ => m.size - (intOf i).toNat)
  case atStart => exact ⟨0, Nat.zero_le _, rfl, rfl, Below.refl _ _⟩
  case round =>
    obtain ⟨k, hk, rfl, rfl, hb⟩ := hrel
    have hle := HLE.out k
    by_cases hlt : k < m.size
    · have hlt2 : k < x.size := by omega
      have e1 : m[k] = m.data.toList.getD k 0 := by rw [bt_get hlt]; rfl
      have e2 : x[k] = x.data.toList.getD k 0 := by rw [bt_get hlt2]; rfl
      by_cases heq : m[k] = x[k]
      · have hd2 : ((m[k].toNat : Int) != (x[k].toNat : Int)) = false := by rw [int_ne_bytes, bne_eq_false_iff_eq]; exact heq
        have HM : Hid (apartK m.data.toList x.data.toList (k + 1) = apartK m.data.toList x.data.toList k) := Lib.hid (by
          rw [HS.out, if_neg]
          rw [← e1, ← e2, heq]; simp)
        clear e1 e2 heq
        generalize apartK m.data.toList x.data.toList k = c at *
        go_wp2_with fail
        go_quiet (fail)
        go_wp2
        go_roundw
        case rel => exact ⟨k + 1, by omega, by go_num, by rw [HM.out], hb.trans ((below_drewN _ _).mono hb.size)⟩
        case measure => simp [intOf]; omega
      · have hd2 : ((m[k].toNat : Int) != (x[k].toNat : Int)) = true := by rw [int_ne_bytes, bne_iff_ne]; exact heq
        have HM : Hid (apartK m.data.toList x.data.toList (k + 1) = apartK m.data.toList x.data.toList k + 1) := Lib.hid (by
          rw [HS.out, if_pos]
          rw [← e1, ← e2, bne_iff_ne]; exact heq)
        clear e1 e2 heq
        generalize apartK m.data.toList x.data.toList k = c at *
        go_wp2_with fail
        go_quiet (fail)
        go_wp2
        go_roundw
        case rel => exact ⟨k + 1, by omega, by go_num, by rw [HM.out]; go_num, hb.trans ((below_drewN _ _).mono hb.size)⟩
        case measure => simp [intOf]; omega
    · obtain rfl : k = m.size := by omega
      rw [HA.out]
      go_wp2
      go_ret
      exact ⟨rfl, hb⟩

section
variable {w : World} {s : Sch} {a : Option Addr} {cap : Nat}

set_option maxHeartbeats 1000000 in
theorem near_no (x : ByteArray) (hx : x.size ≤ maxLen) (h : s.In w a) (he : s.err = 0) (hs : s.syn x.data.toList = false) :
    Calls Try.prog 41 #[s.val a cap, .string x] w fun e w' => e = .returned (.tuple #[.slice none 0 0, .int .i64 4]) ∧ Below w.heap.size w w' := by
  have HP := Lib.hid (fun w2 (h2 : s.In w2 a) => prepare_ok (cap := cap) h2 he)
  have O := Sch.ok_of he
  have HI := Lib.hid h
  have HX := Lib.hid hx
  have hl1 := O.l1
  have hl16 := O.l16
  have ha36 := O.a36
  clear h he hx
  unfold Sch.val at *
  by_cases hsz : x.size = sz s.L.toNat s.chk
  · have hd0 : ((x.size : Int) != (sz s.L.toNat s.chk : Nat)) = false := by rw [bne_eq_false_iff_eq, hsz]
    have hof : ofB x.data.toList s.A.data.toList = false := by
      unfold Sch.syn at hs
      rw [size_toList, decide_eq_true hsz, Bool.true_and] at hs
      exact hs
    have HO := Lib.hid hof
    clear hsz hs hof
    go_enter Try.func41, Try.ntmps41
    go_wp2_with fail
    refine (HP.out _ (HI.out.boxed _)).mono ?_
    rintro e w2 ⟨xb, rfl, hat, hb2⟩
    have hb3 := below_box _ hb2
    have hbs := hb3.alloc hb3.size (.cells #[.pointer (some ⟨xb, 0, none⟩)] 68)
    have hat3 := hat.below ((Below.refl w2.heap.size w2).alloc (Nat.le_refl _) (.cells #[.pointer (some ⟨xb, 0, none⟩)] 68))
    have hbx : (w2.alloc (.cells #[.pointer (some ⟨xb, 0, none⟩)] 68)).heap[w2.heap.size]? = some (.cells #[.pointer (some ⟨xb, 0, none⟩)] 68 (0, 0)) := heap_new _ _ _ _ rfl
    have b0 : (w2.alloc (.cells #[.pointer (some ⟨xb, 0, none⟩)] 68)).cell? ⟨w2.heap.size, 0, none⟩ = some (.pointer (some ⟨xb, 0, none⟩)) := cell_of_block hbx 0
    clear hb2 hb3 hat hbx
    obtain ⟨M, g, hsch, hnx⟩ := hat3.sch
    have c0 := hsch.a
    have HSCH := Lib.hid hsch
    clear hsch hnx
    go_wp2_with fail
    change Calls _ _ _ (w2.alloc (.cells #[.pointer (some ⟨xb, 0, none⟩)] 68)) _
    obtain ⟨bx, hbxe⟩ : ∃ bx, bx = w2.heap.size := ⟨_, rfl⟩
    rw [← hbxe] at b0 ⊢
    clear hbxe
    generalize w2.alloc (.cells #[.pointer (some ⟨xb, 0, none⟩)] 68) = wb at *
    refine (size_any HSCH.out (by omega)).mono ?_
    rintro e w4 ⟨rfl, rfl⟩
    go_wp2_with fail
    refine (of_any x _ _ HX.out).mono ?_
    rintro e w4 ⟨rfl, rfl⟩
    rw [HO.out]
    go_wp2
    go_ret2
    exact ⟨rfl, hbs⟩
  · have hd0 : ((x.size : Int) != (sz s.L.toNat s.chk : Nat)) = true := by rw [bne_iff_ne]; omega
    clear hsz hs
    go_enter Try.func41, Try.ntmps41
    go_wp2_with fail
    refine (HP.out _ (HI.out.boxed _)).mono ?_
    rintro e w2 ⟨xb, rfl, hat, hb2⟩
    have hb3 := below_box _ hb2
    have hbs := hb3.alloc hb3.size (.cells #[.pointer (some ⟨xb, 0, none⟩)] 68)
    have hat3 := hat.below ((Below.refl w2.heap.size w2).alloc (Nat.le_refl _) (.cells #[.pointer (some ⟨xb, 0, none⟩)] 68))
    have hbx : (w2.alloc (.cells #[.pointer (some ⟨xb, 0, none⟩)] 68)).heap[w2.heap.size]? = some (.cells #[.pointer (some ⟨xb, 0, none⟩)] 68 (0, 0)) := heap_new _ _ _ _ rfl
    have b0 : (w2.alloc (.cells #[.pointer (some ⟨xb, 0, none⟩)] 68)).cell? ⟨w2.heap.size, 0, none⟩ = some (.pointer (some ⟨xb, 0, none⟩)) := cell_of_block hbx 0
    clear hb2 hb3 hat hbx
    obtain ⟨M, g, hsch, hnx⟩ := hat3.sch
    have HSCH := Lib.hid hsch
    clear hsch hnx
    go_wp2_with fail
    change Calls _ _ _ (w2.alloc (.cells #[.pointer (some ⟨xb, 0, none⟩)] 68)) _
    obtain ⟨bx, hbxe⟩ : ∃ bx, bx = w2.heap.size := ⟨_, rfl⟩
    rw [← hbxe] at b0 ⊢
    clear hbxe
    generalize w2.alloc (.cells #[.pointer (some ⟨xb, 0, none⟩)] 68) = wb at *
    refine (size_any HSCH.out (by omega)).mono ?_
    rintro e w4 ⟨rfl, rfl⟩
    go_wp2
    go_ret2
    exact ⟨rfl, hbs⟩
end
end Go.Proofs.Yteleehldcpjndaa
