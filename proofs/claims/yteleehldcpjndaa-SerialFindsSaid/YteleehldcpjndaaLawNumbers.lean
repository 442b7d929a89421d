/- SerialNumbers returns true. Condition: the scheme's parts are in memory. -/
import Derived.Test.YteleehldcpjndaaLawTexts
import Derived.Test.YteleehldcpjndaaRefK
import Derived.Test.YteleehldcpjndaaLawOpen
namespace Go.Proofs.Yteleehldcpjndaa
open Go Go.RowKit

section
variable {w wr w' : World} {s : Sch} {a : Option Addr} {cap m1 tb : Nat} {m : RMem}

/-- Number, whatever the text -/
theorem number_nm (x : ByteArray) (hx : x.size ≤ maxLen) (h : s.In w a) (he : s.err = 0) :
    Calls Try.prog 23 #[s.val a cap, .string x] w fun e w' => e = .returned (.tuple #[.int .i64 (s.nm x.data.toList : Nat), .int .i64 (s.serr x.data.toList : Nat)]) ∧ Below w.heap.size w w' := by
  unfold Sch.nm
  exact number_of x hx h he

set_option maxRecDepth 100000 in
set_option maxHeartbeats 2000000 in
theorem numbers_law (h : s.In w a) (x : ByteArray) (hx : x.size ≤ maxLen) :
    Calls Try.prog 5 #[s.val a cap, .string x] w fun e w' => e = .returned (.bool true) ∧ Below w.heap.size w w' := by
  have hc1 := Ctx.start' (cap := cap) h
  have HX := Lib.hid hx
  unfold maxLen at hx
  clear h
  unfold Sch.val
  go_enter Try.func5, Try.ntmps5
  go_wp2_with fail
  change Calls _ _ _ (boxW s a cap w) _
  generalize boxW s a cap w = w1 at *
  refine (few_any (cap := cap) hc1.in_).mono ?_
  rintro e w2 ⟨b, rfl, hb2⟩
  have hc2 := hc1.next hb2
  clear hc1 hb2
  have hearly : b = false ∨ 100 < x.size ∨ (b = true ∧ x.size ≤ 100) := by cases b <;> simp; omega
  rcases hearly with rfl | h100 | ⟨rfl, h100⟩
  · go_wp2_with fail
    refine awake_any.mono ?_
    rintro e w3 ⟨rfl, hb3⟩
    have hc3 := hc2.next hb3
    go_wp2
    go_ret
    exact ⟨rfl, hc3.below⟩
  · cases b
    all_goals
      go_wp2_with fail
      refine awake_any.mono ?_
      rintro e w3 ⟨rfl, hb3⟩
      have hc3 := hc2.next hb3
      go_wp2
      go_ret
      exact ⟨rfl, hc3.below⟩
  · have c0 := hc2.c0
    have c1 := hc2.c1
    have c2 := hc2.c2
    have c3 := hc2.c3
    go_wp2_with fail
    refine (check_ref (cap := cap) hc2.in_).mono ?_
    rintro e w3 ⟨hb3, hcase⟩
    have hc3 := hc2.next hb3
    clear hc2 hb3 c0 c1 c2 c3
    rcases hcase with ⟨hne, rfl⟩ | ⟨he, m, rfl, hm⟩
    · have hd : ((s.err : Int) != 0) = true := by rw [bne_iff_ne]; omega
      have HB := Lib.hid (hc3.next ((Below.refl _ _).alloc (Nat.le_refl _) (.cells #[nilS, nilS, nilS] 29)))
      clear hne
      go_wp2_with fail
      refine awake_any.mono ?_
      rintro e w4 ⟨rfl, hb4⟩
      have hc4 := HB.out.next hb4
      go_wp2
      go_ret
      exact ⟨rfl, hc4.below⟩
    · obtain ⟨m1, hm1⟩ : ∃ m1, m1 = s.L.toNat + 1 := ⟨_, rfl⟩
      have HM1 := Lib.hid hm1
      rw [val_m1 hm1]
      have O := Sch.ok_of he
      have HE := Lib.hid he
      clear hm1 he
      have hc4 : LT s a cap m m1 w w3.heap.size (w3.alloc (rowsO s m m1)) := LT.start hc3 hm
      obtain ⟨tb, htb⟩ : ∃ tb, tb = w3.heap.size := ⟨_, rfl⟩
      rw [← htb] at hc4
      clear hc3 hm
      have c0 := hc4.ctx.c0
      have c1 := hc4.ctx.c1
      have c2 := hc4.ctx.c2
      have c3 := hc4.ctx.c3
      unfold rowsO at c0 c1 c2 c3
      go_wp2_with fail
      change Calls _ _ _ (w3.alloc (rowsO s m m1)) _
      rw [← htb]
      clear c0 c1 c2 c3 htb
      generalize w3.alloc (rowsO s m m1) = w4 at *
      refine (number_nm (cap := cap) x HX.out hc4.ctx.in_ HE.out).mono ?_
      rintro e w5 ⟨rfl, hb5⟩
      have hc5 := hc4.next hb5
      clear hc4 hb5
      have c0 := hc5.ctx.c0
      have c1 := hc5.ctx.c1
      have c2 := hc5.ctx.c2
      have c3 := hc5.ctx.c3
      have r0 := hc5.r0
      have r1 := hc5.r1
      have r2 := hc5.r2
      go_wp2_with fail
      have hcl := number_ref (cap := cap) O hc5.ctx.in_ hc5.mem x (by omega)
      rw [val_m1 HM1.out] at hcl
      refine hcl.mono ?_
      rintro e w6 ⟨rfl, hb6⟩
      have hc6 := hc5.next hb6
      clear hc5 hb6 c0 c1 c2 c3 r0 r1 r2 hcl
      have c0 := hc6.ctx.c0
      have c1 := hc6.ctx.c1
      have c2 := hc6.ctx.c2
      have c3 := hc6.ctx.c3
      go_wp2_with fail
      refine (complete_ok (cap := cap) x HX.out hc6.ctx.in_ HE.out).mono ?_
      rintro e w7 ⟨rfl, hb7⟩
      have hc7 := hc6.next hb7
      clear hc6 hb7 c0 c1 c2 c3
      have c0 := hc7.ctx.c0
      have c1 := hc7.ctx.c1
      have c2 := hc7.ctx.c2
      have c3 := hc7.ctx.c3
      go_wp2_with fail
      refine (complete_ref (cap := cap) O hc7.ctx.in_ x (by omega)).mono ?_
      rintro e w8 ⟨rfl, hb8⟩
      have hc8 := hc7.next hb8
      clear hc7 hb8 c0 c1 c2 c3
      generalize (⟨(s.cstr x.data.toList).toArray⟩ : ByteArray) = sx at *
      generalize s.nm x.data.toList = nn at *
      generalize s.serr x.data.toList = ne at *
      generalize s.cerr x.data.toList = nc at *
      have hd : (sx.toList == sx.toList) = true := by simp
      go_wp2_with fail
      refine awake_any.mono ?_
      rintro e w9 ⟨rfl, hb9⟩
      have hc9 := hc8.next hb9
      go_wp2
      go_ret
      exact ⟨rfl, hc9.ctx.below⟩
end
end Go.Proofs.Yteleehldcpjndaa
