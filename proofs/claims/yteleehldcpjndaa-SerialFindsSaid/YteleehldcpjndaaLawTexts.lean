/- SerialTexts returns true. Condition: the scheme's parts are in memory. -/
import Derived.Test.YteleehldcpjndaaRefI
import Derived.Test.YteleehldcpjndaaLawD
namespace Go.Proofs.Yteleehldcpjndaa
open Go Go.RowKit

/-- a law has at hand: its scheme's box, the rows' box, the rows in memory -/
structure LT (s : Sch) (a : Option Addr) (cap : Nat) (m : RMem) (m1 : Nat) (w : World) (tb : Nat) (wr : World) : Prop where
  ctx : Ctx s a cap w w.heap.size wr
  rbox : wr.heap[tb]? = some (.cells #[.slice m.ao s.S.length m.c, .slice (some ⟨m.gn, 0, none⟩) s.S.length m.cn, .slice (some ⟨m.gw, 0, none⟩) m1 m.cw] 29 (0, 0))
  mem : m.In s wr

section
variable {w wr w' : World} {s : Sch} {a : Option Addr} {cap m1 tb : Nat} {m : RMem}

theorem LT.next (h : LT s a cap m m1 w tb wr) (hb : Below wr.heap.size wr w') : LT s a cap m m1 w tb w' :=
  ⟨h.ctx.next hb, (hb.block _ (lt_of_block h.rbox)).trans h.rbox, h.mem.below hb⟩

theorem LT.start (h : Ctx s a cap w w.heap.size wr) (hm : m.In s wr) : LT s a cap m m1 w wr.heap.size (wr.alloc (rowsO s m m1)) :=
  ⟨h.next ((Below.refl _ _).alloc (Nat.le_refl _) _), heap_new _ _ _ _ rfl, hm.below ((Below.refl _ _).alloc (Nat.le_refl _) _)⟩

theorem LT.r0 (h : LT s a cap m m1 w tb wr) : wr.cell? ⟨tb, 0, none⟩ = some (.slice m.ao s.S.length m.c) := cell_of_block h.rbox 0
theorem LT.r1 (h : LT s a cap m m1 w tb wr) : wr.cell? ⟨tb, 1, none⟩ = some (.slice (some ⟨m.gn, 0, none⟩) s.S.length m.cn) := cell_of_block h.rbox 1
theorem LT.r2 (h : LT s a cap m m1 w tb wr) : wr.cell? ⟨tb, 2, none⟩ = some (.slice (some ⟨m.gw, 0, none⟩) m1 m.cw) := cell_of_block h.rbox 2

theorem count_ok_ref (O : s.Ok) (hm1 : m1 = s.L.toNat + 1) (h : s.In w a) (hm : m.In s w) :
    Calls Try.prog 20 #[s.val a cap, .agg #[.slice m.ao s.S.length m.c, .slice (some ⟨m.gn, 0, none⟩) s.S.length m.cn, .slice (some ⟨m.gw, 0, none⟩) m1 m.cw]] w fun e w' => e = .returned (.int .i64 (s.bods.length : Nat)) ∧ Below w.heap.size w w' := by
  have h1 := count_ref (cap := cap) O.toWf h hm
  rw [val_m1 hm1] at h1
  have h2 := O.rw_bods
  have h3 := O.cap
  rw [Nat.min_eq_left (by omega)] at h2
  rw [h2] at h1
  exact h1

set_option maxRecDepth 100000 in
set_option maxHeartbeats 2000000 in
theorem texts_law (h : s.In w a) (n : Int) :
    Calls Try.prog 3 #[s.val a cap, .int .i64 n] w fun e w' => e = .returned (.bool true) ∧ Below w.heap.size w w' := by
  have hc1 := Ctx.start' (cap := cap) h
  clear h
  unfold Sch.val
  go_enter Try.func3, Try.ntmps3
  go_wp2_with fail
  change Calls _ _ _ (boxW s a cap w) _
  generalize boxW s a cap w = w1 at *
  refine (few_any (cap := cap) hc1.in_).mono ?_
  rintro e w2 ⟨b, rfl, hb2⟩
  have hc2 := hc1.next hb2
  clear hc1 hb2
  cases b
  · go_wp2_with fail
    refine awake_any.mono ?_
    rintro e w3 ⟨rfl, hb3⟩
    have hc3 := hc2.next hb3
    go_wp2
    go_ret
    exact ⟨rfl, hc3.below⟩
  · have c0 := hc2.c0
    have c1 := hc2.c1
    have c2 := hc2.c2
    have c3 := hc2.c3
    go_wp2_with fail
    refine (check_ref (cap := cap) hc2.in_).mono ?_
    rintro e w3 ⟨hb3, hcase⟩
    have hc3 := hc2.next hb3
    clear hc2 hb3 c0 c1 c2 c3
    rcases hcase with ⟨hne, rfl⟩ | ⟨he, m, rfl, hm⟩
    · have hd : ((s.err : Int) != 0) = true := by rw [bne_iff_ne]; omega
      have HB := Lib.hid (hc3.next ((Below.refl _ _).alloc (Nat.le_refl _) (.cells #[nilS, nilS, nilS] 29)))
      clear hne
      go_wp2_with fail
      refine awake_any.mono ?_
      rintro e w4 ⟨rfl, hb4⟩
      have hc4 := HB.out.next hb4
      go_wp2
      go_ret
      exact ⟨rfl, hc4.below⟩
    · obtain ⟨m1, hm1⟩ : ∃ m1, m1 = s.L.toNat + 1 := ⟨_, rfl⟩
      have HM1 := Lib.hid hm1
      rw [val_m1 hm1]
      have O := Sch.ok_of he
      have HE := Lib.hid he
      have hcap : s.bods.length ≤ 1099511627776 := by have := O.cap; unfold capM at this; omega
      clear hm1 he
      have hc4 : LT s a cap m m1 w w3.heap.size (w3.alloc (rowsO s m m1)) := LT.start hc3 hm
      obtain ⟨tb, htb⟩ : ∃ tb, tb = w3.heap.size := ⟨_, rfl⟩
      rw [← htb] at hc4
      clear hc3 hm
      have c0 := hc4.ctx.c0
      have c1 := hc4.ctx.c1
      have c2 := hc4.ctx.c2
      have c3 := hc4.ctx.c3
      unfold rowsO at c0 c1 c2 c3
      by_cases hn : n < 0 ∨ (s.bods.length : Int) ≤ n
      · go_wp2_with fail
        change Calls _ _ _ (w3.alloc (rowsO s m m1)) _
        rw [← htb]
        clear c0 c1 c2 c3 htb
        generalize w3.alloc (rowsO s m m1) = w4 at *
        refine (text_range (cap := cap) n hc4.ctx.in_ HE.out hn).mono ?_
        rintro e w5 ⟨rfl, hb5⟩
        have hc5 := hc4.next hb5
        clear hc4 hb5
        have c0 := hc5.ctx.c0
        have c1 := hc5.ctx.c1
        have c2 := hc5.ctx.c2
        have c3 := hc5.ctx.c3
        have r0 := hc5.r0
        have r1 := hc5.r1
        have r2 := hc5.r2
        by_cases hn0 : n < 0
        · go_wp2_with fail
          refine awake_any.mono ?_
          rintro e w6 ⟨rfl, hb6⟩
          have hc6 := hc5.next hb6
          go_wp2
          go_ret
          exact ⟨rfl, hc6.ctx.below⟩
        · have hn1 : (s.bods.length : Int) ≤ n := by omega
          clear hn
          go_wp2_with fail
          refine (count_ok_ref (cap := cap) O HM1.out hc5.ctx.in_ hc5.mem).mono ?_
          rintro e w6 ⟨rfl, hb6⟩
          have hc6 := hc5.next hb6
          clear hc5 hb6 c0 c1 c2 c3 r0 r1 r2
          go_wp2_with fail
          refine awake_any.mono ?_
          rintro e w7 ⟨rfl, hb7⟩
          have hc7 := hc6.next hb7
          go_wp2
          go_ret
          exact ⟨rfl, hc7.ctx.below⟩
      · obtain ⟨n', rfl⟩ := Int.eq_ofNat_of_zero_le (show 0 ≤ n by omega)
        have hn1 : (n' : Int) < (s.bods.length : Int) := by omega
        have hnb : n' < s.bods.length := by omega
        have HT : Hid (s.bods[n']? = some s.bods[n']) := Lib.hid (List.getElem?_eq_getElem hnb)
        generalize s.bods[n'] = T at HT
        clear hn
        go_wp2_with fail
        change Calls _ _ _ (w3.alloc (rowsO s m m1)) _
        rw [← htb]
        clear c0 c1 c2 c3 htb
        generalize w3.alloc (rowsO s m m1) = w4 at *
        refine (text_ok (cap := cap) n' hc4.ctx.in_ HE.out T HT.out).mono ?_
        rintro e w5 ⟨rfl, hb5⟩
        have hc5 := hc4.next hb5
        clear hc4 hb5
        have c0 := hc5.ctx.c0
        have c1 := hc5.ctx.c1
        have c2 := hc5.ctx.c2
        have c3 := hc5.ctx.c3
        have r0 := hc5.r0
        have r1 := hc5.r1
        have r2 := hc5.r2
        go_wp2_with fail
        refine (count_ok_ref (cap := cap) O HM1.out hc5.ctx.in_ hc5.mem).mono ?_
        rintro e w6 ⟨rfl, hb6⟩
        have hc6 := hc5.next hb6
        clear hc5 hb6 c0 c1 c2 c3 r0 r1 r2
        have c0 := hc6.ctx.c0
        have c1 := hc6.ctx.c1
        have c2 := hc6.ctx.c2
        have c3 := hc6.ctx.c3
        have r0 := hc6.r0
        have r1 := hc6.r1
        have r2 := hc6.r2
        go_wp2_with fail
        have hcl := text_ref (cap := cap) O hc6.ctx.in_ hc6.mem n' T HT.out
        rw [val_m1 HM1.out] at hcl
        refine hcl.mono ?_
        rintro e w7 ⟨rfl, hb7⟩
        have hc7 := hc6.next hb7
        clear hc6 hb7 c0 c1 c2 c3 r0 r1 r2 hcl
        generalize (⟨(s.ser T).toArray⟩ : ByteArray) = sx at *
        have hd : (sx.toList == sx.toList) = true := by simp
        go_wp2_with fail
        refine awake_any.mono ?_
        rintro e w8 ⟨rfl, hb8⟩
        have hc8 := hc7.next hb8
        go_wp2
        go_ret
        exact ⟨rfl, hc8.ctx.below⟩
end
end Go.Proofs.Yteleehldcpjndaa
