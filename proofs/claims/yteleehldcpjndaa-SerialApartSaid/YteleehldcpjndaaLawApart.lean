/- SerialApart returns true. Condition: the scheme's parts are in memory. -/
import Derived.Test.YteleehldcpjndaaNearApart
import Derived.Test.YteleehldcpjndaaLawA
import Derived.Deep.RegionHeld3
import Derived.IntWalk
namespace Go.Proofs.Yteleehldcpjndaa
open Go Go.RowKit

theorem other_letter {u d m : Nat} (hu : u < m) (h1 : 1 ≤ d) (h2 : d < m) : (u + d) % m ≠ u := by
  by_cases h : u + d < m
  · rw [Nat.mod_eq_of_lt h]; omega
  · rw [Nat.mod_eq_sub_mod (by omega), Nat.mod_eq_of_lt (by omega)]; omega

section
variable {w : World} {s : Sch} {a : Option Addr} {cap : Nat}

set_option maxRecDepth 100000 in
set_option maxHeartbeats 4000000 in
theorem apart_law (h : s.In w a) (n at_ by_ : Int) :
    Calls Try.prog 14 #[s.val a cap, .int .i64 n, .int .i64 at_, .int .i64 by_] w fun e w' => e = .returned (.bool true) ∧ Below w.heap.size w w' := by
  have hc1 := Ctx.start' (cap := cap) h
  have HAL := Lib.hid h.alpha
  clear h
  unfold Sch.val
  go_enter Try.func14, Try.ntmps14
  go_wp2_with fail
  change Calls _ _ _ (boxW s a cap w) _
  generalize boxW s a cap w = w1 at *
  refine (few_any (cap := cap) hc1.in_).mono ?_
  rintro e w2 ⟨b, rfl, hb2⟩
  have hc2 := hc1.next hb2
  clear hc1 hb2
  cases b
  · go_wp2_with fail
    refine awake_any.mono ?_
    rintro e w3 ⟨rfl, hb3⟩
    have hc3 := hc2.next hb3
    go_wp2
    go_ret
    exact ⟨rfl, hc3.below⟩
  have c0 := hc2.c0
  have c1 := hc2.c1
  have c2 := hc2.c2
  have c3 := hc2.c3
  by_cases he : s.err = 0
  case neg =>
    have hd : ((s.err : Int) != 0) = true := by rw [bne_iff_ne]; omega
    go_wp2_with fail
    refine (count_err (cap := cap) hc2.in_ he).mono ?_
    rintro e w3 ⟨rfl, hb3⟩
    have hc3 := hc2.next hb3
    clear hc2 hb3 c0 c1 c2 c3 he
    go_wp2_with fail
    refine awake_any.mono ?_
    rintro e w4 ⟨rfl, hb4⟩
    have hc4 := hc3.next hb4
    go_wp2
    go_ret
    exact ⟨rfl, hc4.below⟩
  have O := Sch.ok_of he
  have HE := Lib.hid he
  have hcap : s.bods.length ≤ 1099511627776 := by have := O.cap; unfold capM at this; omega
  clear he
  go_wp2_with fail
  refine (count_ok (cap := cap) hc2.in_ HE.out).mono ?_
  rintro e w3 ⟨rfl, hb3⟩
  have hc3 := hc2.next hb3
  clear hc2 hb3 c0 c1 c2 c3
  have c0 := hc3.c0
  have c1 := hc3.c1
  have c2 := hc3.c2
  have c3 := hc3.c3
  by_cases hbad : s.chk = false ∨ n < 0 ∨ (s.bods.length : Int) ≤ n ∨ at_ < 0 ∨ by_ < 0
  case pos =>
    cases hck : s.chk
    · rw [hck] at c3
      clear hbad
      go_wp2_with fail
      refine awake_any.mono ?_
      rintro e w4 ⟨rfl, hb4⟩
      have hc4 := hc3.next hb4
      go_wp2
      go_ret
      exact ⟨rfl, hc4.below⟩
    · rw [hck] at c3 hbad
      clear hck
      rcases (show n < 0 ∨ (0 ≤ n ∧ (s.bods.length : Int) ≤ n) ∨ (0 ≤ n ∧ n < (s.bods.length : Int) ∧ at_ < 0) ∨ (0 ≤ n ∧ n < (s.bods.length : Int) ∧ 0 ≤ at_ ∧ by_ < 0) by
        rcases hbad with h1 | h1 | h1 | h1 | h1
        · cases h1
        all_goals omega) with h1 | ⟨h1, h2⟩ | ⟨h1, h2, h3⟩ | ⟨h1, h2, h3, h4⟩
      all_goals
        clear hbad
        go_wp2_with fail
        refine awake_any.mono ?_
        rintro e w4 ⟨rfl, hb4⟩
        have hc4 := hc3.next hb4
        go_wp2
        go_ret
        exact ⟨rfl, hc4.below⟩
  have hck : s.chk = true := by
    cases hck : s.chk
    · exact absurd (.inl hck) hbad
    · rfl
  have HCK := Lib.hid hck
  have hnc : (!s.chk) = false := by rw [hck]; rfl
  obtain ⟨n', rfl⟩ := Int.eq_ofNat_of_zero_le (show 0 ≤ n by omega)
  obtain ⟨a0, rfl⟩ := Int.eq_ofNat_of_zero_le (show 0 ≤ at_ by omega)
  obtain ⟨b0, rfl⟩ := Int.eq_ofNat_of_zero_le (show 0 ≤ by_ by omega)
  have hnb : n' < s.bods.length := by omega
  have HT : Hid (s.bods[n']? = some s.bods[n']) := Lib.hid (List.getElem?_eq_getElem hnb)
  generalize s.bods[n'] = T at HT
  have hTm := List.mem_of_getElem? HT.out
  have HTM := Lib.hid hTm
  have hlen := ser_len O hTm
  have hlz : sz s.L.toNat s.chk = s.L.toNat + 1 := by rw [hck]; rfl
  have hl1 := O.l1
  have hl16 := O.l16
  have ha2 := O.a2
  have ha36 := O.a36
  obtain ⟨x, hx⟩ : ∃ x : ByteArray, x = ⟨(s.ser T).toArray⟩ := ⟨_, rfl⟩
  have hxd : x.data.toList = s.ser T := by rw [hx]
  have hxs : x.size = s.L.toNat + 1 := by rw [← size_toList, hxd, hlen, hlz]
  have HXD := Lib.hid hxd
  have hxL : (x.size : Int) = s.L + 1 := by omega
  have hdx : ((x.size : Int) != s.L + 1) = false := by rw [bne_eq_false_iff_eq]; exact hxL
  have hx17 : x.size ≤ 17 := by omega
  have hx1 : 1 ≤ x.size := by omega
  have HX := Lib.hid hx
  have HOF : Hid (ofB (s.ser T) s.A.data.toList = true) := Lib.hid (ser_of O hTm)
  clear hbad hck hTm hlen hlz hx hxd hxL hxs
  go_wp2_with fail
  refine (text_ok (cap := cap) n' hc3.in_ HE.out T HT.out).mono ?_
  rintro e w4 ⟨rfl, hb4⟩
  rw [← HX.out]
  have hc4 := hc3.next hb4
  clear hc3 hb4 c0 c1 c2 c3
  have c0 := hc4.c0
  have c1 := hc4.c1
  have c2 := hc4.c2
  have c3 := hc4.c3
  go_wp2_with fail
  refine (near_apart (cap := cap) O HE.out HCK.out hc4.in_ HTM.out x HXD.out).mono ?_
  rintro e w5 ⟨v, rfl, ⟨ao, cp, rfl⟩, hb5⟩
  have hc5 := hc4.next hb5
  clear hc4 hb5 c0 c1 c2 c3
  have c0 := hc5.c0
  have c1 := hc5.c1
  -- the place and the letter
  obtain ⟨p, hp⟩ : ∃ p : Nat, p = a0 % x.size := ⟨_, rfl⟩
  have hpl : p < x.size := by rw [hp]; exact Nat.mod_lt _ (by omega)
  have hpi : (a0 : Int) % (x.size : Int) = (p : Int) := by rw [hp, Int.natCast_emod]
  obtain ⟨md, hmd⟩ : ∃ md : Nat, s.A.size = md + 1 := ⟨s.A.size - 1, by omega⟩
  have hmdi : (s.A.size : Int) - 1 = (md : Int) := by omega
  have hmd1 : 1 ≤ md := by omega
  obtain ⟨d, hd⟩ : ∃ d : Nat, d = b0 % md := ⟨_, rfl⟩
  have hdl : d < md := by rw [hd]; exact Nat.mod_lt _ (by omega)
  have hdi : (b0 : Int) % (md : Int) = (d : Int) := by rw [hd, Int.natCast_emod]
  have hcon : s.A.data.toList.contains x[p] = true := by
    have h1 := HOF.out
    rw [← HXD.out] at h1
    exact (List.all_eq_true.1 h1) _ (by simp [ByteArray.getElem_eq_getElem_data])
  have hul : idx s.A.data.toList x[p] < s.A.size := by have := idx_lt hcon; rwa [size_toList] at this
  have hug : s.A.data.toList.getD (idx s.A.data.toList x[p]) 0 = x[p] := idx_get hcon
  have hvi : Lib.indexByte s.A.data.toList x[p] = (idx s.A.data.toList x[p] : Nat) := by
    have h1 := Lib.contains_iff_indexByte s.A.data.toList x[p]
    rw [hcon] at h1
    have h0 : 0 ≤ Lib.indexByte s.A.data.toList x[p] := by simpa using h1.symm
    unfold idx; omega
  obtain ⟨u, hu⟩ : ∃ u : Nat, u = idx s.A.data.toList x[p] := ⟨_, rfl⟩
  rw [← hu] at hul hug hvi
  obtain ⟨v, hv⟩ : ∃ v : Nat, v = (u + (1 + d)) % s.A.size := ⟨_, rfl⟩
  have hvl : v < s.A.size := by rw [hv]; exact Nat.mod_lt _ (by omega)
  have hvn : v ≠ u := by rw [hv]; exact other_letter hul (by omega) (by omega)
  have hve : ((u : Int) + 1 + (d : Int)) % (s.A.size : Int) = (v : Int) := by
    rw [hv, show (u : Int) + 1 + (d : Int) = ((u + (1 + d) : Nat) : Int) by omega, Int.natCast_emod]
  have hxg : (s.ser T).getD p 0 = x[p] := by
    rw [← HXD.out, List.getD_eq_getElem?_getD, List.getElem?_eq_getElem (by rw [size_toList]; exact hpl)]
    simp [ByteArray.getElem_eq_getElem_data]
  have herr := chg_err O HCK.out HTM.out (i := p) (v := v) (by rw [← HXD.out, size_toList]; exact hpl) hvl (by
    rw [hxg, ← hug]
    intro hc
    exact hvn (letter_inj O hvl hul hc))
  obtain ⟨oth, hoe⟩ : ∃ oth, oth = x.extract 0 p ++ s.A.extract v (v + 1) ++ x.extract (p + 1) x.size := ⟨_, rfl⟩
  have hod : oth.data.toList = chg s.A.data.toList (s.ser T) p v := by
    rw [hoe, app_data, app_data, extract_one s.A v hvl, Lib.extract_to_end, Lib.extract_data, HXD.out]
    unfold chg
    simp
  rw [← hod] at herr
  have HERR := Lib.hid herr
  have HOM : Hid (oth.size ≤ maxLen) := Lib.hid (by rw [hoe]; unfold maxLen; simp; omega)
  have hsum1 : (x.extract 0 p).size + (s.A.extract v (v + 1)).size ≤ 9223372036854775807 := by simp; omega
  have hadd1 : ∀ wq : World, (Op.stringOp .add (x.extract 0 p) (s.A.extract v (v + 1))).run Try.prog wq = .ok (.string (x.extract 0 p ++ s.A.extract v (v + 1))) wq := fun wq => run_string_add_sum wq _ _ hsum1
  have hsum2 : (x.extract 0 p ++ s.A.extract v (v + 1)).size + (x.extract (p + 1) x.size).size ≤ 9223372036854775807 := by simp; omega
  have hadd2 : ∀ wq : World, (Op.stringOp .add (x.extract 0 p ++ s.A.extract v (v + 1)) (x.extract (p + 1) x.size)).run Try.prog wq = .ok (.string oth) wq := by
    intro wq; rw [hoe]; exact run_string_add_sum wq _ _ hsum2
  have HA1 := Lib.hid hadd1
  have HA2 := Lib.hid hadd2
  clear hp hd hcon hug hu hv hxg herr hod hoe hsum1 hsum2 hadd1 hadd2 hmd
  go_wp2_with fail
  go_quiet ((go_at_call 25; exact Calls.quiet_of_same ((value_any _ _ HAL.out).mono fun e w' h => ⟨h.1, h.2.symm⟩)))
  have hc6 := hc5.next (below_drewN w5 nq)
  rw [hve, hpi]
  clear hve hpi hdi hmdi hvi c0 c1 hc5 hmd1 hdl hvn hul
  generalize w5.drewN nq = w6 at *
  have c0 := hc6.c0
  have c1 := hc6.c1
  have c2 := hc6.c2
  have c3 := hc6.c3
  have HNE : Hid (s.serr oth.data.toList ≠ 0) := Lib.hid (by rcases HERR.out with h1 | h1 <;> rw [h1] <;> decide)
  have hcall : ∀ wq : World, s.In wq a → Calls Try.prog 23 #[s.val a cap, .string oth] wq (fun e w' => e = .returned (.tuple #[.int .i64 0, .int .i64 (s.serr oth.data.toList : Nat)]) ∧ Below wq.heap.size wq w') := fun wq hin => number_no (cap := cap) oth HOM.out hin HE.out HNE.out
  unfold Sch.val at hcall
  have HCALL := Lib.hid hcall
  have hA1 := HA1.out
  have hA2 := HA2.out
  clear hcall
  obtain ⟨er, her⟩ : ∃ er, er = s.serr oth.data.toList := ⟨_, rfl⟩
  rw [← her] at HCALL HERR HNE
  clear her
  have hp0 : (0 : Int) ≤ (p : Int) := Int.natCast_nonneg _
  have hp1 : (p : Int) ≤ (x.size : Int) := by omega
  have hp2 : (p : Int) + 1 ≤ (x.size : Int) := by omega
  have hp3 : (0 : Int) ≤ (p : Int) + 1 := by omega
  have hv0 : (0 : Int) ≤ (v : Int) := Int.natCast_nonneg _
  have hv1 : (v : Int) + 1 ≤ (s.A.size : Int) := by omega
  have hv2 : (v : Int) ≤ (v : Int) + 1 := by omega
  have hv3 : (0 : Int) ≤ (v : Int) + 1 := by omega
  have hpw : IntKind.i64.wrap ((p : Int) + 1) = (p : Int) + 1 := IntWalk.i64_in _ (by omega)
  have hvw : IntKind.i64.wrap ((v : Int) + 1) = (v : Int) + 1 := IntWalk.i64_in _ (by omega)
  have hp4 : ((p : Int) + 1).toNat = p + 1 := by omega
  have hv4 : ((v : Int) + 1).toNat = v + 1 := by omega
  go_wp2_with fail
  go_region_held3 (fun y => y.cell? ⟨w.heap.size, 0, none⟩ = some (.string s.A) ∧ y.cell? ⟨w.heap.size, 1, none⟩ = some (.int .i64 s.L) ∧ y.cell? ⟨w.heap.size, 2, none⟩ = some (.slice a s.bs.length cap) ∧ y.cell? ⟨w.heap.size, 3, none⟩ = some (.bool s.chk))
    (first
      | exact ⟨hc7.c0, hc7.c1, hc7.c2, hc7.c3⟩
      | exact ⟨c0, c1, c2, c3⟩)
    ((go_at_call 23
      refine (HCALL.out _ (hc6.in_.below (Below.refl _ w6).drew)).mono ?_
      rintro e w7 ⟨rfl, hb7⟩
      have hc7 := hc6.next ((Below.refl _ w6).drew.trans hb7)))
  clear hpw hvw hp4 hv4
  rcases HERR.out with h1 | h1
  all_goals
    rw [h1]
    go_wp2_with fail
    refine awake_any.mono ?_
    rintro e w8 ⟨rfl, hb8⟩
    have hc8 := hc7.next hb8
    go_wp2
    go_ret
    exact ⟨rfl, hc8.below⟩
end
end Go.Proofs.Yteleehldcpjndaa
