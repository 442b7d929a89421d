/- SerialPlain returns true. Condition: the alphabet is in memory. -/
import Derived.Test.YteleehldcpjndaaRefD
import Derived.Test.YteleehldcpjndaaDigits
import Derived.Test.YteleehldcpjndaaLawE
namespace Go.Proofs.Yteleehldcpjndaa
open Go Go.RowKit

/-- a scheme without banned strings -/
def plainS (A : ByteArray) (L : Int) (chk : Bool) : Sch := ⟨A, L, [], chk⟩

theorem plain_in {A : ByteArray} {L : Int} {chk : Bool} (w : World) (hA : A.size ≤ maxLen) (hL : -9223372036854775808 ≤ L ∧ L ≤ 9223372036854775807) : (plainS A L chk).In w none :=
  ⟨hA, by unfold plainS maxLen; simp, by unfold plainS; simp, hL, by intro h; simp [plainS] at h⟩

theorem cerr_txt {s : Sch} (O : s.Ok) {T : List Nat} (h : T ∈ s.bods) : s.cerr (txt s.A.data.toList T) = 0 := by
  obtain ⟨h1, h2, h3⟩ := bods_len O h
  rcases cerr_eq O (txt s.A.data.toList T) (by rw [txt_len]; exact h1) (of_txt (by rw [size_toList]; exact h2)) with ⟨h4, _⟩ | ⟨_, h4⟩
  · exact h4
  · exact absurd h3 h4

section
variable {A : ByteArray} {L : Int} {chk : Bool}

theorem plain_count : (plainS A L chk).bods.length = A.size ^ L.toNat := by
  show (bodies A.data.toList [] L.toNat).length = _
  rw [bodies_count, size_toList]

theorem plain_get {n : Nat} (h : n < A.size ^ L.toNat) : (plainS A L chk).bods[n]? = some (digs A.size L.toNat n) := by
  show (bodies A.data.toList [] L.toNat)[n]? = _
  have := bodies_digs A.data.toList L.toNat n (by rw [size_toList]; exact h)
  rwa [size_toList] at this

theorem plain_ok (hw : (plainS A L chk).wf = true) (h : A.size ^ L.toNat ≤ 1099511627776) : (plainS A L chk).err = 0 := by
  have W := Sch.wf_of hw
  unfold Sch.err
  rw [hw, if_neg (by simp), plain_count, if_neg]
  have : 0 < A.size ^ L.toNat := Nat.pow_pos (by have := W.a2; show 0 < A.size; have h2 : (plainS A L chk).A = A := rfl; rw [h2] at this; omega)
  unfold capM
  omega

theorem txt_digs_succ (m i n : Nat) : txt A.data.toList (digs m (i + 1) n) = A.data.toList.getD (n / m ^ i % m) 0 :: txt A.data.toList (digs m i n) := rfl

set_option maxRecDepth 100000 in
set_option maxHeartbeats 2000000 in
theorem plain_law (w : World) (hA : A.size ≤ maxLen) (hL : -9223372036854775808 ≤ L ∧ L ≤ 9223372036854775807) (n : Int) :
    Calls Try.prog 6 #[.string A, .int .i64 L, .int .i64 n, .bool chk] w fun e w' => e = .returned (.bool true) ∧ Below w.heap.size w w' := by
  have hc1 : Ctx (plainS A L chk) none 0 w w.heap.size (boxW (plainS A L chk) none 0 w) := Ctx.start' (plain_in w hA hL)
  unfold maxLen at hA
  go_enter Try.func6, Try.ntmps6
  go_wp2_with fail
  change Calls _ _ _ (boxW (plainS A L chk) none 0 w) _
  generalize boxW (plainS A L chk) none 0 w = w1 at *
  refine (few_any (s := plainS A L chk) (a := none) (cap := 0) hc1.in_).mono ?_
  rintro e w2 ⟨b, rfl, hb2⟩
  have hc2 := hc1.next hb2
  clear hc1 hb2
  have m0 : w2.cell? ⟨w.heap.size, 0, none⟩ = some (.string A) := hc2.c0
  have m1 : w2.cell? ⟨w.heap.size, 1, none⟩ = some (.int .i64 L) := hc2.c1
  have m2 : w2.cell? ⟨w.heap.size, 2, none⟩ = some (.slice none 0 0) := hc2.c2
  have m3 : w2.cell? ⟨w.heap.size, 3, none⟩ = some (.bool chk) := hc2.c3
  cases b
  · go_wp2_with fail
    refine awake_any.mono ?_
    rintro e w3 ⟨rfl, hb3⟩
    have hc3 := hc2.next hb3
    go_wp2
    go_ret
    exact ⟨rfl, hc3.below⟩
  · go_wp2_with fail
    refine (formed_ref (s := plainS A L chk) (a := none) (cap := 0) hc2.in_).mono ?_
    rintro e w3 ⟨rfl, hb3⟩
    have hc3 := hc2.next hb3
    clear hc2 hb3 m0 m1 m2 m3
    cases hwf : (plainS A L chk).wf
    · go_wp2_with fail
      refine awake_any.mono ?_
      rintro e w4 ⟨rfl, hb4⟩
      have hc4 := hc3.next hb4
      go_wp2
      go_ret
      exact ⟨rfl, hc4.below⟩
    · have W := Sch.wf_of hwf
      have ha2 : 2 ≤ A.size := W.a2
      have ha36 : A.size ≤ 36 := W.a36
      have hl1 : 1 ≤ L := W.l1
      have hl16 : L ≤ 16 := W.l16
      have HWF := Lib.hid hwf
      clear hwf
      have m0 : w3.cell? ⟨w.heap.size, 0, none⟩ = some (.string A) := hc3.c0
      have m1 : w3.cell? ⟨w.heap.size, 1, none⟩ = some (.int .i64 L) := hc3.c1
      have m2 : w3.cell? ⟨w.heap.size, 2, none⟩ = some (.slice none 0 0) := hc3.c2
      have m3 : w3.cell? ⟨w.heap.size, 3, none⟩ = some (.bool chk) := hc3.c3
      go_wp2_with fail
      refine (small_ref (s := plainS A L chk) (a := none) (cap := 0) hc3.in_ W 1099511627776 (by omega) (by omega)).mono ?_
      rintro e w4 ⟨rfl, hb4⟩
      have hc4 := hc3.next hb4
      clear hc3 hb4 m0 m1 m2 m3
      have hpw : (plainS A L chk).A.size ^ (plainS A L chk).L.toNat = A.size ^ L.toNat := rfl
      rw [hpw]
      by_cases hsm : A.size ^ L.toNat ≤ 1099511627776
      case neg =>
        rw [decide_eq_false hsm]
        clear hsm hpw
        go_wp2_with fail
        refine awake_any.mono ?_
        rintro e w5 ⟨rfl, hb5⟩
        have hc5 := hc4.next hb5
        go_wp2
        go_ret
        exact ⟨rfl, hc5.below⟩
      rw [decide_eq_true hsm]
      have HSM := Lib.hid hsm
      clear hsm hpw
      have HOK := Lib.hid (plain_ok HWF.out HSM.out)
      have O := Sch.ok_of HOK.out
      have hpos : 0 < A.size := by omega
      go_wp2_with fail
      go_loop [10, 11] (fun vn vi => ∃ (i m : Nat), i ≤ L.toNat ∧ m ≤ 1099511627776 ∧ vi = .int .i64 i ∧ vn = .int .i64 m ∧ Hid (m = A.size ^ i)) (fun _ vi => L.toNat - (intOf vi).toNat)
      case atStart => exact ⟨0, 1, Nat.zero_le _, by omega, rfl, rfl, Lib.hid (by simp)⟩
      case round =>
        obtain ⟨i, m, hi, hm, rfl, rfl, hpow⟩ := hrel
        by_cases hlt : (i : Int) < L
        · have hmul : m * A.size ≤ 1099511627776 * 36 := Nat.mul_le_mul hm ha36
          have HP : Hid (m * A.size = A.size ^ (i + 1)) := Lib.hid (by rw [Nat.pow_succ, ← hpow.out])
          obtain ⟨m2, hm2⟩ : ∃ m2, m2 = m * A.size := ⟨_, rfl⟩
          have hmi : (m : Int) * (A.size : Int) = (m2 : Int) := by rw [hm2, Int.natCast_mul]
          have hm3 : m2 ≤ 1099511627776 := by
            refine Nat.le_trans ?_ HSM.out
            rw [hm2, HP.out]
            exact Nat.pow_le_pow_right hpos (by omega)
          rw [← hm2] at hmul
          have HM := Lib.hid hm2
          clear hm2
          go_wp2_with fail
          go_round
          case rel => exact ⟨i + 1, m2, by omega, hm3, by go_num, by first | rfl | rw [hmi], Lib.hid (by rw [HM.out]; exact HP.out)⟩
          case measure => simp [intOf]; omega
        · have hml : m = A.size ^ L.toNat := by rw [hpow.out]; congr 1; omega
          have HML := Lib.hid hml
          have HB : Hid ((plainS A L chk).bods.length = m) := Lib.hid (by rw [plain_count, HML.out])
          clear hml hpow
          have m0 : w4.cell? ⟨w.heap.size, 0, none⟩ = some (.string A) := hc4.c0
          have m1 : w4.cell? ⟨w.heap.size, 1, none⟩ = some (.int .i64 L) := hc4.c1
          have m2 : w4.cell? ⟨w.heap.size, 2, none⟩ = some (.slice none 0 0) := hc4.c2
          have m3 : w4.cell? ⟨w.heap.size, 3, none⟩ = some (.bool chk) := hc4.c3
          go_wp2_with fail
          refine (count_ok (s := plainS A L chk) (a := none) (cap := 0) hc4.in_ HOK.out).mono ?_
          rintro e w5 ⟨rfl, hb5⟩
          rw [HB.out]
          have hc5 := hc4.next hb5
          clear hc4 hb5 m0 m1 m2 m3
          by_cases hn : n < 0 ∨ (0 ≤ n ∧ (m : Int) ≤ n)
          · rcases hn with h1 | ⟨h1, h2⟩
            all_goals
              go_wp2_with fail
              refine awake_any.mono ?_
              rintro e w6 ⟨rfl, hb6⟩
              have hc6 := hc5.next hb6
              go_wp2
              go_ret
              exact ⟨rfl, hc6.below⟩
          · obtain ⟨n', rfl⟩ := Int.eq_ofNat_of_zero_le (show 0 ≤ n by omega)
            have hnm : n' < m := by omega
            have HT : Hid ((plainS A L chk).bods[n']? = some (digs A.size L.toNat n')) := Lib.hid (plain_get (by rw [← HML.out]; exact hnm))
            clear hn
            go_wp2_with fail
            go_loopw [14, 15, 16] (fun vb vk vi wr => ∃ (i k : Nat) (b : ByteArray), i ≤ L.toNat ∧ k ≤ 1099511627776 ∧ vi = .int .i64 i ∧ vk = .int .i64 k ∧ vb = .string b ∧ b.size = i ∧ Hid (k = n' / A.size ^ i) ∧ Hid (b.data.toList = txt A.data.toList (digs A.size i n')) ∧ Ctx (plainS A L chk) none 0 w w.heap.size wr)
              (fun _ _ vi _ => L.toNat - (intOf vi).toNat)
            case atStart => exact ⟨0, n', ⟨#[]⟩, Nat.zero_le _, by omega, rfl, rfl, rfl, rfl, Lib.hid (by simp), Lib.hid rfl, hc5⟩
            case round =>
              clear hc5
              obtain ⟨i, k, b, hi, hk, rfl, rfl, rfl, hbs, HK, HBD, hcr⟩ := hrel
              by_cases hlt : (i : Int) < L
              · obtain ⟨r, hr⟩ : ∃ r : Nat, r = k % A.size := ⟨_, rfl⟩
                have hrl : r < A.size := by rw [hr]; exact Nat.mod_lt _ hpos
                have hri : (k : Int) % (A.size : Int) = (r : Int) := by rw [hr, Int.natCast_emod]
                obtain ⟨q, hq⟩ : ∃ q : Nat, q = k / A.size := ⟨_, rfl⟩
                have hqi : (k : Int) / (A.size : Int) = (q : Int) := by rw [hq, Int.natCast_ediv]
                have hql : q ≤ 1099511627776 := by rw [hq]; exact Nat.le_trans (Nat.div_le_self _ _) hk
                have hex : (A.extract r (r + 1)).data.toList = [A.data.toList.getD r 0] := extract_one A r hrl
                have hes : (A.extract r (r + 1)).size = 1 := by rw [← size_toList, hex]; rfl
                have HQ2 : Hid (q = n' / A.size ^ (i + 1)) := Lib.hid (by rw [hq, HK.out, Nat.div_div_eq_div_mul, Nat.pow_succ])
                have HB2 : Hid ((A.extract r (r + 1) ++ b).data.toList = txt A.data.toList (digs A.size (i + 1) n')) := Lib.hid (by
                  rw [app_data, hex, txt_digs_succ, ← HBD.out, hr, HK.out]; rfl)
                clear hr hq hex
                go_wp2_with fail
                go_quiet (fail)
                go_wp2_with fail
                go_roundw
                case rel => exact ⟨i + 1, q, A.extract r (r + 1) ++ b, by omega, hql, by go_num, by first | rfl | rw [hqi], rfl, by rw [ByteArray.size_append, hes]; omega, HQ2, HB2, hcr.next (below_drewN _ _)⟩
                case measure => simp [intOf]; omega
              · obtain rfl : i = L.toNat := by omega
                obtain ⟨T, hTd⟩ : ∃ T, T = digs A.size L.toNat n' := ⟨_, rfl⟩
                have HT2 : Hid ((plainS A L chk).bods[n']? = some T) := Lib.hid (by rw [hTd]; exact HT.out)
                have HBT : Hid (b.data.toList = txt A.data.toList T) := Lib.hid (by rw [hTd]; exact HBD.out)
                have hbz : b.size ≤ 1000 := by omega
                have HBM : Hid (b.size ≤ maxLen) := Lib.hid (by unfold maxLen; omega)
                have hTm : T ∈ (plainS A L chk).bods := List.mem_of_getElem? HT2.out
                have HCE : Hid ((plainS A L chk).cerr b.data.toList = 0) := Lib.hid (by rw [HBT.out]; exact cerr_txt O hTm)
                have HSR : Hid (serialOf (plainS A L chk).A.data.toList (plainS A L chk).chk b.data.toList = (plainS A L chk).ser T) := Lib.hid (by rw [HBT.out]; rfl)
                have HCS : Hid ((plainS A L chk).cstr b.data.toList = (plainS A L chk).ser T) := Lib.hid (by unfold Sch.cstr; rw [if_pos HCE.out]; exact HSR.out)
                have HOF : Hid (ofB b.data.toList (plainS A L chk).A.data.toList = true) := Lib.hid (by rw [HBT.out]; exact of_txt (by rw [size_toList]; exact (bods_len O hTm).2.1))
                clear hTd hTm HBD HT hbs
                have m0 : wr.cell? ⟨w.heap.size, 0, none⟩ = some (.string A) := hcr.c0
                have m1 : wr.cell? ⟨w.heap.size, 1, none⟩ = some (.int .i64 L) := hcr.c1
                have m2 : wr.cell? ⟨w.heap.size, 2, none⟩ = some (.slice none 0 0) := hcr.c2
                have m3 : wr.cell? ⟨w.heap.size, 3, none⟩ = some (.bool chk) := hcr.c3
                go_wp2_with fail
                refine (text_ok (s := plainS A L chk) (a := none) (cap := 0) n' hcr.in_ HOK.out T HT2.out).mono ?_
                rintro e w7 ⟨rfl, hb7⟩
                have hc7 := hcr.next hb7
                clear hcr hb7 m0 m1 m2 m3
                have m0 : w7.cell? ⟨w.heap.size, 0, none⟩ = some (.string A) := hc7.c0
                have m1 : w7.cell? ⟨w.heap.size, 1, none⟩ = some (.int .i64 L) := hc7.c1
                have m2 : w7.cell? ⟨w.heap.size, 2, none⟩ = some (.slice none 0 0) := hc7.c2
                have m3 : w7.cell? ⟨w.heap.size, 3, none⟩ = some (.bool chk) := hc7.c3
                go_wp2_with fail
                refine (complete_ok (s := plainS A L chk) (a := none) (cap := 0) b HBM.out hc7.in_ HOK.out).mono ?_
                rintro e w8 ⟨rfl, hb8⟩
                rw [HCE.out, HCS.out]
                have hc8 := hc7.next hb8
                clear hc7 hb8 m0 m1 m2 m3
                have m0 : w8.cell? ⟨w.heap.size, 0, none⟩ = some (.string A) := hc8.c0
                have m1 : w8.cell? ⟨w.heap.size, 1, none⟩ = some (.int .i64 L) := hc8.c1
                have m2 : w8.cell? ⟨w.heap.size, 2, none⟩ = some (.slice none 0 0) := hc8.c2
                have m3 : w8.cell? ⟨w.heap.size, 3, none⟩ = some (.bool chk) := hc8.c3
                go_wp2_with fail
                refine (serial_ref (s := plainS A L chk) (a := none) (cap := 0) ha2 ha36 b hbz HOF.out).mono ?_
                rintro e w9 ⟨rfl, hb9⟩
                rw [HSR.out]
                have hc9 := hc8.next hb9
                clear hc8 hb9 m0 m1 m2 m3
                generalize (⟨((plainS A L chk).ser T).toArray⟩ : ByteArray) = sx at *
                have hd : (sx.toList == sx.toList) = true := by simp
                go_wp2_with fail
                refine awake_any.mono ?_
                rintro e w10 ⟨rfl, hb10⟩
                have hc10 := hc9.next hb10
                go_wp2
                go_ret
                exact ⟨rfl, hc10.below⟩
end
end Go.Proofs.Yteleehldcpjndaa
