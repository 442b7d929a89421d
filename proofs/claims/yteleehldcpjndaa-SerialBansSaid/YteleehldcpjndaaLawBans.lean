/- SerialBans returns true. Condition: the scheme's parts are in memory. -/
import Derived.Test.YteleehldcpjndaaLawE
namespace Go.Proofs.Yteleehldcpjndaa
open Go Go.RowKit

/-- the world with the scheme of one banned string -/
def onlyW (ban : ByteArray) (w : World) : World := (w.alloc (.cells #[.string ban] 9)).alloc (.cells #[.string ⟨#[]⟩, .int .i64 0, .slice (some ⟨w.heap.size, 0, none⟩) 1 1, .bool false] 24)

theorem only_below (ban : ByteArray) (w : World) : Below w.heap.size w (onlyW ban w) := ((Below.refl _ _).alloc (Nat.le_refl _) _).alloc (by simp) _

theorem only_in (ban : ByteArray) (w : World) (hb : ban.size ≤ maxLen) : Sch.In ⟨⟨#[]⟩, 0, [ban], false⟩ (onlyW ban w) (some ⟨w.heap.size, 0, none⟩) := by
  refine ⟨by unfold maxLen; simp [ByteArray.size], by unfold maxLen; simp, ?_, by dsimp only; omega, ?_⟩
  · intro b h
    have : b = ban := by simpa using h
    rw [this]; exact hb
  · intro _
    refine ⟨_, _, rfl, Lib.hid fun i hi => ?_⟩
    obtain rfl : i = 0 := by simpa using hi
    have h1 : (onlyW ban w).heap[w.heap.size]? = some (.cells #[.string ban] 9 (0, 0)) := (Below.heap_alloc _ _ _ (by simp)).trans (heap_new _ _ _ _ rfl)
    rw [cell_of_block h1]; rfl

section
variable {w : World} {s : Sch} {a : Option Addr} {cap : Nat}

set_option maxRecDepth 100000 in
set_option maxHeartbeats 2000000 in
theorem bans_law (h : s.In w a) (hcap : a = none → cap = 0) (ban body : ByteArray) (hban : ban.size ≤ maxLen) (hbody : body.size ≤ maxLen) :
    Calls Try.prog 7 #[s.val a cap, .string ban, .string body] w fun e w' => e = .returned (.bool true) ∧ Below w.heap.size w w' := by
  have hc1 := Ctx.start' (cap := cap) h
  have HBODY := Lib.hid hbody
  have HCAP := Lib.hid hcap
  unfold maxLen at hban hbody
  clear h hcap
  unfold Sch.val
  go_enter Try.func7, Try.ntmps7
  go_wp2_with fail
  change Calls _ _ _ (boxW s a cap w) _
  generalize boxW s a cap w = w1 at *
  refine (few_len (cap := cap) hc1.in_).mono ?_
  rintro e w2 ⟨⟨b, rfl, hbl⟩, hb2⟩
  have hc2 := hc1.next hb2
  clear hc1 hb2
  have hearly : b = false ∨ (b = true ∧ 8 < ban.size) ∨ (b = true ∧ ban.size ≤ 8 ∧ 100 < body.size) ∨ (b = true ∧ ban.size ≤ 8 ∧ body.size ≤ 100) := by cases b <;> simp; omega
  rcases hearly with rfl | ⟨rfl, h8⟩ | ⟨rfl, h8, h100⟩ | ⟨rfl, h8, h100⟩
  case inr.inr.inr =>
    have hlen := hbl rfl
    clear hbl
    have c0 := hc2.c0
    have c1 := hc2.c1
    have c2 := hc2.c2
    have c3 := hc2.c3
    go_wp2_with fail
    refine (copied_any (cap := cap) hc2.in_ HCAP.out hlen).mono ?_
    rintro e w3 ⟨a3, cap3, rfl, hown⟩
    unfold Sch.val
    have hc3 := hc2.next hown.below
    obtain ⟨i0, hi, hz0, hz1, hz2⟩ := info_parts infoStr
    clear c0 c1 c2 c3
    have hsz3 := hown.below.size
    go_wp2_with (at_builtin; refine append_opt rfl _ _ 22 rfl w2.heap.size 9 i0 (.string ByteArray.empty) 1 16 Try.underlying22 hi hz0 hz1 hz2 rfl (by decide) _ s.bs.length (s.bs.map Value.string) rfl ((hown.row.alloc _).alloc _) (some ⟨w3.heap.size + 1, 0, none⟩) 1 1 [.string ban] rfl (fun h => by cases h) rfl ?c1 ?c2 ?c3 ?c4 ?c5 ?_)
    case c1 =>
      intro ad ha j u hj
      injection ha with ha
      subst ha
      match j, hj with
      | 0, hj => simp at hj; subst hj; simp [Addr.add]
    case c2 => intro u hu; simp at hu; subst hu; rfl
    case c3 => unfold maxLen; omega
    case c4 => omega
    case c5 => simp; omega
    intro v' w4 hrow' hg'
    obtain ⟨ao, cp, rfl⟩ := owns_shape hrow'
    have hbx : w4.heap[w3.heap.size]? = some (.cells #[.string s.A, .int .i64 s.L, .slice a3 s.bs.length cap3, .bool s.chk] 24 (0, 0)) :=
      (hg'.block _ (by simp; omega) (fun e => by have := (hown.row.lt _ e.symm).2; omega)).trans ((Below.heap_alloc _ _ _ (by simp)).trans (heap_new _ _ _ _ rfl))
    have hbel : Below w2.heap.size w2 w4 := (((hown.below.alloc hown.below.size _).alloc (by simp; omega) _).grown hg' (by simp; omega) (fun k hk => (hown.row.lt _ hk).1))
    have hne : (Value.slice ao (s.bs.length + 1) cp).ownBlock ≠ some w3.heap.size := by
      intro e
      rcases hrow'.2 with ⟨h1, _⟩ | ⟨g, cp', cur, h1, _, h2, _⟩
      · injection h1 with h1 h2; omega
      · rw [h1] at e
        simp only [Value.ownBlock, Option.some.injEq] at e
        rw [e, hbx] at h2
        injection h2 with h2
        injection h2 with _ h3
        cases h3
    have hrow5 := ownsRow_setCell_other hrow' (a := ⟨w3.heap.size, 2, none⟩) hne (.slice ao (s.bs.length + 1) cp)
    have hbx5 := block_setCell hbx 2 (.slice ao (s.bs.length + 1) cp)
    have hbel5 := hbel.setCell (p := ⟨w3.heap.size, 2, none⟩) hsz3 (.slice ao (s.bs.length + 1) cp)
    have f2 := free_block hbx 2
    have k2 : w4.cell? ⟨w3.heap.size, 2, none⟩ = some (.slice a3 s.bs.length cap3) := cell_of_block hbx 2
    have HROW := Lib.hid hrow5
    have HBX := Lib.hid hbx5
    have HBEL := Lib.hid hbel5
    have HIN3 := Lib.hid hown.in_
    have hc5 := hc2.next hbel5
    clear hrow' hg' hbx hbel hne hrow5 hbx5 hbel5 hc3 hown hc2
    have c0 := hc5.c0
    have c1 := hc5.c1
    have c2 := hc5.c2
    have c3 := hc5.c3
    go_wp2_with fail
    change Calls _ _ _ (w4.setCell ⟨w3.heap.size, 2, none⟩ (.slice ao (s.bs.length + 1) cp)) _
    generalize w4.setCell ⟨w3.heap.size, 2, none⟩ (.slice ao (s.bs.length + 1) cp) = w5 at *
    clear c0 c1 c2 c3 f2 k2
    have hm5 : Ctx (s.more ban) ao cp w w3.heap.size w5 := by
      refine ⟨?_, ?_, hc5.below⟩
      · have := HBX.out
        rw [this]
        simp [Sch.more]
      · refine ⟨hc5.in_.alpha, ?_, ?_, hc5.in_.num, ?_⟩
        · simp only [Sch.more, List.length_append, List.length_singleton]; unfold maxLen; omega
        · intro b hb
          rcases List.mem_append.1 hb with h1 | h1
          · exact hc5.in_.bans b h1
          · have : b = ban := by simpa using h1
            rw [this]; unfold maxLen; omega
        · refine strsAt_own (cap := cp) (base := w2.heap.size) ?_
          have := HROW.out
          simpa [Sch.more] using this
    clear HBX HROW HBEL HIN3
    refine (check_err (cap := cap) hc5.in_).mono ?_
    rintro e w6 ⟨rfl, hb6⟩
    have hc6 := hc5.next hb6
    have hm6 := hm5.next hb6
    clear hc5 hm5 hb6
    have m0 : w6.cell? ⟨w3.heap.size, 0, none⟩ = some (.string s.A) := hm6.c0
    have m1 : w6.cell? ⟨w3.heap.size, 1, none⟩ = some (.int .i64 s.L) := hm6.c1
    have m2 : w6.cell? ⟨w3.heap.size, 2, none⟩ = some (.slice ao (s.more ban).bs.length cp) := hm6.c2
    have m3 : w6.cell? ⟨w3.heap.size, 3, none⟩ = some (.bool s.chk) := hm6.c3
    by_cases he : s.err = 0
    · have O := Sch.ok_of he
      have HE := Lib.hid he
      have hd1 : ((s.err : Int) != 0) = false := by rw [he]; rfl
      clear he
      go_wp2_with fail
      refine (check_err (s := s.more ban) (cap := cp) hm6.in_).mono ?_
      rintro e w7 ⟨rfl, hb7⟩
      have hc7 := hc6.next hb7
      have hm7 := hm6.next hb7
      clear hc6 hm6 hb7 m0 m1 m2 m3
      by_cases he2 : (s.more ban).err = 0
      · have O2 := Sch.ok_of he2
        have HE2 := Lib.hid he2
        have hd2 : (((s.more ban).err : Int) != 0) = false := by rw [he2]; rfl
        clear he2
        have c0 := hc7.c0
        have c1 := hc7.c1
        have c2 := hc7.c2
        have c3 := hc7.c3
        go_wp2_with fail
        refine (complete_ok (cap := cap) body HBODY.out hc7.in_ HE.out).mono ?_
        rintro e w8 ⟨rfl, hb8⟩
        have hc8 := hc7.next hb8
        have hm8 := hm7.next hb8
        clear hc7 hm7 hb8 c0 c1 c2 c3
        have m0 : w8.cell? ⟨w3.heap.size, 0, none⟩ = some (.string s.A) := hm8.c0
        have m1 : w8.cell? ⟨w3.heap.size, 1, none⟩ = some (.int .i64 s.L) := hm8.c1
        have m2 : w8.cell? ⟨w3.heap.size, 2, none⟩ = some (.slice ao (s.more ban).bs.length cp) := hm8.c2
        have m3 : w8.cell? ⟨w3.heap.size, 3, none⟩ = some (.bool s.chk) := hm8.c3
        go_wp2_with fail
        refine (complete_ok (s := s.more ban) (cap := cp) body HBODY.out hm8.in_ HE2.out).mono ?_
        rintro e w9 ⟨rfl, hb9⟩
        have hc9 := hc8.next hb9
        clear hc8 hm8 hb9 m0 m1 m2 m3 hd1 hd2
        by_cases hz : s.cerr body.data.toList = 0
        · obtain ⟨x, hx⟩ : ∃ x : ByteArray, x = ⟨(s.cstr body.data.toList).toArray⟩ := ⟨_, rfl⟩
          rw [← hx, hz]
          have HX := Lib.hid hx
          have HZ := Lib.hid hz
          clear hx hz
          by_cases hk : okay [ban.data.toList] body.data.toList
          · obtain ⟨g1, g2⟩ := more_ok O O2 HZ.out hk
            rw [g1, g2, ← HX.out]
            have HK := Lib.hid hk
            clear hk g1 g2
            go_wp2_with fail
            refine (allowed_ref (s := ⟨⟨#[]⟩, 0, [ban], false⟩) (a := some ⟨w9.heap.size, 0, none⟩) (cap := 1) (only_in ban w9 (by unfold maxLen; omega)) (by intro b hb; have : b = ban := (by simpa using hb); rw [this]; omega) body (by omega)).mono ?_
            rintro e w10 ⟨⟨r, rfl, hr⟩, hb10⟩
            obtain rfl : r = true := hr.2 HK.out
            have hc10 := (hc9.next (only_below ban w9)).next hb10
            clear hr
            go_wp2_with fail
            refine awake_any.mono ?_
            rintro e w11 ⟨rfl, hb11⟩
            have hc11 := hc10.next hb11
            go_wp2
            go_ret
            exact ⟨rfl, hc11.below⟩
          · have g1 := more_no O O2 HZ.out hk
            have g2 := cstr_no (s := s.more ban) (x := body.data.toList) (by rw [g1]; decide)
            rw [g1, g2]
            have HK := Lib.hid hk
            clear hk g1 g2
            go_wp2_with fail
            refine (allowed_ref (s := ⟨⟨#[]⟩, 0, [ban], false⟩) (a := some ⟨w9.heap.size, 0, none⟩) (cap := 1) (only_in ban w9 (by unfold maxLen; omega)) (by intro b hb; have : b = ban := (by simpa using hb); rw [this]; omega) body (by omega)).mono ?_
            rintro e w10 ⟨⟨r, rfl, hr⟩, hb10⟩
            obtain rfl : r = false := by
              cases r
              · rfl
              · exact absurd (hr.1 rfl) HK.out
            have hc10 := (hc9.next (only_below ban w9)).next hb10
            clear hr
            go_wp2_with fail
            refine awake_any.mono ?_
            rintro e w11 ⟨rfl, hb11⟩
            have hc11 := hc10.next hb11
            go_wp2
            go_ret
            exact ⟨rfl, hc11.below⟩
        · rw [more_err O O2 hz, cstr_no (s := s.more ban) (x := body.data.toList) (by rw [more_err O O2 hz]; exact hz)]
          have hd : ((s.cerr body.data.toList : Int) != 0) = true := by rw [bne_iff_ne]; omega
          clear hz
          generalize s.cerr body.data.toList = er at *
          generalize s.cstr body.data.toList = st at *
          go_wp2_with fail
          refine awake_any.mono ?_
          rintro e w11 ⟨rfl, hb11⟩
          have hc11 := hc9.next hb11
          go_wp2
          go_ret
          exact ⟨rfl, hc11.below⟩
      · have hd2 : (((s.more ban).err : Int) != 0) = true := by rw [bne_iff_ne]; omega
        clear he2
        generalize (s.more ban).err = er2 at *
        go_wp2_with fail
        refine awake_any.mono ?_
        rintro e w11 ⟨rfl, hb11⟩
        have hc11 := hc7.next hb11
        go_wp2
        go_ret
        exact ⟨rfl, hc11.below⟩
    · have hd1 : ((s.err : Int) != 0) = true := by rw [bne_iff_ne]; omega
      clear he m0 m1 m2 m3
      generalize s.err = er at *
      go_wp2_with fail
      refine awake_any.mono ?_
      rintro e w11 ⟨rfl, hb11⟩
      have hc11 := hc6.next hb11
      go_wp2
      go_ret
      exact ⟨rfl, hc11.below⟩
  all_goals
    clear hbl
    go_wp2_with fail
    refine awake_any.mono ?_
    rintro e w3 ⟨rfl, hb3⟩
    have hc3 := hc2.next hb3
    go_wp2
    go_ret
    exact ⟨rfl, hc3.below⟩
end
end Go.Proofs.Yteleehldcpjndaa
