/- The contracts of the reference's Syntax and Complete. Condition: the scheme is valid, its parts are in memory, the text is short. -/
import Derived.Test.YteleehldcpjndaaRefI
namespace Go.Proofs.Yteleehldcpjndaa
open Go Go.RowKit

/-- the text has a serial's length and the alphabet's bytes -/
def Sch.syn (s : Sch) (x : Bytes) : Bool := decide (x.length = sz s.L.toNat s.chk) && ofB x s.A.data.toList

section
variable {w : World} {s : Sch} {a : Option Addr} {cap : Nat}

theorem serr_no {x : Bytes} (h : s.syn x = false) : s.serr x = 4 := by
  unfold Sch.serr serialErr
  rw [if_pos]
  unfold Sch.syn at h
  rw [Bool.and_eq_false_iff] at h
  rcases h with h | h
  · exact .inl (of_decide_eq_false h)
  · exact .inr h

theorem syn_iff {x : Bytes} : s.syn x = true ↔ x.length = sz s.L.toNat s.chk ∧ ofB x s.A.data.toList = true := by
  unfold Sch.syn
  rw [Bool.and_eq_true, decide_eq_true_eq]

theorem serr_syn {x : Bytes} (h : s.syn x = true) :
    s.serr x = if (walk s.tt 0 (s.word x)).isSome = false then 21 else if serialOf s.A.data.toList s.chk (x.take s.L.toNat) ≠ x then 22 else 0 := by
  obtain ⟨h1, h2⟩ := syn_iff.1 h
  unfold Sch.serr serialErr Sch.word
  rw [if_neg (by rw [h1, h2]; simp)]

theorem okay_take (O : s.Ok) {x : Bytes} (h : s.syn x = true) : (walk s.tt 0 (s.word x)).isSome = true ↔ okay s.B (x.take s.L.toNat) := by
  have h2 := ofB_take (syn_iff.1 h).2 s.L.toNat
  have := walk_okay_table O.table (s.word x) (idxs_lt h2)
  unfold Sch.word at this ⊢
  rw [txt_idxs h2] at this
  exact this

theorem serr_banned (O : s.Ok) {x : Bytes} (h : s.syn x = true) (hb : ¬ okay s.B (x.take s.L.toNat)) : s.serr x = 21 := by
  rw [serr_syn h, if_pos]
  cases hw : (walk s.tt 0 (s.word x)).isSome
  · rfl
  · exact absurd ((okay_take O h).1 hw) hb

theorem serr_check (O : s.Ok) {x : Bytes} (h : s.syn x = true) (hb : okay s.B (x.take s.L.toNat)) (hs : serialOf s.A.data.toList s.chk (x.take s.L.toNat) ≠ x) : s.serr x = 22 := by
  rw [serr_syn h, if_neg (by rw [(okay_take O h).2 hb]; simp), if_pos hs]

theorem serr_good (O : s.Ok) {x : Bytes} (h : s.syn x = true) (hb : okay s.B (x.take s.L.toNat)) (hs : serialOf s.A.data.toList s.chk (x.take s.L.toNat) = x) : s.serr x = 0 := by
  rw [serr_syn h, if_neg (by rw [(okay_take O h).2 hb]; simp), if_neg (by simp [hs])]

set_option maxHeartbeats 1000000 in
theorem syntax_ref (W : s.Wf) (h : s.In w a) (x : ByteArray) (hx : x.size ≤ maxLen) :
    Calls Try.prog 42 #[s.val a cap, .string x] w fun e w' => e = .returned (.bool (s.syn x.data.toList)) ∧ Below w.heap.size w w' := by
  have hc1 := Ctx.start' (cap := cap) h
  have hAL := h.alpha
  have hL1 := W.l1
  have hL16 := W.l16
  have HX := Lib.hid hx
  have HAL := Lib.hid hAL
  unfold maxLen at hx
  have hlong : s.L + (if s.chk then 1 else 0) = (sz s.L.toNat s.chk : Nat) := by unfold sz; cases s.chk <;> simp <;> omega
  have HLONG := Lib.hid hlong
  have c0 := hc1.c0
  have c1 := hc1.c1
  have c2 := hc1.c2
  have c3 := hc1.c3
  clear h hAL hlong W
  unfold Sch.val
  go_enter Try.func42, Try.ntmps42
  go_wp2_with fail
  change Calls _ _ _ (boxW s a cap w) _
  generalize boxW s a cap w = w1 at *
  refine (long_any (s := s) (a := a) (cap := cap) (by omega)).mono ?_
  rintro e w2 ⟨rfl, hb2⟩
  rw [HLONG.out]
  have hc2 := hc1.next hb2
  clear hc1 hb2 c0 c1 c2 c3
  have c0 := hc2.c0
  by_cases hl : x.size = sz s.L.toNat s.chk
  · have HS : Hid (s.syn x.data.toList = ofB x.data.toList s.A.data.toList) := Lib.hid (by
      unfold Sch.syn
      rw [size_toList, decide_eq_true hl, Bool.true_and])
    have hd : ((x.size : Int) == (sz s.L.toNat s.chk : Nat)) = true := by rw [beq_iff_eq, hl]
    clear hl
    generalize sz s.L.toNat s.chk = z at *
    go_wp2_with fail
    refine (of_ref s.A x _ HX.out HAL.out).mono ?_
    rintro e w3 ⟨rfl, rfl⟩
    rw [← HS.out]
    go_wp2_with fail
    go_ret
    exact ⟨rfl, hc2.below⟩
  · have HS : Hid (s.syn x.data.toList = false) := Lib.hid (by
      unfold Sch.syn
      rw [size_toList, decide_eq_false hl, Bool.false_and])
    have hd : ((x.size : Int) == (sz s.L.toNat s.chk : Nat)) = false := by rw [beq_eq_false_iff_ne]; omega
    clear hl
    generalize sz s.L.toNat s.chk = z at *
    go_wp2_with fail
    go_ret
    exact ⟨by rw [HS.out]; rfl, hc2.below⟩

set_option maxRecDepth 100000 in
set_option maxHeartbeats 2000000 in
theorem complete_ref (O : s.Ok) (h : s.In w a) (x : ByteArray) (hx : x.size ≤ 1000) :
    Calls Try.prog 28 #[s.val a cap, .string x] w fun e w' => e = .returned (.tuple #[.string ⟨(s.cstr x.data.toList).toArray⟩, .int .i64 (s.cerr x.data.toList : Nat)]) ∧ Below w.heap.size w w' := by
  have hc1 := Ctx.start' (cap := cap) h
  have HAL := Lib.hid h.alpha
  have hL1 := O.l1
  have hL16 := O.l16
  have hA2 := O.a2
  have hA36 := O.a36
  have HB8 : Hid (∀ b ∈ s.bs, b.size ≤ 1000) := Lib.hid (fun b hb => by have := O.b8 b hb; omega)
  have HX : Hid (x.size ≤ maxLen) := Lib.hid (by unfold maxLen; omega)
  have c0 := hc1.c0
  have c1 := hc1.c1
  clear h
  unfold Sch.val
  by_cases hl : (x.size : Int) = s.L
  · go_enter Try.func28, Try.ntmps28
    have hd : ((x.size : Int) != s.L) = false := by rw [bne_eq_false_iff_eq]; exact hl
    have HL := Lib.hid hl
    clear hl
    unfold boxW at hc1 c0 c1
    go_wp2_with fail
    refine (of_ref s.A x _ HX.out HAL.out).mono ?_
    rintro e w3 ⟨rfl, rfl⟩
    cases hof : ofB x.data.toList s.A.data.toList
    · have HE : Hid (s.cerr x.data.toList = 4) := Lib.hid (cerr_four _ (.inr hof))
      have HS : Hid (s.cstr x.data.toList = []) := Lib.hid (cstr_no (by rw [HE.out]; decide))
      have HB := Lib.hid hc1.below
      clear hof
      go_wp2_with fail
      go_ret2
      exact ⟨by rw [HE.out, HS.out]; rfl, HB.out⟩
    · have HOF := Lib.hid hof
      have hcases := cerr_eq O x.data.toList (by rw [size_toList]; have := HL.out; omega) hof
      have HCA := Lib.hid hcases
      clear hof hcases
      have c2 := hc1.c2
      have c3 := hc1.c3
      go_wp2_with fail
      change Calls _ _ _ (boxW s a cap w) _
      change Ctx s a cap w w.heap.size (boxW s a cap w) at hc1
      generalize boxW s a cap w = w1 at *
      refine (allowed_ref (cap := cap) hc1.in_ HB8.out x hx).mono ?_
      rintro e w4 ⟨⟨r, rfl, hr⟩, hb4⟩
      have hc4 := hc1.next hb4
      have HR := Lib.hid hr
      clear hc1 hb4 hr c0 c1 c2 c3
      cases r
      · have HE : Hid (s.cerr x.data.toList = 21) := Lib.hid (by
          rcases HCA.out with ⟨_, h1⟩ | ⟨h1, _⟩
          · have := HR.out.2 h1; cases this
          · exact h1)
        have HS : Hid (s.cstr x.data.toList = []) := Lib.hid (cstr_no (by rw [HE.out]; decide))
        go_wp2_with fail
        go_ret2
        exact ⟨by rw [HE.out, HS.out]; rfl, hc4.below⟩
      · have HE : Hid (s.cerr x.data.toList = 0) := Lib.hid (by
          rcases HCA.out with ⟨h1, _⟩ | ⟨_, h1⟩
          · exact h1
          · exact absurd (HR.out.1 rfl) h1)
        have HS : Hid (s.cstr x.data.toList = serialOf s.A.data.toList s.chk x.data.toList) := Lib.hid (by unfold Sch.cstr; rw [if_pos HE.out])
        have c0 := hc4.c0
        have c1 := hc4.c1
        have c2 := hc4.c2
        have c3 := hc4.c3
        go_wp2_with fail
        refine (serial_ref (s := s) (a := a) (cap := cap) hA2 hA36 x hx HOF.out).mono ?_
        rintro e w5 ⟨rfl, hb5⟩
        have hc5 := hc4.next hb5
        rw [← HS.out]
        go_wp2_with fail
        go_ret2
        exact ⟨by rw [HE.out]; rfl, hc5.below⟩
  · have HE : Hid (s.cerr x.data.toList = 4) := Lib.hid (cerr_four _ (.inl (by rw [size_toList]; omega)))
    have HS : Hid (s.cstr x.data.toList = []) := Lib.hid (cstr_no (by rw [HE.out]; decide))
    have hd : ((x.size : Int) != s.L) = true := by rw [bne_iff_ne]; exact hl
    have HB := Lib.hid hc1.below
    clear hl
    unfold boxW at c0 c1 HB
    go_enter Try.func28, Try.ntmps28
    go_wp2_with fail
    go_ret2
    exact ⟨by rw [HE.out, HS.out]; rfl, HB.out⟩
end
end Go.Proofs.Yteleehldcpjndaa
