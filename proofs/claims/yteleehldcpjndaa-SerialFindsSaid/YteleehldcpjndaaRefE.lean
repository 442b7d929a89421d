/- The contracts of the reference's place and step. Condition: the beginnings and the scheme's parts are in memory. -/
import Derived.Test.YteleehldcpjndaaRTab
import Derived.Test.YteleehldcpjndaaRefA
import Derived.StillTailTactics
namespace Go.Proofs.Yteleehldcpjndaa
open Go Go.RowKit

def mkB (u : Bytes) : ByteArray := ⟨u.toArray⟩
theorem mkB_data (u : Bytes) : (mkB u).data.toList = u := by simp [mkB]

/-- the index of a beginning, or -1 -/
def plc (S : List Bytes) (u : Bytes) : Int := (numOf S u).getD (-1)

/-- block B holds rows; nothing that was there in w0 has changed -/
structure RCtx (g : Option Addr) (n c : Nat) (nx wy : Value) (w0 : World) (B : Nat) (w : World) : Prop where
  box : w.heap[B]? = some (.cells #[.slice g n c, nx, wy] 29 (0, 0))
  below : Below w0.heap.size w0 w

section
variable {g : Option Addr} {n c B : Nat} {nx wy : Value} {w0 w : World}

theorem RCtx.next {w' : World} (h : RCtx g n c nx wy w0 B w) (hb : Below w.heap.size w w') : RCtx g n c nx wy w0 B w' :=
  ⟨(hb.block _ (Array.getElem?_eq_some_iff.1 h.box).1).trans h.box, h.below.trans (hb.mono h.below.size)⟩
theorem RCtx.c0 (h : RCtx g n c nx wy w0 B w) : w.cell? ⟨B, 0, none⟩ = some (.slice g n c) := cell_of_block h.box 0
theorem RCtx.c1 (h : RCtx g n c nx wy w0 B w) : w.cell? ⟨B, 1, none⟩ = some nx := cell_of_block h.box 1
theorem RCtx.c2 (h : RCtx g n c nx wy w0 B w) : w.cell? ⟨B, 2, none⟩ = some wy := cell_of_block h.box 2
theorem RCtx.start : RCtx g n c nx wy w w.heap.size (w.alloc (.cells #[.slice g n c, nx, wy] 29)) :=
  ⟨(MapKept.heap_alloc w _).1, (Below.refl _ _).alloc (Nat.le_refl _) _⟩
end

theorem idx_take_none {S : List Bytes} {u : Bytes} (h : ∀ j, j < S.length → S.getD j [] ≠ u) : numOf S u = none := by
  apply numOf_none
  intro hm
  obtain ⟨j, hj, e⟩ := List.getElem_of_mem hm
  exact h j hj (by rw [List.getD_eq_getElem?_getD, List.getElem?_eq_getElem hj]; exact e)

theorem idxOf_first : ∀ (S : List Bytes) (u : Bytes) (i : Nat), i < S.length → (∀ j, j < i → S.getD j [] ≠ u) → S.getD i [] = u → S.idxOf u = i
  | [], _, _, hi, _, _ => by simp at hi
  | x :: S, u, 0, _, _, he => by
    have : x = u := by simpa using he
    rw [this, List.idxOf_cons_self]
  | x :: S, u, i + 1, hi, h, he => by
    have h0 : x ≠ u := by simpa using h 0 (by omega)
    have h1 := idxOf_first S u i (by simpa using hi) (fun j hj => by simpa using h (j + 1) (by omega)) (by simpa using he)
    rw [List.idxOf_cons, h1]
    have : (x == u) = false := by simp [h0]
    rw [this]; rfl

theorem idx_first {S : List Bytes} {u : Bytes} {i : Nat} (hi : i < S.length) (h : ∀ j, j < i → S.getD j [] ≠ u) (he : S.getD i [] = u) : numOf S u = some (i : Int) := by
  have h1 := idxOf_first S u i hi h he
  rw [List.getD_eq_getElem?_getD, List.getElem?_eq_getElem hi] at he
  have he : S[i] = u := he
  rw [numOf_some (he ▸ List.getElem_mem hi), h1]

section
variable {w : World}

set_option maxHeartbeats 1000000 in
theorem place_ref (S : List Bytes) (hS : S.length ≤ 1000) (g : Option Addr) (c : Nat) (nx wy : Value) (x : ByteArray) (hst : StrsAt w g (S.map mkB)) :
    Calls Try.prog 63 #[.agg #[.slice g S.length c, nx, wy], .string x] w fun e w' => e = .returned (.int .i64 (plc S x.data.toList)) ∧ Below w.heap.size w w' := by
  have hr1 : RCtx g S.length c nx wy w w.heap.size (w.alloc (.cells #[.slice g S.length c, nx, wy] 29)) := RCtx.start
  go_enter Try.func63, Try.ntmps63
  go_wp2_with fail
  go_loopw [5] (fun vi wr => ∃ i : Nat, i ≤ S.length ∧ vi = .int .i64 i ∧ Hid (∀ j, j < i → S.getD j [] ≠ x.data.toList) ∧ RCtx g S.length c nx wy w w.heap.size wr)
    (fun vi _ => S.length - (intOf vi).toNat)
  case atStart => exact ⟨0, Nat.zero_le _, rfl, Lib.hid (fun j hj => by omega), hr1⟩
  case round =>
    obtain ⟨i, hi, rfl, hno, hcr⟩ := hrel
    clear hr1
    have c0 := hcr.c0
    by_cases hlt : i < S.length
    · obtain ⟨bb, off, ha, hcell⟩ := (hst.below hcr.below) (by rw [List.length_map]; omega)
      have hce := hcell.out i (by rw [List.length_map]; exact hlt)
      have hgd : (S.map mkB).getD i ⟨#[]⟩ = mkB (S.getD i []) := by
        rw [List.getD_eq_getElem?_getD, List.getElem?_map, List.getElem?_eq_getElem hlt, List.getD_eq_getElem?_getD, List.getElem?_eq_getElem hlt]; rfl
      rw [hgd] at hce
      clear hgd
      obtain ⟨ban, hban⟩ : ∃ ban, ban = mkB (S.getD i []) := ⟨_, rfl⟩
      rw [← hban] at hce
      have HBAN : Hid (ban.data.toList = S.getD i []) := Lib.hid (by rw [hban, mkB_data])
      clear hban
      subst ha
      by_cases hq : ban = x
      · have hd : (ban.toList == x.toList) = true := by rw [beq_iff_eq, hq]
        have HF : Hid (plc S x.data.toList = (i : Int)) := Lib.hid (by
          unfold plc
          rw [idx_first hlt hno.out (by rw [← HBAN.out, hq])]; rfl)
        clear hq
        go_wp2_with fail
        go_ret
        exact ⟨by rw [HF.out]; rfl, hcr.below⟩
      · have HN : Hid (S.getD i [] ≠ x.data.toList) := Lib.hid (fun hc => hq (ba_eq (HBAN.out.trans hc)))
        have hd : (ban.toList == x.toList) = false := by
          rw [beq_eq_false_iff_ne]
          intro hc
          rw [Lib.toList_data, Lib.toList_data] at hc
          exact hq (ba_eq hc)
        clear hq
        go_wp2_with fail
        go_roundw
        case rel =>
          refine ⟨i + 1, by omega, by go_num, Lib.hid (fun j hj => ?_), hcr⟩
          by_cases hji : j < i
          · exact hno.out j hji
          · obtain rfl : j = i := by omega
            exact HN.out
        case measure => simp [intOf]; omega
    · obtain rfl : i = S.length := by omega
      have HF : Hid (plc S x.data.toList = -1) := Lib.hid (by
        unfold plc
        rw [idx_take_none hno.out]; rfl)
      go_wp2_with fail
      go_ret
      exact ⟨by rw [HF.out]; rfl, hcr.below⟩
end

/-- the end of a text -/
theorem suffix_extract {b u : ByteArray} {d : Nat} (h : u.size = d + b.size) : u.extract d u.size = b ↔ b.data.toList.isSuffixOf u.data.toList = true := by
  rw [List.isSuffixOf_iff_suffix]
  have e : (u.extract d u.size).data.toList = u.data.toList.drop d := Lib.extract_to_end u d
  constructor
  · intro h2
    rw [← h2, e]
    exact List.drop_suffix _ _
  · intro h2
    apply ba_eq
    rw [e]
    have h3 := List.suffix_iff_eq_drop.1 h2
    rw [size_toList, size_toList, h, Nat.add_sub_cancel] at h3
    exact h3.symm

section
variable {w : World} {s : Sch} {a : Option Addr} {cap : Nat}

set_option maxRecDepth 100000 in
set_option maxHeartbeats 2000000 in
theorem step_ref (h : s.In w a) (S : List Bytes) (hS : S.length ≤ 1000) (g : Option Addr) (c : Nat) (nx wy : Value) (u : ByteArray) (hu : u.size ≤ 1000) (hb8 : ∀ b ∈ s.bs, b.size ≤ 1000) (hst : StrsAt w g (S.map mkB)) :
    Calls Try.prog 64 #[.agg #[.slice g S.length c, nx, wy], s.val a cap, .string u] w fun e w' => e = .returned (.int .i64 (longestOf s.B (numOf S) u.data.toList)) ∧ Below w.heap.size w w' := by
  have hr1 : RCtx g S.length c nx wy w w.heap.size (w.alloc (.cells #[.slice g S.length c, nx, wy] 29)) := RCtx.start
  have hlen := h.len
  unfold maxLen at hlen
  have HB8 := Lib.hid hb8
  have HIN := Lib.hid h
  clear hb8 h
  have hbx : Hid (Ctx s a cap (w.alloc (.cells #[.slice g S.length c, nx, wy] 29)) (w.heap.size + 1) (boxW s a cap (w.alloc (.cells #[.slice g S.length c, nx, wy] 29)))) := Lib.hid (by
    have := Ctx.start' (cap := cap) (HIN.out.below hr1.below)
    simpa using this)
  unfold Sch.val
  go_enter Try.func64, Try.ntmps64
  go_wp2_with fail
  go_loopw [7] (fun vi wr => ∃ i : Nat, i ≤ s.bs.length ∧ vi = .int .i64 i ∧ Hid (bad (s.B.take i) u.data.toList = false) ∧ RCtx g S.length c nx wy w w.heap.size wr ∧ Ctx s a cap w (w.heap.size + 1) wr)
    (fun vi _ => s.bs.length - (intOf vi).toNat)
  case atStart =>
    refine ⟨0, Nat.zero_le _, rfl, Lib.hid rfl, hr1.next ?_, ?_⟩
    · exact hbx.out.below
    · exact ⟨hbx.out.box, hbx.out.in_, hr1.below.trans (hbx.out.below.mono (by simp))⟩
  case round =>
    obtain ⟨i, hi, rfl, hbad, hcr, hcx⟩ := hrel
    clear hr1 hbx
    have c2 := hcx.c2
    by_cases hlt : i < s.bs.length
    · obtain ⟨bb, off, ha, hcell⟩ := hcx.in_.strs (by omega)
      have hce := hcell.out i hlt
      have htk := bad_take s.B u.data.toList i (by simpa [Sch.B] using hlt)
      have hgd : s.B.getD i [] = (s.bs.getD i ⟨#[]⟩).data.toList := by
        rw [Sch.B, List.getD_eq_getElem?_getD, List.getElem?_map, List.getElem?_eq_getElem hlt, List.getD_eq_getElem?_getD, List.getElem?_eq_getElem hlt]; rfl
      rw [hgd] at htk
      have hbsz : (s.bs.getD i ⟨#[]⟩).size ≤ 1000 := HB8.out _ (by rw [List.getD_eq_getElem?_getD, List.getElem?_eq_getElem hlt]; simp)
      obtain ⟨ban, hban⟩ : ∃ ban, ban = s.bs.getD i ⟨#[]⟩ := ⟨_, rfl⟩
      rw [← hban] at hce htk hgd hbsz
      have HTK := Lib.hid htk
      have HGD := Lib.hid hgd
      have HLT := Lib.hid hlt
      clear hban htk hgd
      subst ha
      by_cases hle : ban.size ≤ u.size
      · obtain ⟨d, hdd⟩ : ∃ d, u.size = d + ban.size := ⟨u.size - ban.size, by omega⟩
        have hsub : (u.size : Int) - (ban.size : Int) = (d : Int) := by omega
        have hdl : d ≤ u.size := by omega
        have HSE := Lib.hid (suffix_extract hdd)
        have HDD := Lib.hid hdd
        clear hdd
        by_cases hq : u.extract d u.size = ban
        · have hd : ((u.extract d u.size).toList == ban.toList) = true := by rw [beq_iff_eq, hq]
          have HF : Hid (longestOf s.B (numOf S) u.data.toList = -1) := Lib.hid (by
            unfold longestOf
            rw [if_pos (bad_at (k := i) (by simpa [Sch.B] using HLT.out) (by rw [HGD.out]; exact HSE.out.1 hq))])
          clear hq
          go_wp2_with fail
          go_ret
          exact ⟨by rw [HF.out]; rfl, hcr.below⟩
        · have hd : ((u.extract d u.size).toList == ban.toList) = false := by
            rw [beq_eq_false_iff_ne]
            intro hc
            rw [Lib.toList_data, Lib.toList_data] at hc
            exact hq (ba_eq hc)
          have HN : Hid (ban.data.toList.isSuffixOf u.data.toList = false) := Lib.hid (by
            rw [← Bool.not_eq_true]
            exact fun hc => hq (HSE.out.2 hc))
          clear hq
          go_wp2_with fail
          go_roundw
          case rel => exact ⟨i + 1, by omega, by go_num, Lib.hid (by rw [HTK.out, hbad.out, HN.out]; rfl), hcr, hcx⟩
          case measure => simp [intOf]; omega
      · have hgt : (u.size : Int) < (ban.size : Int) := by omega
        have hd : decide ((ban.size : Int) ≤ (u.size : Int)) = false := decide_eq_false (by omega)
        have HN : Hid (ban.data.toList.isSuffixOf u.data.toList = false) := Lib.hid (by
          rw [← Bool.not_eq_true, List.isSuffixOf_iff_suffix]
          intro hc
          have := hc.length_le
          rw [size_toList, size_toList] at this
          exact hle this)
        clear hle
        go_wp2_with fail
        go_roundw
        case rel => exact ⟨i + 1, by omega, by go_num, Lib.hid (by rw [HTK.out, hbad.out, HN.out]; rfl), hcr, hcx⟩
        case measure => simp [intOf]; omega
    · obtain rfl : i = s.bs.length := by omega
      have hbb := hbad.out
      rw [List.take_of_length_le (by simp [Sch.B])] at hbb
      have HF : Hid (longestOf s.B (numOf S) u.data.toList = firstEnd (numOf S) u.data.toList u.size) := Lib.hid (by
        unfold longestOf; rw [hbb, size_toList]; rfl)
      clear hbb
      go_wp2_with fail
      clear c2
      go_loopw [9] (fun vk wr => ∃ k : Nat, k ≤ u.size ∧ vk = .int .i64 k ∧ Hid (firstEnd (numOf S) u.data.toList u.size = firstEnd (numOf S) u.data.toList (u.size - k)) ∧ RCtx g S.length c nx wy w w.heap.size wr)
        (fun vk _ => u.size - (intOf vk).toNat)
      case atStart => exact ⟨0, Nat.zero_le _, rfl, Lib.hid rfl, hcr⟩
      case round =>
        clear hcr hcx
        obtain ⟨k, hk, rfl, hfe, hcr⟩ := hrel
        have c0 := hcr.c0
        have c1 := hcr.c1
        have c2 := hcr.c2
        by_cases hlt2 : k < u.size
        · have hstep : firstEnd (numOf S) u.data.toList (u.size - k) = match numOf S (u.data.toList.drop k) with
            | some v => v
            | none => firstEnd (numOf S) u.data.toList (u.size - (k + 1)) := by
            obtain ⟨m, hm⟩ : ∃ m, u.size - k = m + 1 := ⟨u.size - k - 1, by omega⟩
            rw [hm, firstEnd, size_toList, show u.size - (m + 1) = k by omega, show m = u.size - (k + 1) by omega]
            cases numOf S (u.data.toList.drop k) <;> rfl
          have HS := Lib.hid hstep
          clear hstep
          obtain ⟨wo, rfl⟩ : ∃ wo : World, wo = wr := ⟨_, rfl⟩
          go_wp2_with fail
          go_still_tail 4, (by kernel_rfl)
          change wpList _ _ _ _ _ wo.drew
          have hcr2 : RCtx g S.length c nx wy w w.heap.size wo.drew := ⟨hcr.box, hcr.below.drew⟩
          generalize wo.drew = w2 at *
          clear hcr c0 c1 c2
          go_wp2_with fail
          refine (place_ref S hS g c nx wy (u.extract k u.size) (hst.below hcr2.below)).mono ?_
          rintro e w3 ⟨rfl, hb3⟩
          have hcr3 := hcr2.next hb3
          rw [Lib.extract_to_end]
          unfold plc
          cases hfk : numOf S (u.data.toList.drop k) with
          | some v =>
            have hv : (0 : Int) ≤ v := by
              unfold numOf at hfk
              split at hfk
              · simp at hfk; omega
              · cases hfk
            have HFK := Lib.hid hfk
            clear hfk
            simp only [Option.getD_some]
            go_wp2_with fail
            go_ret
            exact ⟨by rw [HF.out, hfe.out, HS.out, HFK.out]; rfl, hcr3.below⟩
          | none =>
            have HFK := Lib.hid hfk
            clear hfk
            simp only [Option.getD_none]
            go_wp2_with fail
            go_roundw
            case rel => exact ⟨k + 1, by omega, by go_num, Lib.hid (by rw [hfe.out, HS.out, HFK.out]), hcr3⟩
            case measure => simp [intOf]; omega
        · have h0 : u.size - k = 0 := by omega
          have HF0 : Hid (firstEnd (numOf S) u.data.toList (u.size - k) = 0) := Lib.hid (by rw [h0]; rfl)
          clear h0
          go_wp2_with fail
          go_ret
          exact ⟨by rw [HF.out, hfe.out, HF0.out]; rfl, hcr.below⟩
end
end Go.Proofs.Yteleehldcpjndaa
