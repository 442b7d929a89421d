/- The contract of the reference's Allowed. Condition: the scheme's parts are in memory, its banned strings and the text are short. -/
import Derived.Test.YteleehldcpjndaaLawB
namespace Go.Proofs.Yteleehldcpjndaa
open Go Go.RowKit

theorem ba_eq {x y : ByteArray} (h : x.data.toList = y.data.toList) : x = y := by
  obtain ⟨⟨x⟩⟩ := x
  obtain ⟨⟨y⟩⟩ := y
  simp at h
  rw [h]

/-- a string stands in a text at a place -/
def standsAt (b u : Bytes) (k : Nat) : Prop := k + b.length ≤ u.length ∧ (u.drop k).take b.length = b

theorem infix_iff (b u : Bytes) : b <:+: u ↔ ∃ k, standsAt b u k := by
  constructor
  · rintro ⟨s, t, h⟩
    refine ⟨s.length, ?_, ?_⟩
    · rw [← h]; simp
    · rw [← h, List.append_assoc, List.drop_left, List.take_left]
  · rintro ⟨k, h1, h2⟩
    rw [← h2]
    exact (List.take_prefix _ _).isInfix.trans (List.drop_suffix _ _).isInfix

theorem extract_stands {t b : ByteArray} {k : Nat} (h : k + b.size ≤ t.size) : t.extract k (k + b.size) = b ↔ standsAt b.data.toList t.data.toList k := by
  have e : (t.extract k (k + b.size)).data.toList = (t.data.toList.drop k).take b.size := by
    rw [ByteArray.data_extract, Array.toList_extract, List.extract_eq_take_drop, show k + b.size - k = b.size by omega]
  unfold standsAt
  rw [size_toList, size_toList]
  constructor
  · intro h2
    refine ⟨h, ?_⟩
    rw [← e, h2]
  · rintro ⟨_, h2⟩
    rw [← e] at h2
    obtain ⟨⟨x⟩⟩ := b
    generalize t.extract k _ = y at *
    obtain ⟨⟨y⟩⟩ := y
    simp at h2
    rw [h2]

section
variable {w : World} {s : Sch} {a : Option Addr} {cap : Nat}

/-- a Bool is returned, and this holds of it -/
def BoolOf (w : World) (P : Bool → Prop) (e : Ending) (w' : World) : Prop := (∃ r : Bool, e = .returned (.bool r) ∧ P r) ∧ Below w.heap.size w w'

set_option maxRecDepth 100000 in
set_option maxHeartbeats 1000000 in
theorem allowed_ref (h : s.In w a) (hb8 : ∀ b ∈ s.bs, b.size ≤ 1000) (t : ByteArray) (ht : t.size ≤ 1000) :
    Calls Try.prog 34 #[s.val a cap, .string t] w (BoolOf w fun r => r = true ↔ okay s.B t.data.toList) := by
  have hc1 := Ctx.start' (cap := cap) h
  have hlen := h.len
  unfold maxLen at hlen
  have HB8 := Lib.hid hb8
  clear h hb8
  unfold Sch.val
  go_enter Try.func34, Try.ntmps34
  go_wp2_with fail
  go_loopw [5] (fun vi wr => ∃ i : Nat, i ≤ s.bs.length ∧ vi = .int .i64 i ∧ Hid (∀ j, j < i → ¬ (s.bs.getD j ⟨#[]⟩).data.toList <:+: t.data.toList) ∧ Ctx s a cap w w.heap.size wr)
    (fun vi _ => s.bs.length - (intOf vi).toNat)
  case atStart => exact ⟨0, Nat.zero_le _, rfl, Lib.hid (fun j hj => by omega), hc1⟩
  case round =>
    obtain ⟨i, hi, rfl, hno, hcr⟩ := hrel
    clear hc1
    have c2 := hcr.c2
    by_cases hlt : i < s.bs.length
    · obtain ⟨bb, off, ha, hcell⟩ := hcr.in_.strs (by omega)
      have hce := hcell.out i hlt
      have hmem : s.bs.getD i ⟨#[]⟩ ∈ s.bs := by rw [List.getD_eq_getElem?_getD, List.getElem?_eq_getElem hlt]; simp
      have hbsz : (s.bs.getD i ⟨#[]⟩).size ≤ 1000 := HB8.out _ hmem
      obtain ⟨ban, hban⟩ : ∃ ban, ban = s.bs.getD i ⟨#[]⟩ := ⟨_, rfl⟩
      rw [← hban] at hce hbsz
      have HBAN := Lib.hid hban
      have HMEM : Hid (ban.data.toList ∈ s.B) := Lib.hid (by rw [hban]; exact List.mem_map_of_mem hmem)
      clear hban hmem
      subst ha
      obtain ⟨wo, rfl⟩ : ∃ wo : World, wo = wr := ⟨_, rfl⟩
      go_wp2_with fail
      go_loop [7] (fun vk => ∃ k : Nat, k ≤ t.size + 1 ∧ vk = .int .i64 k ∧ Hid (∀ j, j < k → ¬ standsAt ban.data.toList t.data.toList j))
        (fun vk => t.size + 1 - (intOf vk).toNat)
      case atStart => exact ⟨0, Nat.zero_le _, rfl, Lib.hid (fun j hj => by omega)⟩
      case round =>
        obtain ⟨k, hk, rfl, hns⟩ := hrel
        by_cases hlt2 : k + ban.size ≤ t.size
        · by_cases hq : t.extract k (k + ban.size) = ban
          · have hst := (extract_stands hlt2).1 hq
            have hbad : ¬ okay s.B t.data.toList := fun ho => ho _ HMEM.out ((infix_iff _ _).2 ⟨k, hst⟩)
            have HBAD := Lib.hid hbad
            have hd : ((t.extract k (k + ban.size)).toList == ban.toList) = true := by rw [beq_iff_eq, hq]
            clear hst hbad hq
            go_wp2_with fail
            go_ret
            exact ⟨⟨false, rfl, by simp [HBAD.out]⟩, hcr.below⟩
          · have HQ := Lib.hid (fun hst => hq ((extract_stands hlt2).2 hst))
            have hd : ((t.extract k (k + ban.size)).toList == ban.toList) = false := by
              rw [beq_eq_false_iff_ne]
              intro hc
              rw [Lib.toList_data, Lib.toList_data] at hc
              exact hq (ba_eq hc)
            clear hq
            go_wp2_with fail
            go_round
            case rel =>
              refine ⟨k + 1, by omega, by go_num, Lib.hid (fun j hj => ?_)⟩
              by_cases hjk : j < k
              · exact hns.out j hjk
              · obtain rfl : j = k := by omega
                exact HQ.out
            case measure => simp [intOf]; omega
        · have HN : Hid (¬ ban.data.toList <:+: t.data.toList) := Lib.hid (by
            rw [infix_iff]
            rintro ⟨j, hj⟩
            refine hns.out j ?_ hj
            have := hj.1
            rw [size_toList, size_toList] at this
            omega)
          go_wp2_with fail
          go_roundw
          case rel =>
            refine ⟨i + 1, by omega, by go_num, Lib.hid (fun j hj => ?_), hcr⟩
            by_cases hji : j < i
            · exact hno.out j hji
            · obtain rfl : j = i := by omega
              rw [← HBAN.out]; exact HN.out
          case measure => simp [intOf]; omega
    · obtain rfl : i = s.bs.length := by omega
      have HOK : Hid (okay s.B t.data.toList) := Lib.hid (by
        intro b hb
        obtain ⟨bx, hbx, rfl⟩ := List.mem_map.1 hb
        obtain ⟨j, hj, rfl⟩ := List.getElem_of_mem hbx
        have := hno.out j hj
        rw [List.getD_eq_getElem?_getD, List.getElem?_eq_getElem hj] at this
        exact this)
      go_wp2_with fail
      go_ret
      exact ⟨⟨true, rfl, by simp [HOK.out]⟩, hcr.below⟩
end
end Go.Proofs.Yteleehldcpjndaa
