/- The contracts of package serial's longest and build. Condition: the scheme is well-formed. -/
import Derived.Test.YteleehldcpjndaaSerI
namespace Go.Proofs.Yteleehldcpjndaa
open Go Go.RowKit

/-- the first end of a text, from place i on, that has a number; 0 if there is none -/
def firstEnd (f : List UInt8 → Option Int) (r : List UInt8) : Nat → Int
  | 0 => 0
  | n + 1 => match f (r.drop (r.length - (n + 1))) with
    | some v => v
    | none => firstEnd f r n

def longestOf (B : List (List UInt8)) (f : List UInt8 → Option Int) (r : List UInt8) : Int := if bad B r then -1 else firstEnd f r r.length

section
variable {w : World}

theorem lookS {f : List UInt8 → Option Int} {nb : Nat} (h : MapFn w nb keyS f) (s : ByteArray) :
    (Instr.lookup 100 (.map (some nb)) (.string s) true).run Try.prog w = .ok (.tuple #[.int .i64 ((f s.data.toList).getD 0), .bool (f s.data.toList).isSome]) w := by
  have := h.lookup klawS Try.underlying100 (by kernel_rfl) s.data.toList true
  exact this

theorem bad_take (B : List (List UInt8)) (r : List UInt8) (k : Nat) (h : k < B.length) : bad (B.take (k + 1)) r = (bad (B.take k) r || (B.getD k []).isSuffixOf r) := by
  rw [List.take_succ_eq_append_getElem h, List.getD_eq_getElem?_getD, List.getElem?_eq_getElem h]
  unfold bad
  rw [List.any_append]
  simp

theorem bad_at {B : List (List UInt8)} {r : List UInt8} {k : Nat} (h : k < B.length) (hs : (B.getD k []).isSuffixOf r = true) : bad B r = true := by
  unfold bad
  rw [List.any_eq_true]
  rw [List.getD_eq_getElem?_getD, List.getElem?_eq_getElem h] at hs
  exact ⟨_, List.getElem_mem h, hs⟩

set_option maxRecDepth 100000 in
set_option maxHeartbeats 2000000 in
theorem longest_any (r : ByteArray) (hr : r.size ≤ 1000) (a : Option Addr) (cap : Nat) (bs : List ByteArray) (hbs : bs.length ≤ maxLen) (hst : StrsAt w a bs) (f : List UInt8 → Option Int) (nb : Nat) (hf : MapFn w nb keyS f) :
    Calls Try.prog 78 #[.string r, .slice a bs.length cap, .map (some nb)] w
      fun e w' => e = .returned (.int .i64 (longestOf (bs.map (·.data.toList)) f r.data.toList)) ∧ w = w' := by
  unfold maxLen at hbs
  have hrm : r.size ≤ 9223372036854775807 := by omega
  go_enter Try.func78, Try.ntmps78
  go_wp2_with fail
  go_loop [14] (fun i => ∃ k : Nat, k ≤ bs.length ∧ i = .int .i64 k ∧ Hid (bad ((bs.map (·.data.toList)).take k) r.data.toList = false)) (fun i => bs.length - (intOf i).toNat)
  case atStart => exact ⟨0, Nat.zero_le _, rfl, Lib.hid rfl⟩
  case round =>
    obtain ⟨k, hk, rfl, hkb⟩ := hrel
    by_cases hlt : k < bs.length
    · obtain ⟨bb, off, ha, hcell⟩ := hst (by omega)
      have hce := hcell.out k hlt
      have htk := bad_take (bs.map (·.data.toList)) r.data.toList k (by simpa using hlt)
      have hgd : (bs.map (·.data.toList)).getD k [] = (bs.getD k ⟨#[]⟩).data.toList := by
        rw [List.getD_eq_getElem?_getD, List.getElem?_map, List.getElem?_eq_getElem hlt, List.getD_eq_getElem?_getD, List.getElem?_eq_getElem hlt]; rfl
      rw [hgd] at htk
      obtain ⟨ban, hban⟩ : ∃ ban, ban = bs.getD k ⟨#[]⟩ := ⟨_, rfl⟩
      rw [← hban] at hce htk hgd
      have HTK := Lib.hid htk
      have HGD := Lib.hid hgd
      clear hban htk hgd
      subst ha
      go_wp2_with fail
      refine (Try.strings_HasSuffix _ _ _ hrm).mono ?_
      rintro e w' ⟨rfl, rfl⟩
      cases hsf : Lib.hasSuffix r.data.toList ban.data.toList
      · have HSF := Lib.hid hsf
        clear hsf
        go_wp2
        go_round
        case rel => exact ⟨k + 1, by omega, by go_num, Lib.hid (by rw [HTK.out, hkb.out]; exact HSF.out)⟩
        case measure => simp [intOf]; omega
      · have hfin : longestOf (bs.map (·.data.toList)) f r.data.toList = -1 := by
          unfold longestOf
          rw [if_pos (bad_at (k := k) (by simpa using hlt) (by rw [HGD.out]; exact hsf))]
        have HF := Lib.hid hfin
        clear hsf hfin
        go_wp2
        go_ret
        exact ⟨by rw [HF.out]; rfl, rfl⟩
    · obtain rfl : k = bs.length := by omega
      have hbad := hkb.out
      rw [List.take_of_length_le (by simp)] at hbad
      have hfin : longestOf (bs.map (·.data.toList)) f r.data.toList = firstEnd f r.data.toList r.size := by
        unfold longestOf; rw [hbad, size_toList]; rfl
      have HF := Lib.hid hfin
      clear hfin hbad
      go_wp2_with fail
      go_loop [24] (fun i => ∃ k : Nat, k ≤ r.size ∧ i = .int .i64 k ∧ Hid (firstEnd f r.data.toList r.size = firstEnd f r.data.toList (r.size - k))) (fun i => r.size - (intOf i).toNat)
      case atStart => exact ⟨0, Nat.zero_le _, rfl, Lib.hid rfl⟩
      case round =>
        obtain ⟨k, hk, rfl, hfe⟩ := hrel
        by_cases hlt2 : k < r.size
        · have hls := fun wx (hx : MapFn wx nb keyS f) => lookS hx (r.extract k r.size)
          have hlk := lookS hf (r.extract k r.size)
          rw [Lib.extract_to_end] at hlk
          have hstep : firstEnd f r.data.toList (r.size - k) = match f (r.data.toList.drop k) with
            | some v => v
            | none => firstEnd f r.data.toList (r.size - (k + 1)) := by
            obtain ⟨m, hm⟩ : ∃ m, r.size - k = m + 1 := ⟨r.size - k - 1, by omega⟩
            rw [hm, firstEnd, size_toList, show r.size - (m + 1) = k by omega, show m = r.size - (k + 1) by omega]
          clear hls
          cases hfk : f (r.data.toList.drop k) with
          | some v =>
            rw [hfk] at hlk hstep
            have HS := Lib.hid hstep
            clear hstep hfk
            go_wp2
            go_ret
            exact ⟨by rw [HF.out, hfe.out, HS.out]; rfl, rfl⟩
          | none =>
            rw [hfk] at hlk hstep
            have HS := Lib.hid hstep
            clear hstep hfk
            go_wp2
            go_round
            case rel => exact ⟨k + 1, by omega, by go_num, Lib.hid (by rw [hfe.out, HS.out])⟩
            case measure => simp [intOf]; omega
        · have h0 : r.size - k = 0 := by omega
          have hfin : firstEnd f r.data.toList (r.size - k) = 0 := by rw [h0]; rfl
          have HF0 := Lib.hid hfin
          clear hfin h0
          go_wp2
          go_ret
          exact ⟨by rw [HF.out, hfe.out, HF0.out]; rfl, rfl⟩
end
end Go.Proofs.Yteleehldcpjndaa
