/- What every claim's frame needs: an api.Scheme among the arguments, opened. Condition: the argument reads as data. -/
import Derived.Test.YteleehldcpjndaaSerN
import Derived.Test.YteleehldcpjndaaRows
import Derived.WalkKit
import Derived.ProofKit
import Derived.OpenShut
import Derived.ShutString
import Derived.ChangeOld
import Derived.Below
import Derived.SliceStrings
import Derived.Lib.SmallJoins
namespace Go.Proofs.Yteleehldcpjndaa
open Go Go.Joins Go.ChangeShapes Go.WideShapes Go.ChangeAt Go.RowKit

theorem knob : ownKnob Try.prog.godebug = none := by kernel_rfl
theorem laid : laidOutB Try.prog = true := by kernel_rfl
theorem scheme_cells : Try.prog.cellsOf 24 = 4 := by kernel_rfl
theorem string_cells : Try.prog.cellsOf 9 = 1 := by kernel_rfl

theorem strsAt_of {w : World} {a : Addr} {ss : List ByteArray} (h : ∀ i, i < ss.length → w.cell? (a.add i) = some (.string (ss.getD i ByteArray.empty))) (n : Nat) : StrsAt w (some a) (ss.take n) := by
  intro hpos
  obtain ⟨b, off, spot⟩ := a
  have hp : 0 < ss.length := by rw [List.length_take] at hpos; omega
  have hspot : spot = none := by simpa [Addr.add] using World.cell?_spot (h 0 hp)
  subst hspot
  refine ⟨b, off, rfl, Lib.hid fun i hi => ?_⟩
  rw [List.length_take] at hi
  have := h i (by omega)
  rw [List.getD_eq_getElem?_getD, List.getElem?_take_of_lt (by omega), ← List.getD_eq_getElem?_getD]
  have e : (⟨b, off, none⟩ : Addr).add i = ⟨b, off + i, none⟩ := by
    cases i <;> simp [Addr.add]
  rw [e] at this
  exact this

section
variable {H : Type} {enc : TypeId × Value → H} {W : World} {base b0 : Nat} {r : Reach} {spare : Nat → Bool} {held : Bool}

set_option maxRecDepth 100000 in
theorem open_scheme {v : Value} {d : DataW H} {p : List MemPlace} (hv : Value.okWide Try.prog W r b0 24 v) (h : DataW.Trod enc Try.prog W base spare held 24 v d p) :
    ∃ (s : Sch) (a : Option Addr) (cap : Nat), v = s.val a cap ∧ s.In W a ∧ (a = none → cap = 0) := by
  obtain ⟨v0, v1, v2, v3, y0, y1, y2, y3, n, rfl, rfl, rfl, h0, h1, h2, h3⟩ := open_agg4 Try.underlying24 (by kernel_rfl) scheme_cells hv h
  obtain ⟨A, e0, _, hA⟩ := DataW.trod_string Try.underlying9 h0
  obtain ⟨L, e1, _, hL⟩ := DataW.trod_int Try.underlying3 h1
  obtain ⟨chk, e3, _⟩ := DataW.trod_bool Try.underlying4 h3
  have hL' : -9223372036854775808 ≤ L ∧ L ≤ 9223372036854775807 := by
    simp [Lit.wf] at hL
    exact hL
  have f0 : v0 = .string A := by simpa using e0
  have f1 : v1 = .int .i64 L := by simpa using e1
  have f3 : v3 = .bool chk := by simpa using e3
  rcases open_strings Try.underlying22 Try.underlying9 string_cells h2 with ⟨e2, _⟩ | ⟨a, len, cap, ss, e2, _, hl, hm, hz, _, hcell, hsz⟩
  · have f2 : v2 = .slice none 0 0 := by simpa using e2
    exact ⟨⟨A, L, [], chk⟩, none, 0, by rw [f0, f1, f2, f3]; rfl, ⟨hA, by unfold maxLen; simp, by simp, hL', by intro h; simp at h⟩, fun _ => rfl⟩
  · have f2 : v2 = .slice (some a) len cap := by simpa using e2
    have hss : len ≤ ss.length := by rw [hz]; split <;> omega
    refine ⟨⟨A, L, ss.take len, chk⟩, some a, cap, ?_, ⟨hA, ?_, ?_, hL', strsAt_of hcell len⟩, fun h => by cases h⟩
    · rw [f0, f1, f2, f3]
      simp [Sch.val, List.length_take, Nat.min_eq_left hss]
    · simp only [List.length_take]; omega
    · intro b hb
      exact hsz b (List.mem_of_mem_take hb)
end
end Go.Proofs.Yteleehldcpjndaa
