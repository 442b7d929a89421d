/- Near of a serial with a check character. Condition: the scheme is valid and in memory. -/
import Derived.Test.YteleehldcpjndaaCheck1
import Derived.Test.YteleehldcpjndaaSort
namespace Go.Proofs.Yteleehldcpjndaa
open Go Go.RowKit

theorem sort_none (p : Option Addr) (cap : Nat) (fv : Value) (w : World) : Calls Try.prog 59 #[.slice p 0 cap, fv] w fun e w' => e = .returned (.tuple #[]) ∧ w' = w :=
  AnyF.slices_SortFunc_none (P := Try.prog) (ρ := Try.sortL_ren) { Try.sortL with } p cap fv w

section
variable {w : World} {s : Sch} {a : Option Addr} {cap : Nat}

/-- what Near returns where it finds nothing -/
def NonePost (w : World) (v : Value) (w' : World) : Prop := (∃ ao cp, v = .slice ao 0 cp) ∧ Below w.heap.size w w'

theorem near_apart (O : s.Ok) (he : s.err = 0) (hc : s.chk = true) (h : s.In w a) {T : List Nat} (hT : T ∈ s.bods) (x : ByteArray) (hx : x.data.toList = s.ser T) :
    Calls Try.prog 41 #[s.val a cap, .string x] w fun e w' => ∃ v, e = .returned (.tuple #[v, .int .i64 0]) ∧ NonePost w v w' := by
  refine near_walk O he h x ?_ (NonePost w) ?_
  · rw [hx, syn_iff]; exact ⟨ser_len O hT, ser_of O hT⟩
  · intro wb wr xb bx v _ _ h1 h2 hown
    rw [← size_toList x, hx, npart_apart O hc hT] at hown
    obtain ⟨ao, cp, rfl⟩ := owns_shape hown
    refine (sort_none ao cp _ wr).mono ?_
    rintro e w' ⟨rfl, rfl⟩
    exact ⟨rfl, ⟨ao, cp, rfl⟩, h1.trans (h2.mono h1.size)⟩
end
end Go.Proofs.Yteleehldcpjndaa
