/- The contract of package serial's values. Condition: the scheme lies in memory as 'SchAt' says, the string is of bytes below 128. -/
import Derived.Test.YteleehldcpjndaaSerB
import Derived.Lib.OthersKept
import Derived.WalkSmall
namespace Go.Proofs.Yteleehldcpjndaa
open Go Go.RowKit

theorem infoInt : (Try.prog.info? 3).map (fun i => (i.zero, i.size, i.bytes)) = some (some (.int .i64 0), 1, 8) := by kernel_rfl
theorem infoStr : (Try.prog.info? 9).map (fun i => (i.zero, i.size, i.bytes)) = some (some (.string ByteArray.empty), 1, 16) := by kernel_rfl

/-- a slice of ints that reads as a list -/
def IntsAt (w : World) (v : Value) (l : List Int) : Prop :=
  (l = [] ∧ v = .slice none 0 0) ∨ ∃ g cap, v = .slice (some ⟨g, 0, none⟩) l.length cap ∧ ∀ i, i < l.length → w.cell? ⟨g, i, none⟩ = some (.int .i64 (l.getD i 0))

theorem IntsAt.of_owns {w : World} {base : Nat} {e : TypeId} {v : Value} {n : Nat} {l : List Int} (h : w.ownsRow base e 1 v n (l.map (Value.int .i64))) (hn : n = l.length) : IntsAt w v l := by
  subst hn
  rcases h.2 with ⟨rfl, h0⟩ | ⟨g, cap, cur, rfl, hg, hh, hc, hm, hs, ht⟩
  · exact .inl ⟨List.length_eq_zero_iff.1 h0, rfl⟩
  · refine .inr ⟨g, cap, rfl, ?_⟩
    intro i hi
    have h1 : (cur.toList.take (l.length * 1))[i]? = some (.int .i64 (l.getD i 0)) := by
      rw [ht, List.getElem?_map, List.getD_eq_getElem?_getD, List.getElem?_eq_getElem hi]; rfl
    rw [List.getElem?_take] at h1
    split at h1
    · simp only [World.cell?, hh]
      simpa using h1
    · cases h1

theorem IntsAt.below {w w' : World} {v : Value} {l : List Int} (h : IntsAt w v l) (hb : Below w.heap.size w w') : IntsAt w' v l := by
  rcases h with h | ⟨g, cap, rfl, h⟩
  · exact .inl h
  · refine .inr ⟨g, cap, rfl, fun i hi => ?_⟩
    have := h i hi
    exact (hb.cell (lt_of_cell this)).trans this

section
variable {w : World} {p : Nat} {A : ByteArray} {L : Nat} {chk : Bool} {M : Nat} {nx : Int × Int → Option Int}

/-- the places of the bytes of a string in the alphabet -/
def vals (A : List UInt8) (s : List UInt8) : List Int := s.map fun c => Lib.indexByte A c

set_option maxRecDepth 100000 in
set_option maxHeartbeats 1000000 in
theorem values_any (h : SchAt w p A L chk M nx) (s : ByteArray) (hs : s.size ≤ 1000) (ha : ∀ k (hk : k < s.size), s[k].toNat < 128) :
    Calls Try.prog 62 #[.pointer (some ⟨p, 0, none⟩), .string s] w
      fun e w' => ∃ v, e = .returned v ∧ IntsAt w' v (vals A.data.toList s.data.toList) ∧ Below w.heap.size w w' := by
  obtain ⟨i0, hi, hz0, hz1, hz2⟩ := info_parts infoInt
  have hp : p < w.heap.size := lt_of_cell h.a
  go_enter Try.func62, Try.ntmps62
  go_wp2_with fail
  go_loopw [5] (fun v wr => ∃ k : Nat, k ≤ s.size ∧ wr.heap[w.heap.size]? = some (.stringIter s k) ∧ wr.ownsRow (w.heap.size + 1) 3 1 v k ((vals A.data.toList (s.data.toList.take k)).map (Value.int .i64)) ∧ Below w.heap.size w wr)
    (fun _ wr => s.size - wr.iterPos w.heap.size)
  case atStart =>
    refine ⟨0, Nat.zero_le _, ?_, World.ownsRow_nil _ _ _ _, (Below.refl _ _).alloc (Nat.le_refl _) _⟩
    exact World.iter_heap w s 0
  case round =>
    obtain ⟨k, hk, hit, hown, hbel⟩ := hrel
    by_cases hlt : k < s.size
    · have hn := fun ty => Lib.run_next_ascii_at (P := Try.prog) wr w.heap.size s k ty hit hlt (ha k hlt)
      have hbel2 : Below w.heap.size w (wr.iterAt w.heap.size s (k + 1)) := Lib.below_iterAt hbel (Nat.le_refl _) s (k + 1)
      have hit2 := Lib.iterAt_heap wr w.heap.size s k (k + 1) hit
      have hown2 := ownsRow_iterAt hown (Nat.lt_succ_self _) s (k + 1)
      have hpos := iterPos_of hit
      clear hown hit
      generalize wr.iterAt w.heap.size s (k + 1) = wi at *
      have h1 := (h.below hbel2).a
      have hit3 := Lib.hid hit2
      have hlt2 : w.heap.size < wi.heap.size := (Array.getElem?_eq_some_iff.1 hit2).1
      clear hit2
      go_wp2_with fail
      refine (Try.strings_IndexRune_ascii _ _ _ ?_ ?_).mono ?_
      · omega
      · have := ha k hlt; omega
      rintro e w' ⟨rfl, rfl⟩
      have hb8 : ((s[k].toNat : Int).toNat.toUInt8) = s[k] := by simp
      rw [hb8]
      clear hb8
      go_wp2_with (at_builtin; refine wpList_append_own _ rfl _ _ 67 rfl (w.heap.size + 1) 3 i0 (.int .i64 0) 1 8 Try.underlying67 hi hz0 hz1 hz2 rfl (by decide) _ _ _ rfl (hown2.alloc _) ⟨w'.heap.size, 0, none⟩ 1 1 [.int .i64 (Lib.indexByte A.data.toList s[k])] rfl rfl ?c1 ?c2 ?c3 ?c4 ?c5 ?_)
      case c1 =>
        intro j u hj
        match j, hj with
        | 0, hj => simp at hj; subst hj; simp [Addr.add]
      case c2 => intro u hu; simp at hu; subst hu; rfl
      case c3 => unfold maxLen; omega
      case c4 => omega
      case c5 => simp; omega
      intro v' w1 hown' hgrow _
      have hb1 : Below w.heap.size w w1 := ((hbel2.alloc hbel2.size _).grown hgrow (by simp; omega) (fun g hg => by have := (hown2.lt g hg).1; omega))
      have hit4 : w1.heap[w.heap.size]? = some (.stringIter s (k + 1)) := by
        have h5 : (w'.alloc (.cells #[.int .i64 (Lib.indexByte A.data.toList s[k])] 3)).heap[w.heap.size]? = some (.stringIter s (k + 1)) := (Below.heap_alloc w' _ _ hlt2).trans hit3.out
        refine (hgrow.block w.heap.size (by simp; omega) ?_).trans h5
        intro hcc
        have := (hown2.lt w.heap.size hcc.symm).1
        omega
      have hv : (vals A.data.toList (s.data.toList.take (k + 1))).map (Value.int .i64) = (vals A.data.toList (s.data.toList.take k)).map (Value.int .i64) ++ [.int .i64 (Lib.indexByte A.data.toList s[k])] := by
        rw [take_snoc s k hlt]; simp [vals]
      rw [← hv] at hown'
      clear hv hgrow hown2 hn h1
      go_wp2
      go_roundw
      case rel => exact ⟨k + 1, by omega, hit4, hown', hb1⟩
      case measure => rw [hpos, iterPos_of hit4]; omega
    · have hn := fun ty => Lib.run_next_end_at (P := Try.prog) wr w.heap.size s k ty hit hlt
      have : k = s.size := by omega
      subst this
      have ho := IntsAt.of_owns hown (by simp [vals])
      rw [List.take_of_length_le (by simp)] at ho
      clear hown hit
      go_wp2
      go_ret
      exact ⟨_, rfl, ho, hbel⟩
end
end Go.Proofs.Yteleehldcpjndaa
