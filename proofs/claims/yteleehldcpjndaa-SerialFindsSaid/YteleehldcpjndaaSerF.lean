/- The contracts of package serial's counter and matches. Condition: the scheme lies in memory as 'SchAt' says, its table is that of an automaton. -/
import Derived.Test.YteleehldcpjndaaSerE
import Derived.Laws.EntriesVeiled
namespace Go.Proofs.Yteleehldcpjndaa
open Go Go.RowKit

section
variable {p : Nat} {A : ByteArray} {L : Nat} {chk : Bool} {M : Nat} {nx : Int × Int → Option Int} {t : Nat → Nat → Option Nat} {mask : ByteArray} {w : World} {N : Nat}

/-- the counter's new blocks -/
theorem ctr_made (h : SchAt w p A L chk M nx) (w6 : World)
    (hw : w6 = ((((((w.alloc (.cells #[.pointer (some ⟨p, 0, none⟩)] 68)).alloc (.cells #[.string mask] 9)).alloc (.map #[] 0)).alloc (.cells #[.map (some (w.heap.size + 1 + 1))] 103)).alloc (.cells #[.bool (sumsB L chk mask)] 4)).alloc
      (.cells #[ctrFn w.heap.size (w.heap.size + 1 + 1 + 1 + 1) (w.heap.size + 1) (w.heap.size + 1 + 1 + 1) (w.heap.size + 1 + 1 + 1 + 1 + 1)] 88)).drew) :
    CtrAt p A L chk M nx t mask w.heap.size (w.heap.size + 1 + 1 + 1 + 1) (w.heap.size + 1) (w.heap.size + 1 + 1 + 1) (w.heap.size + 1 + 1 + 1 + 1 + 1) (w.heap.size + 1 + 1) w6 ∧ Below w.heap.size w w6 ∧ w.heap.size ≤ w.heap.size + 1 + 1 := by
  have hb : Below w.heap.size w w6 := by
    subst hw
    exact ((((((((Below.refl _ _).alloc (Nat.le_refl _) _).alloc (by simp) _).alloc (by simp; omega) _).alloc (by simp; omega) _).alloc (by simp; omega) _).alloc (by simp; omega) _)).drew
  refine ⟨⟨h.below hb, ?_, ?_, ?_, ?_, ?_, ?_, ?_⟩, hb, by omega⟩
  · subst hw
    exact cell_alloc (cell_alloc (cell_alloc (cell_alloc (cell_alloc (World.cell?_alloc_mark w _ _ (0, 0) 0) _) _) _) _) _
  · subst hw
    exact cell_alloc (by have := World.cell?_alloc_mark ((((w.alloc (.cells #[.pointer (some ⟨p, 0, none⟩)] 68)).alloc (.cells #[.string mask] 9)).alloc (.map #[] 0)).alloc (.cells #[.map (some (w.heap.size + 1 + 1))] 103)) #[.bool (sumsB L chk mask)] 4 (0, 0) 0; simpa using this) _
  · subst hw
    exact cell_alloc (cell_alloc (cell_alloc (cell_alloc (by simp) _) _) _) _
  · subst hw
    exact cell_alloc (cell_alloc (by have := World.cell?_alloc_mark (((w.alloc (.cells #[.pointer (some ⟨p, 0, none⟩)] 68)).alloc (.cells #[.string mask] 9)).alloc (.map #[] 0)) #[.map (some (w.heap.size + 1 + 1))] 103 (0, 0) 0; simpa using this) _) _
  · subst hw
    have := World.cell?_alloc_mark (((((w.alloc (.cells #[.pointer (some ⟨p, 0, none⟩)] 68)).alloc (.cells #[.string mask] 9)).alloc (.map #[] 0)).alloc (.cells #[.map (some (w.heap.size + 1 + 1))] 103)).alloc (.cells #[.bool (sumsB L chk mask)] 4))
      #[ctrFn w.heap.size (w.heap.size + 1 + 1 + 1 + 1) (w.heap.size + 1) (w.heap.size + 1 + 1 + 1) (w.heap.size + 1 + 1 + 1 + 1 + 1)] 88 (0, 0) 0
    simpa using this
  · have := h.t.lt; omega
  · have hf := MapFn.new ((w.alloc (.cells #[.pointer (some ⟨p, 0, none⟩)] 68)).alloc (.cells #[.string mask] 9)) key3
    have e : ((w.alloc (.cells #[.pointer (some ⟨p, 0, none⟩)] 68)).alloc (.cells #[.string mask] 9)).heap.size = w.heap.size + 1 + 1 := by simp
    rw [e] at hf
    refine ⟨fun _ => none, ?_, fun n a i q v _ hv => by cases hv⟩
    subst hw
    have g : ∀ (w0 : World) (o : Obj), MapFn w0 (w.heap.size + 1 + 1) key3 (fun _ => none) → MapFn (w0.alloc o) (w.heap.size + 1 + 1) key3 (fun _ => none) := fun w0 o hh => hh.below ((Below.refl _ _).alloc (Nat.le_refl _) o) hh.lt
    exact g _ _ (g _ _ (g _ _ hf))

set_option maxRecDepth 100000 in
set_option maxHeartbeats 1000000 in
theorem counter_any (hmask : mask.size = sz L chk) (h : SchAt w p A L chk M nx) :
    Calls Try.prog 67 #[.pointer (some ⟨p, 0, none⟩), .string mask] w
      fun e w' => ∃ X S K Mm C MB, e = .returned (ctrFn X S K Mm C) ∧ CtrAt p A L chk M nx t mask X S K Mm C MB w' ∧ Below w.heap.size w w' ∧ w.heap.size ≤ MB := by
  have h1 := h.l
  have h3 := h.c
  have hp : p < w.heap.size := lt_of_cell h1
  have a1 := fun o1 o2 o3 o4 => cell_alloc (cell_alloc (cell_alloc (cell_alloc h1 o1) o2) o3) o4
  have a3 := fun o1 o2 o3 o4 => cell_alloc (cell_alloc (cell_alloc (cell_alloc h3 o1) o2) o3) o4
  have b1 := fun o1 o2 o3 o4 o5 => cell_alloc (a1 o1 o2 o3 o4) o5
  have b3 := fun o1 o2 o3 o4 o5 => cell_alloc (a3 o1 o2 o3 o4) o5
  have hmm := @run_makeMap Try.prog
  cases hs : sumsB L chk mask
  · have hcase : chk = false ∨ (chk = true ∧ bt mask L = 63) := by
      unfold sumsB at hs; cases chk <;> simp at hs ⊢; exact hs
    rcases hcase with rfl | ⟨rfl, h63⟩
    · have HS := Lib.hid hs
      clear hs
      go_enter Try.func67, Try.ntmps67
      go_wp2_with fail
      go_region
      go_wp2
      go_ret
      refine ⟨_, _, _, _, _, _, rfl, ctr_made h _ ?_⟩
      rw [HS.out]; rfl
    · have hlt : L < mask.size := by rw [hmask]; simp [sz]
      have hd : ((mask[L].toNat : Int) != 63) = false := by rw [int_ne_63, bt_get hlt, h63]; rfl
      have HS := Lib.hid hs
      have HM := Lib.hid hmask
      clear hs hmask h63
      go_enter Try.func67, Try.ntmps67
      go_wp2_with fail
      go_region
      go_wp2
      go_ret
      refine ⟨_, _, _, _, _, _, rfl, ctr_made h _ ?_⟩
      rw [HS.out]; rfl
  · have hcase : chk = true ∧ (bt mask L != 63) = true := by
      unfold sumsB at hs; simpa using hs
    obtain ⟨rfl, h63⟩ := hcase
    have hlt : L < mask.size := by rw [hmask]; simp [sz]
    have hd : ((mask[L].toNat : Int) != 63) = true := by rw [int_ne_63, bt_get hlt, h63]
    have HS := Lib.hid hs
    have HM := Lib.hid hmask
    clear hs hmask h63
    go_enter Try.func67, Try.ntmps67
    go_wp2_with fail
    go_region
    go_wp2
    go_ret
    refine ⟨_, _, _, _, _, _, rfl, ctr_made h _ ?_⟩
    rw [HS.out]; rfl

/-- the number of serials that match a mask -/
def countOf (A mask : ByteArray) (L : Nat) (chk : Bool) (t : Nat → Nat → Option Nat) : Nat := ways A mask L t (sumsB L chk mask) L (0, 0, start1 A.size L chk mask)

set_option maxRecDepth 100000 in
set_option maxHeartbeats 1000000 in
theorem matches_any (hm : 0 < A.size) (hA36 : A.size ≤ 36) (hL16 : L ≤ 16) (hmask : mask.size = sz L chk) (hn : NxIs nx N A.size t) (hN : 0 < N) (h : SchAt w p A L chk M nx) :
    Calls Try.prog 57 #[.pointer (some ⟨p, 0, none⟩), .string mask] w
      fun e w' => e = .returned (.int .i64 (countOf A mask L chk t : Nat)) ∧ Below w.heap.size w w' := by
  have HM := Lib.hid hmask
  clear hmask
  go_enter Try.func57, Try.ntmps57
  go_wp2_with fail
  refine (counter_any (t := t) HM.out h).mono ?_
  rintro e w1 ⟨X, S, K, Mm, C, MB, rfl, hc, hb, hMB⟩
  unfold ctrFn
  go_wp2_with fail
  refine (start_any hc.sch mask HM.out).mono ?_
  rintro e w2 ⟨rfl, rfl⟩
  go_wp2_with fail
  refine (count_any hm hA36 hL16 HM.out hn L 0 0 (start1 A.size L chk mask) _ (by omega) hN ?_ hc).mono ?_
  · unfold start1; split <;> omega
  rintro e w2 ⟨rfl, hc2, hg⟩
  go_wp2
  go_ret
  exact ⟨rfl, hb.grown hg hb.size (fun k hk => by cases hk; exact hMB)⟩
end
end Go.Proofs.Yteleehldcpjndaa
