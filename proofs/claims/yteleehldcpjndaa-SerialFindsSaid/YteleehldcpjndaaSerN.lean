/- The contract of package serial's prepare. Condition: the scheme's parts are in memory. -/
import Derived.Test.YteleehldcpjndaaSerM
namespace Go.Proofs.Yteleehldcpjndaa
open Go Go.RowKit

/-- a scheme's data -/
structure Sch where
  A : ByteArray
  L : Int
  bs : List ByteArray
  chk : Bool

def Sch.B (s : Sch) : List Bytes := s.bs.map (·.data.toList)
def Sch.bods (s : Sch) : List (List Nat) := bodies s.A.data.toList s.B s.L.toNat
def Sch.tt (s : Sch) : Nat → Nat → Option Nat := tabT (begs s.B) s.B s.A.data.toList
def Sch.wf (s : Sch) : Bool := Yteleehldcpjndaa.wf s.A.data.toList s.L s.bs s.chk
/-- the error of Check -/
def Sch.err (s : Sch) : Nat := if s.wf = false then 20 else if s.bods.length = 0 ∨ capM ≤ s.bods.length then 3 else 0
def Sch.val (s : Sch) (a : Option Addr) (cap : Nat) : Value := .agg #[.string s.A, .int .i64 s.L, .slice a s.bs.length cap, .bool s.chk]

/-- a scheme's parts are in memory -/
structure Sch.In (s : Sch) (w : World) (a : Option Addr) : Prop where
  alpha : s.A.size ≤ maxLen
  len : s.bs.length ≤ maxLen
  bans : ∀ b ∈ s.bs, b.size ≤ maxLen
  num : -9223372036854775808 ≤ s.L ∧ s.L ≤ 9223372036854775807
  strs : StrsAt w a s.bs

theorem Sch.In.below {s : Sch} {w w' : World} {a : Option Addr} (h : s.In w a) (hb : Below w.heap.size w w') : s.In w' a :=
  ⟨h.alpha, h.len, h.bans, h.num, h.strs.below hb⟩

/-- what a well-formed scheme is -/
structure Sch.Wf (s : Sch) : Prop where
  a2 : 2 ≤ s.A.size
  a36 : s.A.size ≤ 36
  l1 : 1 ≤ s.L
  l16 : s.L ≤ 16
  n16 : s.bs.length ≤ 16
  even : s.chk = true → s.A.size % 2 = 0
  alpha : okAlpha s.A.data.toList = true
  b1 : ∀ b ∈ s.bs, 1 ≤ b.size
  b8 : ∀ b ∈ s.bs, b.size ≤ 8
  bof : ∀ b ∈ s.bs, ofB b.data.toList s.A.data.toList = true

theorem Sch.wf_of {s : Sch} (h : s.wf = true) : s.Wf := by
  unfold Sch.wf Yteleehldcpjndaa.wf at h
  simp only [Bool.and_eq_true] at h
  obtain ⟨⟨h1, h2⟩, h3⟩ := h
  unfold okHead at h1
  rw [size_toList] at h1
  simp only [Bool.and_eq_true, decide_eq_true_eq, Bool.not_eq_true'] at h1
  obtain ⟨⟨⟨⟨⟨a1, a2⟩, a3⟩, a4⟩, a5⟩, a6⟩ := h1
  unfold okBans at h3
  rw [List.all_eq_true] at h3
  have h4 : ∀ b ∈ s.bs, 1 ≤ b.size ∧ b.size ≤ 8 ∧ ofB b.data.toList s.A.data.toList = true := by
    intro b hb
    have := h3 b hb
    unfold okBan at this
    simp only [Bool.and_eq_true, decide_eq_true_eq] at this
    exact ⟨this.1.1, this.1.2, this.2⟩
  refine ⟨a1, a2, a3, a4, a5, ?_, h2, fun b hb => (h4 b hb).1, fun b hb => (h4 b hb).2.1, fun b hb => (h4 b hb).2.2⟩
  intro hc
  rw [hc] at a6
  simp only [Bool.true_and, beq_eq_false_iff_ne] at a6
  omega

theorem Sch.Wf.nonempty {s : Sch} (h : s.Wf) : ∀ b ∈ s.B, b ≠ [] := by
  intro b hb
  simp only [Sch.B, List.mem_map] at hb
  obtain ⟨b0, hb0, rfl⟩ := hb
  have := h.b1 b0 hb0
  intro hc
  rw [← size_toList, hc] at this
  simp at this

theorem Sch.Wf.table {s : Sch} (h : s.Wf) : Table s.A.data.toList (begs s.B) s.B s.tt := tab_table h.nonempty

theorem Sch.Wf.ascii {s : Sch} (h : s.Wf) : ∀ c ∈ s.A.data.toList, c.toNat < 128 := by
  intro c hc
  obtain ⟨i, hi, rfl⟩ := List.getElem_of_mem hc
  have := h.alpha
  unfold okAlpha at this
  rw [List.all_eq_true] at this
  have h1 := this i (by simpa using hi)
  unfold okAt at h1
  rw [List.getD_eq_getElem?_getD, List.getElem?_eq_getElem hi] at h1
  simp only [Option.getD_some, Bool.and_eq_true] at h1
  have := okByte_true.1 h1.1
  omega

theorem Sch.Wf.no63 {s : Sch} (h : s.Wf) : (63 : UInt8) ∉ s.A.data.toList := by
  intro hc
  obtain ⟨i, hi, he⟩ := List.getElem_of_mem hc
  have := h.alpha
  unfold okAlpha at this
  rw [List.all_eq_true] at this
  have h1 := this i (by simpa using hi)
  unfold okAt at h1
  rw [List.getD_eq_getElem?_getD, List.getElem?_eq_getElem hi] at h1
  simp only [Option.getD_some, Bool.and_eq_true] at h1
  rw [he] at h1
  exact absurd h1.1 (by decide)

/-- prepare's scheme in memory -/
structure Sch.At (s : Sch) (w : World) (xb : Nat) : Prop where
  sch : ∃ M g, SchAt w xb s.A s.L.toNat s.chk M g ∧ NxIs g (begs s.B).length s.A.size s.tt

theorem Sch.At.below {s : Sch} {w w' : World} {xb : Nat} (h : s.At w xb) (hb : Below w.heap.size w w') : s.At w' xb := by
  obtain ⟨M, g, h1, h2⟩ := h.sch
  exact ⟨M, g, h1.below hb, h2⟩

section
variable {w : World}

set_option maxRecDepth 100000 in
set_option maxHeartbeats 1000000 in
theorem prepare_bad (s : Sch) (a : Option Addr) (cap : Nat) (h : s.In w a) (hw : s.wf = false) :
    Calls Try.prog 46 #[s.val a cap] w
      fun e w' => e = .returned (.tuple #[.pointer none, .int .i64 0, .int .i64 20]) ∧ Below w.heap.size w w' := by
  obtain ⟨A, L, bs, chk⟩ := s
  unfold Sch.val
  dsimp only
  have hf : ∀ w2, StrsAt w2 a bs → Calls Try.prog 65 #[.agg #[.string A, .int .i64 L, .slice a bs.length cap, .bool chk]] w2 fun e w' => e = .returned (.bool false) ∧ Below w2.heap.size w2 w' := by
    intro w2 hs2
    cases hh : okHead A.data.toList L bs.length chk
    · exact wellFormed_head w2 A L a cap chk bs h.alpha h.len h.num hh
    · have := wellFormed_rest w2 A L a cap chk bs h.bans hs2 hh
      unfold Sch.wf at hw
      dsimp only at hw
      rw [hw] at this
      exact this
  have HF := Lib.hid hf
  clear hf hw
  go_enter Try.func46, Try.ntmps46
  go_wp2_with fail
  refine (HF.out _ (h.strs.below ((Below.refl _ _).alloc (Nat.le_refl _) _))).mono ?_
  rintro e w2 ⟨rfl, hb2⟩
  go_wp2
  go_ret3
  exact ⟨rfl, ((Below.refl _ _).alloc (Nat.le_refl _) _).trans (hb2.mono (by simp))⟩

set_option maxRecDepth 100000 in
set_option maxHeartbeats 1000000 in
theorem prepare_wf (s : Sch) (a : Option Addr) (cap : Nat) (h : s.In w a) (hw : s.wf = true) (Q : Ending → World → Prop)
    (hrange : ∀ w', s.bods.length = 0 ∨ capM ≤ s.bods.length → Below w.heap.size w w' → Q (.returned (.tuple #[.pointer none, .int .i64 0, .int .i64 3])) w')
    (hok : ∀ w' xb, 0 < s.bods.length → s.bods.length < capM → s.At w' xb → Below w.heap.size w w' → Q (.returned (.tuple #[.pointer (some ⟨xb, 0, none⟩), .int .i64 (s.bods.length : Nat), .int .i64 0])) w') :
    Calls Try.prog 46 #[s.val a cap] w Q := by
  have W := Sch.wf_of hw
  have HQ1 := Lib.hid hrange
  have HQ2 := Lib.hid hok
  clear hrange hok
  obtain ⟨A, L, bs, chk⟩ := s
  obtain ⟨l, rfl⟩ : ∃ l : Nat, L = l := ⟨L.toNat, by have := W.l1; simp only at this; omega⟩
  unfold Sch.val
  dsimp only
  have T : Table A.data.toList (begs (bs.map (·.data.toList))) (bs.map (·.data.toList)) (tabT (begs (bs.map (·.data.toList))) (bs.map (·.data.toList)) A.data.toList) := W.table
  have hno : ∀ b ∈ bs.map (·.data.toList), b ≠ [] := W.nonempty
  have W1 := W.a2
  have W2 := W.a36
  have W3 := W.l1
  have W4 := W.l16
  have W5 := W.n16
  have W6 := W.b8
  dsimp only at W1 W2 W3 W4 W5 W6
  have hf : ∀ w2, StrsAt w2 a bs → Calls Try.prog 65 #[.agg #[.string A, .int .i64 l, .slice a bs.length cap, .bool chk]] w2 fun e w' => e = .returned (.bool true) ∧ Below w2.heap.size w2 w' := by
    intro w2 hs2
    unfold Sch.wf at hw
    dsimp only at hw
    have hh : okHead A.data.toList l bs.length chk = true := by unfold Yteleehldcpjndaa.wf at hw; simp only [Bool.and_eq_true] at hw; exact hw.1.1
    have := wellFormed_rest w2 A l a cap chk bs h.bans hs2 hh
    rw [hw] at this
    exact this
  have HF := Lib.hid hf
  have HSTR := Lib.hid h.strs
  clear hf hw
  have hcell : ∀ W2 : World, Below (w.alloc (.cells #[.string A, .int .i64 l, .slice a bs.length cap, .bool chk] 24)).heap.size (w.alloc (.cells #[.string A, .int .i64 l, .slice a bs.length cap, .bool chk] 24)) W2 → W2.heap[w.heap.size]? = some (.cells #[.string A, .int .i64 l, .slice a bs.length cap, .bool chk] 24 (0, 0)) := by
    intro W2 hb
    exact (hb.block _ (by simp)).trans (MapKept.heap_alloc w _).1
  have HCELL := Lib.hid hcell
  clear hcell
  go_enter Try.func46, Try.ntmps46
  go_wp2_with fail
  refine (HF.out _ (HSTR.out.below ((Below.refl _ _).alloc (Nat.le_refl _) _))).mono ?_
  rintro e w2 ⟨rfl, hb2⟩
  have hbx := HCELL.out _ hb2
  have c0 : w2.cell? ⟨w.heap.size, 0, none⟩ = some (.string A) := cell_of_block hbx 0
  have c1 : w2.cell? ⟨w.heap.size, 1, none⟩ = some (.int .i64 l) := cell_of_block hbx 1
  have c2 : w2.cell? ⟨w.heap.size, 2, none⟩ = some (.slice a bs.length cap) := cell_of_block hbx 2
  have c3 : w2.cell? ⟨w.heap.size, 3, none⟩ = some (.bool chk) := cell_of_block hbx 3
  have hw2 : Below w.heap.size w w2 := ((Below.refl w.heap.size w).alloc (Nat.le_refl _) _).trans (hb2.mono (by simp))
  clear hb2 hbx
  go_wp2_with fail
  refine (build_any A l a cap chk bs W2 W5 W6 (HSTR.out.below hw2)).mono ?_
  rintro e w3 ⟨xb, M, g, rfl, hsch, hg, hb3⟩
  have hnx := nxis_of (A := A) (B := bs.map (·.data.toList)) hno hg
  have hw3 := hw2.trans (hb3.mono hw2.size)
  clear c0 c1 c2 c3 hg
  have HNX := Lib.hid hnx
  clear hnx
  go_wp2_with fail
  refine (any_any hsch (by omega)).mono ?_
  rintro e w4 ⟨rfl, hb4⟩
  have hsch4 := hsch.below hb4
  have hw4 := hw3.trans (hb4.mono hw3.size)
  go_wp2_with fail
  refine (matches_any (mask := anyM l chk) (by omega) W2 (by omega) (any_size l chk) HNX.out (begs_pos _) hsch4).mono ?_
  rintro e w5 ⟨rfl, hb5⟩
  have hsch5 := hsch4.below hb5
  have hw5 := hw4.trans (hb5.mono hw4.size)
  have hcnt : countOf A (anyM l chk) l chk (tabT (begs (bs.map (·.data.toList))) (bs.map (·.data.toList)) A.data.toList) = min (Sch.bods ⟨A, l, bs, chk⟩).length capM := by
    unfold countOf
    rw [ways_len, mpaths_any T]; rfl
  rw [hcnt]
  clear hcnt hsch hsch4 hb3 hb4 hb5 hw2 hw3 hw4
  by_cases h0 : (Sch.bods ⟨A, l, bs, chk⟩).length = 0
  · have hq := HQ1.out w5 (.inl h0) hw5
    have e0 : min (Sch.bods ⟨A, l, bs, chk⟩).length capM = 0 := by omega
    rw [e0]
    have HQ := Lib.hid hq
    clear hq h0 e0
    go_wp2
    go_ret3
    exact HQ.out
  · by_cases h1 : capM ≤ (Sch.bods ⟨A, l, bs, chk⟩).length
    · have hq := HQ1.out w5 (.inr h1) hw5
      have e0 : min (Sch.bods ⟨A, l, bs, chk⟩).length capM = 1099511627777 := by unfold capM at *; omega
      rw [e0]
      have HQ := Lib.hid hq
      clear hq h0 h1 e0
      go_wp2
      go_ret3
      exact HQ.out
    · have hq := HQ2.out w5 xb (by omega) (by omega) ⟨M, g, by simpa using hsch5, HNX.out⟩ hw5
      have e0 : min (Sch.bods ⟨A, l, bs, chk⟩).length capM = (Sch.bods ⟨A, l, bs, chk⟩).length := by omega
      rw [e0]
      have HQ := Lib.hid hq
      have b1 : 1 ≤ (Sch.bods ⟨A, l, bs, chk⟩).length := by omega
      have b2 : (Sch.bods ⟨A, l, bs, chk⟩).length ≤ 1099511627776 := by unfold capM at h1; omega
      clear hq h0 h1 e0
      go_wp2
      go_ret3
      exact HQ.out
end
end Go.Proofs.Yteleehldcpjndaa
