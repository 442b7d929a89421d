/- The contract of package serial's wellFormed. Condition: the list of banned strings is in memory. -/
import Derived.Test.YteleehldcpjndaaSerH
namespace Go.Proofs.Yteleehldcpjndaa
open Go Go.RowKit

/-- a slice that reads as a list of strings -/
def StrsAt (w : World) (a : Option Addr) (bs : List ByteArray) : Prop :=
  0 < bs.length → ∃ b off, a = some ⟨b, off, none⟩ ∧ Hid (∀ i, i < bs.length → w.cell? ⟨b, off + i, none⟩ = some (.string (bs.getD i ⟨#[]⟩)))

theorem StrsAt.below {w w' : World} {a : Option Addr} {bs : List ByteArray} (h : StrsAt w a bs) (hb : Below w.heap.size w w') : StrsAt w' a bs := by
  intro hpos
  obtain ⟨b, off, ha, hc⟩ := h hpos
  exact ⟨b, off, ha, Lib.hid fun i hi => (hb.cell (lt_of_cell (hc.out i hi))).trans (hc.out i hi)⟩

/-- a byte that an alphabet may have -/
def okByte (c : UInt8) : Bool := (48 ≤ c && c ≤ 57) || (65 ≤ c && c ≤ 90)

def okAt (A : List UInt8) (i : Nat) : Bool := okByte (A.getD i 0) && decide ((i : Int) ≤ Lib.indexByte A (A.getD i 0))

def okAlpha (A : List UInt8) : Bool := (List.range A.length).all (okAt A)

def okBan (A : List UInt8) (b : ByteArray) : Bool := decide (1 ≤ b.size) && decide (b.size ≤ 8) && ofB b.data.toList A

def okBans (A : List UInt8) (bs : List ByteArray) : Bool := bs.all (okBan A)

def okHead (A : List UInt8) (L : Int) (n : Nat) (chk : Bool) : Bool := decide (2 ≤ A.length) && decide (A.length ≤ 36) && decide (1 ≤ L) && decide (L ≤ 16) && decide (n ≤ 16) && !(chk && A.length % 2 == 1)

def wf (A : List UInt8) (L : Int) (bs : List ByteArray) (chk : Bool) : Bool := okHead A L bs.length chk && okAlpha A && okBans A bs

set_option maxRecDepth 100000 in
set_option maxHeartbeats 1000000 in
theorem wellFormed_head (w : World) (A : ByteArray) (L : Int) (a : Option Addr) (cap : Nat) (chk : Bool) (bs : List ByteArray) (hs : A.size ≤ maxLen) (hbs : bs.length ≤ maxLen) (hL : -9223372036854775808 ≤ L ∧ L ≤ 9223372036854775807) (hno : okHead A.data.toList L bs.length chk = false) :
    Calls Try.prog 65 #[.agg #[.string A, .int .i64 L, .slice a bs.length cap, .bool chk]] w
      fun e w' => e = .returned (.bool false) ∧ Below w.heap.size w w' := by
  unfold maxLen at hs hbs
  have hcase : A.size < 2 ∨ (2 ≤ A.size ∧ 36 < A.size) ∨ (2 ≤ A.size ∧ A.size ≤ 36 ∧ L < 1) ∨ (2 ≤ A.size ∧ A.size ≤ 36 ∧ 1 ≤ L ∧ 16 < L) ∨ (2 ≤ A.size ∧ A.size ≤ 36 ∧ 1 ≤ L ∧ L ≤ 16 ∧ 16 < bs.length) ∨ (2 ≤ A.size ∧ A.size ≤ 36 ∧ 1 ≤ L ∧ L ≤ 16 ∧ bs.length ≤ 16 ∧ chk = true ∧ A.size % 2 = 1) := by
    have hl : A.data.toList.length = A.size := by simp
    unfold okHead at hno
    rw [hl] at hno
    cases chk
    · have e : (!(false && A.size % 2 == 1)) = true := rfl
      rw [e, Bool.and_true] at hno
      simp only [Bool.and_eq_false_iff, decide_eq_false_iff_not] at hno
      omega
    · simp only [Bool.and_eq_false_iff, decide_eq_false_iff_not, Bool.not_eq_false', Bool.true_and, beq_iff_eq] at hno
      simp only [true_and]
      omega
  clear hno
  rcases hcase with h | ⟨h, h1⟩ | ⟨h, h1, h2⟩ | ⟨h, h1, h2, h3⟩ | ⟨h, h1, h2, h3, h4⟩ | ⟨h, h1, h2, h3, h4, rfl, h6⟩
  case inr.inr.inr.inr.inr =>
    have h7 : ((A.size : Int) % 2 == 1) = true := by rw [beq_iff_eq]; omega
    clear h6
    go_enter Try.func65, Try.ntmps65
    go_wp2
    go_ret
    exact ⟨rfl, (Below.refl _ _).alloc (Nat.le_refl _) _⟩
  all_goals
    go_enter Try.func65, Try.ntmps65
    go_wp2
    go_ret
    exact ⟨rfl, (Below.refl _ _).alloc (Nat.le_refl _) _⟩

theorem okAt_of {A : ByteArray} {k : Nat} (hk : k < A.size) : okAt A.data.toList k = (okByte A[k] && decide ((k : Int) ≤ Lib.indexByte A.data.toList A[k])) := by
  unfold okAt
  have : A.data.toList.getD k 0 = A[k] := by rw [bt_get hk]; rfl
  rw [this]

theorem decode_high (s : ByteArray) (pos : Nat) (h : pos < s.size) (hb : 128 ≤ (s[pos]'h).toNat) : 128 ≤ (Utf8.decode s pos).1 := by
  have e : s.get! (pos + 0) = s[pos]'h := by
    show s.get! pos = _
    simp [ByteArray.get!, getElem!_pos, h]
    rfl
  unfold Utf8.decode
  simp only [e]
  rw [if_neg (by omega)]
  split
  · split
    · assumption
    · decide
  · split
    · split
      · rename_i h1 h2; simp only [Bool.and_eq_true, decide_eq_true_eq] at h2; show 128 ≤ _; omega
      · decide
    · split
      · split
        · rename_i h1 h2 h3; simp only [Bool.and_eq_true, decide_eq_true_eq] at h3; show 128 ≤ _; omega
        · decide
      · decide

theorem okByte_true {c : UInt8} : okByte c = true ↔ (48 ≤ (c.toNat : Int) ∧ (c.toNat : Int) ≤ 57) ∨ (65 ≤ (c.toNat : Int) ∧ (c.toNat : Int) ≤ 90) := by
  unfold okByte
  simp [UInt8.le_iff_toNat_le]; omega

theorem okByte_false {c : UInt8} : okByte c = false ↔ (c.toNat : Int) < 48 ∨ (57 < (c.toNat : Int) ∧ (c.toNat : Int) < 65) ∨ 90 < (c.toNat : Int) := by
  rw [← Bool.not_eq_true, okByte_true]; omega

theorem alpha_not {A : List UInt8} {k : Nat} (hk : k < A.length) (h : okAt A k = false) : okAlpha A = false := by
  unfold okAlpha
  rw [← Bool.not_eq_true, List.all_eq_true]
  intro hh
  have := hh k (by simpa using hk)
  rw [h] at this; cases this

theorem iter_heap' (w : World) (s : ByteArray) (pos k : Nat) (h : k = w.heap.size) : (w.iter s pos).heap[k]? = some (.stringIter s pos) := by subst h; exact World.iter_heap w s pos

theorem cell_of_block {w : World} {b : Nat} {C : Array Value} {t : TypeId} {f : Nat × Nat} (h : w.heap[b]? = some (.cells C t f)) (j : Nat) : w.cell? ⟨b, j, none⟩ = C[j]? := by
  simp [World.cell?, h]

theorem StrsAt.of_below {w w' : World} {a : Option Addr} {bs : List ByteArray} (h : StrsAt w a bs) (hb : Below w.heap.size w w') : StrsAt w' a bs := h.below hb

theorem okBans_take (A : List UInt8) (bs : List ByteArray) (k : Nat) (h : k < bs.length) : okBans A (bs.take (k + 1)) = (okBans A (bs.take k) && okBan A (bs.getD k ⟨#[]⟩)) := by
  rw [List.take_succ_eq_append_getElem h, List.getD_eq_getElem?_getD, List.getElem?_eq_getElem h]
  unfold okBans
  rw [List.all_append]
  simp

theorem okBans_no {A : List UInt8} {bs : List ByteArray} {k : Nat} (h : k < bs.length) (hn : okBan A (bs.getD k ⟨#[]⟩) = false) : okBans A bs = false := by
  unfold okBans
  rw [← Bool.not_eq_true, List.all_eq_true]
  intro hh
  have := hh _ (List.getElem_mem h)
  rw [List.getD_eq_getElem?_getD, List.getElem?_eq_getElem h] at hn
  simp only [Option.getD_some] at hn
  rw [hn] at this; cases this

set_option maxRecDepth 100000 in
set_option maxHeartbeats 4000000 in
theorem wellFormed_rest (w : World) (A : ByteArray) (L : Int) (a : Option Addr) (cap : Nat) (chk : Bool) (bs : List ByteArray) (hbs : ∀ b ∈ bs, b.size ≤ maxLen) (hst : StrsAt w a bs) (hyes : okHead A.data.toList L bs.length chk = true) :
    Calls Try.prog 65 #[.agg #[.string A, .int .i64 L, .slice a bs.length cap, .bool chk]] w
      fun e w' => e = .returned (.bool (wf A.data.toList L bs chk)) ∧ Below w.heap.size w w' := by
  have hl : A.data.toList.length = A.size := by simp
  have HF : Hid (wf A.data.toList L bs chk = (okAlpha A.data.toList && okBans A.data.toList bs)) := by unfold Hid wf; rw [hyes, Bool.true_and]
  unfold okHead at hyes
  rw [hl] at hyes
  simp only [Bool.and_eq_true, decide_eq_true_eq, Bool.not_eq_true'] at hyes
  obtain ⟨⟨⟨⟨⟨h1, h2⟩, h3⟩, h4⟩, h5⟩, h6⟩ := hyes
  have h7 : chk = true → ((A.size : Int) % 2 == 1) = false := by
    intro hc; subst hc
    simp only [Bool.true_and, beq_eq_false_iff_ne] at h6
    rw [beq_eq_false_iff_ne]; omega
  have d1 : decide ((A.size : Int) < 2) = false := by rw [decide_eq_false_iff_not]; omega
  have d2 : decide (36 < (A.size : Int)) = false := by rw [decide_eq_false_iff_not]; omega
  have d3 : decide (L < 1) = false := by rw [decide_eq_false_iff_not]; omega
  have d4 : decide (16 < L) = false := by rw [decide_eq_false_iff_not]; omega
  have d5 : decide (16 < (bs.length : Int)) = false := by rw [decide_eq_false_iff_not]; omega
  clear h6
  have HL := Lib.hid hl
  clear hl
  have hcase : chk = false ∨ (chk = true ∧ ((A.size : Int) % 2 == 1) = false) := by cases chk; exact .inl rfl; exact .inr ⟨rfl, h7 rfl⟩
  clear h7
  rcases hcase with rfl | ⟨rfl, h7⟩
  all_goals
    go_enter Try.func65, Try.ntmps65
    go_wp2_with fail
    go_loopw [4] (fun _ wr => ∃ k : Nat, k ≤ A.size ∧ wr.heap[w.heap.size + 1]? = some (.stringIter A k) ∧ Hid (∀ j, j < k → okAt A.data.toList j = true) ∧
        (∃ cb, wr.heap[w.heap.size]? = some (.cells #[.string A, .int .i64 L, .slice a bs.length cap, .bool cb] 24 (0, 0))) ∧ Below w.heap.size w wr)
      (fun _ wr => A.size - wr.iterPos (w.heap.size + 1))
    case atStart =>
      refine ⟨0, Nat.zero_le _, ?_, Lib.hid (fun j hj => by omega), ?_, ((Below.refl _ _).alloc (Nat.le_refl _) _).alloc (by simp) _⟩
      · exact iter_heap' _ _ _ _ (by simp)
      · exact ⟨_, (Below.heap_alloc _ _ _ (by simp)).trans (MapKept.heap_alloc w _).1⟩
    case round =>
      obtain ⟨k, hk, hit, hok, ⟨cb, hbox⟩, hbel⟩ := hrel
      by_cases hlt : k < A.size
      · have hpos := iterPos_of hit
        have hbel2 : Below w.heap.size w (wr.iterAt (w.heap.size + 1) A (k + 1)) := Lib.below_iterAt hbel (by omega) A (k + 1)
        by_cases hasc : A[k].toNat < 128
        · have hn := fun ty => Lib.run_next_ascii_at (P := Try.prog) wr (w.heap.size + 1) A k ty hit hlt hasc
          have hit2 := Lib.iterAt_heap wr (w.heap.size + 1) A k (k + 1) hit
          have hbox2 := (Lib.iterAt_other wr (w.heap.size + 1) w.heap.size A (k + 1) (by omega)).trans hbox
          generalize wr.iterAt (w.heap.size + 1) A (k + 1) = wi at *
          have c0 := cell_of_block hbox2 0
          have hit3 := Lib.hid hit2
          have hbox3 := Lib.hid hbox2
          clear hit hbox hit2 hbox2
          cases hob : okByte A[k]
          · have hno := alpha_not (A := A.data.toList) (k := k) (by rw [HL.out]; exact hlt) (by rw [okAt_of hlt, hob]; rfl)
            have HNO := Lib.hid hno
            have hc := okByte_false.1 hob
            clear hob hno
            rcases hc with hc | ⟨hc, hc2⟩ | hc
            all_goals
              go_wp2
              go_ret
              exact ⟨ret_bool (by rw [HF.out, HNO.out]; rfl), hbel2⟩
          · have hc := okByte_true.1 hob
            have HOB := Lib.hid hob
            have hb8 : ((A[k].toNat : Int).toNat.toUInt8) = A[k] := by simp
            have HB8 := Lib.hid hb8
            clear hob hb8
            by_cases hix : Lib.indexByte A.data.toList A[k] < (k : Int)
            · have hno := alpha_not (A := A.data.toList) (k := k) (by rw [HL.out]; exact hlt) (by rw [okAt_of hlt, HOB.out, decide_eq_false (by omega)]; rfl)
              have HNO := Lib.hid hno
              clear hno
              rcases hc with ⟨hc, hc2⟩ | ⟨hc, hc2⟩
              all_goals
                go_wp2_with fail
                refine (Try.strings_IndexRune_ascii _ _ _ (by omega) (by omega)).mono ?_
                rintro e w' ⟨rfl, rfl⟩
                rw [HB8.out]
                go_wp2
                go_ret
                exact ⟨ret_bool (by rw [HF.out, HNO.out]; rfl), hbel2⟩
            · rcases hc with ⟨hc, hc2⟩ | ⟨hc, hc2⟩
              all_goals
                go_wp2_with fail
                refine (Try.strings_IndexRune_ascii _ _ _ (by omega) (by omega)).mono ?_
                rintro e w' ⟨rfl, rfl⟩
                rw [HB8.out]
                go_wp2
                go_roundw
                case rel =>
                  refine ⟨k + 1, by omega, hit3.out, Lib.hid (fun j hj => ?_), ⟨_, hbox3.out⟩, hbel2⟩
                  by_cases hjk : j < k
                  · exact hok.out j hjk
                  · obtain rfl : j = k := by omega
                    rw [okAt_of hlt, HOB.out, decide_eq_true (by omega)]; rfl
                case measure => rw [hpos, iterPos_of hit3.out]; omega
        · have hn := fun ty => Lib.run_next_any_at (P := Try.prog) wr (w.heap.size + 1) A k ty hit hlt
          have hbel3 : Below w.heap.size w (wr.iterAt (w.heap.size + 1) A (k + (Utf8.decode A k).2)) := Lib.below_iterAt hbel (by omega) A _
          have hhi := decode_high A k hlt (by omega)
          have hhi' : 90 < ((Utf8.decode A k).1 : Int) := by omega
          have hno := alpha_not (A := A.data.toList) (k := k) (by rw [HL.out]; exact hlt) (by
            rw [okAt_of hlt, okByte_false.2 (.inr (.inr (by omega)))]; rfl)
          have HNO := Lib.hid hno
          clear hno hhi hbel2
          generalize wr.iterAt (w.heap.size + 1) A (k + (Utf8.decode A k).2) = wi at *
          generalize (Utf8.decode A k).1 = r at *
          go_wp2
          go_ret
          exact ⟨ret_bool (by rw [HF.out, HNO.out]; rfl), hbel3⟩
      · obtain rfl : k = A.size := by omega
        have hn := fun ty => Lib.run_next_end_at (P := Try.prog) wr (w.heap.size + 1) A A.size ty hit hlt
        have hal : okAlpha A.data.toList = true := by
          unfold okAlpha
          rw [List.all_eq_true]
          intro j hj
          exact hok.out j (by rw [HL.out] at hj; simpa using hj)
        have HAL := Lib.hid hal
        have c0 := cell_of_block hbox 0
        have c2 := cell_of_block hbox 2
        simp only [show (#[Value.string A, Value.int .i64 L, Value.slice a bs.length cap, Value.bool cb] : Array Value)[0]? = some (Value.string A) from rfl] at c0
        simp only [show (#[Value.string A, Value.int .i64 L, Value.slice a bs.length cap, Value.bool cb] : Array Value)[2]? = some (Value.slice a bs.length cap) from rfl] at c2
        have hstr := hst.of_below hbel
        clear hal hit hok hbox
        go_wp2_with fail
        go_loop [74] (fun i => ∃ k : Nat, k ≤ bs.length ∧ i = .int .i64 k ∧ Hid (okBans A.data.toList (bs.take k) = true)) (fun i => bs.length - (intOf i).toNat)
        case atStart => exact ⟨0, Nat.zero_le _, rfl, Lib.hid rfl⟩
        case round =>
          obtain ⟨k, hk2, rfl, hkb⟩ := hrel
          by_cases hlt2 : k < bs.length
          · obtain ⟨bb, off, ha, hcell⟩ := hstr (by omega)
            have hce := hcell.out k hlt2
            have hbsz : (bs.getD k ⟨#[]⟩).size ≤ maxLen := hbs _ (by rw [List.getD_eq_getElem?_getD, List.getElem?_eq_getElem hlt2]; simp)
            have htk := okBans_take A.data.toList bs k hlt2
            obtain ⟨ban, hban⟩ : ∃ ban, ban = bs.getD k ⟨#[]⟩ := ⟨_, rfl⟩
            rw [← hban] at hce hbsz htk
            have HBAN := Lib.hid hban
            have HTK := Lib.hid htk
            clear hban htk
            subst ha
            by_cases hb1 : 1 ≤ ban.size ∧ ban.size ≤ 8
            · obtain ⟨hb1, hb2⟩ := hb1
              go_wp2_with fail
              refine (of_any ban A _ hbsz).mono ?_
              rintro e w' ⟨rfl, rfl⟩
              cases hob : ofB ban.data.toList A.data.toList
              · have hfin : okBans A.data.toList bs = false := okBans_no hlt2 (by rw [← HBAN.out]; unfold okBan; rw [hob, Bool.and_false])
                have HFIN := Lib.hid hfin
                clear hfin hob
                go_wp2
                go_ret
                exact ⟨ret_bool (by rw [HF.out, HFIN.out, Bool.and_false]), hbel⟩
              · have HOB := Lib.hid hob
                clear hob
                go_wp2
                go_round
                case rel => exact ⟨k + 1, by omega, by go_num, Lib.hid (by rw [HTK.out, hkb.out]; unfold okBan; rw [HOB.out, decide_eq_true hb1, decide_eq_true hb2]; rfl)⟩
                case measure => simp [intOf]; omega
            · have hfin : okBans A.data.toList bs = false := okBans_no hlt2 (by
                rw [← HBAN.out]; unfold okBan
                by_cases h1 : 1 ≤ ban.size
                · rw [decide_eq_false (show ¬ ban.size ≤ 8 by omega), Bool.and_false, Bool.false_and]
                · rw [decide_eq_false h1, Bool.false_and, Bool.false_and])
              have HFIN := Lib.hid hfin
              clear hfin
              have hb2 : ban.size < 1 ∨ (1 ≤ ban.size ∧ 8 < ban.size) := by omega
              clear hb1
              rcases hb2 with hb1 | ⟨hb1, hb2⟩
              all_goals
                go_wp2
                go_ret
                exact ⟨ret_bool (by rw [HF.out, HFIN.out, Bool.and_false]), hbel⟩
          · obtain rfl : k = bs.length := by omega
            have hfin := hkb.out
            rw [List.take_of_length_le (Nat.le_refl _)] at hfin
            have HFIN := Lib.hid hfin
            clear hfin
            go_wp2
            go_ret
            exact ⟨ret_bool (by rw [HF.out, HFIN.out, HAL.out]; rfl), hbel⟩
end Go.Proofs.Yteleehldcpjndaa
