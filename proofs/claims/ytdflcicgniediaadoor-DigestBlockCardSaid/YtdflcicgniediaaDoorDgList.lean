/-
  digest.Is and digest.List: whether a text has the form of a digest; the digest of a list's joined text.
-/
import Derived.Test.YtdflcicgniediaaDoorDgSum
import Derived.Test.YtdflcicgniediaaDoorWWords
import Derived.Shelf.Strings.SlTrimAscii
set_option linter.unusedVariables false
set_option linter.unusedSimpArgs false
namespace Go.Proofs.YtdflcicgniediaaDoor.Dg
open Go.RowKit Go.Shelf
open Go.Proofs.YtdflcicgniediaaDoorW.PrintWords

def hexSet : List UInt8 := [48, 49, 50, 51, 52, 53, 54, 55, 56, 57, 97, 98, 99, 100, 101, 102]
/-- Whether a text is a digest. -/
def isB (s : ByteArray) : Bool := s.size == 16 && s.data.toList.all (hexSet.contains ·)

theorem dropWhile_nil {α : Type} (p : α → Bool) : ∀ l : List α, l.dropWhile p = [] ↔ ∀ x ∈ l, p x = true
  | [] => by simp
  | a :: l => by
    rw [List.dropWhile_cons]
    cases h : p a with
    | true => simp [dropWhile_nil p l, h]
    | false => simp [h]
theorem dropWhile_head {α : Type} (p : α → Bool) : ∀ (l : List α) (a : α) (r : List α), l.dropWhile p = a :: r → p a = false
  | [], _, _, h => by simp at h
  | b :: l, a, r, h => by
    rw [List.dropWhile_cons] at h
    cases hb : p b with
    | true => rw [hb] at h; exact dropWhile_head p l a r h
    | false => rw [hb] at h; simp at h; rw [← h.1]; exact hb
theorem trimS_nil (l cs : List UInt8) : Lib.trimS l cs = [] ↔ l.all (cs.contains ·) = true := by
  unfold Lib.trimS Lib.trimLeftS Lib.trimRightS
  rw [dropWhile_nil]
  constructor
  · intro h
    have key : l.reverse.dropWhile (cs.contains ·) = [] := by
      rcases hd : l.reverse.dropWhile (cs.contains ·) with _ | ⟨a, r⟩
      · rfl
      · exfalso
        have h1 := dropWhile_head _ _ _ _ hd
        have h2 := h a (by rw [hd]; simp)
        rw [h1] at h2
        exact absurd h2 (by simp)
    rw [dropWhile_nil] at key
    rw [List.all_eq_true]
    intro x hx
    exact key x (by simpa using hx)
  · intro h x hx
    rw [List.all_eq_true] at h
    refine h x ?_
    have := List.mem_reverse.1 hx
    have := (List.dropWhile_sublist (cs.contains ·) (l := l.reverse)).mem this
    simpa using this

set_option maxHeartbeats 1000000 in
theorem is_calls (s : ByteArray) (w : World) :
    Calls Tryd.prog 18 #[.string s] w fun e w' => e = .returned (.bool (isB s)) ∧ Below w.heap.size w w' := by
  by_cases h16 : s.size = 16
  · have hcon := Any.strings_Trim_laid Tryd.lays160 (by kernel_rfl) s ⟨#[48, 49, 50, 51, 52, 53, 54, 55, 56, 57, 97, 98, 99, 100, 101, 102]⟩ w (by omega) (by decide) (ascii_of_all (by decide))
    change Calls Tryd.prog 31 _ _ (fun e w' => e = .returned (.string ⟨(Lib.trimS s.data.toList hexSet).toArray⟩) ∧ Below w.heap.size w w') at hcon
    obtain ⟨z, hz⟩ : ∃ z : ByteArray, (⟨(Lib.trimS s.data.toList hexSet).toArray⟩ : ByteArray) = z := ⟨_, rfl⟩
    have hzl : z.data.toList = Lib.trimS s.data.toList hexSet := by rw [← hz]
    rw [hz] at hcon
    have HCON := Lib.hid hcon
    clear hcon hz
    have h16b : ((s.size : Int) == 16) = true := by simp; omega
    by_cases hall : s.data.toList.all (hexSet.contains ·) = true
    · have hb : isB s = true := by simp only [isB, hall]; simp [h16]
      have hze : z.toList = [] := by rw [ByteArray.toList_eq, hzl]; exact (trimS_nil _ _).2 hall
      have HB := Lib.hid hb
      clear hall hb hzl h16
      go_enter Tryd.func18, Tryd.ntmps18
      go_wp2_with (go_at_call 31; refine HCON.out.mono ?_; rintro e w1 ⟨rfl, hb1⟩)
      go_ret
      exact ⟨by rw [HB.out]; rfl, hb1⟩
    · have hb : isB s = false := by unfold isB; rw [Bool.eq_false_iff.2 hall, Bool.and_false]
      have hze : ¬ z.toList = [] := by rw [ByteArray.toList_eq, hzl]; exact fun h => hall ((trimS_nil _ _).1 h)
      have hze2 : z.toList.isEmpty = false := by simpa using hze
      have HB := Lib.hid hb
      clear hall hb hzl h16
      go_enter Tryd.func18, Tryd.ntmps18
      go_wp2_with (go_at_call 31; refine HCON.out.mono ?_; rintro e w1 ⟨rfl, hb1⟩)
      go_ret
      exact ⟨by rw [HB.out]; rfl, hb1⟩
  · have hb : isB s = false := by simp [isB, h16]
    have h16b : ((s.size : Int) == 16) = false := by simp; omega
    have HB := Lib.hid hb
    clear hb h16
    go_enter Tryd.func18, Tryd.ntmps18
    go_wp2
    go_ret
    exact ⟨by rw [HB.out]; rfl, Below.refl _ _⟩

/-- One element of a joined text. -/
def piece (s : ByteArray) : List UInt8 := Lib.itoa (s.size : Int) ++ [58] ++ s.data.toList
theorem piece_length (s : ByteArray) : (piece s).length = (Lib.itoa (s.size : Int)).length + 1 + s.size := by
  unfold piece; rw [List.length_append, List.length_append, ← Lib.size_eq]; rfl
/-- The joined text of a list. -/
def joinL (l : List ByteArray) : List UInt8 := l.flatMap piece
def joinB (l : List ByteArray) : ByteArray := ⟨(joinL l).toArray⟩
theorem joinL_take_succ (l : List ByteArray) (k : Nat) (h : k < l.length) : joinL (l.take (k + 1)) = joinL (l.take k) ++ piece l[k] := by
  unfold joinL; rw [List.take_succ_eq_append_getElem h, List.flatMap_append]; simp
theorem joinL_take_le (l : List ByteArray) (k : Nat) : (joinL (l.take k)).length ≤ (joinL l).length := by
  have h : joinL l = joinL (l.take k) ++ joinL (l.drop k) := by unfold joinL; rw [← List.flatMap_append, List.take_append_drop]
  rw [h, List.length_append]; omega

theorem below_grow (w : World) (k : Nat) (os : Array Obj) : Below w.heap.size w (Sort.grow (w.drewN k) os) :=
  ⟨rfl, rfl, rfl, by show w.heap.size ≤ (w.heap ++ os).size; rw [Array.size_append]; omega, fun _ hj => Sort.heap_grow_old (w.drewN k) os hj⟩
theorem builder_below {T e : TypeId} {B b : Nat} {bs : List Value} {w w' : World} (h : Lib.IsBuilder T e B b bs w) (hb : Below w.heap.size w w') : Lib.IsBuilder T e B b bs w' := by
  have one : ∀ p, Lib.BuilderAt T e B b p bs w → Lib.BuilderAt T e B b p bs w' := by
    intro p h
    have hlt := h.lt
    obtain ⟨hB, v, hv, ho, hne⟩ := h
    exact ⟨hB, v, by rw [hb.block b hlt]; exact hv, pw_own_below ho hb, hne⟩
  rcases h with h | h
  · exact .inl (one _ h)
  · exact .inr (one _ h)

def Tryd.laysB_ren : Go.Shelf.Ren := ⟨fun | 167 => 29 | n => Tryd.lays105_ren.f n, Tryd.lays105_ren.t, fun n => n⟩
theorem Tryd.laysB : Go.Proofs.Lays.n167 Tryd.prog Tryd.laysB_ren := { Tryd.lays105 with f167 := Tryd.func29.trans (congrArg some (by kernel_rfl)), f240 := Tryd.lays105.f240, f276 := Tryd.lays105.f276 }
set_option maxRecDepth 100000 in
theorem Tryd.extraB : Builder.Extra Tryd.prog Tryd.laysB_ren := { Tryd.Builder_Extra_105 with }

theorem writeByte (B b : Nat) (bs : List Value) (c : Int) (w : World) (h : Lib.IsBuilder 46 5 B b bs w) (hlen : bs.length + 1 ≤ 140737488355328) (hBw : B ≤ w.heap.size) :
    Calls Tryd.prog 29 #[.pointer (some ⟨b, 0, none⟩), .int .u8 c] w fun e w' => e = .returned .nilIface ∧ Lib.IsBuilder 46 5 B b (bs ++ [.int .u8 c]) w' ∧ Below B w w' :=
  (Any.Builder_WriteByte Tryd.laysB Tryd.extraB B b bs c w h hlen hBw).mono fun _ _ ⟨h1, h2, h3⟩ => ⟨h1, .inr h2, h3⟩
theorem writeString (B b : Nat) (bs : List Value) (s : ByteArray) (w : World) (h : Lib.IsBuilder 46 5 B b bs w) (hlen : bs.length + s.size ≤ 140737488355328) (hBw : B ≤ w.heap.size) :
    Calls Tryd.prog 27 #[.pointer (some ⟨b, 0, none⟩), .string s] w fun e w' => e = .returned (.tuple #[.int .i64 s.size, .nilIface]) ∧ Lib.IsBuilder 46 5 B b (bs ++ Lib.byteCells s.data.toList) w' ∧ Below B w w' :=
  (Any.Builder_WriteString { Tryd.lays105 with } { Tryd.Builder_Extra_105 with } B b bs s w h hlen hBw).mono fun _ _ ⟨h1, h2, h3⟩ => ⟨h1, .inr h2, h3⟩
theorem builderString (B b : Nat) (l : List UInt8) (w : World) (h : Lib.IsBuilder 46 5 B b (Lib.byteCells l) w) (hBw : B ≤ w.heap.size) :
    Calls Tryd.prog 30 #[.pointer (some ⟨b, 0, none⟩)] w fun e w' => e = .returned (.string ⟨l.toArray⟩) ∧ Below B w w' :=
  Any.Builder_String_any { Tryd.lays105 with } { Tryd.Builder_Extra_105 with } B b l w h hBw

set_option maxHeartbeats 2000000 in
set_option maxRecDepth 100000 in
theorem list_calls (A : Option Addr) (c : Nat) (l : List ByteArray) (w : World) (hr : Kd.C Kd.string w A l.length l) (hc : l.length ≤ c) (hj : (joinL l).length ≤ 140737488355328) (hT : Tabs w) :
    Calls Tryd.prog 14 #[.slice A l.length c] w fun e w' => e = .returned (.string (sumB (joinB l))) ∧ Below w.heap.size w w' := by
  have HR := Lib.hid hr
  have HJ := Lib.hid hj
  have HT := Lib.hid hT
  have hm : l.length ≤ 9223372036854775807 := hr.2.1
  clear hr hj hT
  go_enter Tryd.func14, Tryd.ntmps14
  go_wp2
  go_loopw [8] (fun v8 wr => ∃ k : Nat, k ≤ l.length ∧ v8 = .int .i64 k ∧ Hid (Lib.IsBuilder 46 5 w.heap.size w.heap.size (Lib.byteCells (joinL (l.take k))) wr) ∧ Hid (Below w.heap.size w wr)) (fun v8 _ => (l.length - RowKit.intOf v8).toNat)
  case atStart => exact ⟨0, Nat.zero_le _, rfl, Lib.fresh_isBuilder _ _ w, (Below.refl _ _).alloc (Nat.le_refl _) _⟩
  case round =>
    obtain ⟨k, hk, rfl, HBu, HB⟩ := hrel
    rename World => W0
    by_cases hlt : k < l.length
    · obtain ⟨ad, rfl, hcell⟩ := Kd.at_string (Kd.C_below HR.out HB.out) (k : Int) (by omega) (by omega)
      have hel : Go.Proofs.YtdflcicgniediaaDoorW.PrintWords.rdOf ByteArray.empty l (k : Int) = l[k] := by
        simp [Go.Proofs.YtdflcicgniediaaDoorW.PrintWords.rdOf, List.getD, List.getElem?_eq_getElem hlt]
      rw [hel, Int.toNat_natCast] at hcell
      have hp := joinL_take_succ l k hlt
      have hle := Nat.le_trans (joinL_take_le l (k + 1)) HJ.out
      obtain ⟨x, hx⟩ : ∃ x : ByteArray, l[k] = x := ⟨_, rfl⟩
      rw [hx] at hcell hp
      obtain ⟨L0, hL0⟩ : ∃ L0, joinL (l.take k) = L0 := ⟨_, rfl⟩
      have hlen : L0.length + (Lib.itoa (x.size : Int)).length + 1 + x.size ≤ 140737488355328 := by
        have h1 : (joinL (l.take (k + 1))).length = L0.length + (piece x).length := by
          rw [hp, hL0, List.length_append]
        rw [piece_length] at h1
        omega
      have HP := Lib.hid (show joinL (l.take (k + 1)) = L0 ++ Lib.itoa (x.size : Int) ++ [58] ++ x.data.toList by rw [hp, hL0]; simp [piece])
      have HLEN := Lib.hid hlen
      have hxs : x.size ≤ 140737488355328 := by omega
      have HBu0 : Hid (Lib.IsBuilder 46 5 w.heap.size w.heap.size (Lib.byteCells L0) W0) := by rw [← hL0]; exact HBu.out
      clear hp hle hlen hel hx hL0 HBu
      go_wp2_with fail
      have hT0 := HT.out.below HB.out
      refine (Tryd.strconv_Itoa (x.size : Int) (by omega) (by omega) W0 hT0.pow10).mono ?_
      rintro e w1 ⟨rfl, k1, os1, rfl⟩
      obtain ⟨w1, hw1⟩ : ∃ w1 : World, Sort.grow (W0.drewN k1) os1 = w1 := ⟨_, rfl⟩
      have hb1 : Below W0.heap.size W0 w1 := by rw [← hw1]; exact below_grow W0 k1 os1
      rw [hw1]
      obtain ⟨d, hd⟩ : ∃ d : ByteArray, (⟨(Lib.itoa (x.size : Int)).toArray⟩ : ByteArray) = d := ⟨_, rfl⟩
      rw [hd]
      have HD : Hid (d.data.toList = Lib.itoa (x.size : Int)) := by show _ = _; rw [← hd]
      have hds : d.size = (Lib.itoa (x.size : Int)).length := by rw [Lib.size_eq, HD.out]
      have HB1 : Hid (Below w.heap.size w w1) := HB.out.trans (hb1.mono HB.out.size)
      have HBu1 : Hid (Lib.IsBuilder 46 5 w.heap.size w.heap.size (Lib.byteCells L0) w1) := builder_below HBu0.out hb1
      have HL1 := Lib.hid (show (Lib.byteCells L0).length + d.size ≤ 140737488355328 by have := HLEN.out; rw [Lib.byteCells_length, hds]; omega)
      have HL2 := Lib.hid (show (Lib.byteCells L0 ++ Lib.byteCells d.data.toList).length + 1 ≤ 140737488355328 by have := HLEN.out; rw [List.length_append, Lib.byteCells_length, Lib.byteCells_length, HD.out]; omega)
      have HL3 := Lib.hid (show (Lib.byteCells L0 ++ Lib.byteCells d.data.toList ++ [Value.int .u8 58]).length + x.size ≤ 140737488355328 by have := HLEN.out; rw [List.length_append, List.length_append, Lib.byteCells_length, Lib.byteCells_length, HD.out]; simp; omega)
      clear hw1 hb1 hd hds hT0 hcell
      go_wp2_with fail
      refine (writeString w.heap.size w.heap.size _ d w1 HBu1.out HL1.out HB1.out.size).mono ?_
      rintro e w2 ⟨rfl, hbu2, hb2⟩
      have HBu2 := Lib.hid hbu2
      have HB2 : Hid (Below w.heap.size w w2) := HB1.out.trans hb2
      clear hbu2 hb2
      go_wp2_with fail
      refine (writeByte w.heap.size w.heap.size _ 58 w2 HBu2.out HL2.out HB2.out.size).mono ?_
      rintro e w3 ⟨rfl, hbu3, hb3⟩
      have HBu3 := Lib.hid hbu3
      have HB3 : Hid (Below w.heap.size w w3) := HB2.out.trans hb3
      clear hbu3 hb3
      go_wp2_with fail
      refine (writeString w.heap.size w.heap.size _ x w3 HBu3.out HL3.out HB3.out.size).mono ?_
      rintro e w4 ⟨rfl, hbu4, hb4⟩
      have HBu4 := Lib.hid hbu4
      have HB4 : Hid (Below w.heap.size w w4) := HB3.out.trans hb4
      clear hbu4 hb4
      go_wp2_with fail
      go_roundw
      case rel =>
        refine ⟨k + 1, by omega, by go_num, ?_, HB4.out⟩
        have h := HBu4.out
        rw [HD.out, show [Value.int .u8 58] = Lib.byteCells [58] from rfl, ← Lib.byteCells_append, ← Lib.byteCells_append, ← Lib.byteCells_append, ← HP.out] at h
        exact h
      case measure => simp [RowKit.intOf]; omega
    · obtain rfl : k = l.length := by omega
      have HBu1 : Hid (Lib.IsBuilder 46 5 w.heap.size w.heap.size (Lib.byteCells (joinL l)) W0) := by
        have h := HBu.out; rw [List.take_length] at h; exact h
      clear HBu
      go_wp2_with fail
      refine (builderString w.heap.size w.heap.size _ W0 HBu1.out HB.out.size).mono ?_
      rintro e w1 ⟨rfl, hb1⟩
      have HB1 : Hid (Below w.heap.size w w1) := HB.out.trans hb1
      have HT1 := Lib.hid (HT.out.below HB1.out)
      obtain ⟨j, hj⟩ : ∃ j : ByteArray, joinB l = j := ⟨_, rfl⟩
      have hjs : j.size ≤ 140737488355328 := by rw [← hj, Lib.size_eq]; exact HJ.out
      have HJE := Lib.hid hj
      rw [show (⟨(joinL l).toArray⟩ : ByteArray) = j from hj]
      clear hb1 hj
      go_wp2_with fail
      refine (sum_calls j (by omega) w1 HT1.out).mono ?_
      rintro e w2 ⟨rfl, hb2⟩
      have HB2 : Hid (Below w.heap.size w w2) := HB1.out.trans (hb2.mono HB1.out.size)
      clear hb2
      go_wp2
      go_ret
      exact ⟨by rw [HJE.out]; rfl, HB2.out⟩

end Go.Proofs.YtdflcicgniediaaDoor.Dg
