/-
  The tree layer's proofs: contracts.
-/
import Derived.Test.YtapnakfhkdcfeaaGreatDoorMgTree
import Derived.Laws.EntriesVeiled
set_option linter.unusedVariables false
set_option linter.unusedSimpArgs false
namespace Go.Proofs.YtapnakfhkdcfeaaGreatDoor.Dg
open Go.RowKit
open Go.Proofs.YtapnakfhkdcfeaaGreatDoorW.PrintWords Go.Proofs.YtapnakfhkdcfeaaGreatDoorW.PrintMore Go.Proofs.YtapnakfhkdcfeaaGreatDoorW.PrintLast
attribute [local irreducible] sumB

theorem Exc.drewN {X : Nat → Prop} {a b : World} (h : Exc X a b) (n : Nat) : Exc X a (b.drewN n) := ⟨h.os, h.tape, h.output, h.size, h.block⟩
theorem PS.drewN {bl bp : Nat} {A : Option Addr} {c : Nat} {l : List ByteArray} {sh : Bool} {w : World} (h : PS bl bp A c l sh w) (n : Nat) : PS bl bp A c l sh (w.drewN n) :=
  h.exc (X := fun _ => False) ((Exc.refl _ w).drewN n) (fun h => h) (fun h => h) (fun _ _ _ h => h)

theorem PS.below {bl bp : Nat} {A : Option Addr} {c : Nat} {l : List ByteArray} {sh : Bool} {w w' : World} (h : PS bl bp A c l sh w) (k : Below w.heap.size w w') : PS bl bp A c l sh w' :=
  h.exc (X := fun _ => False) (Exc.of_below k) (fun h => h) (fun h => h) (fun _ _ _ h => h)

/-- The root of n elements, out of the element i and a path's end: the root, what is left of the path, whether something was missing. -/
def upTo : Nat → Nat → Nat → ByteArray → List ByteArray → Bool → ByteArray × List ByteArray × Bool
  | 0, _, _, leaf, l, sh => (leaf, l, sh)
  | f + 1, n, i, leaf, l, sh =>
    if n ≤ 1 then (leaf, l, sh) else
    if i < halfN n then
      (nodeB (upTo f (halfN n) i leaf l.dropLast (sh || decide ((lastB l).size = 0))).1 (lastB l), (upTo f (halfN n) i leaf l.dropLast (sh || decide ((lastB l).size = 0))).2)
    else
      (nodeB (lastB l) (upTo f (n - halfN n) (i - halfN n) leaf l.dropLast (sh || decide ((lastB l).size = 0))).1, (upTo f (n - halfN n) (i - halfN n) leaf l.dropLast (sh || decide ((lastB l).size = 0))).2)
theorem upTo_le : ∀ (f n i : Nat) (leaf : ByteArray) (l : List ByteArray) (sh : Bool), leaf.size ≤ 1000 → (upTo f n i leaf l sh).1.size ≤ 1000
  | 0, _, _, _, _, _, h => h
  | f + 1, n, i, leaf, l, sh, h => by
    unfold upTo
    split
    · exact h
    · split
      · dsimp only; rw [nodeB_len]; omega
      · dsimp only; rw [nodeB_len]; omega

/-- The places of the closure. -/
structure FX (bf bv bu bp : Nat) (leaf : ByteArray) (w : World) : Prop where
  f : w.heap[bf]? = some (.cells #[.string leaf] 9 (0, 0))
  v : w.heap[bv]? = some (.cells #[.pointer (some ⟨bp, 0, none⟩)] 44 (0, 0))
  u : w.heap[bu]? = some (.cells #[.func (.func 33) #[] #[.pointer (some ⟨bf, 0, none⟩), .pointer (some ⟨bv, 0, none⟩), .pointer (some ⟨bu, 0, none⟩)]] 48 (0, 0))
theorem heap_lt {w : World} {b : Nat} {o : Obj} (h : w.heap[b]? = some o) : b < w.heap.size := (Array.getElem?_eq_some_iff.1 h).1
theorem heap_ne {w : World} {a b : Nat} {o p : Obj} (h : w.heap[a]? = some o) (k : w.heap[b]? = some p) (hop : o ≠ p) : a ≠ b := fun e => by
  subst e; exact hop (Option.some.inj (h.symm.trans k))
theorem FX.exc {bf bv bu bp bl : Nat} {leaf : ByteArray} {A : Option Addr} {c : Nat} {l : List ByteArray} {sh : Bool} {w w' : World} (h : FX bf bv bu bp leaf w) (p : PS bl bp A c l sh w) (k : Exc (fun i => i = bl ∨ i = bp) w w') : FX bf bv bu bp leaf w' := by
  have nn : ∀ {b : Nat} {cs : Array Value} {t : TypeId}, w.heap[b]? = some (.cells cs t (0, 0)) → cs.size = 1 → (∀ A n c, cs ≠ #[Value.slice A n c]) → w'.heap[b]? = some (.cells cs t (0, 0)) := by
    intro b cs t hb h1 h2
    rw [k.block b (heap_lt hb) (fun hx => ?_)]
    · exact hb
    · rcases hx with e | e
      · subst e
        have := hb.symm.trans p.lc.at_
        simp only [Option.some.injEq, Obj.cells.injEq] at this
        exact h2 _ _ _ this.1
      · subst e
        have := hb.symm.trans p.pc
        simp only [Option.some.injEq, Obj.cells.injEq] at this
        rw [this.1] at h1
        exact absurd h1 (by simp)
  exact ⟨nn h.f rfl (by simp), nn h.v rfl (by simp), nn h.u rfl (by simp)⟩

set_option maxHeartbeats 8000000 in
set_option maxRecDepth 100000 in
theorem up_calls (bf bv bu bl bp : Nat) (leaf : ByteArray) (hleaf : leaf.size ≤ 1000) (A : Option Addr) (c : Nat) (f : Nat) : ∀ (n i : Nat) (l : List ByteArray) (sh : Bool) (w : World) (hn1 : 1 ≤ n) (hn : n ≤ 1000000) (hf : n ≤ f) (hi : i < n)
    (hs : ∀ s ∈ l, s.size ≤ 1000) (hFX : FX bf bv bu bp leaf w) (hPS : PS bl bp A c l sh w) (hT : ∀ w', Exc (fun i => i = bl ∨ i = bp) w w' → Tabs w'),
    Calls Tryz.prog 33 #[.int .i64 (n : Int), .int .i64 (i : Int), .pointer (some ⟨bf, 0, none⟩), .pointer (some ⟨bv, 0, none⟩), .pointer (some ⟨bu, 0, none⟩)] w
      fun e w' => e = .returned (.string (upTo f n i leaf l sh).1) ∧ PS bl bp A c (upTo f n i leaf l sh).2.1 (upTo f n i leaf l sh).2.2 w' ∧ Exc (fun i => i = bl ∨ i = bp) w w' := by
  induction f with
  | zero => intro n i l sh w hn1 hn hf; omega
  | succ f ih =>
    intro n i l sh w hn1 hn hf hi hs hFX hPS hT
    have HFX := Lib.hid hFX
    have HPS := Lib.hid hPS
    have HT := Lib.hid hT
    have hcf := Lib.cell_of_heap hFX.f 0
    simp only [List.getElem?_toArray, List.getElem?_cons_zero] at hcf
    by_cases one : n = 1
    · have c1 : ((n : Int) == 1) = true := beq_iff_eq.mpr (by omega)
      have e1 : upTo (f + 1) n i leaf l sh = (leaf, l, sh) := by rw [upTo, if_pos (by omega)]
      rw [e1]
      clear hs hFX hPS hT e1
      go_enter Tryz.func33, Tryz.ntmps33
      go_wp2
      go_ret
      exact ⟨rfl, HPS.out, Exc.refl _ _⟩
    have h2 : 2 ≤ n := by omega
    have c1 : ((n : Int) == 1) = false := beq_eq_false_iff_ne.mpr (by omega)
    have hlt := halfN_lt n h2
    have hge := halfN_ge n
    have hhalf := half_calls n hn
    have hup : upTo (f + 1) n i leaf l sh = if i < halfN n then
      (nodeB (upTo f (halfN n) i leaf l.dropLast (sh || decide ((lastB l).size = 0))).1 (lastB l), (upTo f (halfN n) i leaf l.dropLast (sh || decide ((lastB l).size = 0))).2)
    else
      (nodeB (lastB l) (upTo f (n - halfN n) (i - halfN n) leaf l.dropLast (sh || decide ((lastB l).size = 0))).1, (upTo f (n - halfN n) (i - halfN n) leaf l.dropLast (sh || decide ((lastB l).size = 0))).2) := by
      rw [upTo, if_neg (by omega)]
    obtain ⟨h, hh⟩ : ∃ h : Nat, halfN n = h := ⟨_, rfl⟩
    rw [hh] at hlt hge hhalf hup
    have HH := Lib.hid hhalf
    have hl1 : (lastB l).size ≤ 1000 := by
      unfold lastB
      rw [List.getLastD_eq_getLast?]
      cases hq : l.getLast? with
      | none => exact Nat.zero_le _
      | some x => exact hs x (List.mem_of_getLast? hq)
    have hs1 : ∀ s ∈ l.dropLast, s.size ≤ 1000 := fun s hx => by rw [List.dropLast_eq_take] at hx; exact hs s (List.mem_of_mem_take hx)
    have HL := Lib.hid hl1
    have HS1 := Lib.hid hs1
    obtain ⟨sh1, hsh1⟩ : ∃ b : Bool, (sh || decide ((lastB l).size = 0)) = b := ⟨_, rfl⟩
    rw [hsh1] at hup
    have HSH := Lib.hid hsh1
    have HU := Lib.hid hup
    clear hs hFX hPS hT hh hhalf hl1 hs1 hsh1 hup hcf
    go_enter Tryz.func33, Tryz.ntmps33
    go_wp2
    refine start_ (n := 6) (S := fun w' => w'.heap[bv]? = some (.cells #[.pointer (some ⟨bp, 0, none⟩)] 44 (0, 0))) (ds := []) #[false, false, false, false, false, false] (by kernel_rfl) rfl rfl HFX.out.v (fun hHeld => ?_)
    refine pure_ (i := 0) (N := some 13) (v := ?_) (a' := ?_) #[true, false, false, false, false, false] rfl rfl (by kernel_rfl) (fun _ _ _ h => h) (Or.inl ⟨by rfl, ?_⟩) ?_ ?_
    rotate_left
    · intro w'
      go_simp
      with_reducible rfl
    rotate_left
    · simp only [Act.put, List.setIfInBounds_toArray, List.set_cons_zero, List.set_cons_succ, i64_w, i32_w]
      rfl
    refine take_ (i := 2) (N := some 15) (v := ?_) (a' := ?_) #[true, false, true, false, false, false] rfl rfl (by kernel_rfl) (fun _ _ _ h => h) (Or.inl ⟨by rfl, ?_⟩) hHeld ?_ ?_
    rotate_left
    · intro w' s0
      have q0 := Lib.cell_of_heap s0 0
      simp only [List.getElem?_toArray, List.getElem?_cons_zero] at q0
      go_simp
      with_reducible rfl
    rotate_left
    · simp only [Act.put, List.setIfInBounds_toArray, List.set_cons_zero, List.set_cons_succ, i64_w, i32_w]
      rfl
    refine one_ (i := 1) (N := some 14) #[true, true, true, false, false, false] rfl rfl (by kernel_rfl) (by decide) (fun K hK => ?_)
    refine goes_ Tryz.func26 (by kernel_rfl) rfl #[.int .i64 (n : Int)] (by rfl) rfl rfl (by (try simp only [List.map_toArray, List.map_cons, List.map_nil]); first | done | rfl) ?_
    refine (HH.out _).mono ?_
    rintro e w' ⟨rfl, ⟨nd, rfl⟩⟩
    refine ⟨_, rfl, ?_⟩
    refine hK.out _ _ hHeld (fun hHeld => ?_)
    clear hK K
    refine norm_ (a' := ?_) ?_ ?_
    rotate_left
    · show Act.put _ (some 14) _ = _
      simp only [Act.put, List.setIfInBounds_toArray, List.set_cons_zero, List.set_cons_succ, i64_w, i32_w]
      rfl
    refine one_ (i := 3) (N := some 16) #[true, true, true, true, false, false] rfl rfl (by kernel_rfl) (by decide) (fun K hK => ?_)
    refine goes_ Tryz.func34 (by kernel_rfl) rfl #[.pointer (some ⟨bp, 0, none⟩)] (by rfl) rfl rfl (by (try simp only [List.map_toArray, List.map_cons, List.map_nil]); first | done | rfl) ?_
    refine (next_calls bl bp A c l sh _ (by repeat (first | exact HPS.out | apply PS.drew | apply PS.drewN))).mono ?_
    rintro e w1 ⟨rfl, hp1, he1⟩
    refine ⟨_, rfl, ?_⟩
    have HP1 := Lib.hid hp1
    have HE1 : Hid (Exc (fun i => i = bl ∨ i = bp) w w1) := Exc.trans (by repeat (first | exact Exc.refl _ _ | apply Exc.drew | apply Exc.drewN)) he1
    have HFX1 : Hid (FX bf bv bu bp leaf w1) := FX.exc HFX.out HPS.out HE1.out
    clear hp1 he1
    refine hK.out _ _ HFX1.out.v (fun hHeld => ?_)
    clear hK K
    refine norm_ (a' := ?_) ?_ ?_
    rotate_left
    · show Act.put _ (some 16) _ = _
      simp only [Act.put, List.setIfInBounds_toArray, List.set_cons_zero, List.set_cons_succ, i64_w, i32_w]
      rfl
    refine pure_ (i := 4) (N := some 8) (v := ?_) (a' := ?_) #[true, true, true, true, true, false] rfl rfl (by kernel_rfl) (fun _ _ _ h => h) (Or.inl ⟨by rfl, ?_⟩) ?_ ?_
    rotate_left
    · intro w'
      go_simp
      with_reducible rfl
    rotate_left
    · simp only [Act.put, List.setIfInBounds_toArray, List.set_cons_zero, List.set_cons_succ, i64_w, i32_w]
      rfl
    refine pure_ (i := 5) (N := some 9) (v := ?_) (a' := ?_) #[true, true, true, true, true, true] rfl rfl (by kernel_rfl) (fun _ _ _ h => h) (Or.inl ⟨by rfl, ?_⟩) ?_ ?_
    rotate_left
    · intro w'
      go_simp
      with_reducible rfl
    rotate_left
    · simp only [Act.put, List.setIfInBounds_toArray, List.set_cons_zero, List.set_cons_succ, i64_w, i32_w]
      rfl
    refine done_ (by kernel_rfl) ?_
    clear HH
    by_cases hih : i < h
    · have e1 : decide ((i : Int) < (h : Int)) = true := decide_eq_true (by omega)
      have hUv := HU.out
      rw [if_pos hih] at hUv
      have HUV := Lib.hid hUv
      have hcu := Lib.cell_of_heap HFX1.out.u 0
      simp only [List.getElem?_toArray, List.getElem?_cons_zero] at hcu
      have HP2 : Hid (PS bl bp A c l.dropLast sh1 w1) := by have := HP1.out; rw [HSH.out] at this; exact this
      have HIX : Hid (1 ≤ h ∧ h ≤ 1000000 ∧ h ≤ f ∧ i < h) := ⟨hge, by omega, by omega, hih⟩
      clear hUv
      go_wp2_with fail
      refine (ih h i l.dropLast sh1 _ HIX.out.1 HIX.out.2.1 HIX.out.2.2.1 HIX.out.2.2.2 HS1.out (by first | exact HFX1.out | exact HFX1.out) HP2.out (fun w' k => HT.out w' (HE1.out.trans k))).mono ?_
      rintro e w2 ⟨rfl, hp2, he2⟩
      have HE2 : Hid (Exc (fun i => i = bl ∨ i = bp) w w2) := HE1.out.trans he2
      have HP3 := Lib.hid hp2
      have hul := upTo_le f h i leaf l.dropLast sh1 hleaf
      obtain ⟨x, hx⟩ : ∃ x : ByteArray, (upTo f h i leaf l.dropLast sh1).1 = x := ⟨_, rfl⟩
      have HX := Lib.hid hx
      rw [hx] at hul ⊢
      have HUL := Lib.hid hul
      clear hp2 he2 hx hul hcu
      go_wp2_with fail
      refine (node_calls x (lastB l) HUL.out HL.out _ (HT.out _ HE2.out)).mono ?_
      rintro e w3 ⟨rfl, hb3⟩
      have HE3 : Hid (Exc (fun i => i = bl ∨ i = bp) w w3) := HE2.out.trans (Exc.of_below hb3)
      have HP4 : Hid (PS bl bp A c (upTo f h i leaf l.dropLast sh1).2.1 (upTo f h i leaf l.dropLast sh1).2.2 w3) := PS.below HP3.out hb3
      clear hb3
      go_wp2
      go_ret
      rw [HUV.out]
      dsimp only
      rw [HX.out]
      exact ⟨rfl, HP4.out, HE3.out⟩
    · have e1 : decide ((i : Int) < (h : Int)) = false := decide_eq_false (by omega)
      have hUv := HU.out
      rw [if_neg hih] at hUv
      obtain ⟨m, hm⟩ : ∃ m : Nat, n - h = m := ⟨_, rfl⟩
      obtain ⟨q, hq⟩ : ∃ q : Nat, i - h = q := ⟨_, rfl⟩
      rw [hm, hq] at hUv
      have HUV := Lib.hid hUv
      have hcu := Lib.cell_of_heap HFX1.out.u 0
      simp only [List.getElem?_toArray, List.getElem?_cons_zero] at hcu
      have HP2 : Hid (PS bl bp A c l.dropLast sh1 w1) := by have := HP1.out; rw [HSH.out] at this; exact this
      have HIX : Hid (1 ≤ m ∧ m ≤ 1000000 ∧ m ≤ f ∧ q < m) := ⟨by omega, by omega, by omega, by omega⟩
      have EN : Hid ((n : Int) - (h : Int) = (m : Int)) := by show _ = _; omega
      have EI : Hid ((i : Int) - (h : Int) = (q : Int)) := by show _ = _; omega
      have w1e : wrap64 ((n : Int) - (h : Int)) = (n : Int) - (h : Int) := by unfold wrap64; omega
      have w2e : wrap64 ((i : Int) - (h : Int)) = (i : Int) - (h : Int) := by unfold wrap64; omega
      clear hUv hm hq
      go_wp2_with fail
      rw [EN.out, EI.out]
      refine (ih m q l.dropLast sh1 _ HIX.out.1 HIX.out.2.1 HIX.out.2.2.1 HIX.out.2.2.2 HS1.out HFX1.out HP2.out (fun w' k => HT.out w' (HE1.out.trans k))).mono ?_
      rintro e w2 ⟨rfl, hp2, he2⟩
      have HE2 : Hid (Exc (fun i => i = bl ∨ i = bp) w w2) := HE1.out.trans he2
      have HP3 := Lib.hid hp2
      have hul := upTo_le f m q leaf l.dropLast sh1 hleaf
      obtain ⟨x, hx⟩ : ∃ x : ByteArray, (upTo f m q leaf l.dropLast sh1).1 = x := ⟨_, rfl⟩
      have HX := Lib.hid hx
      rw [hx] at hul ⊢
      have HUL := Lib.hid hul
      clear hp2 he2 hx hul hcu
      go_wp2_with fail
      refine (node_calls (lastB l) x HL.out HUL.out _ (HT.out _ HE2.out)).mono ?_
      rintro e w3 ⟨rfl, hb3⟩
      have HE3 : Hid (Exc (fun i => i = bl ∨ i = bp) w w3) := HE2.out.trans (Exc.of_below hb3)
      have HP4 : Hid (PS bl bp A c (upTo f m q leaf l.dropLast sh1).2.1 (upTo f m q leaf l.dropLast sh1).2.2 w3) := PS.below HP3.out hb3
      clear hb3
      go_wp2
      go_ret
      rw [HUV.out]
      dsimp only
      rw [HX.out]
      exact ⟨rfl, HP4.out, HE3.out⟩

end Go.Proofs.YtapnakfhkdcfeaaGreatDoor.Dg

set_option linter.unusedVariables false
set_option linter.unusedSimpArgs false
namespace Go.Proofs.YtapnakfhkdcfeaaGreatDoor.Dg
open Go.RowKit
open Go.Proofs.YtapnakfhkdcfeaaGreatDoorW.PrintWords Go.Proofs.YtapnakfhkdcfeaaGreatDoorW.PrintMore Go.Proofs.YtapnakfhkdcfeaaGreatDoorW.PrintLast
attribute [local irreducible] sumB

theorem LC.below {bl : Nat} {A : Option Addr} {c : Nat} {l : List ByteArray} {w w' : World} (h : LC bl A c l w) (k : Below w.heap.size w w') : LC bl A c l w' :=
  h.exc (X := fun _ => False) (Exc.of_below k) (fun h => h) (fun _ _ _ h => h)

/-- Whether the root of n elements comes out of a path, with exactly all of it used. -/
def upOk (root : ByteArray) (n i : Nat) (leaf : ByteArray) (l : List ByteArray) : Bool :=
  decide ((upTo n n i leaf l false).1 = root) && (!(upTo n n i leaf l false).2.2 && decide ((upTo n n i leaf l false).2.1.length = 0))
def checkB (root : ByteArray) (n i : Int) (leaf : ByteArray) (l : List ByteArray) : Bool :=
  if n > 1000000 then false else if i < 0 then false else if i ≥ n then false else if l.all isB = false then false else if isB leaf = false then false else upOk root n.toNat i.toNat leaf l

theorem isB_size {s : ByteArray} (h : isB s = true) : s.size = 16 := by
  unfold isB at h
  rw [Bool.and_eq_true] at h
  simpa using h.1
theorem check_world (w : World) (bl bf : Nat) (leaf : ByteArray) (A : Option Addr) (c : Nat) (l : List ByteArray) (hf : w.heap[bf]? = some (.cells #[.string leaf] 9 (0, 0))) (hl : LC bl A c l w) (f : FuncId) (hfid : f = 33) (W : World)
    (hW : W = ((w.alloc (.cells #[.pointer (some ⟨bl, 0, none⟩), .bool false] 47 (0, 0))).alloc (.cells #[.pointer (some ⟨w.heap.size, 0, none⟩)] 44 (0, 0))).alloc (.cells #[.func (.func f) #[] #[.pointer (some ⟨bf, 0, none⟩), .pointer (some ⟨w.heap.size + 1, 0, none⟩), .pointer (some ⟨w.heap.size + 1 + 1, 0, none⟩)]] 48 (0, 0))) :
    FX bf (w.heap.size + 1) (w.heap.size + 1 + 1) w.heap.size leaf W ∧ PS bl w.heap.size A c l false W ∧ Below w.heap.size w W := by
  subst hfid
  subst hW
  have sz : ∀ (v : World) (o : Obj), (v.alloc o).heap.size = v.heap.size + 1 := fun v o => by simp
  have b1 : ∀ (v : World) (o : Obj), Below v.heap.size v (v.alloc o) := fun v o => (Below.refl _ _).alloc (Nat.le_refl _) o
  have bb : ∀ (o1 o2 o3 : Obj), Below w.heap.size w (((w.alloc o1).alloc o2).alloc o3) := fun o1 o2 o3 =>
    ((b1 w o1).trans ((b1 _ o2).mono (by rw [sz]; omega))).trans ((b1 _ o3).mono (by rw [sz, sz]; omega))
  refine ⟨⟨?_, ?_, ?_⟩, ⟨hl.below (bb _ _ _), ?_⟩, bb _ _ _⟩
  · rw [(bb _ _ _).block _ (heap_lt hf)]; exact hf
  · rw [Below.heap_alloc _ _ _ (by rw [sz, sz]; omega), ← sz w (.cells #[.pointer (some ⟨bl, 0, none⟩), .bool false] 47 (0, 0))]; exact heap_alloc_new _ _
  · have := heap_alloc_new ((w.alloc (.cells #[.pointer (some ⟨bl, 0, none⟩), .bool false] 47 (0, 0))).alloc (.cells #[.pointer (some ⟨w.heap.size, 0, none⟩)] 44 (0, 0))) (.cells #[.func (.func 33) #[] #[.pointer (some ⟨bf, 0, none⟩), .pointer (some ⟨w.heap.size + 1, 0, none⟩), .pointer (some ⟨w.heap.size + 1 + 1, 0, none⟩)]] 48 (0, 0))
    rw [sz, sz] at this
    exact this
  · rw [Below.heap_alloc _ _ _ (by rw [sz, sz]; omega), Below.heap_alloc _ _ _ (by rw [sz]; omega)]; exact heap_alloc_new _ _

set_option maxHeartbeats 8000000 in
set_option maxRecDepth 100000 in
theorem check_calls (root : ByteArray) (n i : Int) (leaf : ByteArray) (A : Option Addr) (c : Nat) (l : List ByteArray) (w : World) (hr : Kd.C Kd.string w A l.length l) (hc : l.length ≤ c) (hl : l.length ≤ 1000000) (hT : Tabs w) :
    Calls Tryz.prog 15 #[.string root, .int .i64 n, .int .i64 i, .string leaf, .slice A l.length c] w fun e w' => e = .returned (.bool (checkB root n i leaf l)) ∧ Below w.heap.size w w' := by
  have HR := Lib.hid hr
  have HC := Lib.hid hc
  have HL := Lib.hid hl
  have HT := Lib.hid hT
  have HB1 : Hid (Below w.heap.size w (w.alloc (.cells #[.string leaf] 9 (0, 0)))) := (Below.refl _ _).alloc (Nat.le_refl _) _
  have HF1 : Hid ((w.alloc (.cells #[.string leaf] 9 (0, 0))).heap[w.heap.size]? = some (.cells #[.string leaf] 9 (0, 0))) := heap_alloc_new _ _
  clear hr hc hl hT
  by_cases g1 : n > 1000000
  · have e0 : checkB root n i leaf l = false := by unfold checkB; rw [if_pos g1]
    rw [e0]
    have f1 : decide (n > 1000000) = true := decide_eq_true g1
    go_enter Tryz.func15, Tryz.ntmps15
    go_wp2_with (first | (go_at_call 31; refine (clone_calls A c l _ (Kd.C_below HR.out HB1.out) HC.out HL.out).mono ?_; rintro e w2 ⟨A2, c2, rfl, hr2, hc2, hb2⟩; have HB2 : Hid (Below w.heap.size w w2) := HB1.out.trans (hb2.mono HB1.out.size); have HF2 : Hid (w2.heap[w.heap.size]? = some (.cells #[.string leaf] 9 (0, 0))) := (hb2.block _ (heap_lt HF1.out)).trans HF1.out; have HLC3 : Hid (LC w2.heap.size A2 c2 l (w2.alloc (.cells #[.slice A2 l.length c2] 37 (0, 0)))) := ⟨heap_alloc_new _ _, Kd.C_below hr2 ((Below.refl _ _).alloc (Nat.le_refl _) _), hc2⟩; have HB3 : Hid (Below w.heap.size w (w2.alloc (.cells #[.slice A2 l.length c2] 37 (0, 0)))) := HB2.out.alloc HB2.out.size _; have HF3 : Hid ((w2.alloc (.cells #[.slice A2 l.length c2] 37 (0, 0))).heap[w.heap.size]? = some (.cells #[.string leaf] 9 (0, 0))) := (Below.heap_alloc _ _ _ (heap_lt HF2.out)).trans HF2.out; clear hr2 hc2 hb2))
    go_ret
    exact ⟨rfl, HB3.out⟩
  have f1 : decide (n > 1000000) = false := decide_eq_false g1
  by_cases g2 : i < 0
  · have e0 : checkB root n i leaf l = false := by unfold checkB; rw [if_neg g1, if_pos g2]
    rw [e0]
    have f2 : decide (i < 0) = true := decide_eq_true g2
    go_enter Tryz.func15, Tryz.ntmps15
    go_wp2_with (first | (go_at_call 31; refine (clone_calls A c l _ (Kd.C_below HR.out HB1.out) HC.out HL.out).mono ?_; rintro e w2 ⟨A2, c2, rfl, hr2, hc2, hb2⟩; have HB2 : Hid (Below w.heap.size w w2) := HB1.out.trans (hb2.mono HB1.out.size); have HF2 : Hid (w2.heap[w.heap.size]? = some (.cells #[.string leaf] 9 (0, 0))) := (hb2.block _ (heap_lt HF1.out)).trans HF1.out; have HLC3 : Hid (LC w2.heap.size A2 c2 l (w2.alloc (.cells #[.slice A2 l.length c2] 37 (0, 0)))) := ⟨heap_alloc_new _ _, Kd.C_below hr2 ((Below.refl _ _).alloc (Nat.le_refl _) _), hc2⟩; have HB3 : Hid (Below w.heap.size w (w2.alloc (.cells #[.slice A2 l.length c2] 37 (0, 0)))) := HB2.out.alloc HB2.out.size _; have HF3 : Hid ((w2.alloc (.cells #[.slice A2 l.length c2] 37 (0, 0))).heap[w.heap.size]? = some (.cells #[.string leaf] 9 (0, 0))) := (Below.heap_alloc _ _ _ (heap_lt HF2.out)).trans HF2.out; clear hr2 hc2 hb2))
    go_ret
    exact ⟨rfl, HB3.out⟩
  have f2 : decide (i < 0) = false := decide_eq_false g2
  by_cases g3 : i ≥ n
  · have e0 : checkB root n i leaf l = false := by unfold checkB; rw [if_neg g1, if_neg g2, if_pos g3]
    rw [e0]
    have f3 : decide (i ≥ n) = true := decide_eq_true g3
    go_enter Tryz.func15, Tryz.ntmps15
    go_wp2_with (first | (go_at_call 31; refine (clone_calls A c l _ (Kd.C_below HR.out HB1.out) HC.out HL.out).mono ?_; rintro e w2 ⟨A2, c2, rfl, hr2, hc2, hb2⟩; have HB2 : Hid (Below w.heap.size w w2) := HB1.out.trans (hb2.mono HB1.out.size); have HF2 : Hid (w2.heap[w.heap.size]? = some (.cells #[.string leaf] 9 (0, 0))) := (hb2.block _ (heap_lt HF1.out)).trans HF1.out; have HLC3 : Hid (LC w2.heap.size A2 c2 l (w2.alloc (.cells #[.slice A2 l.length c2] 37 (0, 0)))) := ⟨heap_alloc_new _ _, Kd.C_below hr2 ((Below.refl _ _).alloc (Nat.le_refl _) _), hc2⟩; have HB3 : Hid (Below w.heap.size w (w2.alloc (.cells #[.slice A2 l.length c2] 37 (0, 0)))) := HB2.out.alloc HB2.out.size _; have HF3 : Hid ((w2.alloc (.cells #[.slice A2 l.length c2] 37 (0, 0))).heap[w.heap.size]? = some (.cells #[.string leaf] 9 (0, 0))) := (Below.heap_alloc _ _ _ (heap_lt HF2.out)).trans HF2.out; clear hr2 hc2 hb2))
    go_ret
    exact ⟨rfl, HB3.out⟩
  have f3 : decide (i ≥ n) = false := decide_eq_false g3
  obtain ⟨y, hy⟩ : ∃ y, l.all isB = y := ⟨_, rfl⟩
  cases y with
  | false =>
    have e0 : checkB root n i leaf l = false := by unfold checkB; rw [if_neg g1, if_neg g2, if_neg g3, if_pos hy]
    rw [e0]
    go_enter Tryz.func15, Tryz.ntmps15
    go_wp2_with (first | (go_at_call 31; refine (clone_calls A c l _ (Kd.C_below HR.out HB1.out) HC.out HL.out).mono ?_; rintro e w2 ⟨A2, c2, rfl, hr2, hc2, hb2⟩; have HB2 : Hid (Below w.heap.size w w2) := HB1.out.trans (hb2.mono HB1.out.size); have HF2 : Hid (w2.heap[w.heap.size]? = some (.cells #[.string leaf] 9 (0, 0))) := (hb2.block _ (heap_lt HF1.out)).trans HF1.out; have HLC3 : Hid (LC w2.heap.size A2 c2 l (w2.alloc (.cells #[.slice A2 l.length c2] 37 (0, 0)))) := ⟨heap_alloc_new _ _, Kd.C_below hr2 ((Below.refl _ _).alloc (Nat.le_refl _) _), hc2⟩; have HB3 : Hid (Below w.heap.size w (w2.alloc (.cells #[.slice A2 l.length c2] 37 (0, 0)))) := HB2.out.alloc HB2.out.size _; have HF3 : Hid ((w2.alloc (.cells #[.slice A2 l.length c2] 37 (0, 0))).heap[w.heap.size]? = some (.cells #[.string leaf] 9 (0, 0))) := (Below.heap_alloc _ _ _ (heap_lt HF2.out)).trans HF2.out; clear hr2 hc2 hb2) | (go_at_call 22; refine (proper_calls A2 c2 l _ HLC3.out.rd HLC3.out.cap).mono ?_; rw [hy]; rintro e w4 ⟨rfl, hb4⟩; have HB4 : Hid (Below w.heap.size w w4) := HB3.out.trans (hb4.mono HB3.out.size); have HF4 : Hid (w4.heap[w.heap.size]? = some (.cells #[.string leaf] 9 (0, 0))) := (hb4.block _ (heap_lt HF3.out)).trans HF3.out; have HLC4 : Hid (LC w2.heap.size A2 c2 l w4) := LC.below HLC3.out hb4; have hcf4 : w4.cell? ⟨w.heap.size, 0, none⟩ = some (.string leaf) := (Lib.cell_of_heap HF4.out 0).trans rfl; clear hb4))
    go_ret
    exact ⟨rfl, HB4.out⟩
  | true =>
  obtain ⟨z, hz⟩ : ∃ z, isB leaf = z := ⟨_, rfl⟩
  cases z with
  | false =>
    have e0 : checkB root n i leaf l = false := by unfold checkB; rw [if_neg g1, if_neg g2, if_neg g3, hy, if_neg (by decide), if_pos hz]
    rw [e0]
    go_enter Tryz.func15, Tryz.ntmps15
    go_wp2_with (first | (go_at_call 31; refine (clone_calls A c l _ (Kd.C_below HR.out HB1.out) HC.out HL.out).mono ?_; rintro e w2 ⟨A2, c2, rfl, hr2, hc2, hb2⟩; have HB2 : Hid (Below w.heap.size w w2) := HB1.out.trans (hb2.mono HB1.out.size); have HF2 : Hid (w2.heap[w.heap.size]? = some (.cells #[.string leaf] 9 (0, 0))) := (hb2.block _ (heap_lt HF1.out)).trans HF1.out; have HLC3 : Hid (LC w2.heap.size A2 c2 l (w2.alloc (.cells #[.slice A2 l.length c2] 37 (0, 0)))) := ⟨heap_alloc_new _ _, Kd.C_below hr2 ((Below.refl _ _).alloc (Nat.le_refl _) _), hc2⟩; have HB3 : Hid (Below w.heap.size w (w2.alloc (.cells #[.slice A2 l.length c2] 37 (0, 0)))) := HB2.out.alloc HB2.out.size _; have HF3 : Hid ((w2.alloc (.cells #[.slice A2 l.length c2] 37 (0, 0))).heap[w.heap.size]? = some (.cells #[.string leaf] 9 (0, 0))) := (Below.heap_alloc _ _ _ (heap_lt HF2.out)).trans HF2.out; clear hr2 hc2 hb2) | (go_at_call 22; refine (proper_calls A2 c2 l _ HLC3.out.rd HLC3.out.cap).mono ?_; rw [hy]; rintro e w4 ⟨rfl, hb4⟩; have HB4 : Hid (Below w.heap.size w w4) := HB3.out.trans (hb4.mono HB3.out.size); have HF4 : Hid (w4.heap[w.heap.size]? = some (.cells #[.string leaf] 9 (0, 0))) := (hb4.block _ (heap_lt HF3.out)).trans HF3.out; have HLC4 : Hid (LC w2.heap.size A2 c2 l w4) := LC.below HLC3.out hb4; have hcf4 : w4.cell? ⟨w.heap.size, 0, none⟩ = some (.string leaf) := (Lib.cell_of_heap HF4.out 0).trans rfl; clear hb4) | (go_at_call 32; refine (is_calls leaf _).mono ?_; rw [hz]; rintro e w5 ⟨rfl, hb5⟩; have HB5 : Hid (Below w.heap.size w w5) := HB4.out.trans (hb5.mono HB4.out.size); have HF5 : Hid (w5.heap[w.heap.size]? = some (.cells #[.string leaf] 9 (0, 0))) := (hb5.block _ (heap_lt HF4.out)).trans HF4.out; have HLC5 : Hid (LC w2.heap.size A2 c2 l w5) := LC.below HLC4.out hb5; have HBL : Hid (w.heap.size ≤ w2.heap.size) := HB2.out.size; clear hb5 hcf4))
    go_ret
    exact ⟨rfl, HB5.out⟩
  | true =>
  have e0 : checkB root n i leaf l = upOk root n.toNat i.toNat leaf l := by unfold checkB; rw [if_neg g1, if_neg g2, if_neg g3, hy, hz, if_neg (by decide), if_neg (by decide)]
  rw [e0]
  obtain ⟨N, rfl⟩ : ∃ N : Nat, n = (N : Int) := ⟨n.toNat, by omega⟩
  obtain ⟨I, rfl⟩ : ∃ I : Nat, i = (I : Int) := ⟨i.toNat, by omega⟩
  rw [Int.toNat_natCast, Int.toNat_natCast]
  have HN : Hid (1 ≤ N ∧ N ≤ 1000000 ∧ I < N) := ⟨by omega, by omega, by omega⟩
  have HS : Hid (leaf.size ≤ 1000 ∧ ∀ s ∈ l, s.size ≤ 1000) := ⟨by have := isB_size hz; omega, fun s hs => by have := isB_size (List.all_eq_true.1 hy s hs); omega⟩
  have f3n : decide (N ≤ I) = false := decide_eq_false (by omega)
  clear e0 g1 g2 g3
  go_enter Tryz.func15, Tryz.ntmps15
  go_wp2_with (first | (go_at_call 31; refine (clone_calls A c l _ (Kd.C_below HR.out HB1.out) HC.out HL.out).mono ?_; rintro e w2 ⟨A2, c2, rfl, hr2, hc2, hb2⟩; have HB2 : Hid (Below w.heap.size w w2) := HB1.out.trans (hb2.mono HB1.out.size); have HF2 : Hid (w2.heap[w.heap.size]? = some (.cells #[.string leaf] 9 (0, 0))) := (hb2.block _ (heap_lt HF1.out)).trans HF1.out; have HLC3 : Hid (LC w2.heap.size A2 c2 l (w2.alloc (.cells #[.slice A2 l.length c2] 37 (0, 0)))) := ⟨heap_alloc_new _ _, Kd.C_below hr2 ((Below.refl _ _).alloc (Nat.le_refl _) _), hc2⟩; have HB3 : Hid (Below w.heap.size w (w2.alloc (.cells #[.slice A2 l.length c2] 37 (0, 0)))) := HB2.out.alloc HB2.out.size _; have HF3 : Hid ((w2.alloc (.cells #[.slice A2 l.length c2] 37 (0, 0))).heap[w.heap.size]? = some (.cells #[.string leaf] 9 (0, 0))) := (Below.heap_alloc _ _ _ (heap_lt HF2.out)).trans HF2.out; clear hr2 hc2 hb2) | (go_at_call 22; refine (proper_calls A2 c2 l _ HLC3.out.rd HLC3.out.cap).mono ?_; rw [hy]; rintro e w4 ⟨rfl, hb4⟩; have HB4 : Hid (Below w.heap.size w w4) := HB3.out.trans (hb4.mono HB3.out.size); have HF4 : Hid (w4.heap[w.heap.size]? = some (.cells #[.string leaf] 9 (0, 0))) := (hb4.block _ (heap_lt HF3.out)).trans HF3.out; have HLC4 : Hid (LC w2.heap.size A2 c2 l w4) := LC.below HLC3.out hb4; have hcf4 : w4.cell? ⟨w.heap.size, 0, none⟩ = some (.string leaf) := (Lib.cell_of_heap HF4.out 0).trans rfl; clear hb4) | (go_at_call 32; refine (is_calls leaf _).mono ?_; rw [hz]; rintro e w5 ⟨rfl, hb5⟩; have HB5 : Hid (Below w.heap.size w w5) := HB4.out.trans (hb5.mono HB4.out.size); have HF5 : Hid (w5.heap[w.heap.size]? = some (.cells #[.string leaf] 9 (0, 0))) := (hb5.block _ (heap_lt HF4.out)).trans HF4.out; have HLC5 : Hid (LC w2.heap.size A2 c2 l w5) := LC.below HLC4.out hb5; have HBL : Hid (w.heap.size ≤ w2.heap.size) := HB2.out.size; clear hb5 hcf4))
  have hcw := check_world w5 w2.heap.size w.heap.size leaf A2 c2 l HF5.out HLC5.out 33 rfl _ rfl
  obtain ⟨hfx8, hps8, hb8⟩ := hcw
  have HB8 := Lib.hid (HB5.out.trans (hb8.mono HB5.out.size))
  have HX : Hid (∀ i, (i = w2.heap.size ∨ i = w5.heap.size) → w.heap.size ≤ i) := fun i hi => by
    rcases hi with rfl | rfl
    · exact HBL.out
    · exact HB5.out.size
  refine (up_calls w.heap.size (w5.heap.size + 1) (w5.heap.size + 1 + 1) w2.heap.size w5.heap.size leaf HS.out.1 A2 c2 N N I l false _ HN.out.1 HN.out.2.1 (Nat.le_refl _) HN.out.2.2 HS.out.2 hfx8 hps8 (fun w' k => HT.out.below (HB8.out.trans (k.below HB8.out.size HX.out)))).mono ?_
  rintro e w9 ⟨rfl, hp9, he9⟩
  have HB9 : Hid (Below w.heap.size w w9) := HB8.out.trans (he9.below HB8.out.size HX.out)
  have hfx9 := FX.exc hfx8 hps8 he9
  have hcv := (Lib.cell_of_heap hfx9.v 0).trans rfl
  have HOK : Hid (upOk root N I leaf l = (decide ((upTo N N I leaf l false).1 = root) && (!(upTo N N I leaf l false).2.2 && decide ((upTo N N I leaf l false).2.1.length = 0)))) := rfl
  obtain ⟨x, hx⟩ : ∃ x : ByteArray, (upTo N N I leaf l false).1 = x := ⟨_, rfl⟩
  obtain ⟨l9, hl9⟩ : ∃ x : List ByteArray, (upTo N N I leaf l false).2.1 = x := ⟨_, rfl⟩
  obtain ⟨s9, hs9⟩ : ∃ x : Bool, (upTo N N I leaf l false).2.2 = x := ⟨_, rfl⟩
  rw [hx, hl9, hs9] at HOK
  rw [hl9, hs9] at hp9
  rw [hx]
  have HP9 := Lib.hid hp9
  clear hfx8 hps8 hb8 hfx9 hp9 he9 hx hl9 hs9
  by_cases hxr : x = root
  · subst hxr
    go_wp2_with (go_at_call 36; refine (done_calls w2.heap.size w5.heap.size A2 c2 l9 s9 w9 HP9.out).mono ?_; rintro e w10 ⟨rfl, he10⟩; have HB10 : Hid (Below w.heap.size w w10) := HB9.out.trans (he10.below HB9.out.size (fun _ h => h.elim)); clear he10)
    go_ret
    refine ⟨?_, HB10.out⟩
    rw [HOK.out]
    show Ending.returned (Value.bool (!s9 && decide (l9 = []))) = _
    simp [List.length_eq_zero_iff]
  · have hne : ¬ x.toList = root.toList := fun e => hxr (by
      rw [ByteArray.toList_eq, ByteArray.toList_eq] at e
      cases x with | mk a => cases root with | mk b => cases a; cases b; simp only at e; rw [e])
    have hne2 : (x.toList == root.toList) = false := beq_eq_false_iff_ne.mpr hne
    have HNE : Hid (decide (x = root) = false) := decide_eq_false hxr
    clear hxr
    go_wp2
    go_ret
    exact ⟨by rw [HOK.out, HNE.out]; rfl, HB9.out⟩

def tree_Check.f (a0 : ByteArray) (a1 a2 : Int) (a3 : ByteArray) (l4 : List ByteArray) : Option Bool := if l4.length ≤ 1000000 then some (checkB a0 a1 a2 a3 l4) else none
theorem tree_Check.calls (a0 : ByteArray) (a1 a2 : Int) (a3 : ByteArray) (A4 : Option Addr) (c4 : Nat) (l4 : List ByteArray) (r : Bool) (w : World) (hr4 : Kd.C Kd.string w A4 l4.length l4) (hc4 : l4.length ≤ c4) (hT : Tabs w) (h : tree_Check.f a0 a1 a2 a3 l4 = some r) :
    Calls Tryz.prog 15 #[.string a0, .int .i64 a1, .int .i64 a2, .string a3, .slice A4 l4.length c4] w fun e w' => e = .returned (.bool r) ∧ Below w.heap.size w w' := by
  unfold tree_Check.f at h
  split at h
  · rename_i hs
    obtain rfl := Option.some.inj h
    exact check_calls a0 a1 a2 a3 A4 c4 l4 w hr4 hc4 hs hT
  · exact absurd h (by simp)

end Go.Proofs.YtapnakfhkdcfeaaGreatDoor.Dg

set_option linter.unusedVariables false
set_option linter.unusedSimpArgs false
namespace Go.Proofs.YtapnakfhkdcfeaaGreatDoor.Dg
open Go.RowKit
open Go.Proofs.YtapnakfhkdcfeaaGreatDoorW.PrintWords Go.Proofs.YtapnakfhkdcfeaaGreatDoorW.PrintMore Go.Proofs.YtapnakfhkdcfeaaGreatDoorW.PrintLast
attribute [local irreducible] sumB

/-- The roots of the first m and of all n elements, out of the old root and a link's end; what is left of the link, whether something was missing. -/
def bothTo : Nat → Nat → Nat → Bool → ByteArray → List ByteArray → Bool → ByteArray × ByteArray × List ByteArray × Bool
  | 0, _, _, _, old, l, sh => (old, old, l, sh)
  | f + 1, n, m, wh, old, l, sh =>
    if m = n then
      if wh = true then (old, old, l, sh) else (lastB l, lastB l, l.dropLast, sh || decide ((lastB l).size = 0))
    else if m ≤ halfN n then
      ((bothTo f (halfN n) m wh old l.dropLast (sh || decide ((lastB l).size = 0))).1, nodeB (bothTo f (halfN n) m wh old l.dropLast (sh || decide ((lastB l).size = 0))).2.1 (lastB l), (bothTo f (halfN n) m wh old l.dropLast (sh || decide ((lastB l).size = 0))).2.2)
    else
      (nodeB (lastB l) (bothTo f (n - halfN n) (m - halfN n) false old l.dropLast (sh || decide ((lastB l).size = 0))).1, nodeB (lastB l) (bothTo f (n - halfN n) (m - halfN n) false old l.dropLast (sh || decide ((lastB l).size = 0))).2.1, (bothTo f (n - halfN n) (m - halfN n) false old l.dropLast (sh || decide ((lastB l).size = 0))).2.2)
theorem lastB_le (l : List ByteArray) (hs : ∀ s ∈ l, s.size ≤ 1000) : (lastB l).size ≤ 1000 := by
  unfold lastB
  rw [List.getLastD_eq_getLast?]
  cases hq : l.getLast? with
  | none => exact Nat.zero_le _
  | some x => exact hs x (List.mem_of_getLast? hq)
theorem dropLast_le (l : List ByteArray) (hs : ∀ s ∈ l, s.size ≤ 1000) : ∀ s ∈ l.dropLast, s.size ≤ 1000 := fun s hx => by
  rw [List.dropLast_eq_take] at hx; exact hs s (List.mem_of_mem_take hx)
theorem bothTo_le : ∀ (f n m : Nat) (wh : Bool) (old : ByteArray) (l : List ByteArray) (sh : Bool), old.size ≤ 1000 → (∀ s ∈ l, s.size ≤ 1000) → (bothTo f n m wh old l sh).1.size ≤ 1000 ∧ (bothTo f n m wh old l sh).2.1.size ≤ 1000
  | 0, _, _, _, _, _, _, h, _ => ⟨h, h⟩
  | f + 1, n, m, wh, old, l, sh, h, hs => by
    unfold bothTo
    split
    · split
      · exact ⟨h, h⟩
      · exact ⟨lastB_le l hs, lastB_le l hs⟩
    · split
      · exact ⟨(bothTo_le f _ _ _ _ _ _ h (dropLast_le l hs)).1, by dsimp only; rw [nodeB_len]; omega⟩
      · exact ⟨by dsimp only; rw [nodeB_len]; omega, by dsimp only; rw [nodeB_len]; omega⟩

/-- The places of the closure. -/
structure FB (bf bv bu bp : Nat) (old : ByteArray) (w : World) : Prop where
  f : w.heap[bf]? = some (.cells #[.string old] 9 (0, 0))
  v : w.heap[bv]? = some (.cells #[.pointer (some ⟨bp, 0, none⟩)] 44 (0, 0))
  u : w.heap[bu]? = some (.cells #[.func (.func 40) #[] #[.pointer (some ⟨bf, 0, none⟩), .pointer (some ⟨bv, 0, none⟩), .pointer (some ⟨bu, 0, none⟩)]] 53 (0, 0))
theorem FB.exc {bf bv bu bp bl : Nat} {old : ByteArray} {A : Option Addr} {c : Nat} {l : List ByteArray} {sh : Bool} {w w' : World} (h : FB bf bv bu bp old w) (p : PS bl bp A c l sh w) (k : Exc (fun i => i = bl ∨ i = bp) w w') : FB bf bv bu bp old w' := by
  have nn : ∀ {b : Nat} {cs : Array Value} {t : TypeId}, w.heap[b]? = some (.cells cs t (0, 0)) → cs.size = 1 → (∀ A n c, cs ≠ #[Value.slice A n c]) → w'.heap[b]? = some (.cells cs t (0, 0)) := by
    intro b cs t hb h1 h2
    rw [k.block b (heap_lt hb) (fun hx => ?_)]
    · exact hb
    · rcases hx with e | e
      · subst e
        have := hb.symm.trans p.lc.at_
        simp only [Option.some.injEq, Obj.cells.injEq] at this
        exact h2 _ _ _ this.1
      · subst e
        have := hb.symm.trans p.pc
        simp only [Option.some.injEq, Obj.cells.injEq] at this
        rw [this.1] at h1
        exact absurd h1 (by simp)
  exact ⟨nn h.f rfl (by simp), nn h.v rfl (by simp), nn h.u rfl (by simp)⟩

set_option maxHeartbeats 8000000 in
set_option maxRecDepth 100000 in
theorem both_calls (bf bv bu bl bp : Nat) (old : ByteArray) (hold : old.size ≤ 1000) (A : Option Addr) (c : Nat) (f : Nat) : ∀ (n m : Nat) (wh : Bool) (l : List ByteArray) (sh : Bool) (w : World) (hm1 : 1 ≤ m) (hmn : m ≤ n) (hn : n ≤ 1000000) (hf : n ≤ f)
    (hs : ∀ s ∈ l, s.size ≤ 1000) (hFX : FB bf bv bu bp old w) (hPS : PS bl bp A c l sh w) (hT : ∀ w', Exc (fun i => i = bl ∨ i = bp) w w' → Tabs w'),
    Calls Tryz.prog 40 #[.int .i64 (n : Int), .int .i64 (m : Int), .bool wh, .pointer (some ⟨bf, 0, none⟩), .pointer (some ⟨bv, 0, none⟩), .pointer (some ⟨bu, 0, none⟩)] w
      fun e w' => e = .returned (.tuple #[.string (bothTo f n m wh old l sh).1, .string (bothTo f n m wh old l sh).2.1]) ∧ PS bl bp A c (bothTo f n m wh old l sh).2.2.1 (bothTo f n m wh old l sh).2.2.2 w' ∧ Exc (fun i => i = bl ∨ i = bp) w w' := by
  induction f with
  | zero => intro n m wh l sh w hm1 hmn hn hf; omega
  | succ f ih =>
    intro n m wh l sh w hm1 hmn hn hf hs hFX hPS hT
    have HFX := Lib.hid hFX
    have HPS := Lib.hid hPS
    have HT := Lib.hid hT
    have hcf := Lib.cell_of_heap hFX.f 0
    simp only [List.getElem?_toArray, List.getElem?_cons_zero] at hcf
    have hcv := Lib.cell_of_heap hFX.v 0
    simp only [List.getElem?_toArray, List.getElem?_cons_zero] at hcv
    by_cases one : m = n
    · subst one
      cases wh with
      | true =>
        have e1 : bothTo (f + 1) m m true old l sh = (old, old, l, sh) := by rw [bothTo, if_pos rfl, if_pos rfl]
        rw [e1]
        clear hs hFX hPS hT e1
        go_enter Tryz.func40, Tryz.ntmps40
        go_wp2
        go_region
        go_wp2
        go_ret2
        exact ⟨rfl, HPS.out.drew, (Exc.refl _ _).drew⟩
      | false =>
        have e1 : bothTo (f + 1) m m false old l sh = (lastB l, lastB l, l.dropLast, sh || decide ((lastB l).size = 0)) := by rw [bothTo, if_pos rfl, if_neg (by decide)]
        rw [e1]
        clear hs hFX hPS hT e1
        go_enter Tryz.func40, Tryz.ntmps40
        go_wp2_with fail
        refine (next_calls bl bp A c l sh _ HPS.out).mono ?_
        rintro e w1 ⟨rfl, hp1, he1⟩
        have HP1 := Lib.hid hp1
        have HE1 := Lib.hid he1
        clear hp1 he1
        go_wp2
        go_ret2
        exact ⟨rfl, HP1.out, HE1.out⟩
    have h2 : 2 ≤ n := by omega
    have c1 : ((m : Int) == (n : Int)) = false := beq_eq_false_iff_ne.mpr (by omega)
    have c2 : (m == n) = false := beq_eq_false_iff_ne.mpr one
    have c3 : decide (m = n) = false := decide_eq_false one
    have hlt := halfN_lt n h2
    have hge := halfN_ge n
    have hhalf := half_calls n hn
    have hup : bothTo (f + 1) n m wh old l sh = if m ≤ halfN n then
      ((bothTo f (halfN n) m wh old l.dropLast (sh || decide ((lastB l).size = 0))).1, nodeB (bothTo f (halfN n) m wh old l.dropLast (sh || decide ((lastB l).size = 0))).2.1 (lastB l), (bothTo f (halfN n) m wh old l.dropLast (sh || decide ((lastB l).size = 0))).2.2)
    else
      (nodeB (lastB l) (bothTo f (n - halfN n) (m - halfN n) false old l.dropLast (sh || decide ((lastB l).size = 0))).1, nodeB (lastB l) (bothTo f (n - halfN n) (m - halfN n) false old l.dropLast (sh || decide ((lastB l).size = 0))).2.1, (bothTo f (n - halfN n) (m - halfN n) false old l.dropLast (sh || decide ((lastB l).size = 0))).2.2) := by
      rw [bothTo, if_neg one]
    obtain ⟨h, hh⟩ : ∃ h : Nat, halfN n = h := ⟨_, rfl⟩
    rw [hh] at hlt hge hhalf hup
    have HH := Lib.hid hhalf
    have HL := Lib.hid (lastB_le l hs)
    have HS1 := Lib.hid (dropLast_le l hs)
    obtain ⟨sh1, hsh1⟩ : ∃ b : Bool, (sh || decide ((lastB l).size = 0)) = b := ⟨_, rfl⟩
    rw [hsh1] at hup
    have HSH := Lib.hid hsh1
    have HU := Lib.hid hup
    clear hs hFX hPS hT hh hhalf hsh1 hup hcf hcv
    go_enter Tryz.func40, Tryz.ntmps40
    go_wp2
    refine start_ (n := 6) (S := fun w' => w'.heap[bv]? = some (.cells #[.pointer (some ⟨bp, 0, none⟩)] 44 (0, 0))) (ds := []) #[false, false, false, false, false, false] (by kernel_rfl) rfl rfl HFX.out.v (fun hHeld => ?_)
    refine pure_ (i := 0) (N := some 35) (v := ?_) (a' := ?_) #[true, false, false, false, false, false] rfl rfl (by kernel_rfl) (fun _ _ _ h => h) (Or.inl ⟨by rfl, ?_⟩) ?_ ?_
    rotate_left
    · intro w'
      go_simp
      with_reducible rfl
    rotate_left
    · simp only [Act.put, List.setIfInBounds_toArray, List.set_cons_zero, List.set_cons_succ, i64_w, i32_w]
      rfl
    refine take_ (i := 2) (N := some 37) (v := ?_) (a' := ?_) #[true, false, true, false, false, false] rfl rfl (by kernel_rfl) (fun _ _ _ h => h) (Or.inl ⟨by rfl, ?_⟩) hHeld ?_ ?_
    rotate_left
    · intro w' s0
      have q0 := Lib.cell_of_heap s0 0
      simp only [List.getElem?_toArray, List.getElem?_cons_zero] at q0
      go_simp
      with_reducible rfl
    rotate_left
    · simp only [Act.put, List.setIfInBounds_toArray, List.set_cons_zero, List.set_cons_succ, i64_w, i32_w]
      rfl
    refine one_ (i := 1) (N := some 36) #[true, true, true, false, false, false] rfl rfl (by kernel_rfl) (by decide) (fun K hK => ?_)
    refine goes_ Tryz.func26 (by kernel_rfl) rfl #[.int .i64 (n : Int)] (by rfl) rfl rfl (by (try simp only [List.map_toArray, List.map_cons, List.map_nil]); first | done | rfl) ?_
    refine (HH.out _).mono ?_
    rintro e w' ⟨rfl, ⟨nd, rfl⟩⟩
    refine ⟨_, rfl, ?_⟩
    refine hK.out _ _ hHeld (fun hHeld => ?_)
    clear hK K
    refine norm_ (a' := ?_) ?_ ?_
    rotate_left
    · show Act.put _ (some 36) _ = _
      simp only [Act.put, List.setIfInBounds_toArray, List.set_cons_zero, List.set_cons_succ, i64_w, i32_w]
      rfl
    refine one_ (i := 3) (N := some 38) #[true, true, true, true, false, false] rfl rfl (by kernel_rfl) (by decide) (fun K hK => ?_)
    refine goes_ Tryz.func34 (by kernel_rfl) rfl #[.pointer (some ⟨bp, 0, none⟩)] (by rfl) rfl rfl (by (try simp only [List.map_toArray, List.map_cons, List.map_nil]); first | done | rfl) ?_
    refine (next_calls bl bp A c l sh _ (by repeat (first | exact HPS.out | apply PS.drew | apply PS.drewN))).mono ?_
    rintro e w1 ⟨rfl, hp1, he1⟩
    refine ⟨_, rfl, ?_⟩
    have HP1 := Lib.hid hp1
    have HE1 : Hid (Exc (fun i => i = bl ∨ i = bp) w w1) := Exc.trans (by repeat (first | exact Exc.refl _ _ | apply Exc.drew | apply Exc.drewN)) he1
    have HFX1 : Hid (FB bf bv bu bp old w1) := FB.exc HFX.out HPS.out HE1.out
    clear hp1 he1
    refine hK.out _ _ HFX1.out.v (fun hHeld => ?_)
    clear hK K
    refine norm_ (a' := ?_) ?_ ?_
    rotate_left
    · show Act.put _ (some 38) _ = _
      simp only [Act.put, List.setIfInBounds_toArray, List.set_cons_zero, List.set_cons_succ, i64_w, i32_w]
      rfl
    refine pure_ (i := 4) (N := some 12) (v := ?_) (a' := ?_) #[true, true, true, true, true, false] rfl rfl (by kernel_rfl) (fun _ _ _ h => h) (Or.inl ⟨by rfl, ?_⟩) ?_ ?_
    rotate_left
    · intro w'
      go_simp
      with_reducible rfl
    rotate_left
    · simp only [Act.put, List.setIfInBounds_toArray, List.set_cons_zero, List.set_cons_succ, i64_w, i32_w]
      rfl
    refine pure_ (i := 5) (N := some 13) (v := ?_) (a' := ?_) #[true, true, true, true, true, true] rfl rfl (by kernel_rfl) (fun _ _ _ h => h) (Or.inl ⟨by rfl, ?_⟩) ?_ ?_
    rotate_left
    · intro w'
      go_simp
      with_reducible rfl
    rotate_left
    · simp only [Act.put, List.setIfInBounds_toArray, List.set_cons_zero, List.set_cons_succ, i64_w, i32_w]
      rfl
    refine done_ (by kernel_rfl) ?_
    clear HH
    by_cases hih : m ≤ h
    · have e1 : decide ((m : Int) ≤ (h : Int)) = true := decide_eq_true (by omega)
      have e2 : decide (m ≤ h) = true := decide_eq_true (by omega)
      have hUv := HU.out
      rw [if_pos hih] at hUv
      have HUV := Lib.hid hUv
      have hcu := Lib.cell_of_heap HFX1.out.u 0
      simp only [List.getElem?_toArray, List.getElem?_cons_zero] at hcu
      have HP2 : Hid (PS bl bp A c l.dropLast sh1 w1) := by have := HP1.out; rw [HSH.out] at this; exact this
      have HIX : Hid (1 ≤ m ∧ m ≤ h ∧ h ≤ 1000000 ∧ h ≤ f) := ⟨by omega, by omega, by omega, by omega⟩
      clear hUv
      go_wp2_with fail
      refine (ih h m wh l.dropLast sh1 _ HIX.out.1 HIX.out.2.1 HIX.out.2.2.1 HIX.out.2.2.2 HS1.out HFX1.out HP2.out (fun w' k => HT.out w' (HE1.out.trans k))).mono ?_
      rintro e w2 ⟨rfl, hp2, he2⟩
      have HE2 : Hid (Exc (fun i => i = bl ∨ i = bp) w w2) := HE1.out.trans he2
      have HP3 := Lib.hid hp2
      have hul := bothTo_le f h m wh old l.dropLast sh1 hold HS1.out
      obtain ⟨x, hx⟩ : ∃ x : ByteArray, (bothTo f h m wh old l.dropLast sh1).1 = x := ⟨_, rfl⟩
      obtain ⟨y, hy⟩ : ∃ y : ByteArray, (bothTo f h m wh old l.dropLast sh1).2.1 = y := ⟨_, rfl⟩
      have HX := Lib.hid hx
      have HY := Lib.hid hy
      rw [hx, hy] at hul
      rw [hx, hy]
      have HUL := Lib.hid hul
      clear hp2 he2 hx hy hul hcu
      go_wp2_with fail
      refine (node_calls y (lastB l) HUL.out.2 HL.out _ (HT.out _ HE2.out)).mono ?_
      rintro e w3 ⟨rfl, hb3⟩
      have HE3 : Hid (Exc (fun i => i = bl ∨ i = bp) w w3) := HE2.out.trans (Exc.of_below hb3)
      have HP4 : Hid (PS bl bp A c (bothTo f h m wh old l.dropLast sh1).2.2.1 (bothTo f h m wh old l.dropLast sh1).2.2.2 w3) := PS.below HP3.out hb3
      clear hb3
      go_wp2
      go_ret2
      rw [HUV.out]
      dsimp only
      rw [HX.out, HY.out]
      exact ⟨rfl, HP4.out, HE3.out⟩
    · have e1 : decide ((m : Int) ≤ (h : Int)) = false := decide_eq_false (by omega)
      have e2 : decide (m ≤ h) = false := decide_eq_false (by omega)
      have hUv := HU.out
      rw [if_neg hih] at hUv
      obtain ⟨n1, hn1'⟩ : ∃ q : Nat, n - h = q := ⟨_, rfl⟩
      obtain ⟨m1, hm1'⟩ : ∃ q : Nat, m - h = q := ⟨_, rfl⟩
      rw [hn1', hm1'] at hUv
      have EN : Hid ((n : Int) - (h : Int) = (n1 : Int)) := by show _ = _; omega
      have EI : Hid ((m : Int) - (h : Int) = (m1 : Int)) := by show _ = _; omega
      have w1e : wrap64 ((n : Int) - (h : Int)) = (n : Int) - (h : Int) := by unfold wrap64; omega
      have w2e : wrap64 ((m : Int) - (h : Int)) = (m : Int) - (h : Int) := by unfold wrap64; omega
      have HUV := Lib.hid hUv
      have hcu := Lib.cell_of_heap HFX1.out.u 0
      simp only [List.getElem?_toArray, List.getElem?_cons_zero] at hcu
      have HP2 : Hid (PS bl bp A c l.dropLast sh1 w1) := by have := HP1.out; rw [HSH.out] at this; exact this
      have HIX : Hid (1 ≤ m1 ∧ m1 ≤ n1 ∧ n1 ≤ 1000000 ∧ n1 ≤ f) := ⟨by omega, by omega, by omega, by omega⟩
      clear hUv hn1' hm1'
      go_wp2_with fail
      rw [EN.out, EI.out]
      refine (ih n1 m1 false l.dropLast sh1 _ HIX.out.1 HIX.out.2.1 HIX.out.2.2.1 HIX.out.2.2.2 HS1.out HFX1.out HP2.out (fun w' k => HT.out w' (HE1.out.trans k))).mono ?_
      rintro e w2 ⟨rfl, hp2, he2⟩
      have HE2 : Hid (Exc (fun i => i = bl ∨ i = bp) w w2) := HE1.out.trans he2
      have HP3 := Lib.hid hp2
      have hul := bothTo_le f n1 m1 false old l.dropLast sh1 hold HS1.out
      obtain ⟨x, hx⟩ : ∃ x : ByteArray, (bothTo f n1 m1 false old l.dropLast sh1).1 = x := ⟨_, rfl⟩
      obtain ⟨y, hy⟩ : ∃ y : ByteArray, (bothTo f n1 m1 false old l.dropLast sh1).2.1 = y := ⟨_, rfl⟩
      have HX := Lib.hid hx
      have HY := Lib.hid hy
      rw [hx, hy] at hul
      rw [hx, hy]
      have HUL := Lib.hid hul
      clear hp2 he2 hx hy hul hcu
      go_wp2_with fail
      refine (node_calls (lastB l) x HL.out HUL.out.1 _ (HT.out _ HE2.out)).mono ?_
      rintro e w3 ⟨rfl, hb3⟩
      have HE2b : Hid (Exc (fun i => i = bl ∨ i = bp) w w3) := HE2.out.trans (Exc.of_below hb3)
      have HP3b : Hid (PS bl bp A c (bothTo f n1 m1 false old l.dropLast sh1).2.2.1 (bothTo f n1 m1 false old l.dropLast sh1).2.2.2 w3) := PS.below HP3.out hb3
      clear hb3
      go_wp2_with fail
      refine (node_calls (lastB l) y HL.out HUL.out.2 _ (HT.out _ HE2b.out)).mono ?_
      rintro e w4 ⟨rfl, hb4⟩
      have HE3 : Hid (Exc (fun i => i = bl ∨ i = bp) w w4) := HE2b.out.trans (Exc.of_below hb4)
      have HP4 : Hid (PS bl bp A c (bothTo f n1 m1 false old l.dropLast sh1).2.2.1 (bothTo f n1 m1 false old l.dropLast sh1).2.2.2 w4) := PS.below HP3b.out hb4
      clear hb4
      go_wp2
      go_ret2
      rw [HUV.out]
      dsimp only
      rw [HX.out, HY.out]
      exact ⟨rfl, HP4.out, HE3.out⟩

end Go.Proofs.YtapnakfhkdcfeaaGreatDoor.Dg

set_option linter.unusedVariables false
set_option linter.unusedSimpArgs false
namespace Go.Proofs.YtapnakfhkdcfeaaGreatDoor.Dg
open Go.RowKit
open Go.Proofs.YtapnakfhkdcfeaaGreatDoorW.PrintWords Go.Proofs.YtapnakfhkdcfeaaGreatDoorW.PrintMore Go.Proofs.YtapnakfhkdcfeaaGreatDoorW.PrintLast
attribute [local irreducible] sumB

/-- Whether both roots come out of a link, with exactly all of it used. -/
def bothOk (old : ByteArray) (m : Nat) (root : ByteArray) (n : Nat) (l : List ByteArray) : Bool :=
  decide ((bothTo n n m true old l false).1 = old) && (decide ((bothTo n n m true old l false).2.1 = root) && (!(bothTo n n m true old l false).2.2.2 && decide ((bothTo n n m true old l false).2.2.1.length = 0)))
def extB (old : ByteArray) (m : Int) (root : ByteArray) (n : Int) (l : List ByteArray) : Bool :=
  if m < 0 then false else if m > n then false else if n > 1000000 then false else if l.all isB = false then false else if (isB old && isB root) = false then false else
  if m = 0 then decide (l.length = 0) && (decide (old = emptyB) && (decide (n > 0) || decide (root = old))) else bothOk old m.toNat root n.toNat l

theorem toList_inj {s t : ByteArray} (e : s.toList = t.toList) : s = t := by
  rw [ByteArray.toList_eq, ByteArray.toList_eq] at e
  cases s with | mk a => cases t with | mk b => cases a; cases b; simp only at e; rw [e]
theorem ext_world (w : World) (bl bf : Nat) (old : ByteArray) (A : Option Addr) (c : Nat) (l : List ByteArray) (hf : w.heap[bf]? = some (.cells #[.string old] 9 (0, 0))) (hl : LC bl A c l w) (f : FuncId) (hfid : f = 40) (W : World)
    (hW : W = ((w.alloc (.cells #[.pointer (some ⟨bl, 0, none⟩), .bool false] 47 (0, 0))).alloc (.cells #[.pointer (some ⟨w.heap.size, 0, none⟩)] 44 (0, 0))).alloc (.cells #[.func (.func f) #[] #[.pointer (some ⟨bf, 0, none⟩), .pointer (some ⟨w.heap.size + 1, 0, none⟩), .pointer (some ⟨w.heap.size + 1 + 1, 0, none⟩)]] 53 (0, 0))) :
    FB bf (w.heap.size + 1) (w.heap.size + 1 + 1) w.heap.size old W ∧ PS bl w.heap.size A c l false W ∧ Below w.heap.size w W := by
  subst hfid
  subst hW
  have sz : ∀ (v : World) (o : Obj), (v.alloc o).heap.size = v.heap.size + 1 := fun v o => by simp
  have b1 : ∀ (v : World) (o : Obj), Below v.heap.size v (v.alloc o) := fun v o => (Below.refl _ _).alloc (Nat.le_refl _) o
  have bb : ∀ (o1 o2 o3 : Obj), Below w.heap.size w (((w.alloc o1).alloc o2).alloc o3) := fun o1 o2 o3 =>
    ((b1 w o1).trans ((b1 _ o2).mono (by rw [sz]; omega))).trans ((b1 _ o3).mono (by rw [sz, sz]; omega))
  refine ⟨⟨?_, ?_, ?_⟩, ⟨hl.below (bb _ _ _), ?_⟩, bb _ _ _⟩
  · rw [(bb _ _ _).block _ (heap_lt hf)]; exact hf
  · rw [Below.heap_alloc _ _ _ (by rw [sz, sz]; omega), ← sz w (.cells #[.pointer (some ⟨bl, 0, none⟩), .bool false] 47 (0, 0))]; exact heap_alloc_new _ _
  · have := heap_alloc_new ((w.alloc (.cells #[.pointer (some ⟨bl, 0, none⟩), .bool false] 47 (0, 0))).alloc (.cells #[.pointer (some ⟨w.heap.size, 0, none⟩)] 44 (0, 0))) (.cells #[.func (.func 40) #[] #[.pointer (some ⟨bf, 0, none⟩), .pointer (some ⟨w.heap.size + 1, 0, none⟩), .pointer (some ⟨w.heap.size + 1 + 1, 0, none⟩)]] 53 (0, 0))
    rw [sz, sz] at this
    exact this
  · rw [Below.heap_alloc _ _ _ (by rw [sz, sz]; omega), Below.heap_alloc _ _ _ (by rw [sz]; omega)]; exact heap_alloc_new _ _

set_option maxHeartbeats 8000000 in
set_option maxRecDepth 100000 in
theorem extends_calls (old : ByteArray) (m : Int) (root : ByteArray) (n : Int) (A : Option Addr) (c : Nat) (l : List ByteArray) (w : World) (hr : Kd.C Kd.string w A l.length l) (hc : l.length ≤ c) (hl : l.length ≤ 1000000) (hT : Tabs w) :
    Calls Tryz.prog 17 #[.string old, .int .i64 m, .string root, .int .i64 n, .slice A l.length c] w fun e w' => e = .returned (.bool (extB old m root n l)) ∧ Below w.heap.size w w' := by
  have HR := Lib.hid hr
  have HC := Lib.hid hc
  have HL := Lib.hid hl
  have HT := Lib.hid hT
  have HB1 : Hid (Below w.heap.size w (w.alloc (.cells #[.string old] 9 (0, 0)))) := (Below.refl _ _).alloc (Nat.le_refl _) _
  have HF1 : Hid ((w.alloc (.cells #[.string old] 9 (0, 0))).heap[w.heap.size]? = some (.cells #[.string old] 9 (0, 0))) := heap_alloc_new _ _
  clear hr hc hl hT
  by_cases g1 : m < 0
  · have e0 : extB old m root n l = false := by unfold extB; rw [if_pos g1]
    rw [e0]
    have f1 : decide (m < 0) = true := decide_eq_true g1
    go_enter Tryz.func17, Tryz.ntmps17
    go_wp2_with (first | (go_at_call 31; refine (clone_calls A c l _ (Kd.C_below HR.out HB1.out) HC.out HL.out).mono ?_; rintro e w2 ⟨A2, c2, rfl, hr2, hc2, hb2⟩; have HB2 : Hid (Below w.heap.size w w2) := HB1.out.trans (hb2.mono HB1.out.size); have HF2 : Hid (w2.heap[w.heap.size]? = some (.cells #[.string old] 9 (0, 0))) := (hb2.block _ (heap_lt HF1.out)).trans HF1.out; have HLC3 : Hid (LC w2.heap.size A2 c2 l (w2.alloc (.cells #[.slice A2 l.length c2] 37 (0, 0)))) := ⟨heap_alloc_new _ _, Kd.C_below hr2 ((Below.refl _ _).alloc (Nat.le_refl _) _), hc2⟩; have HB3 : Hid (Below w.heap.size w (w2.alloc (.cells #[.slice A2 l.length c2] 37 (0, 0)))) := HB2.out.alloc HB2.out.size _; have HF3 : Hid ((w2.alloc (.cells #[.slice A2 l.length c2] 37 (0, 0))).heap[w.heap.size]? = some (.cells #[.string old] 9 (0, 0))) := (Below.heap_alloc _ _ _ (heap_lt HF2.out)).trans HF2.out; clear hr2 hc2 hb2))
    go_ret
    exact ⟨rfl, HB3.out⟩
  have f1 : decide (m < 0) = false := decide_eq_false g1
  by_cases g2 : m > n
  · have e0 : extB old m root n l = false := by unfold extB; rw [if_neg g1, if_pos g2]
    rw [e0]
    have f2 : decide (m > n) = true := decide_eq_true g2
    go_enter Tryz.func17, Tryz.ntmps17
    go_wp2_with (first | (go_at_call 31; refine (clone_calls A c l _ (Kd.C_below HR.out HB1.out) HC.out HL.out).mono ?_; rintro e w2 ⟨A2, c2, rfl, hr2, hc2, hb2⟩; have HB2 : Hid (Below w.heap.size w w2) := HB1.out.trans (hb2.mono HB1.out.size); have HF2 : Hid (w2.heap[w.heap.size]? = some (.cells #[.string old] 9 (0, 0))) := (hb2.block _ (heap_lt HF1.out)).trans HF1.out; have HLC3 : Hid (LC w2.heap.size A2 c2 l (w2.alloc (.cells #[.slice A2 l.length c2] 37 (0, 0)))) := ⟨heap_alloc_new _ _, Kd.C_below hr2 ((Below.refl _ _).alloc (Nat.le_refl _) _), hc2⟩; have HB3 : Hid (Below w.heap.size w (w2.alloc (.cells #[.slice A2 l.length c2] 37 (0, 0)))) := HB2.out.alloc HB2.out.size _; have HF3 : Hid ((w2.alloc (.cells #[.slice A2 l.length c2] 37 (0, 0))).heap[w.heap.size]? = some (.cells #[.string old] 9 (0, 0))) := (Below.heap_alloc _ _ _ (heap_lt HF2.out)).trans HF2.out; clear hr2 hc2 hb2))
    go_ret
    exact ⟨rfl, HB3.out⟩
  have f2 : decide (m > n) = false := decide_eq_false g2
  by_cases g3 : n > 1000000
  · have e0 : extB old m root n l = false := by unfold extB; rw [if_neg g1, if_neg g2, if_pos g3]
    rw [e0]
    have f3 : decide (n > 1000000) = true := decide_eq_true g3
    go_enter Tryz.func17, Tryz.ntmps17
    go_wp2_with (first | (go_at_call 31; refine (clone_calls A c l _ (Kd.C_below HR.out HB1.out) HC.out HL.out).mono ?_; rintro e w2 ⟨A2, c2, rfl, hr2, hc2, hb2⟩; have HB2 : Hid (Below w.heap.size w w2) := HB1.out.trans (hb2.mono HB1.out.size); have HF2 : Hid (w2.heap[w.heap.size]? = some (.cells #[.string old] 9 (0, 0))) := (hb2.block _ (heap_lt HF1.out)).trans HF1.out; have HLC3 : Hid (LC w2.heap.size A2 c2 l (w2.alloc (.cells #[.slice A2 l.length c2] 37 (0, 0)))) := ⟨heap_alloc_new _ _, Kd.C_below hr2 ((Below.refl _ _).alloc (Nat.le_refl _) _), hc2⟩; have HB3 : Hid (Below w.heap.size w (w2.alloc (.cells #[.slice A2 l.length c2] 37 (0, 0)))) := HB2.out.alloc HB2.out.size _; have HF3 : Hid ((w2.alloc (.cells #[.slice A2 l.length c2] 37 (0, 0))).heap[w.heap.size]? = some (.cells #[.string old] 9 (0, 0))) := (Below.heap_alloc _ _ _ (heap_lt HF2.out)).trans HF2.out; clear hr2 hc2 hb2))
    go_ret
    exact ⟨rfl, HB3.out⟩
  have f3 : decide (n > 1000000) = false := decide_eq_false g3
  obtain ⟨y, hy⟩ : ∃ y, l.all isB = y := ⟨_, rfl⟩
  cases y with
  | false =>
    have e0 : extB old m root n l = false := by unfold extB; rw [if_neg g1, if_neg g2, if_neg g3, if_pos hy]
    rw [e0]
    go_enter Tryz.func17, Tryz.ntmps17
    go_wp2_with (first | (go_at_call 31; refine (clone_calls A c l _ (Kd.C_below HR.out HB1.out) HC.out HL.out).mono ?_; rintro e w2 ⟨A2, c2, rfl, hr2, hc2, hb2⟩; have HB2 : Hid (Below w.heap.size w w2) := HB1.out.trans (hb2.mono HB1.out.size); have HF2 : Hid (w2.heap[w.heap.size]? = some (.cells #[.string old] 9 (0, 0))) := (hb2.block _ (heap_lt HF1.out)).trans HF1.out; have HLC3 : Hid (LC w2.heap.size A2 c2 l (w2.alloc (.cells #[.slice A2 l.length c2] 37 (0, 0)))) := ⟨heap_alloc_new _ _, Kd.C_below hr2 ((Below.refl _ _).alloc (Nat.le_refl _) _), hc2⟩; have HB3 : Hid (Below w.heap.size w (w2.alloc (.cells #[.slice A2 l.length c2] 37 (0, 0)))) := HB2.out.alloc HB2.out.size _; have HF3 : Hid ((w2.alloc (.cells #[.slice A2 l.length c2] 37 (0, 0))).heap[w.heap.size]? = some (.cells #[.string old] 9 (0, 0))) := (Below.heap_alloc _ _ _ (heap_lt HF2.out)).trans HF2.out; clear hr2 hc2 hb2) | (go_at_call 22; refine (proper_calls A2 c2 l _ HLC3.out.rd HLC3.out.cap).mono ?_; rw [hy]; rintro e w4 ⟨rfl, hb4⟩; have HB4 : Hid (Below w.heap.size w w4) := HB3.out.trans (hb4.mono HB3.out.size); have HF4 : Hid (w4.heap[w.heap.size]? = some (.cells #[.string old] 9 (0, 0))) := (hb4.block _ (heap_lt HF3.out)).trans HF3.out; have HLC4 : Hid (LC w2.heap.size A2 c2 l w4) := LC.below HLC3.out hb4; have hcf4 : w4.cell? ⟨w.heap.size, 0, none⟩ = some (.string old) := (Lib.cell_of_heap HF4.out 0).trans rfl; clear hb4))
    go_ret
    exact ⟨rfl, HB4.out⟩
  | true =>
  obtain ⟨z, hz⟩ : ∃ z, (isB old && isB root) = z := ⟨_, rfl⟩
  have hp2 : ∀ (W : World) (b : Nat), W.heap[b]? = some (.cells #[.string old, .string root] 9 (0, 0)) → Calls Tryz.prog 22 #[.slice (some ⟨b, 0, none⟩) 2 2] W fun e w' => e = .returned (.bool z) ∧ Below W.heap.size W w' := by
    intro W b hb
    have hC : Kd.C Kd.string W (some ⟨b, 0, none⟩) [old, root].length [old, root] := Kd.C_of_reads (d := ByteArray.empty) ⟨rfl, by simp, fun _ => ⟨_, rfl, fun j hj => by
      match j, hj with
      | 0, _ => exact (Lib.cell_of_heap hb 0).trans rfl
      | 1, _ => exact (Lib.cell_of_heap hb 1).trans rfl⟩⟩
    refine (proper_calls (some ⟨b, 0, none⟩) 2 [old, root] W hC (Nat.le_refl _)).mono ?_
    rintro e w' ⟨rfl, hb'⟩
    exact ⟨by rw [← hz]; simp, hb'⟩
  have HP2 := Lib.hid hp2
  clear hp2
  cases z with
  | false =>
    have e0 : extB old m root n l = false := by unfold extB; rw [if_neg g1, if_neg g2, if_neg g3, hy, if_neg (by decide), if_pos hz]
    rw [e0]
    go_enter Tryz.func17, Tryz.ntmps17
    go_wp2_with (first | (go_at_call 31; refine (clone_calls A c l _ (Kd.C_below HR.out HB1.out) HC.out HL.out).mono ?_; rintro e w2 ⟨A2, c2, rfl, hr2, hc2, hb2⟩; have HB2 : Hid (Below w.heap.size w w2) := HB1.out.trans (hb2.mono HB1.out.size); have HF2 : Hid (w2.heap[w.heap.size]? = some (.cells #[.string old] 9 (0, 0))) := (hb2.block _ (heap_lt HF1.out)).trans HF1.out; have HLC3 : Hid (LC w2.heap.size A2 c2 l (w2.alloc (.cells #[.slice A2 l.length c2] 37 (0, 0)))) := ⟨heap_alloc_new _ _, Kd.C_below hr2 ((Below.refl _ _).alloc (Nat.le_refl _) _), hc2⟩; have HB3 : Hid (Below w.heap.size w (w2.alloc (.cells #[.slice A2 l.length c2] 37 (0, 0)))) := HB2.out.alloc HB2.out.size _; have HF3 : Hid ((w2.alloc (.cells #[.slice A2 l.length c2] 37 (0, 0))).heap[w.heap.size]? = some (.cells #[.string old] 9 (0, 0))) := (Below.heap_alloc _ _ _ (heap_lt HF2.out)).trans HF2.out; clear hr2 hc2 hb2) | (go_at_call 22; refine (proper_calls A2 c2 l _ HLC3.out.rd HLC3.out.cap).mono ?_; rw [hy]; rintro e w4 ⟨rfl, hb4⟩; have HB4 : Hid (Below w.heap.size w w4) := HB3.out.trans (hb4.mono HB3.out.size); have HF4 : Hid (w4.heap[w.heap.size]? = some (.cells #[.string old] 9 (0, 0))) := (hb4.block _ (heap_lt HF3.out)).trans HF3.out; have HLC4 : Hid (LC w2.heap.size A2 c2 l w4) := LC.below HLC3.out hb4; have hcf4 : w4.cell? ⟨w.heap.size, 0, none⟩ = some (.string old) := (Lib.cell_of_heap HF4.out 0).trans rfl; clear hb4) | (go_at_call 22; refine (HP2.out _ _ (heap_alloc_new w4 _)).mono ?_; rintro e w5 ⟨rfl, hb5⟩; have HBa : Hid (Below w4.heap.size w4 w5) := ((Below.refl _ _).alloc (Nat.le_refl _) _).trans (hb5.mono ((Below.refl w4.heap.size w4).alloc (Nat.le_refl _) _).size); have HB5 : Hid (Below w.heap.size w w5) := HB4.out.trans (HBa.out.mono HB4.out.size); have HF5 : Hid (w5.heap[w.heap.size]? = some (.cells #[.string old] 9 (0, 0))) := (HBa.out.block _ (heap_lt HF4.out)).trans HF4.out; have HLC5 : Hid (LC w2.heap.size A2 c2 l w5) := LC.below HLC4.out HBa.out; have HBL : Hid (w.heap.size ≤ w2.heap.size) := HB2.out.size; have hcf5 : w5.cell? ⟨w.heap.size, 0, none⟩ = some (.string old) := (Lib.cell_of_heap HF5.out 0).trans rfl; clear hb5 hcf4))
    go_ret
    exact ⟨rfl, HB5.out⟩
  | true =>
  have hzz : isB old = true ∧ isB root = true := by rw [Bool.and_eq_true] at hz; exact hz
  by_cases g4 : m = 0
  · subst g4
    have e0 : extB old 0 root n l = (decide (l.length = 0) && (decide (old = emptyB) && (decide (n > 0) || decide (root = old)))) := by unfold extB; rw [if_neg g1, if_neg g2, if_neg g3, hy, hz, if_neg (by decide), if_neg (by decide), if_pos rfl]
    rw [e0]
    clear e0 hzz
    by_cases g5 : l.length = 0
    · have h5 : ((l.length : Int) == 0) = true := beq_iff_eq.mpr (by omega)
      have h5b : (l.length == 0) = true := beq_iff_eq.mpr g5
      have HE : Hid (rootB [] = emptyB) := rfl
      obtain ⟨E, hE⟩ : ∃ E, emptyB = E := ⟨_, rfl⟩
      rw [hE] at HE ⊢
      have k1 : decide (l.length = 0) = true := decide_eq_true g5
      rw [k1, Bool.true_and]
      clear g5 k1 hE
      by_cases g6 : old = E
      · subst g6
        rw [decide_eq_true (rfl : old = old), Bool.true_and]
        by_cases g7 : n > 0
        · have h7 : decide (n > 0) = true := decide_eq_true g7
          rw [h7, Bool.true_or]
          go_enter Tryz.func17, Tryz.ntmps17
          go_wp2_with (first | (go_at_call 31; refine (clone_calls A c l _ (Kd.C_below HR.out HB1.out) HC.out HL.out).mono ?_; rintro e w2 ⟨A2, c2, rfl, hr2, hc2, hb2⟩; have HB2 : Hid (Below w.heap.size w w2) := HB1.out.trans (hb2.mono HB1.out.size); have HF2 : Hid (w2.heap[w.heap.size]? = some (.cells #[.string old] 9 (0, 0))) := (hb2.block _ (heap_lt HF1.out)).trans HF1.out; have HLC3 : Hid (LC w2.heap.size A2 c2 l (w2.alloc (.cells #[.slice A2 l.length c2] 37 (0, 0)))) := ⟨heap_alloc_new _ _, Kd.C_below hr2 ((Below.refl _ _).alloc (Nat.le_refl _) _), hc2⟩; have HB3 : Hid (Below w.heap.size w (w2.alloc (.cells #[.slice A2 l.length c2] 37 (0, 0)))) := HB2.out.alloc HB2.out.size _; have HF3 : Hid ((w2.alloc (.cells #[.slice A2 l.length c2] 37 (0, 0))).heap[w.heap.size]? = some (.cells #[.string old] 9 (0, 0))) := (Below.heap_alloc _ _ _ (heap_lt HF2.out)).trans HF2.out; clear hr2 hc2 hb2) | (go_at_call 22; refine (proper_calls A2 c2 l _ HLC3.out.rd HLC3.out.cap).mono ?_; rw [hy]; rintro e w4 ⟨rfl, hb4⟩; have HB4 : Hid (Below w.heap.size w w4) := HB3.out.trans (hb4.mono HB3.out.size); have HF4 : Hid (w4.heap[w.heap.size]? = some (.cells #[.string old] 9 (0, 0))) := (hb4.block _ (heap_lt HF3.out)).trans HF3.out; have HLC4 : Hid (LC w2.heap.size A2 c2 l w4) := LC.below HLC3.out hb4; have hcf4 : w4.cell? ⟨w.heap.size, 0, none⟩ = some (.string old) := (Lib.cell_of_heap HF4.out 0).trans rfl; clear hb4) | (go_at_call 22; refine (HP2.out _ _ (heap_alloc_new w4 _)).mono ?_; rintro e w5 ⟨rfl, hb5⟩; have HBa : Hid (Below w4.heap.size w4 w5) := ((Below.refl _ _).alloc (Nat.le_refl _) _).trans (hb5.mono ((Below.refl w4.heap.size w4).alloc (Nat.le_refl _) _).size); have HB5 : Hid (Below w.heap.size w w5) := HB4.out.trans (HBa.out.mono HB4.out.size); have HF5 : Hid (w5.heap[w.heap.size]? = some (.cells #[.string old] 9 (0, 0))) := (HBa.out.block _ (heap_lt HF4.out)).trans HF4.out; have HLC5 : Hid (LC w2.heap.size A2 c2 l w5) := LC.below HLC4.out HBa.out; have HBL : Hid (w.heap.size ≤ w2.heap.size) := HB2.out.size; have hcf5 : w5.cell? ⟨w.heap.size, 0, none⟩ = some (.string old) := (Lib.cell_of_heap HF5.out 0).trans rfl; clear hb5 hcf4))
          refine start_ (n := 18) (S := fun w' => w'.heap[w.heap.size]? = some (.cells #[.string old] 9 (0, 0)) ∧ Below w.heap.size w w') (ds := []) #[false, false, false, false, false, false, false, false, false, false, false, false, false, false, false, false, false, false] (by kernel_rfl) rfl rfl ⟨HF5.out, by repeat (first | exact HB5.out | apply below_drew1 | apply pw_below_drewN)⟩ (fun hHeld => ?_)
          refine pure_ (i := 0) (N := some 43) (v := ?_) (a' := ?_) #[true, false, false, false, false, false, false, false, false, false, false, false, false, false, false, false, false, false] rfl rfl (by kernel_rfl) (fun _ _ _ h => h) (Or.inl ⟨by rfl, ?_⟩) ?_ ?_
          rotate_left
          · intro w'
            go_simp
            with_reducible rfl
          rotate_left
          · simp only [Act.put, List.setIfInBounds_toArray, List.set_cons_zero, List.set_cons_succ, i64_w, i32_w]
            rfl
          refine pure_ (i := 1) (N := some 44) (v := ?_) (a' := ?_) #[true, true, false, false, false, false, false, false, false, false, false, false, false, false, false, false, false, false] rfl rfl (by kernel_rfl) (fun _ _ _ h => h) (Or.inl ⟨by rfl, ?_⟩) ?_ ?_
          rotate_left
          · intro w'
            go_simp
            with_reducible rfl
          rotate_left
          · simp only [Act.put, List.setIfInBounds_toArray, List.set_cons_zero, List.set_cons_succ, i64_w, i32_w]
            rfl
          refine pure_ (i := 2) (N := some 45) (v := ?_) (a' := ?_) #[true, true, true, false, false, false, false, false, false, false, false, false, false, false, false, false, false, false] rfl rfl (by kernel_rfl) (fun _ _ _ h => h) (Or.inl ⟨by rfl, ?_⟩) ?_ ?_
          rotate_left
          · intro w'
            go_simp
            with_reducible rfl
          rotate_left
          · simp only [Act.put, List.setIfInBounds_toArray, List.set_cons_zero, List.set_cons_succ, i64_w, i32_w]
            rfl
          refine pure_ (i := 3) (N := some 46) (v := ?_) (a' := ?_) #[true, true, true, true, false, false, false, false, false, false, false, false, false, false, false, false, false, false] rfl rfl (by kernel_rfl) (fun _ _ _ h => h) (Or.inl ⟨by rfl, ?_⟩) ?_ ?_
          rotate_left
          · intro w'
            go_simp
            with_reducible rfl
          rotate_left
          · simp only [Act.put, List.setIfInBounds_toArray, List.set_cons_zero, List.set_cons_succ, i64_w, i32_w]
            rfl
          refine take_ (i := 4) (N := some 47) (v := ?_) (a' := ?_) #[true, true, true, true, true, false, false, false, false, false, false, false, false, false, false, false, false, false] rfl rfl (by kernel_rfl) (fun _ _ _ h => h) (Or.inl ⟨by rfl, ?_⟩) hHeld ?_ ?_
          rotate_left
          · rintro w' ⟨s0, s1⟩
            have q0 := (Lib.cell_of_heap s0 0).trans rfl
            go_simp
            with_reducible rfl
          rotate_left
          · simp only [Act.put, List.setIfInBounds_toArray, List.set_cons_zero, List.set_cons_succ, i64_w, i32_w]
            rfl
          refine one_ (i := 5) (N := some 48) #[true, true, true, true, true, true, false, false, false, false, false, false, false, false, false, false, false, false] rfl rfl (by kernel_rfl) (by decide) (fun K hK => ?_)
          refine goes_ Tryz.func23 (by kernel_rfl) rfl #[.slice none ([] : List ByteArray).length 0] (by rfl) rfl rfl (by (try simp only [List.map_toArray, List.map_cons, List.map_nil]); first | done | rfl) ?_
          refine (total_calls none 0 [] _ (Kd.C_of_reads (d := ByteArray.empty) ⟨rfl, by simp, fun h0 => by simp at h0⟩) (Nat.le_refl _) (by simp) (by simp) (HT.out.below hHeld.2)).mono ?_
          rw [HE.out]
          rintro e w6 ⟨rfl, hb⟩
          refine ⟨_, rfl, ?_⟩
          have HB6 : Hid (Below w.heap.size w w6) := hHeld.2.trans (hb.mono hHeld.2.size)
          have HF6 : Hid (w6.heap[w.heap.size]? = some (.cells #[.string old] 9 (0, 0))) := (hb.block _ (heap_lt hHeld.1)).trans hHeld.1
          clear hb
          refine hK.out _ _ ⟨HF6.out, HB6.out⟩ (fun hHeld => ?_)
          clear hK K
          refine norm_ (a' := ?_) ?_ ?_
          rotate_left
          · show Act.put _ (some 48) _ = _
            simp only [Act.put, List.setIfInBounds_toArray, List.set_cons_zero, List.set_cons_succ, i64_w, i32_w]
            rfl
          refine pure_ (i := 6) (N := some 49) (v := ?_) (a' := ?_) #[true, true, true, true, true, true, true, false, false, false, false, false, false, false, false, false, false, false] rfl rfl (by kernel_rfl) (fun _ _ _ h => h) (Or.inl ⟨by rfl, ?_⟩) ?_ ?_
          rotate_left
          · intro w'
            go_simp
            with_reducible rfl
          rotate_left
          · simp only [Act.put, List.setIfInBounds_toArray, List.set_cons_zero, List.set_cons_succ, i64_w, i32_w]
            rfl
          refine pure_ (i := 7) (N := some 50) (v := ?_) (a' := ?_) #[true, true, true, true, true, true, true, true, false, false, false, false, false, false, false, false, false, false] rfl rfl (by kernel_rfl) (fun _ _ _ h => h) (Or.inl ⟨by rfl, ?_⟩) ?_ ?_
          rotate_left
          · intro w'
            go_simp
            with_reducible rfl
          rotate_left
          · simp only [Act.put, List.setIfInBounds_toArray, List.set_cons_zero, List.set_cons_succ, i64_w, i32_w]
            rfl
          refine pure_ (i := 8) (N := some 51) (v := ?_) (a' := ?_) #[true, true, true, true, true, true, true, true, true, false, false, false, false, false, false, false, false, false] rfl rfl (by kernel_rfl) (fun _ _ _ h => h) (Or.inl ⟨by rfl, ?_⟩) ?_ ?_
          rotate_left
          · intro w'
            go_simp
            with_reducible rfl
          rotate_left
          · simp only [Act.put, List.setIfInBounds_toArray, List.set_cons_zero, List.set_cons_succ, i64_w, i32_w]
            rfl
          refine pure_ (i := 9) (N := some 52) (v := ?_) (a' := ?_) #[true, true, true, true, true, true, true, true, true, true, false, false, false, false, false, false, false, false] rfl rfl (by kernel_rfl) (fun _ _ _ h => h) (Or.inl ⟨by rfl, ?_⟩) ?_ ?_
          rotate_left
          · intro w'
            go_simp
            with_reducible rfl
          rotate_left
          · simp only [Act.put, List.setIfInBounds_toArray, List.set_cons_zero, List.set_cons_succ, i64_w, i32_w]
            rfl
          refine pure_ (i := 10) (N := some 53) (v := ?_) (a' := ?_) #[true, true, true, true, true, true, true, true, true, true, true, false, false, false, false, false, false, false] rfl rfl (by kernel_rfl) (fun _ _ _ h => h) (Or.inl ⟨by rfl, ?_⟩) ?_ ?_
          rotate_left
          · intro w'
            go_simp
            with_reducible rfl
          rotate_left
          · simp only [Act.put, List.setIfInBounds_toArray, List.set_cons_zero, List.set_cons_succ, i64_w, i32_w]
            rfl
          refine pure_ (i := 11) (N := some 54) (v := ?_) (a' := ?_) #[true, true, true, true, true, true, true, true, true, true, true, true, false, false, false, false, false, false] rfl rfl (by kernel_rfl) (fun _ _ _ h => h) (Or.inl ⟨by rfl, ?_⟩) ?_ ?_
          rotate_left
          · intro w'
            go_simp
            with_reducible rfl
          rotate_left
          · simp only [Act.put, List.setIfInBounds_toArray, List.set_cons_zero, List.set_cons_succ, i64_w, i32_w]
            rfl
          refine pure_ (i := 12) (N := some 55) (v := undef) #[true, true, true, true, true, true, true, true, true, true, true, true, true, false, false, false, false, false] rfl rfl (by kernel_rfl) (fun _ _ _ h => h) (Or.inr ⟨by rfl, rfl⟩) rfl ?_
          refine norm_ (a' := ?_) ?_ ?_
          rotate_left
          · show Act.put _ (some 55) _ = _
            simp only [Act.put, List.setIfInBounds_toArray, List.set_cons_zero, List.set_cons_succ, i64_w, i32_w]
            rfl
          refine pure_ (i := 13) (N := some 56) (v := undef) #[true, true, true, true, true, true, true, true, true, true, true, true, true, true, false, false, false, false] rfl rfl (by kernel_rfl) (fun _ _ _ h => h) (Or.inr ⟨by rfl, rfl⟩) rfl ?_
          refine norm_ (a' := ?_) ?_ ?_
          rotate_left
          · show Act.put _ (some 56) _ = _
            simp only [Act.put, List.setIfInBounds_toArray, List.set_cons_zero, List.set_cons_succ, i64_w, i32_w]
            rfl
          refine pure_ (i := 14) (N := some 57) (v := undef) #[true, true, true, true, true, true, true, true, true, true, true, true, true, true, true, false, false, false] rfl rfl (by kernel_rfl) (fun _ _ _ h => h) (Or.inr ⟨by rfl, rfl⟩) rfl ?_
          refine norm_ (a' := ?_) ?_ ?_
          rotate_left
          · show Act.put _ (some 57) _ = _
            simp only [Act.put, List.setIfInBounds_toArray, List.set_cons_zero, List.set_cons_succ, i64_w, i32_w]
            rfl
          refine pure_ (i := 15) (N := some 58) (v := ?_) (a' := ?_) #[true, true, true, true, true, true, true, true, true, true, true, true, true, true, true, true, false, false] rfl rfl (by kernel_rfl) (fun _ _ _ h => h) (Or.inl ⟨by rfl, ?_⟩) ?_ ?_
          rotate_left
          · intro w'
            go_simp
            with_reducible rfl
          rotate_left
          · simp only [Act.put, List.setIfInBounds_toArray, List.set_cons_zero, List.set_cons_succ, i64_w, i32_w]
            rfl
          refine pure_ (i := 16) (N := some 59) (v := ?_) (a' := ?_) #[true, true, true, true, true, true, true, true, true, true, true, true, true, true, true, true, true, false] rfl rfl (by kernel_rfl) (fun _ _ _ h => h) (Or.inl ⟨by rfl, ?_⟩) ?_ ?_
          rotate_left
          · intro w'
            go_simp
            with_reducible rfl
          rotate_left
          · simp only [Act.put, List.setIfInBounds_toArray, List.set_cons_zero, List.set_cons_succ, i64_w, i32_w]
            rfl
          refine pure_ (i := 17) (N := some 10) (v := ?_) (a' := ?_) #[true, true, true, true, true, true, true, true, true, true, true, true, true, true, true, true, true, true] rfl rfl (by kernel_rfl) (fun _ _ _ h => h) (Or.inl ⟨by rfl, ?_⟩) ?_ ?_
          rotate_left
          · intro w'
            go_simp
            with_reducible rfl
          rotate_left
          · simp only [Act.put, List.setIfInBounds_toArray, List.set_cons_zero, List.set_cons_succ, i64_w, i32_w]
            rfl
          refine done_ (by kernel_rfl) ?_
          try go_wp2
          go_ret
          exact ⟨rfl, HB6.out⟩
        · have h7 : decide (n > 0) = false := decide_eq_false g7
          rw [h7, Bool.false_or]
          by_cases g8 : root = old
          · obtain rfl := g8.symm
            rw [decide_eq_true (rfl : old = old)]
            go_enter Tryz.func17, Tryz.ntmps17
            go_wp2_with (first | (go_at_call 31; refine (clone_calls A c l _ (Kd.C_below HR.out HB1.out) HC.out HL.out).mono ?_; rintro e w2 ⟨A2, c2, rfl, hr2, hc2, hb2⟩; have HB2 : Hid (Below w.heap.size w w2) := HB1.out.trans (hb2.mono HB1.out.size); have HF2 : Hid (w2.heap[w.heap.size]? = some (.cells #[.string old] 9 (0, 0))) := (hb2.block _ (heap_lt HF1.out)).trans HF1.out; have HLC3 : Hid (LC w2.heap.size A2 c2 l (w2.alloc (.cells #[.slice A2 l.length c2] 37 (0, 0)))) := ⟨heap_alloc_new _ _, Kd.C_below hr2 ((Below.refl _ _).alloc (Nat.le_refl _) _), hc2⟩; have HB3 : Hid (Below w.heap.size w (w2.alloc (.cells #[.slice A2 l.length c2] 37 (0, 0)))) := HB2.out.alloc HB2.out.size _; have HF3 : Hid ((w2.alloc (.cells #[.slice A2 l.length c2] 37 (0, 0))).heap[w.heap.size]? = some (.cells #[.string old] 9 (0, 0))) := (Below.heap_alloc _ _ _ (heap_lt HF2.out)).trans HF2.out; clear hr2 hc2 hb2) | (go_at_call 22; refine (proper_calls A2 c2 l _ HLC3.out.rd HLC3.out.cap).mono ?_; rw [hy]; rintro e w4 ⟨rfl, hb4⟩; have HB4 : Hid (Below w.heap.size w w4) := HB3.out.trans (hb4.mono HB3.out.size); have HF4 : Hid (w4.heap[w.heap.size]? = some (.cells #[.string old] 9 (0, 0))) := (hb4.block _ (heap_lt HF3.out)).trans HF3.out; have HLC4 : Hid (LC w2.heap.size A2 c2 l w4) := LC.below HLC3.out hb4; have hcf4 : w4.cell? ⟨w.heap.size, 0, none⟩ = some (.string old) := (Lib.cell_of_heap HF4.out 0).trans rfl; clear hb4) | (go_at_call 22; refine (HP2.out _ _ (heap_alloc_new w4 _)).mono ?_; rintro e w5 ⟨rfl, hb5⟩; have HBa : Hid (Below w4.heap.size w4 w5) := ((Below.refl _ _).alloc (Nat.le_refl _) _).trans (hb5.mono ((Below.refl w4.heap.size w4).alloc (Nat.le_refl _) _).size); have HB5 : Hid (Below w.heap.size w w5) := HB4.out.trans (HBa.out.mono HB4.out.size); have HF5 : Hid (w5.heap[w.heap.size]? = some (.cells #[.string old] 9 (0, 0))) := (HBa.out.block _ (heap_lt HF4.out)).trans HF4.out; have HLC5 : Hid (LC w2.heap.size A2 c2 l w5) := LC.below HLC4.out HBa.out; have HBL : Hid (w.heap.size ≤ w2.heap.size) := HB2.out.size; have hcf5 : w5.cell? ⟨w.heap.size, 0, none⟩ = some (.string old) := (Lib.cell_of_heap HF5.out 0).trans rfl; clear hb5 hcf4))
            refine start_ (n := 18) (S := fun w' => w'.heap[w.heap.size]? = some (.cells #[.string old] 9 (0, 0)) ∧ Below w.heap.size w w') (ds := []) #[false, false, false, false, false, false, false, false, false, false, false, false, false, false, false, false, false, false] (by kernel_rfl) rfl rfl ⟨HF5.out, by repeat (first | exact HB5.out | apply below_drew1 | apply pw_below_drewN)⟩ (fun hHeld => ?_)
            refine pure_ (i := 0) (N := some 43) (v := ?_) (a' := ?_) #[true, false, false, false, false, false, false, false, false, false, false, false, false, false, false, false, false, false] rfl rfl (by kernel_rfl) (fun _ _ _ h => h) (Or.inl ⟨by rfl, ?_⟩) ?_ ?_
            rotate_left
            · intro w'
              go_simp
              with_reducible rfl
            rotate_left
            · simp only [Act.put, List.setIfInBounds_toArray, List.set_cons_zero, List.set_cons_succ, i64_w, i32_w]
              rfl
            refine pure_ (i := 1) (N := some 44) (v := ?_) (a' := ?_) #[true, true, false, false, false, false, false, false, false, false, false, false, false, false, false, false, false, false] rfl rfl (by kernel_rfl) (fun _ _ _ h => h) (Or.inl ⟨by rfl, ?_⟩) ?_ ?_
            rotate_left
            · intro w'
              go_simp
              with_reducible rfl
            rotate_left
            · simp only [Act.put, List.setIfInBounds_toArray, List.set_cons_zero, List.set_cons_succ, i64_w, i32_w]
              rfl
            refine pure_ (i := 2) (N := some 45) (v := ?_) (a' := ?_) #[true, true, true, false, false, false, false, false, false, false, false, false, false, false, false, false, false, false] rfl rfl (by kernel_rfl) (fun _ _ _ h => h) (Or.inl ⟨by rfl, ?_⟩) ?_ ?_
            rotate_left
            · intro w'
              go_simp
              with_reducible rfl
            rotate_left
            · simp only [Act.put, List.setIfInBounds_toArray, List.set_cons_zero, List.set_cons_succ, i64_w, i32_w]
              rfl
            refine pure_ (i := 3) (N := some 46) (v := ?_) (a' := ?_) #[true, true, true, true, false, false, false, false, false, false, false, false, false, false, false, false, false, false] rfl rfl (by kernel_rfl) (fun _ _ _ h => h) (Or.inl ⟨by rfl, ?_⟩) ?_ ?_
            rotate_left
            · intro w'
              go_simp
              with_reducible rfl
            rotate_left
            · simp only [Act.put, List.setIfInBounds_toArray, List.set_cons_zero, List.set_cons_succ, i64_w, i32_w]
              rfl
            refine take_ (i := 4) (N := some 47) (v := ?_) (a' := ?_) #[true, true, true, true, true, false, false, false, false, false, false, false, false, false, false, false, false, false] rfl rfl (by kernel_rfl) (fun _ _ _ h => h) (Or.inl ⟨by rfl, ?_⟩) hHeld ?_ ?_
            rotate_left
            · rintro w' ⟨s0, s1⟩
              have q0 := (Lib.cell_of_heap s0 0).trans rfl
              go_simp
              with_reducible rfl
            rotate_left
            · simp only [Act.put, List.setIfInBounds_toArray, List.set_cons_zero, List.set_cons_succ, i64_w, i32_w]
              rfl
            refine one_ (i := 5) (N := some 48) #[true, true, true, true, true, true, false, false, false, false, false, false, false, false, false, false, false, false] rfl rfl (by kernel_rfl) (by decide) (fun K hK => ?_)
            refine goes_ Tryz.func23 (by kernel_rfl) rfl #[.slice none ([] : List ByteArray).length 0] (by rfl) rfl rfl (by (try simp only [List.map_toArray, List.map_cons, List.map_nil]); first | done | rfl) ?_
            refine (total_calls none 0 [] _ (Kd.C_of_reads (d := ByteArray.empty) ⟨rfl, by simp, fun h0 => by simp at h0⟩) (Nat.le_refl _) (by simp) (by simp) (HT.out.below hHeld.2)).mono ?_
            rw [HE.out]
            rintro e w6 ⟨rfl, hb⟩
            refine ⟨_, rfl, ?_⟩
            have HB6 : Hid (Below w.heap.size w w6) := hHeld.2.trans (hb.mono hHeld.2.size)
            have HF6 : Hid (w6.heap[w.heap.size]? = some (.cells #[.string old] 9 (0, 0))) := (hb.block _ (heap_lt hHeld.1)).trans hHeld.1
            clear hb
            refine hK.out _ _ ⟨HF6.out, HB6.out⟩ (fun hHeld => ?_)
            clear hK K
            refine norm_ (a' := ?_) ?_ ?_
            rotate_left
            · show Act.put _ (some 48) _ = _
              simp only [Act.put, List.setIfInBounds_toArray, List.set_cons_zero, List.set_cons_succ, i64_w, i32_w]
              rfl
            refine pure_ (i := 6) (N := some 49) (v := ?_) (a' := ?_) #[true, true, true, true, true, true, true, false, false, false, false, false, false, false, false, false, false, false] rfl rfl (by kernel_rfl) (fun _ _ _ h => h) (Or.inl ⟨by rfl, ?_⟩) ?_ ?_
            rotate_left
            · intro w'
              go_simp
              with_reducible rfl
            rotate_left
            · simp only [Act.put, List.setIfInBounds_toArray, List.set_cons_zero, List.set_cons_succ, i64_w, i32_w]
              rfl
            refine pure_ (i := 7) (N := some 50) (v := ?_) (a' := ?_) #[true, true, true, true, true, true, true, true, false, false, false, false, false, false, false, false, false, false] rfl rfl (by kernel_rfl) (fun _ _ _ h => h) (Or.inl ⟨by rfl, ?_⟩) ?_ ?_
            rotate_left
            · intro w'
              go_simp
              with_reducible rfl
            rotate_left
            · simp only [Act.put, List.setIfInBounds_toArray, List.set_cons_zero, List.set_cons_succ, i64_w, i32_w]
              rfl
            refine pure_ (i := 8) (N := some 51) (v := ?_) (a' := ?_) #[true, true, true, true, true, true, true, true, true, false, false, false, false, false, false, false, false, false] rfl rfl (by kernel_rfl) (fun _ _ _ h => h) (Or.inl ⟨by rfl, ?_⟩) ?_ ?_
            rotate_left
            · intro w'
              go_simp
              with_reducible rfl
            rotate_left
            · simp only [Act.put, List.setIfInBounds_toArray, List.set_cons_zero, List.set_cons_succ, i64_w, i32_w]
              rfl
            refine pure_ (i := 9) (N := some 52) (v := ?_) (a' := ?_) #[true, true, true, true, true, true, true, true, true, true, false, false, false, false, false, false, false, false] rfl rfl (by kernel_rfl) (fun _ _ _ h => h) (Or.inl ⟨by rfl, ?_⟩) ?_ ?_
            rotate_left
            · intro w'
              go_simp
              with_reducible rfl
            rotate_left
            · simp only [Act.put, List.setIfInBounds_toArray, List.set_cons_zero, List.set_cons_succ, i64_w, i32_w]
              rfl
            refine pure_ (i := 10) (N := some 53) (v := ?_) (a' := ?_) #[true, true, true, true, true, true, true, true, true, true, true, false, false, false, false, false, false, false] rfl rfl (by kernel_rfl) (fun _ _ _ h => h) (Or.inl ⟨by rfl, ?_⟩) ?_ ?_
            rotate_left
            · intro w'
              go_simp
              with_reducible rfl
            rotate_left
            · simp only [Act.put, List.setIfInBounds_toArray, List.set_cons_zero, List.set_cons_succ, i64_w, i32_w]
              rfl
            refine pure_ (i := 11) (N := some 54) (v := ?_) (a' := ?_) #[true, true, true, true, true, true, true, true, true, true, true, true, false, false, false, false, false, false] rfl rfl (by kernel_rfl) (fun _ _ _ h => h) (Or.inl ⟨by rfl, ?_⟩) ?_ ?_
            rotate_left
            · intro w'
              go_simp
              with_reducible rfl
            rotate_left
            · simp only [Act.put, List.setIfInBounds_toArray, List.set_cons_zero, List.set_cons_succ, i64_w, i32_w]
              rfl
            refine pure_ (i := 12) (N := some 55) (v := ?_) (a' := ?_) #[true, true, true, true, true, true, true, true, true, true, true, true, true, false, false, false, false, false] rfl rfl (by kernel_rfl) (fun _ _ _ h => h) (Or.inl ⟨by rfl, ?_⟩) ?_ ?_
            rotate_left
            · intro w'
              go_simp
              with_reducible rfl
            rotate_left
            · simp only [Act.put, List.setIfInBounds_toArray, List.set_cons_zero, List.set_cons_succ, i64_w, i32_w]
              rfl
            refine take_ (i := 13) (N := some 56) (v := ?_) (a' := ?_) #[true, true, true, true, true, true, true, true, true, true, true, true, true, true, false, false, false, false] rfl rfl (by kernel_rfl) (fun _ _ _ h => h) (Or.inl ⟨by rfl, ?_⟩) hHeld ?_ ?_
            rotate_left
            · rintro w' ⟨s0, s1⟩
              have q0 := (Lib.cell_of_heap s0 0).trans rfl
              go_simp
              with_reducible rfl
            rotate_left
            · simp only [Act.put, List.setIfInBounds_toArray, List.set_cons_zero, List.set_cons_succ, i64_w, i32_w]
              rfl
            refine pure_ (i := 14) (N := some 57) (v := ?_) (a' := ?_) #[true, true, true, true, true, true, true, true, true, true, true, true, true, true, true, false, false, false] rfl rfl (by kernel_rfl) (fun _ _ _ h => h) (Or.inl ⟨by rfl, ?_⟩) ?_ ?_
            rotate_left
            · intro w'
              go_simp
              with_reducible rfl
            rotate_left
            · simp only [Act.put, List.setIfInBounds_toArray, List.set_cons_zero, List.set_cons_succ, i64_w, i32_w]
              rfl
            refine pure_ (i := 15) (N := some 58) (v := ?_) (a' := ?_) #[true, true, true, true, true, true, true, true, true, true, true, true, true, true, true, true, false, false] rfl rfl (by kernel_rfl) (fun _ _ _ h => h) (Or.inl ⟨by rfl, ?_⟩) ?_ ?_
            rotate_left
            · intro w'
              go_simp
              with_reducible rfl
            rotate_left
            · simp only [Act.put, List.setIfInBounds_toArray, List.set_cons_zero, List.set_cons_succ, i64_w, i32_w]
              rfl
            refine pure_ (i := 16) (N := some 59) (v := ?_) (a' := ?_) #[true, true, true, true, true, true, true, true, true, true, true, true, true, true, true, true, true, false] rfl rfl (by kernel_rfl) (fun _ _ _ h => h) (Or.inl ⟨by rfl, ?_⟩) ?_ ?_
            rotate_left
            · intro w'
              go_simp
              with_reducible rfl
            rotate_left
            · simp only [Act.put, List.setIfInBounds_toArray, List.set_cons_zero, List.set_cons_succ, i64_w, i32_w]
              rfl
            refine pure_ (i := 17) (N := some 10) (v := ?_) (a' := ?_) #[true, true, true, true, true, true, true, true, true, true, true, true, true, true, true, true, true, true] rfl rfl (by kernel_rfl) (fun _ _ _ h => h) (Or.inl ⟨by rfl, ?_⟩) ?_ ?_
            rotate_left
            · intro w'
              go_simp
              with_reducible rfl
            rotate_left
            · simp only [Act.put, List.setIfInBounds_toArray, List.set_cons_zero, List.set_cons_succ, i64_w, i32_w]
              rfl
            refine done_ (by kernel_rfl) ?_
            try go_wp2
            go_ret
            exact ⟨rfl, HB6.out⟩
          · have hne2 : (root.toList == old.toList) = false := beq_eq_false_iff_ne.mpr fun e => g8 (toList_inj e)
            rw [decide_eq_false g8]
            go_enter Tryz.func17, Tryz.ntmps17
            go_wp2_with (first | (go_at_call 31; refine (clone_calls A c l _ (Kd.C_below HR.out HB1.out) HC.out HL.out).mono ?_; rintro e w2 ⟨A2, c2, rfl, hr2, hc2, hb2⟩; have HB2 : Hid (Below w.heap.size w w2) := HB1.out.trans (hb2.mono HB1.out.size); have HF2 : Hid (w2.heap[w.heap.size]? = some (.cells #[.string old] 9 (0, 0))) := (hb2.block _ (heap_lt HF1.out)).trans HF1.out; have HLC3 : Hid (LC w2.heap.size A2 c2 l (w2.alloc (.cells #[.slice A2 l.length c2] 37 (0, 0)))) := ⟨heap_alloc_new _ _, Kd.C_below hr2 ((Below.refl _ _).alloc (Nat.le_refl _) _), hc2⟩; have HB3 : Hid (Below w.heap.size w (w2.alloc (.cells #[.slice A2 l.length c2] 37 (0, 0)))) := HB2.out.alloc HB2.out.size _; have HF3 : Hid ((w2.alloc (.cells #[.slice A2 l.length c2] 37 (0, 0))).heap[w.heap.size]? = some (.cells #[.string old] 9 (0, 0))) := (Below.heap_alloc _ _ _ (heap_lt HF2.out)).trans HF2.out; clear hr2 hc2 hb2) | (go_at_call 22; refine (proper_calls A2 c2 l _ HLC3.out.rd HLC3.out.cap).mono ?_; rw [hy]; rintro e w4 ⟨rfl, hb4⟩; have HB4 : Hid (Below w.heap.size w w4) := HB3.out.trans (hb4.mono HB3.out.size); have HF4 : Hid (w4.heap[w.heap.size]? = some (.cells #[.string old] 9 (0, 0))) := (hb4.block _ (heap_lt HF3.out)).trans HF3.out; have HLC4 : Hid (LC w2.heap.size A2 c2 l w4) := LC.below HLC3.out hb4; have hcf4 : w4.cell? ⟨w.heap.size, 0, none⟩ = some (.string old) := (Lib.cell_of_heap HF4.out 0).trans rfl; clear hb4) | (go_at_call 22; refine (HP2.out _ _ (heap_alloc_new w4 _)).mono ?_; rintro e w5 ⟨rfl, hb5⟩; have HBa : Hid (Below w4.heap.size w4 w5) := ((Below.refl _ _).alloc (Nat.le_refl _) _).trans (hb5.mono ((Below.refl w4.heap.size w4).alloc (Nat.le_refl _) _).size); have HB5 : Hid (Below w.heap.size w w5) := HB4.out.trans (HBa.out.mono HB4.out.size); have HF5 : Hid (w5.heap[w.heap.size]? = some (.cells #[.string old] 9 (0, 0))) := (HBa.out.block _ (heap_lt HF4.out)).trans HF4.out; have HLC5 : Hid (LC w2.heap.size A2 c2 l w5) := LC.below HLC4.out HBa.out; have HBL : Hid (w.heap.size ≤ w2.heap.size) := HB2.out.size; have hcf5 : w5.cell? ⟨w.heap.size, 0, none⟩ = some (.string old) := (Lib.cell_of_heap HF5.out 0).trans rfl; clear hb5 hcf4))
            refine start_ (n := 18) (S := fun w' => w'.heap[w.heap.size]? = some (.cells #[.string old] 9 (0, 0)) ∧ Below w.heap.size w w') (ds := []) #[false, false, false, false, false, false, false, false, false, false, false, false, false, false, false, false, false, false] (by kernel_rfl) rfl rfl ⟨HF5.out, by repeat (first | exact HB5.out | apply below_drew1 | apply pw_below_drewN)⟩ (fun hHeld => ?_)
            refine pure_ (i := 0) (N := some 43) (v := ?_) (a' := ?_) #[true, false, false, false, false, false, false, false, false, false, false, false, false, false, false, false, false, false] rfl rfl (by kernel_rfl) (fun _ _ _ h => h) (Or.inl ⟨by rfl, ?_⟩) ?_ ?_
            rotate_left
            · intro w'
              go_simp
              with_reducible rfl
            rotate_left
            · simp only [Act.put, List.setIfInBounds_toArray, List.set_cons_zero, List.set_cons_succ, i64_w, i32_w]
              rfl
            refine pure_ (i := 1) (N := some 44) (v := ?_) (a' := ?_) #[true, true, false, false, false, false, false, false, false, false, false, false, false, false, false, false, false, false] rfl rfl (by kernel_rfl) (fun _ _ _ h => h) (Or.inl ⟨by rfl, ?_⟩) ?_ ?_
            rotate_left
            · intro w'
              go_simp
              with_reducible rfl
            rotate_left
            · simp only [Act.put, List.setIfInBounds_toArray, List.set_cons_zero, List.set_cons_succ, i64_w, i32_w]
              rfl
            refine pure_ (i := 2) (N := some 45) (v := ?_) (a' := ?_) #[true, true, true, false, false, false, false, false, false, false, false, false, false, false, false, false, false, false] rfl rfl (by kernel_rfl) (fun _ _ _ h => h) (Or.inl ⟨by rfl, ?_⟩) ?_ ?_
            rotate_left
            · intro w'
              go_simp
              with_reducible rfl
            rotate_left
            · simp only [Act.put, List.setIfInBounds_toArray, List.set_cons_zero, List.set_cons_succ, i64_w, i32_w]
              rfl
            refine pure_ (i := 3) (N := some 46) (v := ?_) (a' := ?_) #[true, true, true, true, false, false, false, false, false, false, false, false, false, false, false, false, false, false] rfl rfl (by kernel_rfl) (fun _ _ _ h => h) (Or.inl ⟨by rfl, ?_⟩) ?_ ?_
            rotate_left
            · intro w'
              go_simp
              with_reducible rfl
            rotate_left
            · simp only [Act.put, List.setIfInBounds_toArray, List.set_cons_zero, List.set_cons_succ, i64_w, i32_w]
              rfl
            refine take_ (i := 4) (N := some 47) (v := ?_) (a' := ?_) #[true, true, true, true, true, false, false, false, false, false, false, false, false, false, false, false, false, false] rfl rfl (by kernel_rfl) (fun _ _ _ h => h) (Or.inl ⟨by rfl, ?_⟩) hHeld ?_ ?_
            rotate_left
            · rintro w' ⟨s0, s1⟩
              have q0 := (Lib.cell_of_heap s0 0).trans rfl
              go_simp
              with_reducible rfl
            rotate_left
            · simp only [Act.put, List.setIfInBounds_toArray, List.set_cons_zero, List.set_cons_succ, i64_w, i32_w]
              rfl
            refine one_ (i := 5) (N := some 48) #[true, true, true, true, true, true, false, false, false, false, false, false, false, false, false, false, false, false] rfl rfl (by kernel_rfl) (by decide) (fun K hK => ?_)
            refine goes_ Tryz.func23 (by kernel_rfl) rfl #[.slice none ([] : List ByteArray).length 0] (by rfl) rfl rfl (by (try simp only [List.map_toArray, List.map_cons, List.map_nil]); first | done | rfl) ?_
            refine (total_calls none 0 [] _ (Kd.C_of_reads (d := ByteArray.empty) ⟨rfl, by simp, fun h0 => by simp at h0⟩) (Nat.le_refl _) (by simp) (by simp) (HT.out.below hHeld.2)).mono ?_
            rw [HE.out]
            rintro e w6 ⟨rfl, hb⟩
            refine ⟨_, rfl, ?_⟩
            have HB6 : Hid (Below w.heap.size w w6) := hHeld.2.trans (hb.mono hHeld.2.size)
            have HF6 : Hid (w6.heap[w.heap.size]? = some (.cells #[.string old] 9 (0, 0))) := (hb.block _ (heap_lt hHeld.1)).trans hHeld.1
            clear hb
            refine hK.out _ _ ⟨HF6.out, HB6.out⟩ (fun hHeld => ?_)
            clear hK K
            refine norm_ (a' := ?_) ?_ ?_
            rotate_left
            · show Act.put _ (some 48) _ = _
              simp only [Act.put, List.setIfInBounds_toArray, List.set_cons_zero, List.set_cons_succ, i64_w, i32_w]
              rfl
            refine pure_ (i := 6) (N := some 49) (v := ?_) (a' := ?_) #[true, true, true, true, true, true, true, false, false, false, false, false, false, false, false, false, false, false] rfl rfl (by kernel_rfl) (fun _ _ _ h => h) (Or.inl ⟨by rfl, ?_⟩) ?_ ?_
            rotate_left
            · intro w'
              go_simp
              with_reducible rfl
            rotate_left
            · simp only [Act.put, List.setIfInBounds_toArray, List.set_cons_zero, List.set_cons_succ, i64_w, i32_w]
              rfl
            refine pure_ (i := 7) (N := some 50) (v := ?_) (a' := ?_) #[true, true, true, true, true, true, true, true, false, false, false, false, false, false, false, false, false, false] rfl rfl (by kernel_rfl) (fun _ _ _ h => h) (Or.inl ⟨by rfl, ?_⟩) ?_ ?_
            rotate_left
            · intro w'
              go_simp
              with_reducible rfl
            rotate_left
            · simp only [Act.put, List.setIfInBounds_toArray, List.set_cons_zero, List.set_cons_succ, i64_w, i32_w]
              rfl
            refine pure_ (i := 8) (N := some 51) (v := ?_) (a' := ?_) #[true, true, true, true, true, true, true, true, true, false, false, false, false, false, false, false, false, false] rfl rfl (by kernel_rfl) (fun _ _ _ h => h) (Or.inl ⟨by rfl, ?_⟩) ?_ ?_
            rotate_left
            · intro w'
              go_simp
              with_reducible rfl
            rotate_left
            · simp only [Act.put, List.setIfInBounds_toArray, List.set_cons_zero, List.set_cons_succ, i64_w, i32_w]
              rfl
            refine pure_ (i := 9) (N := some 52) (v := ?_) (a' := ?_) #[true, true, true, true, true, true, true, true, true, true, false, false, false, false, false, false, false, false] rfl rfl (by kernel_rfl) (fun _ _ _ h => h) (Or.inl ⟨by rfl, ?_⟩) ?_ ?_
            rotate_left
            · intro w'
              go_simp
              with_reducible rfl
            rotate_left
            · simp only [Act.put, List.setIfInBounds_toArray, List.set_cons_zero, List.set_cons_succ, i64_w, i32_w]
              rfl
            refine pure_ (i := 10) (N := some 53) (v := ?_) (a' := ?_) #[true, true, true, true, true, true, true, true, true, true, true, false, false, false, false, false, false, false] rfl rfl (by kernel_rfl) (fun _ _ _ h => h) (Or.inl ⟨by rfl, ?_⟩) ?_ ?_
            rotate_left
            · intro w'
              go_simp
              with_reducible rfl
            rotate_left
            · simp only [Act.put, List.setIfInBounds_toArray, List.set_cons_zero, List.set_cons_succ, i64_w, i32_w]
              rfl
            refine pure_ (i := 11) (N := some 54) (v := ?_) (a' := ?_) #[true, true, true, true, true, true, true, true, true, true, true, true, false, false, false, false, false, false] rfl rfl (by kernel_rfl) (fun _ _ _ h => h) (Or.inl ⟨by rfl, ?_⟩) ?_ ?_
            rotate_left
            · intro w'
              go_simp
              with_reducible rfl
            rotate_left
            · simp only [Act.put, List.setIfInBounds_toArray, List.set_cons_zero, List.set_cons_succ, i64_w, i32_w]
              rfl
            refine pure_ (i := 12) (N := some 55) (v := ?_) (a' := ?_) #[true, true, true, true, true, true, true, true, true, true, true, true, true, false, false, false, false, false] rfl rfl (by kernel_rfl) (fun _ _ _ h => h) (Or.inl ⟨by rfl, ?_⟩) ?_ ?_
            rotate_left
            · intro w'
              go_simp
              with_reducible rfl
            rotate_left
            · simp only [Act.put, List.setIfInBounds_toArray, List.set_cons_zero, List.set_cons_succ, i64_w, i32_w]
              rfl
            refine take_ (i := 13) (N := some 56) (v := ?_) (a' := ?_) #[true, true, true, true, true, true, true, true, true, true, true, true, true, true, false, false, false, false] rfl rfl (by kernel_rfl) (fun _ _ _ h => h) (Or.inl ⟨by rfl, ?_⟩) hHeld ?_ ?_
            rotate_left
            · rintro w' ⟨s0, s1⟩
              have q0 := (Lib.cell_of_heap s0 0).trans rfl
              go_simp
              with_reducible rfl
            rotate_left
            · simp only [Act.put, List.setIfInBounds_toArray, List.set_cons_zero, List.set_cons_succ, i64_w, i32_w]
              rfl
            refine pure_ (i := 14) (N := some 57) (v := ?_) (a' := ?_) #[true, true, true, true, true, true, true, true, true, true, true, true, true, true, true, false, false, false] rfl rfl (by kernel_rfl) (fun _ _ _ h => h) (Or.inl ⟨by rfl, ?_⟩) ?_ ?_
            rotate_left
            · intro w'
              go_simp
              with_reducible rfl
            rotate_left
            · simp only [Act.put, List.setIfInBounds_toArray, List.set_cons_zero, List.set_cons_succ, i64_w, i32_w]
              rfl
            refine pure_ (i := 15) (N := some 58) (v := ?_) (a' := ?_) #[true, true, true, true, true, true, true, true, true, true, true, true, true, true, true, true, false, false] rfl rfl (by kernel_rfl) (fun _ _ _ h => h) (Or.inl ⟨by rfl, ?_⟩) ?_ ?_
            rotate_left
            · intro w'
              go_simp
              with_reducible rfl
            rotate_left
            · simp only [Act.put, List.setIfInBounds_toArray, List.set_cons_zero, List.set_cons_succ, i64_w, i32_w]
              rfl
            refine pure_ (i := 16) (N := some 59) (v := ?_) (a' := ?_) #[true, true, true, true, true, true, true, true, true, true, true, true, true, true, true, true, true, false] rfl rfl (by kernel_rfl) (fun _ _ _ h => h) (Or.inl ⟨by rfl, ?_⟩) ?_ ?_
            rotate_left
            · intro w'
              go_simp
              with_reducible rfl
            rotate_left
            · simp only [Act.put, List.setIfInBounds_toArray, List.set_cons_zero, List.set_cons_succ, i64_w, i32_w]
              rfl
            refine pure_ (i := 17) (N := some 10) (v := ?_) (a' := ?_) #[true, true, true, true, true, true, true, true, true, true, true, true, true, true, true, true, true, true] rfl rfl (by kernel_rfl) (fun _ _ _ h => h) (Or.inl ⟨by rfl, ?_⟩) ?_ ?_
            rotate_left
            · intro w'
              go_simp
              with_reducible rfl
            rotate_left
            · simp only [Act.put, List.setIfInBounds_toArray, List.set_cons_zero, List.set_cons_succ, i64_w, i32_w]
              rfl
            refine done_ (by kernel_rfl) ?_
            try go_wp2
            go_ret
            exact ⟨rfl, HB6.out⟩
      · have hne2 : (old.toList == E.toList) = false := beq_eq_false_iff_ne.mpr fun e => g6 (toList_inj e)
        rw [decide_eq_false g6, Bool.false_and]
        go_enter Tryz.func17, Tryz.ntmps17
        go_wp2_with (first | (go_at_call 31; refine (clone_calls A c l _ (Kd.C_below HR.out HB1.out) HC.out HL.out).mono ?_; rintro e w2 ⟨A2, c2, rfl, hr2, hc2, hb2⟩; have HB2 : Hid (Below w.heap.size w w2) := HB1.out.trans (hb2.mono HB1.out.size); have HF2 : Hid (w2.heap[w.heap.size]? = some (.cells #[.string old] 9 (0, 0))) := (hb2.block _ (heap_lt HF1.out)).trans HF1.out; have HLC3 : Hid (LC w2.heap.size A2 c2 l (w2.alloc (.cells #[.slice A2 l.length c2] 37 (0, 0)))) := ⟨heap_alloc_new _ _, Kd.C_below hr2 ((Below.refl _ _).alloc (Nat.le_refl _) _), hc2⟩; have HB3 : Hid (Below w.heap.size w (w2.alloc (.cells #[.slice A2 l.length c2] 37 (0, 0)))) := HB2.out.alloc HB2.out.size _; have HF3 : Hid ((w2.alloc (.cells #[.slice A2 l.length c2] 37 (0, 0))).heap[w.heap.size]? = some (.cells #[.string old] 9 (0, 0))) := (Below.heap_alloc _ _ _ (heap_lt HF2.out)).trans HF2.out; clear hr2 hc2 hb2) | (go_at_call 22; refine (proper_calls A2 c2 l _ HLC3.out.rd HLC3.out.cap).mono ?_; rw [hy]; rintro e w4 ⟨rfl, hb4⟩; have HB4 : Hid (Below w.heap.size w w4) := HB3.out.trans (hb4.mono HB3.out.size); have HF4 : Hid (w4.heap[w.heap.size]? = some (.cells #[.string old] 9 (0, 0))) := (hb4.block _ (heap_lt HF3.out)).trans HF3.out; have HLC4 : Hid (LC w2.heap.size A2 c2 l w4) := LC.below HLC3.out hb4; have hcf4 : w4.cell? ⟨w.heap.size, 0, none⟩ = some (.string old) := (Lib.cell_of_heap HF4.out 0).trans rfl; clear hb4) | (go_at_call 22; refine (HP2.out _ _ (heap_alloc_new w4 _)).mono ?_; rintro e w5 ⟨rfl, hb5⟩; have HBa : Hid (Below w4.heap.size w4 w5) := ((Below.refl _ _).alloc (Nat.le_refl _) _).trans (hb5.mono ((Below.refl w4.heap.size w4).alloc (Nat.le_refl _) _).size); have HB5 : Hid (Below w.heap.size w w5) := HB4.out.trans (HBa.out.mono HB4.out.size); have HF5 : Hid (w5.heap[w.heap.size]? = some (.cells #[.string old] 9 (0, 0))) := (HBa.out.block _ (heap_lt HF4.out)).trans HF4.out; have HLC5 : Hid (LC w2.heap.size A2 c2 l w5) := LC.below HLC4.out HBa.out; have HBL : Hid (w.heap.size ≤ w2.heap.size) := HB2.out.size; have hcf5 : w5.cell? ⟨w.heap.size, 0, none⟩ = some (.string old) := (Lib.cell_of_heap HF5.out 0).trans rfl; clear hb5 hcf4))
        refine start_ (n := 18) (S := fun w' => w'.heap[w.heap.size]? = some (.cells #[.string old] 9 (0, 0)) ∧ Below w.heap.size w w') (ds := []) #[false, false, false, false, false, false, false, false, false, false, false, false, false, false, false, false, false, false] (by kernel_rfl) rfl rfl ⟨HF5.out, by repeat (first | exact HB5.out | apply below_drew1 | apply pw_below_drewN)⟩ (fun hHeld => ?_)
        refine pure_ (i := 0) (N := some 43) (v := ?_) (a' := ?_) #[true, false, false, false, false, false, false, false, false, false, false, false, false, false, false, false, false, false] rfl rfl (by kernel_rfl) (fun _ _ _ h => h) (Or.inl ⟨by rfl, ?_⟩) ?_ ?_
        rotate_left
        · intro w'
          go_simp
          with_reducible rfl
        rotate_left
        · simp only [Act.put, List.setIfInBounds_toArray, List.set_cons_zero, List.set_cons_succ, i64_w, i32_w]
          rfl
        refine pure_ (i := 1) (N := some 44) (v := ?_) (a' := ?_) #[true, true, false, false, false, false, false, false, false, false, false, false, false, false, false, false, false, false] rfl rfl (by kernel_rfl) (fun _ _ _ h => h) (Or.inl ⟨by rfl, ?_⟩) ?_ ?_
        rotate_left
        · intro w'
          go_simp
          with_reducible rfl
        rotate_left
        · simp only [Act.put, List.setIfInBounds_toArray, List.set_cons_zero, List.set_cons_succ, i64_w, i32_w]
          rfl
        refine pure_ (i := 2) (N := some 45) (v := ?_) (a' := ?_) #[true, true, true, false, false, false, false, false, false, false, false, false, false, false, false, false, false, false] rfl rfl (by kernel_rfl) (fun _ _ _ h => h) (Or.inl ⟨by rfl, ?_⟩) ?_ ?_
        rotate_left
        · intro w'
          go_simp
          with_reducible rfl
        rotate_left
        · simp only [Act.put, List.setIfInBounds_toArray, List.set_cons_zero, List.set_cons_succ, i64_w, i32_w]
          rfl
        refine pure_ (i := 3) (N := some 46) (v := ?_) (a' := ?_) #[true, true, true, true, false, false, false, false, false, false, false, false, false, false, false, false, false, false] rfl rfl (by kernel_rfl) (fun _ _ _ h => h) (Or.inl ⟨by rfl, ?_⟩) ?_ ?_
        rotate_left
        · intro w'
          go_simp
          with_reducible rfl
        rotate_left
        · simp only [Act.put, List.setIfInBounds_toArray, List.set_cons_zero, List.set_cons_succ, i64_w, i32_w]
          rfl
        refine take_ (i := 4) (N := some 47) (v := ?_) (a' := ?_) #[true, true, true, true, true, false, false, false, false, false, false, false, false, false, false, false, false, false] rfl rfl (by kernel_rfl) (fun _ _ _ h => h) (Or.inl ⟨by rfl, ?_⟩) hHeld ?_ ?_
        rotate_left
        · rintro w' ⟨s0, s1⟩
          have q0 := (Lib.cell_of_heap s0 0).trans rfl
          go_simp
          with_reducible rfl
        rotate_left
        · simp only [Act.put, List.setIfInBounds_toArray, List.set_cons_zero, List.set_cons_succ, i64_w, i32_w]
          rfl
        refine one_ (i := 5) (N := some 48) #[true, true, true, true, true, true, false, false, false, false, false, false, false, false, false, false, false, false] rfl rfl (by kernel_rfl) (by decide) (fun K hK => ?_)
        refine goes_ Tryz.func23 (by kernel_rfl) rfl #[.slice none ([] : List ByteArray).length 0] (by rfl) rfl rfl (by (try simp only [List.map_toArray, List.map_cons, List.map_nil]); first | done | rfl) ?_
        refine (total_calls none 0 [] _ (Kd.C_of_reads (d := ByteArray.empty) ⟨rfl, by simp, fun h0 => by simp at h0⟩) (Nat.le_refl _) (by simp) (by simp) (HT.out.below hHeld.2)).mono ?_
        rw [HE.out]
        rintro e w6 ⟨rfl, hb⟩
        refine ⟨_, rfl, ?_⟩
        have HB6 : Hid (Below w.heap.size w w6) := hHeld.2.trans (hb.mono hHeld.2.size)
        have HF6 : Hid (w6.heap[w.heap.size]? = some (.cells #[.string old] 9 (0, 0))) := (hb.block _ (heap_lt hHeld.1)).trans hHeld.1
        clear hb
        refine hK.out _ _ ⟨HF6.out, HB6.out⟩ (fun hHeld => ?_)
        clear hK K
        refine norm_ (a' := ?_) ?_ ?_
        rotate_left
        · show Act.put _ (some 48) _ = _
          simp only [Act.put, List.setIfInBounds_toArray, List.set_cons_zero, List.set_cons_succ, i64_w, i32_w]
          rfl
        refine pure_ (i := 6) (N := some 49) (v := ?_) (a' := ?_) #[true, true, true, true, true, true, true, false, false, false, false, false, false, false, false, false, false, false] rfl rfl (by kernel_rfl) (fun _ _ _ h => h) (Or.inl ⟨by rfl, ?_⟩) ?_ ?_
        rotate_left
        · intro w'
          go_simp
          with_reducible rfl
        rotate_left
        · simp only [Act.put, List.setIfInBounds_toArray, List.set_cons_zero, List.set_cons_succ, i64_w, i32_w]
          rfl
        refine pure_ (i := 7) (N := some 50) (v := ?_) (a' := ?_) #[true, true, true, true, true, true, true, true, false, false, false, false, false, false, false, false, false, false] rfl rfl (by kernel_rfl) (fun _ _ _ h => h) (Or.inl ⟨by rfl, ?_⟩) ?_ ?_
        rotate_left
        · intro w'
          go_simp
          with_reducible rfl
        rotate_left
        · simp only [Act.put, List.setIfInBounds_toArray, List.set_cons_zero, List.set_cons_succ, i64_w, i32_w]
          rfl
        refine pure_ (i := 8) (N := some 51) (v := ?_) (a' := ?_) #[true, true, true, true, true, true, true, true, true, false, false, false, false, false, false, false, false, false] rfl rfl (by kernel_rfl) (fun _ _ _ h => h) (Or.inl ⟨by rfl, ?_⟩) ?_ ?_
        rotate_left
        · intro w'
          go_simp
          with_reducible rfl
        rotate_left
        · simp only [Act.put, List.setIfInBounds_toArray, List.set_cons_zero, List.set_cons_succ, i64_w, i32_w]
          rfl
        refine pure_ (i := 9) (N := some 52) (v := undef) #[true, true, true, true, true, true, true, true, true, true, false, false, false, false, false, false, false, false] rfl rfl (by kernel_rfl) (fun _ _ _ h => h) (Or.inr ⟨by rfl, rfl⟩) rfl ?_
        refine norm_ (a' := ?_) ?_ ?_
        rotate_left
        · show Act.put _ (some 52) _ = _
          simp only [Act.put, List.setIfInBounds_toArray, List.set_cons_zero, List.set_cons_succ, i64_w, i32_w]
          rfl
        refine pure_ (i := 10) (N := some 53) (v := undef) #[true, true, true, true, true, true, true, true, true, true, true, false, false, false, false, false, false, false] rfl rfl (by kernel_rfl) (fun _ _ _ h => h) (Or.inr ⟨by rfl, rfl⟩) rfl ?_
        refine norm_ (a' := ?_) ?_ ?_
        rotate_left
        · show Act.put _ (some 53) _ = _
          simp only [Act.put, List.setIfInBounds_toArray, List.set_cons_zero, List.set_cons_succ, i64_w, i32_w]
          rfl
        refine pure_ (i := 11) (N := some 54) (v := undef) #[true, true, true, true, true, true, true, true, true, true, true, true, false, false, false, false, false, false] rfl rfl (by kernel_rfl) (fun _ _ _ h => h) (Or.inr ⟨by rfl, rfl⟩) rfl ?_
        refine norm_ (a' := ?_) ?_ ?_
        rotate_left
        · show Act.put _ (some 54) _ = _
          simp only [Act.put, List.setIfInBounds_toArray, List.set_cons_zero, List.set_cons_succ, i64_w, i32_w]
          rfl
        refine pure_ (i := 12) (N := some 55) (v := undef) #[true, true, true, true, true, true, true, true, true, true, true, true, true, false, false, false, false, false] rfl rfl (by kernel_rfl) (fun _ _ _ h => h) (Or.inr ⟨by rfl, rfl⟩) rfl ?_
        refine norm_ (a' := ?_) ?_ ?_
        rotate_left
        · show Act.put _ (some 55) _ = _
          simp only [Act.put, List.setIfInBounds_toArray, List.set_cons_zero, List.set_cons_succ, i64_w, i32_w]
          rfl
        refine pure_ (i := 13) (N := some 56) (v := undef) #[true, true, true, true, true, true, true, true, true, true, true, true, true, true, false, false, false, false] rfl rfl (by kernel_rfl) (fun _ _ _ h => h) (Or.inr ⟨by rfl, rfl⟩) rfl ?_
        refine norm_ (a' := ?_) ?_ ?_
        rotate_left
        · show Act.put _ (some 56) _ = _
          simp only [Act.put, List.setIfInBounds_toArray, List.set_cons_zero, List.set_cons_succ, i64_w, i32_w]
          rfl
        refine pure_ (i := 14) (N := some 57) (v := undef) #[true, true, true, true, true, true, true, true, true, true, true, true, true, true, true, false, false, false] rfl rfl (by kernel_rfl) (fun _ _ _ h => h) (Or.inr ⟨by rfl, rfl⟩) rfl ?_
        refine norm_ (a' := ?_) ?_ ?_
        rotate_left
        · show Act.put _ (some 57) _ = _
          simp only [Act.put, List.setIfInBounds_toArray, List.set_cons_zero, List.set_cons_succ, i64_w, i32_w]
          rfl
        refine pure_ (i := 15) (N := some 58) (v := undef) #[true, true, true, true, true, true, true, true, true, true, true, true, true, true, true, true, false, false] rfl rfl (by kernel_rfl) (fun _ _ _ h => h) (Or.inr ⟨by rfl, rfl⟩) rfl ?_
        refine norm_ (a' := ?_) ?_ ?_
        rotate_left
        · show Act.put _ (some 58) _ = _
          simp only [Act.put, List.setIfInBounds_toArray, List.set_cons_zero, List.set_cons_succ, i64_w, i32_w]
          rfl
        refine pure_ (i := 16) (N := some 59) (v := ?_) (a' := ?_) #[true, true, true, true, true, true, true, true, true, true, true, true, true, true, true, true, true, false] rfl rfl (by kernel_rfl) (fun _ _ _ h => h) (Or.inl ⟨by rfl, ?_⟩) ?_ ?_
        rotate_left
        · intro w'
          go_simp
          with_reducible rfl
        rotate_left
        · simp only [Act.put, List.setIfInBounds_toArray, List.set_cons_zero, List.set_cons_succ, i64_w, i32_w]
          rfl
        refine pure_ (i := 17) (N := some 10) (v := ?_) (a' := ?_) #[true, true, true, true, true, true, true, true, true, true, true, true, true, true, true, true, true, true] rfl rfl (by kernel_rfl) (fun _ _ _ h => h) (Or.inl ⟨by rfl, ?_⟩) ?_ ?_
        rotate_left
        · intro w'
          go_simp
          with_reducible rfl
        rotate_left
        · simp only [Act.put, List.setIfInBounds_toArray, List.set_cons_zero, List.set_cons_succ, i64_w, i32_w]
          rfl
        refine done_ (by kernel_rfl) ?_
        try go_wp2
        go_ret
        exact ⟨rfl, HB6.out⟩
    · have h5 : ((l.length : Int) == 0) = false := beq_eq_false_iff_ne.mpr (by omega)
      rw [decide_eq_false g5, Bool.false_and]
      go_enter Tryz.func17, Tryz.ntmps17
      go_wp2_with (first | (go_at_call 31; refine (clone_calls A c l _ (Kd.C_below HR.out HB1.out) HC.out HL.out).mono ?_; rintro e w2 ⟨A2, c2, rfl, hr2, hc2, hb2⟩; have HB2 : Hid (Below w.heap.size w w2) := HB1.out.trans (hb2.mono HB1.out.size); have HF2 : Hid (w2.heap[w.heap.size]? = some (.cells #[.string old] 9 (0, 0))) := (hb2.block _ (heap_lt HF1.out)).trans HF1.out; have HLC3 : Hid (LC w2.heap.size A2 c2 l (w2.alloc (.cells #[.slice A2 l.length c2] 37 (0, 0)))) := ⟨heap_alloc_new _ _, Kd.C_below hr2 ((Below.refl _ _).alloc (Nat.le_refl _) _), hc2⟩; have HB3 : Hid (Below w.heap.size w (w2.alloc (.cells #[.slice A2 l.length c2] 37 (0, 0)))) := HB2.out.alloc HB2.out.size _; have HF3 : Hid ((w2.alloc (.cells #[.slice A2 l.length c2] 37 (0, 0))).heap[w.heap.size]? = some (.cells #[.string old] 9 (0, 0))) := (Below.heap_alloc _ _ _ (heap_lt HF2.out)).trans HF2.out; clear hr2 hc2 hb2) | (go_at_call 22; refine (proper_calls A2 c2 l _ HLC3.out.rd HLC3.out.cap).mono ?_; rw [hy]; rintro e w4 ⟨rfl, hb4⟩; have HB4 : Hid (Below w.heap.size w w4) := HB3.out.trans (hb4.mono HB3.out.size); have HF4 : Hid (w4.heap[w.heap.size]? = some (.cells #[.string old] 9 (0, 0))) := (hb4.block _ (heap_lt HF3.out)).trans HF3.out; have HLC4 : Hid (LC w2.heap.size A2 c2 l w4) := LC.below HLC3.out hb4; have hcf4 : w4.cell? ⟨w.heap.size, 0, none⟩ = some (.string old) := (Lib.cell_of_heap HF4.out 0).trans rfl; clear hb4) | (go_at_call 22; refine (HP2.out _ _ (heap_alloc_new w4 _)).mono ?_; rintro e w5 ⟨rfl, hb5⟩; have HBa : Hid (Below w4.heap.size w4 w5) := ((Below.refl _ _).alloc (Nat.le_refl _) _).trans (hb5.mono ((Below.refl w4.heap.size w4).alloc (Nat.le_refl _) _).size); have HB5 : Hid (Below w.heap.size w w5) := HB4.out.trans (HBa.out.mono HB4.out.size); have HF5 : Hid (w5.heap[w.heap.size]? = some (.cells #[.string old] 9 (0, 0))) := (HBa.out.block _ (heap_lt HF4.out)).trans HF4.out; have HLC5 : Hid (LC w2.heap.size A2 c2 l w5) := LC.below HLC4.out HBa.out; have HBL : Hid (w.heap.size ≤ w2.heap.size) := HB2.out.size; have hcf5 : w5.cell? ⟨w.heap.size, 0, none⟩ = some (.string old) := (Lib.cell_of_heap HF5.out 0).trans rfl; clear hb5 hcf4))
      go_region
      go_wp2
      go_ret
      exact ⟨rfl, HB5.out.drew⟩
  have f4 : (m == 0) = false := beq_eq_false_iff_ne.mpr g4
  have e0 : extB old m root n l = bothOk old m.toNat root n.toNat l := by unfold extB; rw [if_neg g1, if_neg g2, if_neg g3, hy, hz, if_neg (by decide), if_neg (by decide), if_neg g4]
  rw [e0]
  obtain ⟨N, rfl⟩ : ∃ N : Nat, n = (N : Int) := ⟨n.toNat, by omega⟩
  obtain ⟨M, rfl⟩ : ∃ I : Nat, m = (I : Int) := ⟨m.toNat, by omega⟩
  rw [Int.toNat_natCast, Int.toNat_natCast]
  have HN : Hid (1 ≤ M ∧ M ≤ N ∧ N ≤ 1000000) := ⟨by omega, by omega, by omega⟩
  have HS : Hid (old.size ≤ 1000 ∧ ∀ s ∈ l, s.size ≤ 1000) := ⟨by have := isB_size hzz.1; omega, fun s hs => by have := isB_size (List.all_eq_true.1 hy s hs); omega⟩
  have f2n : decide (N < M) = false := decide_eq_false (by omega)
  have f4n : decide (M = 0) = false := decide_eq_false (by omega)
  clear e0 g1 g2 g3 g4 hzz
  go_enter Tryz.func17, Tryz.ntmps17
  go_wp2_with (first | (go_at_call 31; refine (clone_calls A c l _ (Kd.C_below HR.out HB1.out) HC.out HL.out).mono ?_; rintro e w2 ⟨A2, c2, rfl, hr2, hc2, hb2⟩; have HB2 : Hid (Below w.heap.size w w2) := HB1.out.trans (hb2.mono HB1.out.size); have HF2 : Hid (w2.heap[w.heap.size]? = some (.cells #[.string old] 9 (0, 0))) := (hb2.block _ (heap_lt HF1.out)).trans HF1.out; have HLC3 : Hid (LC w2.heap.size A2 c2 l (w2.alloc (.cells #[.slice A2 l.length c2] 37 (0, 0)))) := ⟨heap_alloc_new _ _, Kd.C_below hr2 ((Below.refl _ _).alloc (Nat.le_refl _) _), hc2⟩; have HB3 : Hid (Below w.heap.size w (w2.alloc (.cells #[.slice A2 l.length c2] 37 (0, 0)))) := HB2.out.alloc HB2.out.size _; have HF3 : Hid ((w2.alloc (.cells #[.slice A2 l.length c2] 37 (0, 0))).heap[w.heap.size]? = some (.cells #[.string old] 9 (0, 0))) := (Below.heap_alloc _ _ _ (heap_lt HF2.out)).trans HF2.out; clear hr2 hc2 hb2) | (go_at_call 22; refine (proper_calls A2 c2 l _ HLC3.out.rd HLC3.out.cap).mono ?_; rw [hy]; rintro e w4 ⟨rfl, hb4⟩; have HB4 : Hid (Below w.heap.size w w4) := HB3.out.trans (hb4.mono HB3.out.size); have HF4 : Hid (w4.heap[w.heap.size]? = some (.cells #[.string old] 9 (0, 0))) := (hb4.block _ (heap_lt HF3.out)).trans HF3.out; have HLC4 : Hid (LC w2.heap.size A2 c2 l w4) := LC.below HLC3.out hb4; have hcf4 : w4.cell? ⟨w.heap.size, 0, none⟩ = some (.string old) := (Lib.cell_of_heap HF4.out 0).trans rfl; clear hb4) | (go_at_call 22; refine (HP2.out _ _ (heap_alloc_new w4 _)).mono ?_; rintro e w5 ⟨rfl, hb5⟩; have HBa : Hid (Below w4.heap.size w4 w5) := ((Below.refl _ _).alloc (Nat.le_refl _) _).trans (hb5.mono ((Below.refl w4.heap.size w4).alloc (Nat.le_refl _) _).size); have HB5 : Hid (Below w.heap.size w w5) := HB4.out.trans (HBa.out.mono HB4.out.size); have HF5 : Hid (w5.heap[w.heap.size]? = some (.cells #[.string old] 9 (0, 0))) := (HBa.out.block _ (heap_lt HF4.out)).trans HF4.out; have HLC5 : Hid (LC w2.heap.size A2 c2 l w5) := LC.below HLC4.out HBa.out; have HBL : Hid (w.heap.size ≤ w2.heap.size) := HB2.out.size; have hcf5 : w5.cell? ⟨w.heap.size, 0, none⟩ = some (.string old) := (Lib.cell_of_heap HF5.out 0).trans rfl; clear hb5 hcf4))
  have hcw := ext_world w5 w2.heap.size w.heap.size old A2 c2 l HF5.out HLC5.out 40 rfl _ rfl
  obtain ⟨hfx8, hps8, hb8⟩ := hcw
  have HB8 := Lib.hid (HB5.out.trans (hb8.mono HB5.out.size))
  have HX : Hid (∀ i, (i = w2.heap.size ∨ i = w5.heap.size) → w.heap.size ≤ i) := fun i hi => by
    rcases hi with rfl | rfl
    · exact HBL.out
    · exact HB5.out.size
  refine (both_calls w.heap.size (w5.heap.size + 1) (w5.heap.size + 1 + 1) w2.heap.size w5.heap.size old HS.out.1 A2 c2 N N M true l false _ HN.out.1 HN.out.2.1 HN.out.2.2 (Nat.le_refl _) HS.out.2 hfx8 hps8 (fun w' k => HT.out.below (HB8.out.trans (k.below HB8.out.size HX.out)))).mono ?_
  rintro e w9 ⟨rfl, hp9, he9⟩
  have HB9 : Hid (Below w.heap.size w w9) := HB8.out.trans (he9.below HB8.out.size HX.out)
  have hfx9 := FB.exc hfx8 hps8 he9
  have hcv := (Lib.cell_of_heap hfx9.v 0).trans rfl
  have hcf := (Lib.cell_of_heap hfx9.f 0).trans rfl
  have HOK : Hid (bothOk old M root N l = (decide ((bothTo N N M true old l false).1 = old) && (decide ((bothTo N N M true old l false).2.1 = root) && (!(bothTo N N M true old l false).2.2.2 && decide ((bothTo N N M true old l false).2.2.1.length = 0))))) := rfl
  obtain ⟨x, hx⟩ : ∃ x : ByteArray, (bothTo N N M true old l false).1 = x := ⟨_, rfl⟩
  obtain ⟨y, hyy⟩ : ∃ x : ByteArray, (bothTo N N M true old l false).2.1 = x := ⟨_, rfl⟩
  obtain ⟨l9, hl9⟩ : ∃ x : List ByteArray, (bothTo N N M true old l false).2.2.1 = x := ⟨_, rfl⟩
  obtain ⟨s9, hs9⟩ : ∃ x : Bool, (bothTo N N M true old l false).2.2.2 = x := ⟨_, rfl⟩
  rw [hx, hyy, hl9, hs9] at HOK
  rw [hl9, hs9] at hp9
  rw [hx, hyy]
  have HP9 := Lib.hid hp9
  clear hfx8 hps8 hb8 hfx9 hp9 he9 hx hyy hl9 hs9 hcf5
  by_cases hxo : x = old
  · have hxo' := hxo
    subst hxo'
    by_cases hyr : y = root
    · subst hyr
      go_wp2_with (go_at_call 36; refine (done_calls w2.heap.size w5.heap.size A2 c2 l9 s9 w9 HP9.out).mono ?_; rintro e w10 ⟨rfl, he10⟩; have HB10 : Hid (Below w.heap.size w w10) := HB9.out.trans (he10.below HB9.out.size (fun _ h => h.elim)); clear he10)
      go_ret
      refine ⟨?_, HB10.out⟩
      rw [HOK.out]
      show Ending.returned (Value.bool (!s9 && decide (l9 = []))) = _
      simp [List.length_eq_zero_iff]
    · have hne : ¬ y.toList = root.toList := fun e => hyr (toList_inj e)
      have hne2 : (y.toList == root.toList) = false := beq_eq_false_iff_ne.mpr hne
      have HNE : Hid (decide (y = root) = false) := decide_eq_false hyr
      clear hyr
      go_wp2
      go_ret
      exact ⟨by rw [HOK.out, HNE.out]; simp, HB9.out⟩
  · have hne : ¬ x.toList = old.toList := fun e => hxo (toList_inj e)
    have hne2 : (x.toList == old.toList) = false := beq_eq_false_iff_ne.mpr hne
    have HNE : Hid (decide (x = old) = false) := decide_eq_false hxo
    clear hxo
    go_wp2
    go_ret
    exact ⟨by rw [HOK.out, HNE.out]; rfl, HB9.out⟩

def tree_Extends.f (a0 : ByteArray) (a1 : Int) (a2 : ByteArray) (a3 : Int) (l4 : List ByteArray) : Option Bool := if l4.length ≤ 1000000 then some (extB a0 a1 a2 a3 l4) else none
theorem tree_Extends.calls (a0 : ByteArray) (a1 : Int) (a2 : ByteArray) (a3 : Int) (A4 : Option Addr) (c4 : Nat) (l4 : List ByteArray) (r : Bool) (w : World) (hr4 : Kd.C Kd.string w A4 l4.length l4) (hc4 : l4.length ≤ c4) (hT : Tabs w) (h : tree_Extends.f a0 a1 a2 a3 l4 = some r) :
    Calls Tryz.prog 17 #[.string a0, .int .i64 a1, .string a2, .int .i64 a3, .slice A4 l4.length c4] w fun e w' => e = .returned (.bool r) ∧ Below w.heap.size w w' := by
  unfold tree_Extends.f at h
  split at h
  · rename_i hs
    obtain rfl := Option.some.inj h
    exact extends_calls a0 a1 a2 a3 A4 c4 l4 w hr4 hc4 hs hT
  · exact absurd h (by simp)

end Go.Proofs.YtapnakfhkdcfeaaGreatDoor.Dg


