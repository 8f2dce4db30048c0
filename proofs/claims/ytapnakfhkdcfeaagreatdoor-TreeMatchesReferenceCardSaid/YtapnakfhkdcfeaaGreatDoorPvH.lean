/-
  The tree layer's examples: what the head of each law computes; it returns true.
-/
import Derived.Test.YtapnakfhkdcfeaaGreatDoorPvT
import Derived.Test.YtapnakfhkdcfeaaGreatDoorHdWalk
set_option linter.unusedVariables false
set_option linter.unusedSimpArgs false
namespace Go.Proofs.YtapnakfhkdcfeaaGreatDoor.Pure
open Go.RowKit Go.Proofs.YtapnakfhkdcfeaaGreatDoor.P Go.Proofs.YtapnakfhkdcfeaaGreatDoor.Dg Go.Proofs.YtapnakfhkdcfeaaGreatDoorW.PrintWords Go.Proofs.YtapnakfhkdcfeaaGreatDoorW.PrintMore
attribute [local irreducible] sumB

theorem itoa1 (n d : Nat) (h : n < 10) (hd : d = 48 + n) : Lib.itoa (n : Int) = [UInt8.ofNat d] := by rw [Lib.itoa_nonneg]; unfold Lib.decDigits; rw [dif_pos h, hd]
theorem itoa16 : Lib.itoa ((16 : Nat) : Int) = [49, 54] := by
  rw [Lib.itoa_nonneg]; unfold Lib.decDigits; rw [dif_neg (by decide)]; unfold Lib.decDigits; rw [dif_pos (by decide)]; rfl
theorem piece16 (x : ByteArray) (h : x.size = 16) : piece x = [49, 54, 58] ++ x.data.toList := by unfold piece; rw [h, itoa16]; rfl
theorem node_join (x y : ByteArray) (hx : x.size = 16) (hy : y.size = 16) : joinL [nodeWord, x, y] = [52, 58, 110, 111, 100, 101] ++ ([49, 54, 58] ++ x.data.toList ++ ([49, 54, 58] ++ y.data.toList)) := by
  simp only [joinL, List.flatMap_cons, List.flatMap_nil, List.append_nil]
  rw [piece16 x hx, piece16 y hy, show piece nodeWord = [52, 58, 110, 111, 100, 101] by unfold piece; rw [show (nodeWord.size : Int) = ((4 : Nat) : Int) from rfl, itoa1 4 52 (by decide) rfl]; rfl]
theorem node_data (x y : ByteArray) (hx : x.size = 16) (hy : y.size = 16) : (nodeB x y).data.toList = sumL ([52, 58, 110, 111, 100, 101] ++ ([49, 54, 58] ++ x.data.toList ++ ([49, 54, 58] ++ y.data.toList))) := by
  unfold nodeB; rw [sumB_data, ← node_join x y hx hy]; rfl
theorem leaf_data (c : UInt8) : (leafB ⟨#[c]⟩).data.toList = sumL [52, 58, 108, 101, 97, 102, 49, 58, c] := by
  unfold leafB
  rw [sumB_data]
  congr 1
  show joinL [leafWord, ⟨#[c]⟩] = _
  simp only [joinL, List.flatMap_cons, List.flatMap_nil, List.append_nil]
  rw [show piece leafWord = [52, 58, 108, 101, 97, 102] by unfold piece; rw [show (leafWord.size : Int) = ((4 : Nat) : Int) from rfl, itoa1 4 52 (by decide) rfl]; rfl,
    show piece ⟨#[c]⟩ = [49, 58, c] by unfold piece; rw [show ((⟨#[c]⟩ : ByteArray).size : Int) = ((1 : Nat) : Int) from rfl, itoa1 1 49 (by decide) rfl]; rfl]
  rfl
theorem valA : (leafB ⟨#[97]⟩).data.toList = [52, 102, 53, 98, 100, 50, 56, 99, 97, 50, 57, 99, 98, 98, 52, 98] := by rw [leaf_data]; decide +kernel
theorem valB : (leafB ⟨#[98]⟩).data.toList = [102, 101, 51, 48, 98, 51, 54, 54, 53, 56, 48, 98, 98, 56, 49, 97] := by rw [leaf_data]; decide +kernel
theorem valC : (leafB ⟨#[99]⟩).data.toList = [100, 54, 54, 99, 52, 101, 55, 48, 50, 97, 102, 57, 102, 54, 48, 100] := by rw [leaf_data]; decide +kernel
theorem valAB : (nodeB (leafB ⟨#[97]⟩) (leafB ⟨#[98]⟩)).data.toList = [102, 97, 56, 55, 50, 50, 49, 53, 56, 97, 98, 52, 54, 48, 97, 57] := by rw [node_data (leafB ⟨#[97]⟩) (leafB ⟨#[98]⟩) (sumB_len _) (sumB_len _), valA, valB]; decide +kernel
theorem valBB : (nodeB (leafB ⟨#[98]⟩) (leafB ⟨#[98]⟩)).data.toList = [49, 51, 97, 102, 50, 57, 100, 52, 100, 56, 53, 102, 52, 99, 48, 51] := by rw [node_data (leafB ⟨#[98]⟩) (leafB ⟨#[98]⟩) (sumB_len _) (sumB_len _), valB]; decide +kernel
theorem valABC : (nodeB (nodeB (leafB ⟨#[97]⟩) (leafB ⟨#[98]⟩)) (leafB ⟨#[99]⟩)).data.toList = [98, 49, 56, 54, 100, 56, 48, 48, 50, 57, 99, 50, 57, 97, 55, 97] := by rw [node_data (nodeB (leafB ⟨#[97]⟩) (leafB ⟨#[98]⟩)) (leafB ⟨#[99]⟩) (sumB_len _) (sumB_len _), valAB, valC]; decide +kernel
theorem valABB : (nodeB (nodeB (leafB ⟨#[97]⟩) (leafB ⟨#[98]⟩)) (leafB ⟨#[98]⟩)).data.toList = [97, 51, 49, 99, 57, 52, 102, 97, 49, 51, 55, 57, 100, 99, 101, 51] := by rw [node_data (nodeB (leafB ⟨#[97]⟩) (leafB ⟨#[98]⟩)) (leafB ⟨#[98]⟩) (sumB_len _) (sumB_len _), valAB, valB]; decide +kernel
theorem valBBC : (nodeB (nodeB (leafB ⟨#[98]⟩) (leafB ⟨#[98]⟩)) (leafB ⟨#[99]⟩)).data.toList = [57, 56, 55, 98, 56, 50, 51, 48, 54, 102, 54, 97, 52, 49, 54, 101] := by rw [node_data (nodeB (leafB ⟨#[98]⟩) (leafB ⟨#[98]⟩)) (leafB ⟨#[99]⟩) (sumB_len _) (sumB_len _), valBB, valC]; decide +kernel
theorem ne_ABB : nodeB (nodeB (leafB ⟨#[97]⟩) (leafB ⟨#[98]⟩)) (leafB ⟨#[98]⟩) ≠ nodeB (nodeB (leafB ⟨#[97]⟩) (leafB ⟨#[98]⟩)) (leafB ⟨#[99]⟩) := fun h => by
  have h2 := congrArg (fun s : ByteArray => s.data.toList) h
  try dsimp only at h2
  rw [valABB, valABC] at h2
  exact absurd h2 (by decide)
theorem ne_BBC : nodeB (nodeB (leafB ⟨#[98]⟩) (leafB ⟨#[98]⟩)) (leafB ⟨#[99]⟩) ≠ nodeB (nodeB (leafB ⟨#[97]⟩) (leafB ⟨#[98]⟩)) (leafB ⟨#[99]⟩) := fun h => by
  have h2 := congrArg (fun s : ByteArray => s.data.toList) h
  try dsimp only at h2
  rw [valBBC, valABC] at h2
  exact absurd h2 (by decide)

theorem half2 : halfN 2 = 1 := by decide
theorem half3 : halfN 3 = 2 := by decide
theorem rootW2 (x y : ByteArray) : rootW [x, y] = nodeB x y := by
  rw [rootW_node _ (by simp), show halfN [x, y].length = 1 from half2, rootW_one _ (by simp), rootW_one _ (by simp)]; rfl
theorem rootW3 (x y z : ByteArray) : rootW [x, y, z] = nodeB (nodeB x y) z := by
  rw [rootW_node _ (by simp), show halfN [x, y, z].length = 2 from half3, show [x, y, z].take 2 = [x, y] from rfl, show [x, y, z].drop 2 = [z] from rfl, rootW2, rootW_one _ (by simp)]; rfl
theorem pathW3_2 (x y z : ByteArray) : pathW [x, y, z] 2 = [nodeB x y] := by
  rw [pathW_right _ _ (by simp) (by rw [show halfN [x, y, z].length = 2 from half3]; omega), show halfN [x, y, z].length = 2 from half3, pathW_one _ _ (by simp), show [x, y, z].take 2 = [x, y] from rfl, rootW2]; rfl
theorem pathW3_0 (x y z : ByteArray) : pathW [x, y, z] 0 = [y, z] := by
  rw [pathW_left _ _ (by simp) (by rw [show halfN [x, y, z].length = 2 from half3]; omega), show halfN [x, y, z].length = 2 from half3, show [x, y, z].take 2 = [x, y] from rfl, show [x, y, z].drop 2 = [z] from rfl,
    pathW_left _ _ (by simp) (by rw [show halfN [x, y].length = 1 from half2]; omega), show halfN [x, y].length = 1 from half2, pathW_one _ _ (by simp), rootW_one _ (by simp), rootW_one _ (by simp)]; rfl
theorem linkW2_1 (x y : ByteArray) : linkW [x, y] 1 true = [y] := by
  rw [linkW_left _ _ _ (by simp) (by simp) (by rw [show halfN [x, y].length = 1 from half2]; omega), show halfN [x, y].length = 1 from half2, show [x, y].take 1 = [x] from rfl, show [x, y].drop 1 = [y] from rfl,
    show linkW [x] 1 true = [] from linkW_all [x] true, rootW_one _ (by simp)]; rfl
theorem linkW3_2 (x y z : ByteArray) : linkW [x, y, z] 2 true = [z] := by
  rw [linkW_left _ _ _ (by simp) (by simp) (by rw [show halfN [x, y, z].length = 2 from half3]; omega), show halfN [x, y, z].length = 2 from half3, show [x, y, z].take 2 = [x, y] from rfl, show [x, y, z].drop 2 = [z] from rfl,
    show linkW [x, y] 2 true = [] from linkW_all [x, y] true, rootW_one _ (by simp)]; rfl
theorem linkW3_1 (x y z : ByteArray) : linkW [x, y, z] 1 true = [y, z] := by
  rw [linkW_left _ _ _ (by simp) (by simp) (by rw [show halfN [x, y, z].length = 2 from half3]; omega), show halfN [x, y, z].length = 2 from half3, show [x, y, z].take 2 = [x, y] from rfl, show [x, y, z].drop 2 = [z] from rfl,
    linkW2_1, rootW_one _ (by simp)]; rfl
theorem len3_2 : lenW 3 2 = 1 := by rw [lenW_right 3 2 (by simp) (by rw [half3]; omega), lenW_one _ _ (by rw [half3]; omega)]
theorem up3_2 (d x : ByteArray) : upW 3 2 d [x] = nodeB x d := by rw [upW_right 3 2 _ _ (by simp) (by rw [half3]; omega), upW_one _ _ _ _ (by rw [half3]; omega)]; rfl
theorem long3_1 : longW 3 1 true = 2 := by
  rw [longW_left 3 1 true (by simp) (by simp) (by rw [half3]; omega), half3, longW_left 2 1 true (by simp) (by simp) (by rw [half2]; omega), half2, longW_all]; rfl
theorem both3_1 (d y z : ByteArray) : bothW 3 1 true d [y, z] = (d, nodeB (nodeB d y) z) := by
  rw [bothW_left 3 1 true _ _ (by simp) (by simp) (by rw [half3]; omega), half3, show [y, z].dropLast = [y] from rfl, bothW_left 2 1 true _ _ (by simp) (by simp) (by rw [half2]; omega), half2, bothW_all]; rfl

theorem all3 (x y z : ByteArray) (hx : isB x = true) (hy : isB y = true) (hz : isB z = true) : [x, y, z].all isB = true := by simp [hx, hy, hz]
theorem same_rfl (k : Nat) (a b : List ByteArray) (ha : a.length ≤ 1000000) (hk : a.length < k) (h : a = b) : observatoryref01_Same.f k a b = some true := by rw [same_f k a b ha hk, decide_eq_true h]
theorem check3 (d x r : ByteArray) (hd : isB d = true) (hx : isB x = true) : tree_Check.f r 3 2 d [x] = some (decide (nodeB x d = r)) := by
  rw [check_f _ _ _ _ _ (by simp), checkB_W, if_neg (by decide), if_neg (by decide), if_neg (by decide), if_neg (by simp [hx]), if_neg (by rw [hd]; decide), show (3 : Int).toNat = 3 from rfl, show (2 : Int).toNat = 2 from rfl, len3_2, up3_2]
  simp
theorem ext3 (d r y z : ByteArray) (hd : isB d = true) (hr : isB r = true) (hy : isB y = true) (hz : isB z = true) : tree_Extends.f d 1 r 3 [y, z] = some (decide (nodeB (nodeB d y) z = r)) := by
  rw [ext_f _ _ _ _ _ (by simp), extB_W, if_neg (by decide), if_neg (by decide), if_neg (by decide), if_neg (by simp [hy, hz]), if_neg (by rw [hd, hr]; decide), if_neg (by decide), show (3 : Int).toNat = 3 from rfl, show (1 : Int).toNat = 1 from rfl, long3_1, both3_1]
  simp

theorem head_calls (w : World) (hT : Tabs w) : Calls Tryz.prog 4 #[] w fun e w' => e = .returned (.bool true) ∧ Below w.heap.size w w' := by
  have n1 := ne_ABB
  have n2 := ne_BBC
  have ia : isB (leafB ⟨#[97]⟩) = true := isB_sumB _
  have ib : isB (leafB ⟨#[98]⟩) = true := isB_sumB _
  have ic : isB (leafB ⟨#[99]⟩) = true := isB_sumB _
  have e1 : tree_Leaf.f ⟨#[97]⟩ = some (leafB ⟨#[97]⟩) := leaf_f _ (by decide)
  have e2 : tree_Leaf.f ⟨#[98]⟩ = some (leafB ⟨#[98]⟩) := leaf_f _ (by decide)
  have e3 : tree_Leaf.f ⟨#[99]⟩ = some (leafB ⟨#[99]⟩) := leaf_f _ (by decide)
  have e4 : digest_List.f [⟨#[108, 101, 97, 102]⟩, ⟨#[97]⟩] = some (leafB ⟨#[97]⟩) := by
    have := e1; unfold tree_Leaf.f at this
    rcases h : digest_List.f [(⟨#[108, 101, 97, 102]⟩ : ByteArray), ⟨#[97]⟩] with _ | v
    · rw [h] at this; exact absurd this (by simp)
    · rw [h] at this; simpa using this
  generalize leafB ⟨#[97]⟩ = a at *
  generalize leafB ⟨#[98]⟩ = b at *
  generalize leafB ⟨#[99]⟩ = c at *
  have sa : a.size ≤ 1000 := by rw [isB_size ia]; omega
  have sb : b.size ≤ 1000 := by rw [isB_size ib]; omega
  have sc : c.size ≤ 1000 := by rw [isB_size ic]; omega
  have iab : isB (nodeB a b) = true := isB_sumB _
  have iabc : isB (nodeB (nodeB a b) c) = true := isB_sumB _
  have sab : (nodeB a b).size ≤ 1000 := by rw [nodeB_len]; omega
  have hl := all3 a b c ia ib ic
  have node : ∀ x y : ByteArray, x.size ≤ 1000 → y.size ≤ 1000 → digest_List.f [⟨#[110, 111, 100, 101]⟩, x, y] = some (nodeB x y) := fun x y hx hy => by
    have := node_f x y hx hy; unfold PA.tree_node.f at this
    rcases h : digest_List.f [(⟨#[110, 111, 100, 101]⟩ : ByteArray), x, y] with _ | v
    · rw [h] at this; exact absurd this (by simp)
    · rw [h] at this; simpa using this
  obtain ⟨k, hk⟩ : ∃ k, k = 4000 := ⟨_, rfl⟩
  have p2 : tree_Path.f k [a, b, c] 2 = some ([nodeB a b], 0) := by rw [path_f k _ _ (by simp) (by omega), if_pos ⟨hl, by simp, by simp⟩, show (2 : Int).toNat = 2 from rfl, pathW3_2]
  have p0 : tree_Path.f k [a, b, c] 0 = some ([b, c], 0) := by rw [path_f k _ _ (by simp) (by omega), if_pos ⟨hl, by simp, by simp⟩, show (0 : Int).toNat = 0 from rfl, pathW3_0]
  have p3 : tree_Path.f k [a, b, c] 3 = some ([], 1) := by rw [path_f k _ _ (by simp) (by omega), if_neg (fun h => absurd h.2.2 (by simp))]
  have l2 : tree_Link.f k [a, b, c] 2 = some ([c], 0) := by rw [link_f k _ _ (by simp) (by omega), if_pos ⟨hl, by simp, by simp⟩, linkB, if_neg (by decide), show (2 : Int).toNat = 2 from rfl, linkW3_2]
  have l1 : tree_Link.f k [a, b, c] 1 = some ([b, c], 0) := by rw [link_f k _ _ (by simp) (by omega), if_pos ⟨hl, by simp, by simp⟩, linkB, if_neg (by decide), show (1 : Int).toNat = 1 from rfl, linkW3_1]
  have r0 : tree_Root.f [(⟨#[120]⟩ : ByteArray)] = some (⟨#[]⟩, 1) := by rw [root_f _ (by simp), if_neg (by decide)]
  have r3 : observatorylaw02_rooted.f [a, b, c] = some (nodeB (nodeB a b) c) := by rw [rooted_good _ (by simp) hl, rootB_pos _ (by simp), rootW3]
  have r1 : observatorylaw02_rooted.f [a] = some a := by rw [rooted_good _ (by simp) (by simp [ia]), rootB_pos _ (by simp), rootW_one _ (by simp)]; rfl
  have rn : observatorylaw02_rooted.f [] = some emptyB := by rw [rooted_good _ (by simp) rfl, rootB_W, if_pos (by rfl)]
  have em : digest_List.f [⟨#[101, 109, 112, 116, 121]⟩] = some emptyB := empty_f
  refine (head_walk k k k a ⟨e1⟩ b ⟨e2⟩ c ⟨e3⟩ [a, b, c] ⟨rfl⟩ _ _ ⟨p2⟩ _ _ ⟨p0⟩ _ _ ⟨l2⟩ _ _ ⟨l1⟩ _ _ ⟨p3⟩ _ ⟨rfl⟩ _ _ ⟨r0⟩ _ ⟨rfl⟩ _ ⟨node a b sa sb⟩ _ ⟨r3⟩ _ ⟨rn⟩ _ ⟨rfl⟩ _ ⟨em⟩ ⟨rfl⟩ _ ⟨rfl⟩ _ ⟨e4⟩ ⟨rfl⟩ _ ⟨rfl⟩ _ ⟨r1⟩ ⟨rfl⟩ _ ⟨rfl⟩ _ ⟨node _ c sab sc⟩
    ⟨by simp⟩ ⟨rfl⟩ _ ⟨rfl⟩ ⟨same_rfl k _ _ (by simp) (by simp; omega) rfl⟩ ⟨rfl⟩ _ ⟨rfl⟩ ⟨same_rfl k _ _ (by simp) (by simp; omega) rfl⟩ ⟨rfl⟩ _ ⟨rfl⟩ ⟨same_rfl k _ _ (by simp) (by simp; omega) rfl⟩ ⟨rfl⟩ _ ⟨rfl⟩ ⟨same_rfl k _ _ (by simp) (by simp; omega) rfl⟩ ⟨rfl⟩ ⟨rfl⟩
    ⟨by rw [check3 _ _ _ ic iab, decide_eq_true rfl]⟩ ⟨by rw [check3 _ _ _ ib iab, decide_eq_false n1]⟩ ⟨by rw [ext3 _ _ _ _ ia iabc ib ic, decide_eq_true rfl]⟩ false ⟨by rw [ext3 _ _ _ _ ib iabc ib ic, decide_eq_false n2]⟩ w hT).mono fun e w' h => h

end Go.Proofs.YtapnakfhkdcfeaaGreatDoor.Pure
