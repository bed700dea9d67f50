/-
  Plain: permutations one behind the other, in whatever groups; and back in the other order. No program is named here.
-/
import Derived.Test.YtkoljbjihebifaaPlS
namespace Go.Proofs.Ytkoljbjihebifaa
theorem permGo_ofT {n : Int} : ∀ (rest seen : List Int), (∀ v ∈ rest, 0 ≤ v ∧ v < n) → (seen ++ rest).Nodup → permGo n seen rest = true
  | [], _, _, _ => rfl
  | x :: r, seen, hm, hn => by
    have hx := hm x (by simp)
    have hns : x ∉ seen := fun h => by
      rw [List.nodup_append] at hn
      exact hn.2.2 x h x (by simp) rfl
    simp only [permGo, Bool.and_eq_true, decide_eq_true_eq, Bool.not_eq_true', decide_eq_false_iff_not]
    exact ⟨⟨hx, hns⟩, permGo_ofT r (seen ++ [x]) (fun v hv => hm v (by simp [hv])) (by simpa using hn)⟩
theorem validB_ofT {xs : List Int} (h6 : xs.length ≤ 6) (hm : ∀ v ∈ xs, 0 ≤ v ∧ v < xs.length) (hn : xs.Nodup) : validB xs = true := by
  simp only [validB, Bool.and_eq_true, decide_eq_true_eq]
  exact ⟨h6, permGo_ofT xs [] hm (by simpa using hn)⟩
theorem thenL_len (xs ys : List Int) : (thenL xs ys).length = xs.length := by simp [thenL]
theorem thenL_get (xs ys : List Int) {k : Nat} (h : k < xs.length) : (thenL xs ys).getD k 0 = ys.getD (xs.getD k 0).toNat 0 := by simp [thenL, h]
theorem valid_inj {xs : List Int} (h : validB xs = true) {i j : Nat} (hi : i < xs.length) (hj : j < xs.length) (he : xs.getD i 0 = xs.getD j 0) : i = j := by
  have hn := valid_nodup h
  rw [getD_lt xs 0 i hi, getD_lt xs 0 j hj] at he
  exact (List.getElem_inj hn).1 he
theorem thenL_valid {a b : List Int} (ha : validB a = true) (hb : validB b = true) (hl : a.length = b.length) : validB (thenL a b) = true := by
  have h6 := valid_len ha
  refine validB_ofT (by rw [thenL_len]; exact h6) (fun v hv => ?_) ?_
  · obtain ⟨u, hu, rfl⟩ := List.mem_map.1 hv
    have hu2 := valid_mem ha u hu
    rw [thenL_len, hl]
    exact valid_at hb _ (by omega)
  · unfold thenL List.Nodup
    rw [List.pairwise_map]
    refine List.Pairwise.imp_of_mem ?_ (valid_nodup ha)
    intro u v hu hv hne he
    have hu2 := valid_mem ha u hu
    have hv2 := valid_mem ha v hv
    have := valid_inj hb (i := u.toNat) (j := v.toNat) (by omega) (by omega) he
    exact hne (by omega)
theorem thenL_assoc {a b c : List Int} (ha : validB a = true) (hl : a.length = b.length) : thenL (thenL a b) c = thenL a (thenL b c) := by
  unfold thenL
  rw [List.map_map]
  apply List.map_congr_left
  intro v hv
  have := valid_mem ha v hv
  have hv : v.toNat < b.length := by omega
  simp [hv]
theorem back_at {xs : List Int} (h : validB xs = true) {k : Nat} (hk : k < xs.length) : (backL xs).getD (xs.getD k 0).toNat 0 = k := by
  have h1 := (back_facts h).2.1
  have h2 := thenL_get xs (backL xs) hk
  rw [h1] at h2
  rw [← h2]
  simp [iota, hk]
theorem backL_lenT (xs : List Int) : (backL xs).length = xs.length := backGo_len xs _
theorem back_back {xs : List Int} (h : validB xs = true) {j : Nat} (hj : j < xs.length) : xs.getD ((backL xs).getD j 0).toNat 0 = j := by
  have h1 := back_facts h
  have h2 := back_at h1.1 (k := j) (by rw [backL_lenT]; exact hj)
  rw [h1.2.2] at h2
  exact h2
theorem back_then {a b : List Int} (ha : validB a = true) (hb : validB b = true) (hl : a.length = b.length) : backL (thenL a b) = thenL (backL b) (backL a) := by
  have hx := thenL_valid ha hb hl
  have hal := backL_lenT a
  have hbl := backL_lenT b
  have hxl := backL_lenT (thenL a b)
  have htl := thenL_len a b
  have hzl := thenL_len (backL b) (backL a)
  apply List.ext_getElem (by omega)
  intro j h1 h2
  rw [← getD_lt _ 0 j h1, ← getD_lt _ 0 j h2, thenL_get _ _ (by omega)]
  have hk := valid_at (back_facts hx).1 j h1
  generalize hke : ((backL (thenL a b)).getD j 0) = k at hk
  have hj := back_back hx (j := j) (by omega)
  rw [hke, thenL_get a b (by omega)] at hj
  have hak := valid_at ha k.toNat (by omega)
  have e1 := back_at hb (k := (a.getD k.toNat 0).toNat) (by omega)
  have e2 := back_at ha (k := k.toNat) (by omega)
  rw [hj, Int.toNat_natCast] at e1
  rw [e1, Int.toNat_natCast, e2]
  omega
end Go.Proofs.Ytkoljbjihebifaa
