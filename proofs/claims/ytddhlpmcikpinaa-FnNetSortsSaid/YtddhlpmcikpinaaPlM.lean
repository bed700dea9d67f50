/-
  Plain: who sorts 0 and 1 sorts everything; networks of neighbours; how many comparators sorting takes. No program is named here.
-/
import Derived.Test.YtddhlpmcikpinaaNetQ
import Derived.Test.YtddhlpmcikpinaaNetA
import Derived.Test.YtddhlpmcikpinaaPlS
import Derived.Test.YtddhlpmcikpinaaPlC
namespace Go.Proofs.Ytddhlpmcikpinaa
open Go.RowKit V
/-! a network and an ascending change of all numbers -/
def Asc (f : Int → Int) : Prop := ∀ x y, x ≤ y → f x ≤ f y
theorem getD_map {f : Int → Int} (s : List Int) (i : Nat) (h : i < s.length) : (s.map f).getD i 0 = f (s.getD i 0) := by simp [h]
theorem map_set' {f : Int → Int} (s : List Int) (i : Nat) (v : Int) : (s.set i v).map f = (s.map f).set i (f v) := by simp
theorem stepR_map {f : Int → Int} (hf : Asc f) (s : List Int) (c : Int × Int) (h1 : c.1.toNat < s.length) (h2 : c.2.toNat < s.length) : stepR (s.map f) c = (stepR s c).map f := by
  unfold stepR
  rw [getD_map s _ h1, getD_map s _ h2, map_set', map_set']
  generalize s.getD c.1.toNat 0 = x
  generalize s.getD c.2.toNat 0 = y
  rcases Int.le_total x y with h | h
  · have := hf x y h
    rw [Int.min_eq_left h, Int.min_eq_left this, Int.max_eq_right h, Int.max_eq_right this]
  · have := hf y x h
    rw [Int.min_eq_right h, Int.min_eq_right this, Int.max_eq_left h, Int.max_eq_left this]
theorem runN_map {f : Int → Int} (hf : Asc f) {l : Nat} : ∀ (net : Net) (s : List Int), (∀ c ∈ net, c.1.toNat < l ∧ c.2.toNat < l) → s.length = l → runN net (s.map f) = (runN net s).map f
  | [], s, _, _ => rfl
  | c :: r, s, h, hl => by
    have hc := h c (by simp)
    show runN r (stepR (s.map f) c) = (runN r (stepR s c)).map f
    rw [stepR_map hf s c (by omega) (by omega)]
    exact runN_map hf r _ (fun c hc => h c (by simp [hc])) (by rw [stepR_len]; exact hl)
def thr (t x : Int) : Int := if t ≤ x then 1 else 0
theorem thr_asc (t : Int) : Asc (thr t) := fun x y h => by unfold thr; split <;> split <;> omega
theorem up_map {f : Int → Int} (hf : Asc f) {s : List Int} (h : upB s = true) : upB (s.map f) = true := by
  rw [upB_iff] at h ⊢
  intro k h0 hk
  rw [List.length_map] at hk
  rw [getD_map s _ (by omega), getD_map s _ hk]
  exact hf _ _ (h k h0 hk)
theorem up_thr {s : List Int} (h : ∀ t, upB (s.map (thr t)) = true) : upB s = true := by
  rw [upB_iff]
  intro k h0 hk
  have h1 := h (s.getD (k - 1) 0)
  rw [upB_iff] at h1
  have h2 := h1 k h0 (by simpa using hk)
  rw [getD_map s _ (by omega), getD_map s _ hk] at h2
  unfold thr at h2
  split at h2 <;> split at h2 <;> omega
theorem bitsL_cons (l n : Nat) : bitsL (l + 1) n = ((n % 2 : Nat) : Int) :: bitsL l (n / 2) := by
  unfold bitsL
  rw [List.range_succ_eq_map, List.map_cons, List.map_map]
  congr 1
  · simp
  · apply List.map_congr_left
    intro k _
    simp only [Function.comp, Nat.succ_eq_add_one]
    rw [Nat.pow_succ', Nat.div_div_eq_div_mul]
theorem bits_of : ∀ (ys : List Int), (∀ v ∈ ys, v = 0 ∨ v = 1) → ∃ n, n < 2 ^ ys.length ∧ bitsL ys.length n = ys
  | [], _ => ⟨0, by decide, rfl⟩
  | y :: ys, h => by
    obtain ⟨n, hn, hb⟩ := bits_of ys (fun v hv => h v (by simp [hv]))
    rcases h y (by simp) with rfl | rfl
    · refine ⟨2 * n, by simp only [List.length_cons, Nat.pow_succ]; omega, ?_⟩
      rw [List.length_cons, bitsL_cons, show 2 * n % 2 = 0 by omega, show 2 * n / 2 = n by omega, hb]
      rfl
    · refine ⟨2 * n + 1, by simp only [List.length_cons, Nat.pow_succ]; omega, ?_⟩
      rw [List.length_cons, bitsL_cons, show (2 * n + 1) % 2 = 1 by omega, show (2 * n + 1) / 2 = n by omega, hb]
      rfl
/-- who sorts the bits of all numbers sorts every list -/
theorem sorts_list {lines : Int} {net : Net} (hv : netB lines net = true) (hs : sortsAll lines net = true) {xs : List Int} (hl : xs.length = lines.toNat) : upB (runN net xs) = true := by
  refine up_thr fun t => ?_
  rw [← runN_map (thr_asc t) net xs (netB_lt hv) hl]
  obtain ⟨n, hn, hb⟩ := bits_of (xs.map (thr t)) (fun v hv => by
    obtain ⟨x, _, rfl⟩ := List.mem_map.1 hv
    unfold thr; split <;> simp)
  rw [List.length_map, hl] at hn hb
  rw [← hb]
  exact sortsAll_iff.1 hs n hn
/-- a permutation of which the bits of n are an ascending change -/
def zerosOf (l n : Nat) : Nat := (List.range l).countP fun k => n / 2 ^ k % 2 == 0
def permOfBits (l n : Nat) : List Int := (List.range l).map fun k => if n / 2 ^ k % 2 = 0 then (((List.range k).countP fun j => n / 2 ^ j % 2 == 0 : Nat) : Int) else ((zerosOf l n + (List.range k).countP fun j => n / 2 ^ j % 2 == 1 : Nat) : Int)
def okPB (l n : Nat) : Bool := validB (permOfBits l n) && ((permOfBits l n).map (thr (zerosOf l n)) == bitsL l n)
set_option maxRecDepth 100000 in
theorem okPB_all : ((List.range 7).all fun l => (List.range (2 ^ l)).all fun n => okPB l n) = true := by decide +kernel
theorem pb_facts {l n : Nat} (hl : l ≤ 6) (hn : n < 2 ^ l) : validB (permOfBits l n) = true ∧ (permOfBits l n).map (thr (zerosOf l n)) = bitsL l n := by
  have h := okPB_all
  simp only [List.all_eq_true, List.mem_range] at h
  have := h l (by omega) n hn
  simpa [okPB] using this
theorem sorts_perms {lines : Int} {net : Net} (hv : netB lines net = true) (h : ∀ xs, validB xs = true → xs.length = lines.toNat → upB (runN net xs) = true) : sortsAll lines net = true := by
  have hf := netB_facts hv
  rw [sortsAll_iff]
  intro n hn
  obtain ⟨h1, h2⟩ := pb_facts (l := lines.toNat) (by omega) hn
  have hl : (permOfBits lines.toNat n).length = lines.toNat := by simp [permOfBits]
  rw [sortsAt, ← h2, runN_map (thr_asc _) net _ (netB_lt hv) hl]
  exact up_map (thr_asc _) (h _ h1 hl)
/-- all permutations, by their ranks -/
def sortsRanks (lines : Int) (net : Net) (k : Nat) : Bool := (List.range k).all fun r => !ofOk lines r || upB (runN net (ofL lines r))
theorem ofL_valid {lines rank : Int} (h : ofOk lines rank = true) : validB (ofL lines rank) = true ∧ (ofL lines rank).length = lines.toNat := by
  have h2 := h
  simp only [ofOk, Bool.and_eq_true, decide_eq_true_eq] at h2
  rw [ofL, if_pos h]
  exact ⟨(of_facts (by omega) (by omega)).1, ofGo_len _ _ _⟩
theorem sorts_ranks {lines : Int} {net : Net} (hv : netB lines net = true) : sortsRanks lines net 720 = sortsAll lines net := by
  have hf := netB_facts hv
  rw [Bool.eq_iff_iff]
  constructor
  · intro h
    refine sorts_perms hv fun xs hx hl => ?_
    obtain ⟨h1, h2⟩ := rank_of hx
    have h6 := valid_len hx
    have hfl : fact xs.length ≤ 720 := by
      have : ∀ m, m ≤ 6 → fact m ≤ 720 := by decide
      exact this _ h6
    simp only [sortsRanks, List.all_eq_true, List.mem_range, Bool.or_eq_true, Bool.not_eq_true'] at h
    have h3 := h (rankL xs) (by omega)
    have hok : ofOk lines (rankL xs : Nat) = true := by
      simp only [ofOk, Bool.and_eq_true, decide_eq_true_eq, ← hl]
      omega
    have he : ofL lines (rankL xs : Nat) = xs := by
      rw [ofL, if_pos hok, ← hl, Int.toNat_natCast]; exact h2
    rw [he] at h3
    exact h3.resolve_left (by rw [hok]; decide)
  · intro h
    simp only [sortsRanks, List.all_eq_true, List.mem_range, Bool.or_eq_true, Bool.not_eq_true']
    intro r _
    cases hok : ofOk lines r with
    | false => exact Or.inl rfl
    | true => exact Or.inr (sorts_list hv h (ofL_valid hok).2)
/-! how many comparators sorting takes -/
theorem stepR_at {s : List Int} {c : Int × Int} : stepR s c = s ∨ stepR s c = swapL s c.1.toNat c.2.toNat := by
  by_cases h : s.getD c.1.toNat 0 > s.getD c.2.toNat 0
  · exact Or.inr (stepR_swap h)
  · exact Or.inl (stepR_keep h)
theorem swapL_comm (s : List Int) {a b : Nat} (h : a ≠ b) : swapL s a b = swapL s b a := by
  unfold swapL
  rw [List.set_comm _ _ h]
theorem netB_lt2 {lines : Int} {net : Net} (h : netB lines net = true) : ∀ c ∈ net, c.1.toNat < c.2.toNat ∧ c.2.toNat < lines.toNat := by
  obtain ⟨h1, h2, h3, h4⟩ := netB_facts h
  rw [List.all_eq_true] at h4
  intro c hc
  have : 0 ≤ c.1 ∧ c.1 < c.2 ∧ c.2 < lines := of_decide_eq_true (h4 c hc)
  omega
theorem run_cyc {l : Nat} : ∀ (net : Net) (s : List Int), (∀ c ∈ net, c.1.toNat < c.2.toNat ∧ c.2.toNat < l) → s.length = l → validB s = true → cycL (runN net s) ≤ cycL s + net.length
  | [], s, _, _, _ => Nat.le_refl _
  | c :: r, s, h, hl, hv => by
    have hc := h c (by simp)
    have hr : ∀ c ∈ r, c.1.toNat < c.2.toNat ∧ c.2.toNat < l := fun c hc => h c (by simp [hc])
    show cycL (runN r (stepR s c)) ≤ _
    rcases stepR_at (s := s) (c := c) with e | e
    · rw [e]
      have := run_cyc r s hr hl hv
      simp only [List.length_cons]; omega
    · rw [swapL_comm s (by omega)] at e
      obtain ⟨h1, h2⟩ := cyc_swap hv (a := c.2.toNat) (b := c.1.toNat) (by omega) (by omega)
      rw [e]
      have := run_cyc r (swapL s c.2.toNat c.1.toNat) hr (by rw [swapL_len]; exact hl) h1
      simp only [List.length_cons]; omega
def turnL (l : Nat) : List Int := (List.range l).map fun k => if k + 1 = l then 0 else (k : Int) + 1
theorem turnL_ok : ∀ l, l ≤ 6 → validB (turnL l) = true ∧ cycL (turnL l) ≤ 1 ∧ cycL (iota l) = l ∧ (turnL l).length = l := by decide +kernel
theorem sorts_len {lines : Int} {net : Net} (hv : netB lines net = true) (hs : sortsAll lines net = true) : lines - 1 ≤ net.length := by
  have hf := netB_facts hv
  obtain ⟨h1, h2, h3, h4⟩ := turnL_ok lines.toNat (by omega)
  have h5 := sorts_list hv hs h4
  have h6 := run_perm hv h4
  rw [up_iota (validB_perm h6 h1), runN_len, h4] at h5
  have h7 := run_cyc net (turnL lines.toNat) (netB_lt2 hv) h4 h1
  rw [h5, h3] at h7
  omega
theorem run_cross {l : Nat} : ∀ (net : Net) (s : List Int), (∀ c ∈ net, c.2.toNat = c.1.toNat + 1 ∧ c.2.toNat < l) → s.length = l → validB s = true → crossL s ≤ crossL (runN net s) + net.length
  | [], s, _, _, _ => Nat.le_refl _
  | c :: r, s, h, hl, hv => by
    have hc := h c (by simp)
    have hr : ∀ c ∈ r, c.2.toNat = c.1.toNat + 1 ∧ c.2.toNat < l := fun c hc => h c (by simp [hc])
    show _ ≤ crossL (runN r (stepR s c)) + _
    rcases stepR_at (s := s) (c := c) with e | e
    · rw [e]
      have := run_cross r s hr hl hv
      simp only [List.length_cons]; omega
    · obtain ⟨h1, h2⟩ := cross_swap hv (k := c.2.toNat) (by omega) (by omega)
      rw [show c.2.toNat - 1 = c.1.toNat by omega] at h1 h2
      rw [e]
      have := run_cross r (swapL s c.1.toNat c.2.toNat) hr (by rw [swapL_len]; exact hl) h1
      simp only [List.length_cons]; omega
theorem nb_facts {lines : Int} {net : Net} (h : nbB lines net = true) : netB lines net = true ∧ ∀ c ∈ net, c.2.toNat = c.1.toNat + 1 ∧ c.2.toNat < lines.toNat := by
  simp only [nbB, Bool.and_eq_true, List.all_eq_true] at h
  refine ⟨h.1, fun c hc => ?_⟩
  have h1 := netB_lt2 h.1 c hc
  have h2 : c.2 = c.1 + 1 := of_decide_eq_true (h.2 c hc)
  omega
theorem down_cross : ∀ l, l ≤ 6 → crossL (iota l) = 0 ∧ crossL (downL l) = l * (l - 1) / 2 := by decide +kernel
theorem turned_len {lines : Int} {net : Net} (hn : nbB lines net = true) (ht : turnedB lines net = true) : (lines.toNat * (lines.toNat - 1) / 2 : Nat) ≤ net.length := by
  obtain ⟨hv, hnb⟩ := nb_facts hn
  have hf := netB_facts hv
  obtain ⟨h1, h2⟩ := down_cross lines.toNat (by omega)
  have hd := downL_valid lines.toNat (by omega)
  have hl : (downL lines.toNat).length = lines.toNat := downTo_len _ _
  have h3 := run_cross net (downL lines.toNat) hnb hl hd
  simp only [turnedB, hv, Bool.true_and] at ht
  rw [up_iota (turned_valid hv), runN_len, hl] at ht
  rw [ht, h1, h2] at h3
  omega
theorem sorts_turned {lines : Int} {net : Net} (h : sortsB lines net = true) : turnedB lines net = true := by
  simp only [sortsB, Bool.and_eq_true] at h
  rw [turnedB, h.1, Bool.true_and]
  exact sorts_list h.1 h.2 (downTo_len _ _)
/-! neighbours: one input decides -/
def onesTo (n k : Nat) : Nat := (List.range k).countP fun j => n / 2 ^ j % 2 == 1
def leW (l x y : Nat) : Bool := onesTo x l == onesTo y l && (List.range l).all fun k => decide (onesTo x k ≤ onesTo y k)
def nbTab (l : Nat) : Bool := (List.range (2 ^ l)).all fun x => (List.range (2 ^ l)).all fun y => !leW l x y || ((List.range (l - 1)).all fun a => leW l (bitStepN x a (a + 1)) (bitStepN y a (a + 1))) && (!upB (bitsL l y) || upB (bitsL l x))
set_option maxRecDepth 100000 in
theorem nbTab_all : ((List.range 7).all nbTab) = true := by decide +kernel
def topTab (l : Nat) : Bool := ((List.range (2 ^ l)).all fun x => leW l x (2 ^ (onesTo x l) - 1)) && (List.range (l + 1)).all fun t => decide (2 ^ t - 1 < 2 ^ l) && (bitsL l (2 ^ t - 1) == (downL l).map (thr ((l : Int) - t)))
set_option maxRecDepth 100000 in
theorem topTab_all : ((List.range 7).all topTab) = true := by decide +kernel
theorem nb_step {l x y a : Nat} (hl : l ≤ 6) (hx : x < 2 ^ l) (hy : y < 2 ^ l) (h : leW l x y = true) : (a + 1 < l → leW l (bitStepN x a (a + 1)) (bitStepN y a (a + 1)) = true) ∧ (upB (bitsL l y) = true → upB (bitsL l x) = true) := by
  have h1 := nbTab_all
  simp only [List.all_eq_true, List.mem_range] at h1
  have h2 := h1 l (by omega)
  simp only [nbTab, List.all_eq_true, List.mem_range, Bool.or_eq_true, Bool.and_eq_true, Bool.not_eq_true'] at h2
  have h3 := (h2 x hx y hy).resolve_left (by rw [h]; decide)
  exact ⟨fun ha => h3.1 a (by omega), fun hu => h3.2.resolve_left (by rw [hu]; decide)⟩
theorem top_facts {l x : Nat} (hl : l ≤ 6) (hx : x < 2 ^ l) : ∃ t, t ≤ l ∧ 2 ^ t - 1 < 2 ^ l ∧ leW l x (2 ^ t - 1) = true ∧ bitsL l (2 ^ t - 1) = (downL l).map (thr ((l : Int) - t)) := by
  have h1 := topTab_all
  simp only [List.all_eq_true, List.mem_range] at h1
  have h2 := h1 l (by omega)
  simp only [topTab, List.all_eq_true, List.mem_range, Bool.and_eq_true, decide_eq_true_eq, beq_iff_eq] at h2
  have h3 : onesTo x l ≤ l := by
    have : (List.range l).countP (fun j => x / 2 ^ j % 2 == 1) ≤ (List.range l).length := List.countP_le_length
    rw [List.length_range] at this
    exact this
  have h4 := h2.2 (onesTo x l) (by omega)
  exact ⟨onesTo x l, h3, h4.1, h2.1 x hx, h4.2⟩
theorem run_nb {l : Nat} (hl : l ≤ 6) : ∀ (net : Net) (x y : Nat), (∀ c ∈ net, c.2.toNat = c.1.toNat + 1 ∧ c.2.toNat < l ∧ 0 ≤ c.1) → x < 2 ^ l → y < 2 ^ l → leW l x y = true → upB (runN net (bitsL l y)) = true → upB (runN net (bitsL l x)) = true
  | [], x, y, _, hx, hy, hle, hu => (nb_step (a := 0) hl hx hy hle).2 hu
  | c :: r, x, y, h, hx, hy, hle, hu => by
    have hc := h c (by simp)
    have ec : ((c.1.toNat : Int), ((c.1.toNat + 1 : Nat) : Int)) = c := Prod.ext (by simp only; omega) (by simp only; omega)
    obtain ⟨x1, x2, _, _⟩ := bit_facts (l := l) (r := x) (a := c.1.toNat) (b := c.1.toNat + 1) hl hx (by omega) (by omega)
    obtain ⟨y1, y2, _, _⟩ := bit_facts (l := l) (r := y) (a := c.1.toNat) (b := c.1.toNat + 1) hl hy (by omega) (by omega)
    rw [ec] at x2 y2
    have hu : upB (runN r (stepR (bitsL l y) c)) = true := hu
    show upB (runN r (stepR (bitsL l x) c)) = true
    rw [← y2] at hu
    rw [← x2]
    exact run_nb hl r _ _ (fun c hc => h c (by simp [hc])) x1 y1 ((nb_step (a := c.1.toNat) hl hx hy hle).1 (by omega)) hu
theorem nb_decides {lines : Int} {net : Net} (hn : nbB lines net = true) : sortsB lines net = turnedB lines net := by
  obtain ⟨hv, hnb⟩ := nb_facts hn
  have hf := netB_facts hv
  rw [Bool.eq_iff_iff]
  refine ⟨sorts_turned, fun ht => ?_⟩
  simp only [turnedB, hv, Bool.true_and] at ht
  rw [sortsB, hv, Bool.true_and, sortsAll_iff]
  intro x hx
  obtain ⟨t, t1, t2, t3, t4⟩ := top_facts (l := lines.toNat) (by omega) hx
  refine run_nb (l := lines.toNat) (by omega) net x (2 ^ t - 1) (fun c hc => ⟨(hnb c hc).1, (hnb c hc).2, ?_⟩) hx t2 t3 ?_
  · have h4 := hf.2.2.2
    rw [List.all_eq_true] at h4
    have : 0 ≤ c.1 ∧ c.1 < c.2 ∧ c.2 < lines := of_decide_eq_true (h4 c hc)
    exact this.1
  · rw [t4, runN_map (thr_asc _) net _ (netB_lt hv) (show (downL lines.toNat).length = _ from downTo_len _ _)]
    exact up_map (thr_asc _) ht
end Go.Proofs.Ytddhlpmcikpinaa
