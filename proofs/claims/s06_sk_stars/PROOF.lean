import PyProof.Rows.All
import Wide.All
import OpenK.AllK
import Wide.FinOn
import Open.SpecLaws
import KE.OsGo
import HandS.Base
import HandS.Call
import HandS.List
import HandS.Comp
import HandS.Dict
import HandS.Iter
import HandS.Words
import HandS.Spec
import HandS.SortInts
import HandS.Walk
import KE.KLam
import KE.SortKeyHeap
import HandS.Conv
import HandS.Lambda
import KE.KNest
import PySem.Challenge.RW_skyabove_s06_sk_stars
set_option Elab.async false
set_option linter.all false
set_option maxRecDepth 100000
set_option maxHeartbeats 4000000
namespace Sky
open Sh66
/-! ### lists of naturals as lists of integers -/
theorem ints_def (l : List Nat) : Sh66Neutral.ints l = l.map fun (x : Nat) => (x : Int) := rfl
theorem ints_length (l : List Nat) : (Sh66Neutral.ints l).length = l.length := by rw [ints_def, List.length_map]
theorem ints_append (l m : List Nat) : Sh66Neutral.ints (l ++ m) = Sh66Neutral.ints l ++ Sh66Neutral.ints m := by rw [ints_def, List.map_append]; rfl
theorem nats_ints (l : List Nat) : Sh66Neutral.nats (Sh66Neutral.ints l) = l := by
  show (l.map _).map _ = l
  rw [List.map_map]
  exact (List.map_congr_left fun a _ => Int.toNat_natCast a).trans (List.map_id l)
theorem ints_nats {l : List Int} (h : ∀ z ∈ l, 0 ≤ z) : Sh66Neutral.ints (Sh66Neutral.nats l) = l := by
  show (l.map _).map _ = l
  rw [List.map_map]
  exact (List.map_congr_left fun a m => Int.toNat_of_nonneg (h a m)).trans (List.map_id l)
theorem num_at {l : List Nat} {i : Nat} (h : i < l.length) : l[i]? = some (num l i) := by
  unfold num
  rw [List.getD_eq_getElem?_getD, List.getElem?_eq_getElem h]
  rfl
theorem ints_at {l : List Nat} {i : Nat} (h : i < l.length) : (Sh66Neutral.ints l)[i]? = some ((num l i : Nat) : Int) := by
  rw [ints_def, List.getElem?_map, num_at h]
  rfl
/-! ### the middle one -/
theorem sorted_perm (l : List Nat) : (sorted l).Perm l := List.mergeSort_perm l _
theorem sorted_length (l : List Nat) : (sorted l).length = l.length := (sorted_perm l).length_eq
theorem sorted_le (l : List Nat) : (sorted l).Pairwise (fun a b => a ≤ b) := by
  have h := List.pairwise_mergeSort (le := fun (a b : Nat) => decide (a ≤ b)) (fun a b c h1 h2 => by
    have := of_decide_eq_true h1
    have := of_decide_eq_true h2
    exact decide_eq_true (by omega)) (fun a b => by
    rcases Nat.le_total a b with h | h
    · rw [decide_eq_true h]; rfl
    · rw [decide_eq_true h, Bool.or_true]) l
  exact h.imp fun {a b} q => of_decide_eq_true q
theorem sorted_ints {l : List Nat} {ns : List Int} (hp : ns.Perm (Sh66Neutral.ints l)) (hs : ns.Pairwise (· ≤ ·)) : ns = Sh66Neutral.ints (sorted l) := by
  refine List.Perm.eq_of_pairwise (le := fun (a b : Int) => a ≤ b) (fun a b _ _ h1 h2 => Int.le_antisymm h1 h2) hs ?_ (hp.trans ((sorted_perm l).symm.map _))
  exact List.pairwise_map.mpr ((sorted_le l).imp fun {a b} h => Int.ofNat_le.mpr h)
theorem median_nil : median [] = 0 := by simp [median, sorted, num]
theorem mid_lt {l : List Nat} (h : l ≠ []) : (l.length - 1) / 2 < (sorted l).length := by
  rw [sorted_length]
  have : 0 < l.length := List.length_pos_iff.mpr h
  omega
theorem median_at {l : List Nat} (h : l ≠ []) : (Sh66Neutral.ints (sorted l))[(l.length - 1) / 2]? = some ((median l : Nat) : Int) := ints_at (mid_lt h)
theorem apart_abs (a b : Nat) : (if (b : Int) - (a : Int) < 0 then -((b : Int) - (a : Int)) else (b : Int) - (a : Int)) = ((apart a b : Nat) : Int) := by
  unfold apart
  split <;> omega
theorem median_mem {l : List Nat} (h : l ≠ []) : median l ∈ l := by
  have e := num_at (mid_lt h)
  exact (sorted_perm l).mem_iff.mp (List.mem_of_getElem? e)
theorem median_lt {l : List Nat} {B : Nat} (hB : 0 < B) (h : ∀ x ∈ l, x < B) : median l < B := by
  by_cases e : l = []
  · rw [e, median_nil]; exact hB
  · exact h _ (median_mem e)
theorem spread_lt {l : List Nat} {B : Nat} (hB : 0 < B) (h : ∀ x ∈ l, x < B) : spread l < B := by
  unfold spread
  refine median_lt hB fun x hx => ?_
  obtain ⟨a, ha, rfl⟩ := List.mem_map.mp hx
  have h1 := median_lt hB h
  have h2 := h a ha
  unfold apart
  omega
/-! ### clipped -/
def once (k : Nat) (l : List Nat) : List Nat := l.filter fun a => decide (4 * apart (median l) a ≤ k * spread l)
def iter (k : Nat) : Nat → List Nat → List Nat
  | 0, l => l
  | n + 1, l => once k (iter k n l)
theorem iter_once (k : Nat) : ∀ (n : Nat) (l : List Nat), iter k (n + 1) l = iter k n (once k l)
  | 0, _ => rfl
  | n + 1, l => by
    show once k (iter k (n + 1) l) = once k (iter k n (once k l))
    rw [iter_once k n l]
theorem iter_fix {k : Nat} {l : List Nat} (h : once k l = l) : ∀ n, iter k n l = l
  | 0 => rfl
  | n + 1 => by
    show once k (iter k n l) = l
    rw [iter_fix h n, h]
theorem clipped_iter (k : Nat) : ∀ (n : Nat) (l : List Nat), clipped k n l = iter k n l
  | 0, _ => rfl
  | n + 1, l => by
    rw [iter_once]
    show (if (once k l).length = l.length then l else clipped k n (once k l)) = _
    by_cases h : (once k l).length = l.length
    · rw [if_pos h]
      have e : once k l = l := List.filter_eq_self.mpr (List.length_filter_eq_length_iff.mp h)
      rw [e, iter_fix e]
    · rw [if_neg h]
      exact clipped_iter k n _
theorem once_sub (k : Nat) (l : List Nat) : ∀ x ∈ once k l, x ∈ l := fun x h => (List.mem_filter.mp h).1
theorem iter_sub (k : Nat) (l : List Nat) : ∀ n, ∀ x ∈ iter k n l, x ∈ l
  | 0, _, h => h
  | n + 1, x, h => iter_sub k l n x (once_sub k _ x h)
theorem once_len (k : Nat) (l : List Nat) : (once k l).length ≤ l.length := List.length_filter_le _ _
theorem iter_len (k : Nat) (l : List Nat) : ∀ n, (iter k n l).length ≤ l.length
  | 0 => Nat.le_refl _
  | n + 1 => Nat.le_trans (once_len k _) (iter_len k l n)
end Sky
namespace Sky
theorem sized_iff {w h : Nat} : Sh66.sized w h = true ↔ (1 ≤ w ∧ w ≤ 64) ∧ 1 ≤ h ∧ h ≤ 64 := by
  unfold Sh66.sized Sh66.among
  rw [Bool.and_eq_true, Bool.and_eq_true, Bool.and_eq_true, decide_eq_true_eq, decide_eq_true_eq, decide_eq_true_eq, decide_eq_true_eq]
theorem among_iff {s : Nat} : Sh66.among s 1 64 = true ↔ 1 ≤ s ∧ s ≤ 64 := by
  unfold Sh66.among
  rw [Bool.and_eq_true, decide_eq_true_eq, decide_eq_true_eq]
end Sky
namespace Sky
open Sh66
/-! ### places of a frame -/
theorem flatMap_congr {α β : Type} {f g : α → List β} : ∀ {l : List α}, (∀ a ∈ l, f a = g a) → l.flatMap f = l.flatMap g
  | [], _ => rfl
  | a :: l, h => by
    rw [List.flatMap_cons, List.flatMap_cons, h a List.mem_cons_self, flatMap_congr fun b m => h b (List.mem_cons_of_mem _ m)]
theorem range_add (a b : Nat) : List.range (a + b) = List.range a ++ (List.range b).map (fun x => a + x) := List.range_add
theorem range_mul (w : Nat) : ∀ h : Nat, List.range (w * h) = (List.range h).flatMap fun r => (List.range w).map fun c => r * w + c
  | 0 => by simp
  | h + 1 => by
    rw [Nat.mul_succ, range_add, range_mul w h, List.range_succ, List.flatMap_append]
    congr 1
    simp [Nat.mul_comm]
/-- row by row is place by place -/
theorem each_range {α : Type} {w : Nat} (hw : 0 < w) (h : Nat) (f : Nat → Nat → α) : each w h f = (List.range (w * h)).map fun p => f (p % w) (p / w) := by
  rw [range_mul, List.map_flatMap]
  unfold each
  refine flatMap_congr fun r _ => ?_
  rw [List.map_map]
  refine List.map_congr_left fun c hc => ?_
  have hc := List.mem_range.mp hc
  show f c r = f ((r * w + c) % w) ((r * w + c) / w)
  rw [Nat.mul_comm r w, Nat.mul_add_mod, Nat.mod_eq_of_lt hc, Nat.mul_add_div hw, Nat.div_eq_of_lt hc, Nat.add_zero]
/-- the up to three at m along a side of n -/
def near (m n : Nat) : List Nat := List.range' (m - 1) (min n (m + 2) - (m - 1))
theorem near_span {m n : Nat} (h : m < n) : near m n = span m n := by
  unfold near span
  by_cases h0 : 0 < m
  · rw [if_pos h0]
    by_cases h1 : m + 1 < n
    · rw [if_pos h1, show min n (m + 2) - (m - 1) = 3 by omega]
      show [m - 1, m - 1 + 1, m - 1 + 1 + 1] = [m - 1] ++ [m] ++ [m + 1]
      rw [show m - 1 + 1 = m by omega]
      rfl
    · rw [if_neg h1, show min n (m + 2) - (m - 1) = 2 by omega]
      show [m - 1, m - 1 + 1] = [m - 1] ++ [m] ++ []
      rw [show m - 1 + 1 = m by omega]
      rfl
  · rw [if_neg h0]
    have e : m = 0 := by omega
    subst e
    by_cases h1 : 0 + 1 < n
    · rw [if_pos h1, show min n (0 + 2) - (0 - 1) = 2 by omega]
      rfl
    · rw [if_neg h1, show min n (0 + 2) - (0 - 1) = 1 by omega]
      rfl
theorem near_mem {m n x : Nat} (h : x ∈ near m n) : x < n ∧ m - 1 ≤ x ∧ x ≤ m + 1 := by
  unfold near at h
  rw [List.mem_range'_1] at h
  omega
theorem near_len (m n : Nat) : (near m n).length ≤ 3 := by
  unfold near
  rw [List.length_range']
  omega
/-- a place and those beside it, row by row -/
def around (w h p : Nat) : List Nat := (near (p / w) h).flatMap fun r => (near (p % w) w).map fun c => r * w + c
theorem place_lt {w h r c : Nat} (hr : r < h) (hc : c < w) : r * w + c < w * h := by
  have : (r + 1) * w ≤ h * w := Nat.mul_le_mul_right w hr
  rw [Nat.succ_mul, Nat.mul_comm h w] at this
  omega
theorem around_lt {w h p x : Nat} (hx : x ∈ around w h p) : x < w * h := by
  obtain ⟨r, hr, hx⟩ := List.mem_flatMap.mp hx
  obtain ⟨c, hc, rfl⟩ := List.mem_map.mp hx
  exact place_lt (near_mem hr).1 (near_mem hc).1
theorem around_len (w h p : Nat) : (around w h p).length ≤ 9 := by
  unfold around
  rw [List.length_flatMap]
  have h1 := near_len (p / w) h
  have h2 := near_len (p % w) w
  have : ∀ l : List Nat, (l.map fun r => ((near (p % w) w).map fun c => r * w + c).length).sum ≤ l.length * 3 := by
    intro l
    induction l with
    | nil => simp
    | cons a l ih =>
      rw [List.map_cons, List.sum_cons, List.length_cons, List.length_map]
      omega
  have := this (near (p / w) h)
  omega
theorem calmed_eq {w h : Nat} (hw : 0 < w) (x : List Nat) : calmed w h x = (List.range (w * h)).map fun p => median ((around w h p).map (num x)) := by
  unfold calmed
  rw [each_range hw]
  refine List.map_congr_left fun p hp => ?_
  have hp := List.mem_range.mp hp
  have h1 : p % w < w := Nat.mod_lt _ hw
  have h2 : p / w < h := Nat.div_lt_of_lt_mul hp
  show median ((span (p / w) h).flatMap fun q => (span (p % w) w).map fun c => at_ w x c q) = _
  unfold around
  rw [near_span h1, near_span h2, List.map_flatMap]
  congr 1
  refine flatMap_congr fun r _ => ?_
  rw [List.map_map]
  rfl
/-! ### what stands out -/
def outAt (t a b m : Nat) : Nat := if t * max 1 m < 4 * (a - b) then a - b else 0
theorem out_eq {t w h : Nat} (hw : 0 < w) (x sky noise : List Nat) : Sh66.out t w h x sky noise = (List.range (w * h)).map fun p => outAt t (num x p) (num sky p) (num noise p) := by
  unfold Sh66.out
  rw [each_range hw]
  refine List.map_congr_left fun p _ => ?_
  show (if t * max 1 (at_ w noise (p % w) (p / w)) < 4 * (at_ w x (p % w) (p / w) - at_ w sky (p % w) (p / w)) then at_ w x (p % w) (p / w) - at_ w sky (p % w) (p / w) else 0) = _
  have e : p / w * w + p % w = p := by rw [Nat.mul_comm]; exact Nat.div_add_mod p w
  unfold at_
  rw [e]
  rfl
/-! ### a list by its places -/
theorem map_num (l : List Nat) : (List.range l.length).map (num l) = l := by
  apply List.ext_getElem?
  intro i
  rw [List.getElem?_map]
  by_cases h : i < l.length
  · rw [List.getElem?_range h, num_at h]; rfl
  · rw [List.getElem?_eq_none (by rw [List.length_range]; omega), List.getElem?_eq_none (by omega)]; rfl
theorem zip_num {x y : List Nat} (h : y.length = x.length) (f : Nat → Nat → Nat) : (x.zip y).map (fun p => f p.1 p.2) = (List.range x.length).map fun i => f (num x i) (num y i) := by
  apply List.ext_getElem?
  intro i
  rw [List.getElem?_map, List.getElem?_map]
  by_cases hi : i < x.length
  · rw [List.getElem?_range hi, (List.getElem?_zip_eq_some (z := (num x i, num y i))).mpr ⟨num_at hi, num_at (by omega)⟩]; rfl
  · rw [List.getElem?_eq_none (by rw [List.length_zip]; omega), List.getElem?_eq_none (by rw [List.length_range]; omega)]; rfl
end Sky
namespace Sky
open Sh66
/-! ### one place over another -/
theorem over_iff {x : List Nat} {i j : Nat} : over x i j = true ↔ (num x j < num x i ∨ (num x i = num x j ∧ i < j)) := by
  unfold over
  rw [Bool.or_eq_true, Bool.and_eq_true, decide_eq_true_eq, beq_iff_eq, decide_eq_true_eq]
theorem over_no {x : List Nat} {i j : Nat} : over x i j = false ↔ ¬ (num x j < num x i ∨ (num x i = num x j ∧ i < j)) := by
  rw [← over_iff, Bool.not_eq_true]
theorem over_irr (x : List Nat) (i : Nat) : over x i i = false := over_no.mpr (by omega)
theorem over_trans {x : List Nat} {i j k : Nat} (a : over x i j = true) (b : over x j k = true) : over x i k = true := by
  have a := over_iff.mp a
  have b := over_iff.mp b
  refine over_iff.mpr ?_
  omega
theorem over_asym {x : List Nat} {i j : Nat} (a : over x i j = true) : over x j i = false := by
  have a := over_iff.mp a
  refine over_no.mpr ?_
  omega
theorem over_total {x : List Nat} {i j : Nat} (h : i ≠ j) : over x i j = true ∨ over x j i = true := by
  rw [over_iff, over_iff]
  omega
/-! ### those beside a place, itself among them -/
theorem fm3 {α β : Type} (f : α → Option β) (a b c : α) : [a, b, c].filterMap f = (f a).toList ++ (f b).toList ++ (f c).toList := by
  rw [List.filterMap_cons, List.filterMap_cons, List.filterMap_cons, List.filterMap_nil]
  cases f a <;> cases f b <;> cases f c <;> rfl
theorem fl3 {α β : Type} (f : α → List β) (a b c : α) : [a, b, c].flatMap f = f a ++ f b ++ f c := by
  rw [List.flatMap_cons, List.flatMap_cons, List.flatMap_cons, List.flatMap_nil, List.append_nil, List.append_assoc]
/-- of those beside: the one by dr rows and dc columns -/
def bs (w h r c : Nat) (dr dc : Int) : Option Nat :=
  if (dc = 0 ∧ dr = 0) ∨ (c : Int) + dc < 0 ∨ (r : Int) + dr < 0 ∨ (w : Int) ≤ (c : Int) + dc ∨ (h : Int) ≤ (r : Int) + dr then none else some (((r : Int) + dr).toNat * w + ((c : Int) + dc).toNat)
theorem beside_bs (w h p : Nat) : beside w h p = [(-1 : Int), 0, 1].flatMap fun dr => [(-1 : Int), 0, 1].filterMap (bs w h (p / w) (p % w) dr) := rfl
theorem bs_no {w h r c : Nat} {dr dc : Int} (h1 : (dc = 0 ∧ dr = 0) ∨ (c : Int) + dc < 0 ∨ (r : Int) + dr < 0 ∨ (w : Int) ≤ (c : Int) + dc ∨ (h : Int) ≤ (r : Int) + dr) : bs w h r c dr dc = none := if_pos h1
theorem bs_yes {w h r c r' c' : Nat} {dr dc : Int} (h1 : ¬ ((dc = 0 ∧ dr = 0) ∨ (c : Int) + dc < 0 ∨ (r : Int) + dr < 0 ∨ (w : Int) ≤ (c : Int) + dc ∨ (h : Int) ≤ (r : Int) + dr)) (er : (r : Int) + dr = r') (ec : (c : Int) + dc = c') :
    bs w h r c dr dc = some (r' * w + c') := by
  unfold bs
  rw [if_neg h1, er, ec]
  rfl
/-- a row above or below -/
theorem besideRow {w h r c r' : Nat} {dr : Int} (hc : c < w) (er : (r : Int) + dr = r') (h1 : r' < h) (hd : dr ≠ 0) : [(-1 : Int), 0, 1].filterMap (bs w h r c dr) = (span c w).map fun c' => r' * w + c' := by
  rw [fm3, bs_yes (dc := 0) (r' := r') (c' := c) (by omega) er (by omega)]
  unfold span
  by_cases a : 0 < c
  · rw [if_pos a, bs_yes (dc := -1) (r' := r') (c' := c - 1) (by omega) er (by omega)]
    by_cases b : c + 1 < w
    · rw [if_pos b, bs_yes (dc := 1) (r' := r') (c' := c + 1) (by omega) er (by omega)]
      rfl
    · rw [if_neg b, bs_no (dc := 1) (by omega)]
      rfl
  · rw [if_neg a, bs_no (dc := -1) (by omega)]
    by_cases b : c + 1 < w
    · rw [if_pos b, bs_yes (dc := 1) (r' := r') (c' := c + 1) (by omega) er (by omega)]
      rfl
    · rw [if_neg b, bs_no (dc := 1) (by omega)]
      rfl
theorem besideOff {w h r c : Nat} {dr : Int} (ho : (r : Int) + dr < 0 ∨ (h : Int) ≤ (r : Int) + dr) : [(-1 : Int), 0, 1].filterMap (bs w h r c dr) = [] := by
  rw [fm3, bs_no (by omega), bs_no (by omega), bs_no (by omega)]
  rfl
theorem besideOwn {w h r c : Nat} (hc : c < w) (hr : r < h) : [(-1 : Int), 0, 1].filterMap (bs w h r c 0) = (if 0 < c then [r * w + (c - 1)] else []) ++ (if c + 1 < w then [r * w + (c + 1)] else []) := by
  rw [fm3, bs_no (dc := 0) (by omega)]
  by_cases a : 0 < c
  · rw [if_pos a, bs_yes (dc := -1) (r' := r) (c' := c - 1) (by omega) (by omega) (by omega)]
    by_cases b : c + 1 < w
    · rw [if_pos b, bs_yes (dc := 1) (r' := r) (c' := c + 1) (by omega) (by omega) (by omega)]
      rfl
    · rw [if_neg b, bs_no (dc := 1) (by omega)]
      rfl
  · rw [if_neg a, bs_no (dc := -1) (by omega)]
    by_cases b : c + 1 < w
    · rw [if_pos b, bs_yes (dc := 1) (r' := r) (c' := c + 1) (by omega) (by omega) (by omega)]
      rfl
    · rw [if_neg b, bs_no (dc := 1) (by omega)]
      rfl
theorem beside_around {w h p : Nat} (hw : 0 < w) (hp : p < w * h) : ∃ l m, beside w h p = l ++ m ∧ around w h p = l ++ [p] ++ m := by
  have hc : p % w < w := Nat.mod_lt _ hw
  have hr : p / w < h := Nat.div_lt_of_lt_mul hp
  have hpe : p / w * w + p % w = p := by rw [Nat.mul_comm]; exact Nat.div_add_mod p w
  rw [beside_bs]
  unfold around
  rw [near_span hr, near_span hc, fl3, besideOwn hc hr]
  generalize hR : p / w = r at *
  generalize hC : p % w = c at *
  have up_ : (if 0 < r then [r - 1] else []).flatMap (fun q => (span c w).map fun c' => q * w + c') = [(-1 : Int), 0, 1].filterMap (bs w h r c (-1)) := by
    by_cases a : 0 < r
    · rw [if_pos a, besideRow (r' := r - 1) hc (by omega) (by omega) (by decide), List.flatMap_cons, List.flatMap_nil, List.append_nil]
    · rw [if_neg a, besideOff (by omega)]
      rfl
  have down : (if r + 1 < h then [r + 1] else []).flatMap (fun q => (span c w).map fun c' => q * w + c') = [(-1 : Int), 0, 1].filterMap (bs w h r c 1) := by
    by_cases a : r + 1 < h
    · rw [if_pos a, besideRow (r' := r + 1) hc (by omega) (by omega) (by decide), List.flatMap_cons, List.flatMap_nil, List.append_nil]
    · rw [if_neg a, besideOff (by omega)]
      rfl
  rw [← up_, ← down]
  generalize hU : (if 0 < r then [r - 1] else []).flatMap (fun q => (span c w).map fun c' => q * w + c') = u
  generalize hD : (if r + 1 < h then [r + 1] else []).flatMap (fun q => (span c w).map fun c' => q * w + c') = d
  refine ⟨u ++ (if 0 < c then [r * w + (c - 1)] else []), (if c + 1 < w then [r * w + (c + 1)] else []) ++ d, by simp only [List.append_assoc], ?_⟩
  have m1 : (if 0 < c then [c - 1] else []).map (fun c' => r * w + c') = if 0 < c then [r * w + (c - 1)] else [] := by split <;> rfl
  have m2 : (if c + 1 < w then [c + 1] else []).map (fun c' => r * w + c') = if c + 1 < w then [r * w + (c + 1)] else [] := by split <;> rfl
  have mid : (span c w).map (fun c' => r * w + c') = (if 0 < c then [r * w + (c - 1)] else []) ++ [p] ++ (if c + 1 < w then [r * w + (c + 1)] else []) := by
    unfold span
    rw [List.map_append, List.map_append, m1, m2, List.map_cons, List.map_nil, hpe]
  rw [show span r h = (if 0 < r then [r - 1] else []) ++ [r] ++ (if r + 1 < h then [r + 1] else []) from rfl, List.flatMap_append, List.flatMap_append, hU, hD, List.flatMap_cons, List.flatMap_nil, List.append_nil, mid]
  simp only [List.append_assoc]
/-! ### upward -/
def pick (x : List Nat) (b j : Nat) : Nat := if over x j b = true then j else b
theorem pick_or (x : List Nat) (i : Nat) : ∀ (l : List Nat) (b : Nat), (b = i ∨ over x b i = true) → (l.foldl (pick x) b = i ∨ over x (l.foldl (pick x) b) i = true)
  | [], _, h => h
  | j :: l, b, h => by
    rw [List.foldl_cons]
    refine pick_or x i l _ ?_
    unfold pick
    split
    · rename_i q
      rcases h with h | h
      · rw [h] at q
        exact .inr q
      · exact .inr (over_trans q h)
    · exact h
theorem pick_self {x : List Nat} {i b : Nat} (h : b = i ∨ over x b i = true) : pick x b i = b := by
  unfold pick
  rcases h with h | h
  · rw [h, over_irr, if_neg (by decide)]
  · rw [over_asym h, if_neg (by decide)]
/-- with the place itself among those that are asked nothing is otherwise -/
theorem up_around {w h : Nat} (x : List Nat) {p : Nat} (hw : 0 < w) (hp : p < w * h) : (around w h p).foldl (pick x) p = up w h x p := by
  obtain ⟨l, m, e1, e2⟩ := beside_around hw hp
  show _ = (beside w h p).foldl (pick x) p
  rw [e1, e2, List.foldl_append, List.foldl_append, List.foldl_append, List.foldl_cons, List.foldl_nil, pick_self (pick_or x p l p (.inl rfl))]
theorem pick_mem (x : List Nat) : ∀ (l : List Nat) (b : Nat), l.foldl (pick x) b = b ∨ l.foldl (pick x) b ∈ l
  | [], _ => .inl rfl
  | j :: l, b => by
    rw [List.foldl_cons]
    rcases pick_mem x l (pick x b j) with h | h
    · rw [h]
      unfold pick
      split
      · exact .inr List.mem_cons_self
      · exact .inl rfl
    · exact .inr (List.mem_cons_of_mem _ h)
theorem up_or (w h : Nat) (x : List Nat) (p : Nat) : up w h x p = p ∨ over x (up w h x p) p = true := pick_or x p (beside w h p) p (.inl rfl)
theorem up_lt {w h : Nat} (x : List Nat) {p : Nat} (hw : 0 < w) (hp : p < w * h) : up w h x p < w * h := by
  rw [← up_around x hw hp]
  rcases pick_mem x (around w h p) p with e | e
  · rw [e]
    exact hp
  · exact around_lt e
/-! ### how many are over a place -/
def rank (n : Nat) (x : List Nat) (i : Nat) : Nat := ((List.range n).filter fun j => over x j i).length
theorem rank_lt {n : Nat} {x : List Nat} {i j : Nat} (hj : j < n) (h : over x j i = true) : rank n x j < rank n x i := by
  unfold rank
  have key : ∀ l : List Nat, (l.filter fun q => over x q j).length ≤ (l.filter fun q => over x q i).length ∧ (j ∈ l → (l.filter fun q => over x q j).length < (l.filter fun q => over x q i).length) := by
    intro l
    induction l with
    | nil => exact ⟨Nat.le_refl _, fun m => by cases m⟩
    | cons a l ih =>
      obtain ⟨h1, h2⟩ := ih
      rw [List.filter_cons, List.filter_cons]
      by_cases qa : over x a j = true
      · rw [if_pos qa, if_pos (over_trans qa h), List.length_cons, List.length_cons]
        refine ⟨by omega, fun m => ?_⟩
        rcases List.mem_cons.mp m with e | m
        · rw [e, over_irr] at qa
          cases qa
        · have := h2 m
          omega
      · rw [if_neg qa]
        by_cases qi : over x a i = true
        · rw [if_pos qi, List.length_cons]
          exact ⟨by omega, fun _ => by omega⟩
        · rw [if_neg qi]
          refine ⟨h1, fun m => ?_⟩
          rcases List.mem_cons.mp m with e | m
          · rw [← e] at qi
            exact absurd h qi
          · exact h2 m
  exact (key (List.range n)).2 (List.mem_range.mpr hj)
theorem rank_le {n : Nat} {x : List Nat} {i : Nat} (hi : i < n) : rank n x i < n := by
  unfold rank
  have h1 : ((List.range n).filter fun j => over x j i).length ≤ (List.range n).length := List.length_filter_le _ _
  rw [List.length_range] at h1
  rcases Nat.lt_or_eq_of_le h1 with h | h
  · exact h
  · exfalso
    have := List.length_filter_eq_length_iff.mp (h.trans List.length_range.symm) i (List.mem_range.mpr hi)
    rw [over_irr] at this
    cases this
section
variable {w h : Nat} {x : List Nat}
theorem peakOf_more (hw : 0 < w) : ∀ (f i : Nat), i < w * h → rank (w * h) x i ≤ f → peakOf w h x (f + 1) i = peakOf w h x f i
  | 0, i, hi, hr => by
    have e : up w h x i = i := by
      rcases up_or w h x i with e | e
      · exact e
      · have := rank_lt (up_lt x hw hi) e
        omega
    show (if up w h x i = i then i else peakOf w h x 0 (up w h x i)) = i
    rw [if_pos e]
  | f + 1, i, hi, hr => by
    show (if up w h x i = i then i else peakOf w h x (f + 1) (up w h x i)) = (if up w h x i = i then i else peakOf w h x f (up w h x i))
    by_cases e : up w h x i = i
    · rw [if_pos e, if_pos e]
    · rw [if_neg e, if_neg e]
      have o := (up_or w h x i).resolve_left e
      have := rank_lt (up_lt x hw hi) o
      exact peakOf_more hw f _ (up_lt x hw hi) (by omega)
/-- the peak to which a place goes -/
def peak (w h : Nat) (x : List Nat) (i : Nat) : Nat := peakOf w h x (w * h) i
theorem peak_self {i : Nat} (hi : i < w * h) (e : up w h x i = i) : peak w h x i = i := by
  unfold peak
  obtain ⟨f, hf⟩ : ∃ f, w * h = f + 1 := ⟨w * h - 1, by omega⟩
  rw [hf]
  show (if up w h x i = i then i else _) = i
  rw [if_pos e]
theorem peak_up {i : Nat} (hw : 0 < w) (hi : i < w * h) (e : up w h x i ≠ i) : peak w h x i = peak w h x (up w h x i) := by
  have o := (up_or w h x i).resolve_left e
  have h1 := rank_lt (up_lt x hw hi) o
  have h2 := rank_le (x := x) hi
  obtain ⟨f, hf⟩ : ∃ f, w * h = f + 1 := ⟨w * h - 1, by omega⟩
  have h3 := peakOf_more (x := x) hw f (up w h x i) (up_lt x hw hi) (by omega)
  unfold peak
  rw [hf, h3]
  show (if up w h x i = i then i else _) = _
  rw [if_neg e]
theorem peakOf_or (f i : Nat) : peakOf w h x f i = i ∨ over x (peakOf w h x f i) i = true := by
  induction f generalizing i with
  | zero => exact .inl rfl
  | succ f ih =>
    show (if up w h x i = i then i else peakOf w h x f (up w h x i)) = i ∨ over x (if up w h x i = i then i else peakOf w h x f (up w h x i)) i = true
    by_cases e : up w h x i = i
    · rw [if_pos e]
      exact .inl rfl
    · rw [if_neg e]
      have o := (up_or w h x i).resolve_left e
      rcases ih (up w h x i) with q | q
      · rw [q]
        exact .inr o
      · exact .inr (over_trans q o)
theorem peakOf_lt (hw : 0 < w) (f i : Nat) (hi : i < w * h) : peakOf w h x f i < w * h := by
  induction f generalizing i with
  | zero => exact hi
  | succ f ih =>
    show (if up w h x i = i then i else peakOf w h x f (up w h x i)) < w * h
    split
    · exact hi
    · exact ih _ (up_lt x hw hi)
theorem peak_lt (hw : 0 < w) {i : Nat} (hi : i < w * h) : peak w h x i < w * h := peakOf_lt hw _ i hi
theorem peak_iff (hw : 0 < w) {i : Nat} (hi : i < w * h) : peak w h x i = i ↔ up w h x i = i := by
  refine ⟨fun e => ?_, peak_self hi⟩
  by_cases q : up w h x i = i
  · exact q
  · exfalso
    have o := (up_or w h x i).resolve_left q
    rw [peak_up hw hi q] at e
    rcases peakOf_or (w := w) (h := h) (x := x) (w * h) (up w h x i) with z | z
    · exact q (z.symm.trans e)
    · have z' : over x (peak w h x (up w h x i)) (up w h x i) = true := z
      rw [e, over_asym o] at z'
      cases z'
end
end Sky
namespace Sky
open Sh66
/-! ### the places from above -/
/-- the places, the highest first, of equal ones the lower first -/
def order (x : List Nat) : List Nat := (List.range x.length).mergeSort fun p q => decide ((0 - ((Sh66.num x p : Nat) : Int)) < 0 - ((Sh66.num x q : Nat) : Int) ∨ ((0 - ((Sh66.num x p : Nat) : Int)) = 0 - ((Sh66.num x q : Nat) : Int) ∧ ((p : Nat) : Int) ≤ ((q : Nat) : Int)))
theorem order_len (x : List Nat) : (order x).length = x.length := by
  unfold order
  rw [List.length_mergeSort, List.length_range]
theorem order_mem {x : List Nat} {i : Nat} : i ∈ order x ↔ i < x.length := by
  unfold order
  rw [List.mem_mergeSort, List.mem_range]
theorem order_pw (x : List Nat) : (order x).Pairwise fun p q => num x q < num x p ∨ (num x p = num x q ∧ p ≤ q) := by
  have h := List.pairwise_mergeSort (le := fun p q => decide ((0 - ((Sh66.num x p : Nat) : Int)) < 0 - ((Sh66.num x q : Nat) : Int) ∨ ((0 - ((Sh66.num x p : Nat) : Int)) = 0 - ((Sh66.num x q : Nat) : Int) ∧ ((p : Nat) : Int) ≤ ((q : Nat) : Int))))
    (fun a b c h1 h2 => by
      have h1 := of_decide_eq_true h1
      have h2 := of_decide_eq_true h2
      refine decide_eq_true ?_
      omega) (fun a b => by
      rw [Bool.or_eq_true, decide_eq_true_eq, decide_eq_true_eq]
      omega) (List.range x.length)
  refine List.Pairwise.imp (fun {a b} q => ?_) h
  have q := of_decide_eq_true q
  omega
theorem order_before {x : List Nat} {i u p : Nat} (hp : (order x)[i]? = some p) (hu : u < x.length) (h : over x u p = true) : u ∈ (order x).take i := by
  have hm : u ∈ order x := order_mem.mpr hu
  obtain ⟨hi, ep⟩ := List.getElem?_eq_some_iff.mp hp
  have e : order x = (order x).take i ++ p :: (order x).drop (i + 1) := by
    rw [← ep, List.getElem_cons_drop, List.take_append_drop]
  rw [e] at hm
  rcases List.mem_append.mp hm with m | m
  · exact m
  · exfalso
    rcases List.mem_cons.mp m with z | m
    · rw [z, over_irr] at h
      cases h
    · have pw := order_pw x
      rw [e] at pw
      have q := (List.pairwise_cons.mp (List.pairwise_append.mp pw).2.1).1 u m
      have o := over_iff.mp h
      omega
/-- the place of the peak, or -1 -/
def own (w h : Nat) (x : List Nat) (i : Nat) : Int := if num x i = 0 then -1 else ((peak w h x i : Nat) : Int)
/-- what is known of a place's peak when i places were looked at -/
def upTo (w h : Nat) (x : List Nat) (i j : Nat) : Int := if j ∈ (order x).take i then own w h x j else -1
theorem upTo_zero (w h : Nat) (x : List Nat) (j : Nat) : upTo w h x 0 j = -1 := by
  unfold upTo
  rw [List.take_zero, if_neg List.not_mem_nil]
theorem upTo_all {w h : Nat} {x : List Nat} {j : Nat} (hj : j < x.length) : upTo w h x x.length j = own w h x j := by
  unfold upTo
  rw [List.take_of_length_le (Nat.le_of_eq (order_len x)), if_pos (order_mem.mpr hj)]
theorem upTo_next {w h : Nat} {x : List Nat} {i p : Nat} (hp : (order x)[i]? = some p) (j : Nat) : upTo w h x (i + 1) j = if j = p then own w h x p else upTo w h x i j := by
  unfold upTo
  rw [List.take_add_one, hp]
  show (if j ∈ (order x).take i ++ [p] then _ else _) = _
  by_cases e : j = p
  · rw [if_pos e, e, if_pos (List.mem_append_right _ List.mem_cons_self)]
  · rw [if_neg e]
    by_cases m : j ∈ (order x).take i
    · rw [if_pos m, if_pos (List.mem_append_left _ m)]
    · rw [if_neg m, if_neg fun z => (List.mem_append.mp z).elim m fun z => e (List.mem_singleton.mp z)]
theorem order_nodup (x : List Nat) : (order x).Nodup := (List.mergeSort_perm _ _).nodup_iff.mpr List.nodup_range
theorem upTo_skip {w h : Nat} {x : List Nat} {i p : Nat} (hp : (order x)[i]? = some p) (h0 : num x p = 0) (j : Nat) : upTo w h x (i + 1) j = upTo w h x i j := by
  rw [upTo_next hp]
  by_cases e : j = p
  · rw [if_pos e, e]
    unfold upTo own
    rw [if_pos h0]
    split <;> rfl
  · rw [if_neg e]
section
variable {w h : Nat} {x : List Nat} {i p : Nat}
theorem own_top (h0 : num x p ≠ 0) (hp : p < w * h) (e : up w h x p = p) : own w h x p = (p : Int) := by
  unfold own
  rw [if_neg h0, peak_self hp e]
theorem own_up (hl : x.length = w * h) (hw : 0 < w) (hi : (order x)[i]? = some p) (h0 : num x p ≠ 0) (e : up w h x p ≠ p) : upTo w h x i (up w h x p) = own w h x p := by
  have hp : p < w * h := by
    rw [← hl]
    exact order_mem.mp (List.mem_of_getElem? hi)
  have o := (up_or w h x p).resolve_left e
  have hu := up_lt x hw hp
  unfold upTo
  rw [if_pos (order_before hi (by rw [hl]; exact hu) o)]
  have q := over_iff.mp o
  unfold own
  rw [if_neg (by omega), if_neg h0, peak_up hw hp e]
theorem own_spec (hw : 0 < w) : owners w h x = (List.range (w * h)).map fun i => (own w h x i + 1).toNat := by
  unfold owners
  refine List.map_congr_left fun i _ => ?_
  unfold own
  by_cases c : num x i = 0
  · rw [if_pos c, if_pos c]
    rfl
  · rw [if_neg c, if_neg c]
    show peak w h x i + 1 = _
    omega
theorem own_nat (i : Nat) : own w h x i + 1 = (((if num x i = 0 then 0 else peakOf w h x (w * h) i + 1 : Nat)) : Int) := by
  unfold own
  by_cases c : num x i = 0
  · rw [if_pos c, if_pos c]
    rfl
  · rw [if_neg c, if_neg c, Int.natCast_add]
    rfl
end
theorem set_range {α : Type} (f : Nat → α) (v : α) (n p : Nat) : ((List.range n).map f).set p v = (List.range n).map fun j => if j = p then v else f j := by
  apply List.ext_getElem?
  intro j
  rw [List.getElem?_set]
  by_cases e : p = j
  · rw [if_pos e, List.length_map, List.length_range, List.getElem?_map]
    by_cases hp : p < n
    · rw [if_pos hp, List.getElem?_range (by omega)]
      show some v = some (if j = p then v else f j)
      rw [if_pos e.symm]
    · rw [if_neg hp, List.getElem?_eq_none (by rw [List.length_range]; omega)]
      rfl
  · rw [if_neg e, List.getElem?_map, List.getElem?_map]
    by_cases hj : j < n
    · rw [List.getElem?_range hj]
      show some (f j) = some (if j = p then v else f j)
      rw [if_neg (Ne.symm e)]
    · rw [List.getElem?_eq_none (by rw [List.length_range]; omega)]
      rfl
end Sky
namespace Sky
open Sh66
/-! ### peaks, stars by their owners -/
theorem num_map {n i : Nat} (f : Nat → Nat) (h : i < n) : num ((List.range n).map f) i = f i := by
  unfold num
  rw [List.getD_eq_getElem?_getD, List.getElem?_map, List.getElem?_range h]
  rfl
theorem own_num {w h : Nat} {x : List Nat} {i : Nat} (hi : i < w * h) : ((num (owners w h x) i : Nat) : Int) = own w h x i + 1 := by
  unfold owners
  rw [num_map _ hi, own_nat]
theorem peaks_own {w h : Nat} {x : List Nat} (hw : 0 < w) : peaks w h x = (List.range (w * h)).filter fun i => decide (own w h x i = (i : Int)) := by
  unfold peaks
  refine List.filter_congr fun i hi => ?_
  have hi := List.mem_range.mp hi
  unfold own
  by_cases c : num x i = 0
  · rw [if_pos c, c, decide_eq_false (by omega)]
    rfl
  · rw [if_neg c, show (num x i != 0) = true from bne_iff_ne.mpr c, Bool.true_and]
    by_cases q : up w h x i = i
    · rw [beq_iff_eq.mpr q, (peak_iff hw hi).mpr q, decide_eq_true rfl]
    · rw [beq_eq_false_iff_ne.mpr q, decide_eq_false (fun z : ((peak w h x i : Nat) : Int) = ((i : Nat) : Int) => q ((peak_iff hw hi).mp (Int.ofNat.inj z)))]
theorem peaks_lt {w h : Nat} {x : List Nat} {p : Nat} (hp : p ∈ peaks w h x) : p < w * h := List.mem_range.mp (List.mem_filter.mp hp).1
theorem peaks_len (w h : Nat) (x : List Nat) : (peaks w h x).length ≤ w * h := by
  have := List.length_filter_le (fun i => num x i != 0 && up w h x i == i) (List.range (w * h))
  rw [List.length_range] at this
  exact this
/-- the places that go to p -/
def mems (w h : Nat) (x : List Nat) (p : Nat) : List Nat := (List.range (w * h)).filter fun i => decide (own w h x i = (p : Int))
theorem mems_own (w h : Nat) (x : List Nat) (p : Nat) : ((List.range (w * h)).filter fun i => num (owners w h x) i == p + 1) = mems w h x p := by
  unfold mems
  refine List.filter_congr fun i hi => ?_
  have e := own_num (x := x) (List.mem_range.mp hi)
  by_cases c : num (owners w h x) i = p + 1
  · rw [beq_iff_eq.mpr c, decide_eq_true (by omega)]
  · rw [beq_eq_false_iff_ne.mpr c, decide_eq_false (by omega)]
theorem mems_len (w h : Nat) (x : List Nat) (p : Nat) : (mems w h x p).length ≤ w * h := by
  have := List.length_filter_le (fun i => decide (own w h x i = (p : Int))) (List.range (w * h))
  rw [List.length_range] at this
  exact this
/-- what is told of a peak -/
def starOf (w h : Nat) (x : List Nat) (p : Nat) : List Nat := [p % w, p / w, num x p, (mems w h x p).length, ((mems w h x p).map (num x)).sum]
/-- those of the peaks that are told -/
def told5 (least w h : Nat) (x : List Nat) : List Nat := (List.range (peaks w h x).length).filter fun i => decide (least ≤ (mems w h x (num (peaks w h x) i)).length)
theorem fm_if {α β : Type} (p : α → Bool) (f : α → β) : ∀ l : List α, (l.filterMap fun a => if p a = true then some (f a) else none) = (l.filter p).map f
  | [] => rfl
  | a :: l => by
    rw [List.filterMap_cons, List.filter_cons, fm_if p f l]
    by_cases c : p a = true
    · rw [if_pos c, if_pos c]
      rfl
    · rw [if_neg c, if_neg c]
theorem stars_eq (least w h : Nat) (x : List Nat) : stars least w h x = (told5 least w h x).map fun i => starOf w h x (num (peaks w h x) i) := by
  have e1 : stars least w h x = (peaks w h x).filterMap fun p => if decide (least ≤ (mems w h x p).length) = true then some (starOf w h x p) else none := by
    unfold stars
    refine congrArg (fun f => (peaks w h x).filterMap f) (funext fun p => ?_)
    show (if ((List.range (w * h)).filter fun i => num (owners w h x) i == p + 1).length < least then none else _) = _
    rw [mems_own]
    by_cases c : least ≤ (mems w h x p).length
    · rw [if_neg (by omega), decide_eq_true c, if_pos rfl]
      rfl
    · rw [if_pos (by omega), decide_eq_false c, if_neg (by decide)]
  rw [e1, fm_if]
  unfold told5
  conv => lhs; rw [← map_num (peaks w h x)]
  rw [List.filter_map, List.map_map]
  rfl
theorem told5_lt {least w h : Nat} {x : List Nat} {i : Nat} (hi : i ∈ told5 least w h x) : i < (peaks w h x).length := List.mem_range.mp (List.mem_filter.mp hi).1
theorem told5_len (least w h : Nat) (x : List Nat) : (told5 least w h x).length ≤ (peaks w h x).length := by
  have := List.length_filter_le (fun i => decide (least ≤ (mems w h x (num (peaks w h x) i)).length)) (List.range (peaks w h x).length)
  rw [List.length_range] at this
  exact this
end Sky
namespace Sky
open PySem PySem.Spec PyProof.Rows L2
/-! ### values and heaps -/
/-- a list of naturals, as values -/
def nv (l : List Nat) : List V := (Sh66Neutral.ints l).map V.int
theorem nv_length (l : List Nat) : (nv l).length = l.length := by unfold nv; rw [List.length_map, ints_length]
theorem nv_at {l : List Nat} {i : Nat} (h : i < l.length) : (nv l)[i]? = some (.int ((Sh66.num l i : Nat) : Int)) := by
  unfold nv
  rw [List.getElem?_map, ints_at h]
  rfl
theorem nv_get {l : List Nat} {i : Nat} {x : V} (h : (nv l)[i]? = some x) : i < l.length ∧ x = .int ((Sh66.num l i : Nat) : Int) := by
  have hi : i < l.length := by
    have := (List.getElem?_eq_some_iff.mp h).1
    rw [nv_length] at this
    exact this
  rw [nv_at hi] at h
  exact ⟨hi, (Option.some.inj h).symm⟩
theorem nv_append (l m : List Nat) : nv (l ++ m) = nv l ++ nv m := by unfold nv; rw [ints_append, List.map_append]
theorem nv_map {α : Type} (f : α → Nat) (l : List α) : nv (l.map f) = l.map fun a => V.int ((f a : Nat) : Int) := by
  show ((l.map f).map _).map _ = _
  rw [List.map_map, List.map_map]
  rfl
theorem nv_cons (n : Nat) (l : List Nat) : nv (n :: l) = V.int (n : Int) :: nv l := rfl
theorem at_n {xs : List V} {i : Nat} {v : V} (h : xs[i]? = some v) : atI xs ((i : Nat) : Int) = some v := atI_nat h
theorem same_upd {H : Hp} {p : Addr} {o : HO} (h : H p = none) : Same H (upd H p o) := fun b x e => by
  rw [upd_ne (ne_of_none e h)]
  exact e
/-- an object that was made since is written: what was there before stands -/
theorem same_set {H H1 : Hp} {p : Addr} {o : HO} (s : Same H H1) (h : H p = none) : Same H (upd H1 p o) := fun b x e => by
  rw [upd_ne (ne_of_none e h)]
  exact s b x e
theorem Same.none {H H1 : Hp} {p : Addr} (s : Same H H1) (h : H1 p = none) : H p = none := s.free h
theorem seqT {K : PySem.W.Frag} {H H' : Hp} {a : Addr} {xs : List V} (e : Same H H') (h : SqT K H a xs) : SqT K H' a xs := by
  rcases h with (h | ⟨o, h⟩) | h
  · exact .inl (.inl (e _ _ h))
  · exact .inl (.inr ⟨o, e _ _ h⟩)
  · exact .inr h
theorem line_of {n : Nat} (h : n ≤ 1048576) : n ≤ sizeLine := Nat.le_trans h (by decide)
theorem line_lt {n : Nat} (h : n < 1048576) : n < sizeLine := Nat.lt_of_lt_of_le h (by decide)
theorem one_line : 1 ≤ sizeLine := by decide
theorem two_line : 2 ≤ sizeLine := by decide
/-- the answer's end: a list of whole numbers -/
theorem dw_ans {K : PySem.W.Frag} {H : Hp} {p : Addr} (l : List Int) (hp : H p = some (.lst (l.map V.int))) : Dw K H (.ref p) (PySem.W.WData.list (l.map PySem.W.WData.int)) := .lst (SqL.of hp) (dw_ints l)
theorem of_ints {l : List Int} (h : l.all (PySem.W.Codec.inInt 0 65535) = true) : ∃ m : List Nat, l = Sh66Neutral.ints m :=
  ⟨Sh66Neutral.nats l, (ints_nats fun z hz => by
    have q := List.all_eq_true.mp h z hz
    simp only [PySem.W.Codec.inInt, Bool.and_eq_true, decide_eq_true_eq] at q
    exact q.1).symm⟩
theorem dp_ints {K : PySem.W.Frag} {H : Hp} : ∀ l : List Int, DpAll K H (l.map V.int) (l.map PyData.int)
  | [] => .nil
  | i :: l => .cons (.int i) (dp_ints l)
theorem at_of {xs : List V} {z : Int} {j : Nat} {v : V} (e : z = (j : Int)) (h : xs[j]? = some v) : atI xs z = some v := by
  rw [e]
  exact atI_nat h
theorem nv_filter (p : Nat → Bool) (l : List Nat) : ((List.range l.length).filter fun i => p (Sh66.num l i)).map (fun i => V.int ((Sh66.num l i : Nat) : Int)) = nv (l.filter p) := by
  conv => rhs; rw [← map_num l]
  rw [List.filter_map, nv_map]
  rfl
theorem of_int {i hi : Int} (h : PySem.W.Codec.inInt 0 hi i = true) : ∃ n : Nat, i = (n : Int) := by
  simp only [PySem.W.Codec.inInt, Bool.and_eq_true, decide_eq_true_eq] at h
  exact Int.eq_ofNat_of_zero_le h.1
theorem and2 {a b : Bool} (q : (a && b) = true) : b = true := (Bool.and_eq_true_iff.mp q).2
/-- lists of lists: at each item's address its numbers -/
def Lists (H : Hp) (ts : List V) (cs : List (List Nat)) : Prop := ts.length = cs.length ∧ ∀ (i : Nat) (v : V), ts[i]? = some v → ∃ q, v = .ref q ∧ H q = some (.lst (nv (cs.getD i [])))
theorem Lists.same {H H' : Hp} {ts : List V} {cs : List (List Nat)} (e : Same H H') (x : Lists H ts cs) : Lists H' ts cs :=
  ⟨x.1, fun i v h => let ⟨q, a, b⟩ := x.2 i v h; ⟨q, a, e _ _ b⟩⟩
/-! ### names of the module -/
theorem pe_gi {X : Cx} {x : Str} {i : Int} {pos : Pos} (hg : Gl X x) (h : ∃ t, X.mg x = some (.int i t)) (hd : (x == ("__debug__" : Str)) = false := by decide) : PE X (.Name x pos) (tC (.int i)) := by
  obtain ⟨t, h⟩ := h
  exact pe_glob hg h ⟨t, rfl⟩ hd
/-- a def of the module that keeps a promise -/
def Def (P : Program) (w : World) (K : PySem.W.Frag) (mg : Str → Option Value) (base : Heap) (k : Nat) (x : Str) (ps : List Str) (sp : Sp) : Prop :=
  ∃ f fd, mg x = some (.ref f) ∧ PySem.W.keepIn K (.ref f) = true ∧ L2.Binds K fd ps [] ∧ FnOk P w K mg base CX0 k f fd ps sp
theorem Def.mono {P : Program} {w : World} {K : PySem.W.Frag} {mg : Str → Option Value} {base : Heap} {k j : Nat} {x : Str} {ps : List Str} {sp : Sp} (D : Def P w K mg base k x ps sp) (h : k ≤ j) : Def P w K mg base j x ps sp := by
  obtain ⟨f, fd, a, b, c, d⟩ := D
  exact ⟨f, fd, a, b, c, d.mono h⟩
theorem pe_def {X : Cx} {k : Nat} {ps : List Str} {sp : Sp} {x : Str} {p pos : Pos} {e : Expr} {es : List Expr} {t : TA} (D : Def X.prog X.w X.K X.mg X.base k x ps sp) (hr : Room k X.A) (hg : Gl X x) (ha : PA X (e :: es) t)
    (hdb : (x == ("__debug__" : Str)) = false := by decide) (he : starEach (e :: es) X.env = (false, eval e X.env) :: starEach es X.env := by rfl) (hpl : (backTo pos (starEach es X.env)).any (·.1) = false := by rfl) :
    PE X (.Call (.Name x p) (e :: es) [] pos) (tCall sp [] E0 t) := by
  obtain ⟨f, fd, a, b, c, d⟩ := D
  exact pe_call d hr hg a b c .nil pass0 ha hdb he hpl
/-- a built-in function, a built-in class by its name -/
theorem pe_bi {X : Cx} {id : String} {x : Str} {p pos : Pos} {e : Expr} {es : List Expr} {t : TA} {r : List V → Hp → VK → Prop} (hc : CallR X (.builtin id) r) (hg : Gl X x) (hm : X.mg x = none) (ha : PA X (e :: es) t) (hv : bootBuiltins x = some (.builtin id) := by decide +kernel)
    (hn : x ≠ "__name__" := by decide) (hdb : (x == ("__debug__" : Str)) = false := by decide) (he : starEach (e :: es) X.env = (false, eval e X.env) :: starEach es X.env := by rfl) (hpl : (backTo pos (starEach es X.env)).any (·.1) = false := by rfl) : PE X (.Call (.Name x p) (e :: es) [] pos) (tCB r t) := pe_callB hc hg hm hv ha hn hdb he hpl
/-- list(REFUSED) -/
def RefOk (K : PySem.W.Frag) (mg : Str → Option Value) : Prop := ∃ a, mg "REFUSED" = some (.ref a) ∧ ∀ H, SqL K H a [.int (-2)]
def tRefused : TE := fun _ H Q => ∀ l, H l = none → Q (.ref l) (upd H l (.lst [.int (-2)]))
theorem pe_refused {X : Cx} {p p2 pos : Pos} (hg : Gl X "list") (hg2 : Gl X "REFUSED") (hm : X.mg "list" = none) (h : RefOk X.K X.mg) : PE X (.Call (.Name "list" p) [.Name "REFUSED" p2] [] pos) tRefused := by
  obtain ⟨a, e, q⟩ := h
  have b := pe_callTy (X := X) (p := p) (pos := pos) call_list_of hg hm (by decide +kernel) (pa_cons (pe_glob (v := .ref a) (pos := p2) hg2 e rfl) pa_nil)
  exact ⟨fun pins s σ H Q I hw => b.run pins s σ H Q I ⟨a, _, rfl, .inl (q H), hw⟩⟩
/-! ### the walks of a comprehension -/
section
variable {J : It} {n : Nat} {G : Hp → Prop} {Y : Nat → Hp → V → Hp → Prop}
/-- [f i for .. if keep i], the heap growing -/
theorem lc_sel (w : Walk J n G Y) {g : TG} {tt : TT} {te : TE} {vs : List Nat} {σ : L2.St} {H1 : Hp} {D : Addr} {Qd : Hp → Prop} (f : Nat → V) (keep : Nat → Bool) (hD : H1 D = none) (hz : n ≤ sizeLine) (hG : ∀ H, Same H1 H → G H)
    (hs : ∀ i x H H' (R : V → Hp → Prop) (N : Hp → Prop), i < n → Same H1 H → Y i H x H' → (keep i = true → ∀ H4, Same H H4 → R (f i) H4) → (keep i = false → ∀ H4, Same H H4 → N H4) →
      g x (wipe σ vs) H' fun σ2 H2 => wipe σ2 vs = wipe σ vs ∧ tt σ2 H2 fun b H3 => if b = true then te σ2 H3 R else N H3)
    (hd : ∀ H, Same H1 H → H D = some (.lst (((List.range n).filter keep).map f)) → Qd H) :
    ∃ W : Nat → Nat → Hp → Prop, (∃ m, W 0 m (upd H1 D (.lst []))) ∧ ∀ i m H, W i m H →
      (J.stop i H ∧ Qd H) ∨ (J.go i H ∧ ∃ Nx : Hp → Prop, (∀ H', Nx H' → ∃ m', m' < m ∧ W (i + 1) m' H') ∧ ∀ x H', J.yld i H x H' → g x (wipe σ vs) H' fun σ2 H2 => wipe σ2 vs = wipe σ vs ∧ tt σ2 H2 fun b H3 =>
        if b = true then te σ2 H3 fun y H4 => ∃ acc, H4 D = some (.lst acc) ∧ acc.length < sizeLine ∧ Nx (upd H4 D (.lst (acc ++ [y]))) else Nx H3) := by
  have step : ∀ i, (List.range (i + 1)).filter keep = (List.range i).filter keep ++ (if keep i = true then [i] else []) := fun i => by
    rw [List.range_succ, List.filter_append]
    congr 1
    by_cases h : keep i = true
    · rw [List.filter_cons_of_pos h, if_pos h]; rfl
    · rw [List.filter_cons_of_neg h, if_neg h]; rfl
  have len : ∀ i, (((List.range i).filter keep).map f).length ≤ i := fun i => by
    rw [List.length_map]
    exact Nat.le_trans (List.length_filter_le _ _) (Nat.le_of_eq List.length_range)
  refine lc_it w (fun i H => Same H1 H ∧ H D = some (.lst (((List.range i).filter keep).map f))) ⟨same_upd hD, upd_same⟩ (fun i H _ p => hG H p.1) (fun i x H H' hi p y => ?_) fun H p => hd H p.1 p.2
  refine hs i x H H' _ _ hi p.1 y (fun hk H4 s4 => ?_) fun hk H4 s4 => ?_
  · refine ⟨_, s4 _ _ p.2, Nat.lt_of_le_of_lt (len i) (Nat.lt_of_lt_of_le hi hz), same_set (p.1.trans s4) hD, ?_⟩
    rw [upd_same, step i, if_pos hk, List.map_append]
    rfl
  · refine ⟨p.1.trans s4, ?_⟩
    rw [s4 _ _ p.2, step i, if_neg (by rw [hk]; decide), List.append_nil]
/-- [f i for ..] -/
theorem lc_map (w : Walk J n G Y) {g : TG} {te : TE} {vs : List Nat} {σ : L2.St} {H1 : Hp} {D : Addr} {Qd : Hp → Prop} (f : Nat → V) (hD : H1 D = none) (hz : n ≤ sizeLine) (hG : ∀ H, Same H1 H → G H)
    (hs : ∀ i x H H' (R : V → Hp → Prop), i < n → Same H1 H → Y i H x H' → (∀ H4, Same H H4 → R (f i) H4) → g x (wipe σ vs) H' fun σ2 H2 => wipe σ2 vs = wipe σ vs ∧ te σ2 H2 R)
    (hd : ∀ H, Same H1 H → H D = some (.lst ((List.range n).map f)) → Qd H) :
    ∃ W : Nat → Nat → Hp → Prop, (∃ m, W 0 m (upd H1 D (.lst []))) ∧ ∀ i m H, W i m H →
      (J.stop i H ∧ Qd H) ∨ (J.go i H ∧ ∃ Nx : Hp → Prop, (∀ H', Nx H' → ∃ m', m' < m ∧ W (i + 1) m' H') ∧ ∀ x H', J.yld i H x H' → g x (wipe σ vs) H' fun σ2 H2 => wipe σ2 vs = wipe σ vs ∧ tYes σ2 H2 fun b H3 =>
        if b = true then te σ2 H3 fun y H4 => ∃ acc, H4 D = some (.lst acc) ∧ acc.length < sizeLine ∧ Nx (upd H4 D (.lst (acc ++ [y]))) else Nx H3) :=
  lc_sel w f (fun _ => true) hD hz hG (fun i x H H' R N hi s y h1 _ => hs i x H H' R hi s y (h1 rfl)) fun H s e => hd H s (by rw [e, List.filter_eq_self.mpr fun _ _ => rfl])
/-- [e for ..], each item told by T -/
theorem lc_rel (w : Walk J n G Y) {g : TG} {te : TE} {vs : List Nat} {σ : L2.St} {H1 : Hp} {D : Addr} {Qd : Hp → Prop} (T : Nat → V → Hp → Prop) (hD : H1 D = none) (hz : n ≤ sizeLine) (hG : ∀ H, Same H1 H → G H)
    (mono : ∀ i v H H', T i v H → (∀ b o, b ≠ D → H b = some o → H' b = some o) → T i v H')
    (hs : ∀ i x H H' (R : V → Hp → Prop), i < n → Same H1 H → (∃ acc, H D = some (.lst acc)) → Y i H x H' → (∀ v H4, Same H H4 → T i v H4 → R v H4) → g x (wipe σ vs) H' fun σ2 H2 => wipe σ2 vs = wipe σ vs ∧ te σ2 H2 R)
    (hd : ∀ H acc, Same H1 H → H D = some (.lst acc) → acc.length = n → (∀ i v, acc[i]? = some v → T i v H) → Qd H) :
    ∃ W : Nat → Nat → Hp → Prop, (∃ m, W 0 m (upd H1 D (.lst []))) ∧ ∀ i m H, W i m H →
      (J.stop i H ∧ Qd H) ∨ (J.go i H ∧ ∃ Nx : Hp → Prop, (∀ H', Nx H' → ∃ m', m' < m ∧ W (i + 1) m' H') ∧ ∀ x H', J.yld i H x H' → g x (wipe σ vs) H' fun σ2 H2 => wipe σ2 vs = wipe σ vs ∧ tYes σ2 H2 fun b H3 =>
        if b = true then te σ2 H3 fun y H4 => ∃ acc, H4 D = some (.lst acc) ∧ acc.length < sizeLine ∧ Nx (upd H4 D (.lst (acc ++ [y]))) else Nx H3) := by
  refine lc_it w (fun i H => Same H1 H ∧ ∃ acc, H D = some (.lst acc) ∧ acc.length = i ∧ ∀ j v, acc[j]? = some v → T j v H) ⟨same_upd hD, [], upd_same, rfl, fun j v h => by simp at h⟩ (fun i H _ p => hG H p.1) (fun i x H H' hi p y => ?_) fun H p => ?_
  · obtain ⟨s1, acc, ea, la, ta⟩ := p
    refine hs i x H H' _ hi s1 ⟨acc, ea⟩ y fun v H4 s4 t4 => ⟨acc, s4 _ _ ea, by omega, same_set (s1.trans s4) hD, acc ++ [v], upd_same, by rw [List.length_append, la]; rfl, fun j u h => ?_⟩
    have keep : ∀ b o, b ≠ D → H4 b = some o → upd H4 D (.lst (acc ++ [v])) b = some o := fun b o nb e => by
      rw [upd_ne nb]
      exact e
    by_cases c : j < i
    · rw [List.getElem?_append_left (by omega)] at h
      exact mono _ _ _ _ (ta j u h) fun b o nb e => keep b o nb (s4 b o e)
    · rw [List.getElem?_append_right (by omega), la] at h
      by_cases c2 : j = i
      · subst c2
        rw [Nat.sub_self] at h
        have e : v = u := Option.some.inj h
        subst e
        exact mono _ _ _ _ t4 keep
      · rw [List.getElem?_eq_none (show [v].length ≤ j - i by simp only [List.length_singleton]; omega)] at h
        cases h
  · obtain ⟨s1, acc, ea, la, ta⟩ := p
    exact hd H acc s1 ea la ta
end
end Sky
namespace Sky
open PySem PySem.Spec PyProof.Rows L2
/-! ### sorted(range(n), key=f) over the heap alone -/
section
variable {prog : Program} {w : World} {A : Around} {E : Value → Shared → Prop} {s : Shared}
/-- the i-th item is the number i -/
def NumOf (v : Value) (i : Nat) : Prop := ∃ t, v = .int (i : Int) t
theorem each_nums : ∀ {vs : List Value} {n m : Nat}, vs.length = m → (∀ (j : Nat) (v : Value), vs[j]? = some v → ∃ t, v = Value.int ((n + j : Nat) : Int) t) → PySem.W.EachIs NumOf vs (List.range' n m)
  | [], n, m, hl, _ => by
    subst hl
    exact .nil
  | v :: vs, n, m, hl, h => by
    subst hl
    rw [List.length_cons, List.range'_succ]
    refine .cons (h 0 v rfl) (each_nums rfl fun j u e => ?_)
    obtain ⟨t, e2⟩ := h (j + 1) u e
    exact ⟨t, by rw [e2, show n + (j + 1) = n + 1 + j by omega]⟩
theorem sortedRangeKey {r f : Addr} {n : Nat} {t u v : Tok} {Q : Value → Shared → Prop} (x y : Nat → Int) (hh : A.handled = none) (hr : IsRange s.heap r 0 (n : Int) 1 t u v) (hn : n ≤ 5000) (hu : A.units + 3 < cLine)
    (turn : ∀ (i : Nat) (tk0 : Tok), i < n → ∀ (h : Heap) (tk : Nat), (∀ b o, s.heap.get? b = some o → h.get? b = some o) →
      wpAny (model prog w) A.in1.in1 (call (.ref f) [.int (i : Int) tk0]) (PySem.W.KeyPure (.tuple [.int (x i), .int (y i)]) { s with heap := h, toks := tk }) (fun _ _ => False) { s with heap := h, toks := tk })
    (h : ∀ (h' : Heap) (tk : Nat) (a : Addr) (out : List Value) (c : Nat), (∀ b o, s.heap.get? b = some o → h'.get? b = some o) → s.heap.get? a = none → h'.get? a = some (seqObj "list" (List.toArray out) c) →
      PySem.W.EachIs NumOf out ((List.range n).mergeSort fun p q => decide (x p < x q ∨ (x p = x q ∧ y p ≤ y q))) → Q (.ref a) { s with heap := h', toks := tk }) :
    wpAny (model prog w) A (call (.builtin "sorted") [.ref r] [(Str.ofString "key", .ref f)]) Q E s := by
  refine call_function_entry_kw kind_sorted plain_sorted entry_sorted (ksk_s1 _ _) ?_
  unfold Builtin.«sorted»
  refine wpAny_bind (m := checkCount "sorted" 1 1 _) (wpAny_pure ?_)
  refine wpAny_bind (L2.collect_range (n := n) (show A.in1.handled = none from hh) hr ?small ?size (by omega) fun h1 tk1 acc hk1 hacc => ?_)
  case small => exact small_one (by omega) (by omega) (by omega) (by omega)
  case size =>
    have e := rangeSize_nat 0 (n : Int)
    rw [show ((n : Int) - 0).toNat = n by omega] at e
    exact e
  have hlen : acc.toList.length = n := by rw [Array.length_toList]; exact hacc.1
  refine wpAny_bind (wpAny_newList ?_ (by rw [hlen]; exact line_of (by omega)))
  have hD : (h1.push (seqObj "list" acc.toList.toArray 0)).get? h1.objs.size = some (seqObj "list" acc.toList.toArray 0) := Heap.get?_push_size _ rfl
  have up1 : ∀ b o, s.heap.get? b = some o → (h1.push (seqObj "list" acc.toList.toArray 0)).get? b = some o := fun b o e => Heap.get?_push_of_some _ (hk1 b o e)
  have ne1 : ∀ b o, s.heap.get? b = some o → b ≠ h1.objs.size := fun b o e z => by
    have q := Heap.lt_size (hk1 b o e)
    rw [z] at q
    exact Nat.lt_irrefl _ q
  refine wpAny_bind (wpAny_holding (wpAny_call_entry_kw slot_list_sort ⟨_, hD, rfl⟩ entry_list_sort ?body (ksk_l1 _ _)))
  case body =>
    show wpAny (model prog w) A.in1.in1 (Builtin.«list.sort» ⟨[.ref h1.objs.size], [(Str.ofString "key", .ref f)]⟩) _ _ _
    rw [ksk_t1]
    have ea : PySem.W.EachIs NumOf acc.toList (List.range n) := by
      rw [List.range_eq_range']
      refine each_nums hlen fun j v e => ?_
      obtain ⟨t, e2⟩ := hacc.2 j v (by simpa using e)
      exact ⟨t, by rw [e2]; congr 1; omega⟩
    refine PySem.W.keyH_tree (kz := (List.range n).map fun i => .tuple [.int (x i), .int (y i)]) hD (by rw [List.length_map, List.length_range, hlen]) (by rw [hlen]; exact line_of (by omega)) (PySem.W.AllAlike.of fun _ _ => by simp [PySem.W.alike, PySem.W.alikeAll]) (PySem.W.Sortable.tuples fun _ => ⟨_, _, rfl⟩) ?hu
      (PySem.W.keyH_turns (k := fun i => .tuple [.int (x i), .int (y i)]) ea fun v i hv hi h tk kp => ?turn) fun h' tk out c kp hD' ko => ⟨_, rfl, wpAny_pure ⟨_, rfl, ?fin⟩⟩
    case hu =>
      intro d hd
      obtain ⟨i, _, rfl⟩ := List.mem_map.mp hd
      have : (PyData.tuple [.int (x i), .int (y i)]).depth = 1 := by simp [PyData.depth, PyData.depthAll]
      rw [this]
      show A.units + 2 + 1 < cLine
      omega
    case turn =>
      obtain ⟨t, rfl⟩ := hv
      exact turn i t (List.mem_range.mp hi) h tk fun b o e => kp b o (ne1 b o e) (up1 b o e)
    case fin =>
      have eo := PySem.W.keyedOut_each (rev := false) (fun i => PyData.tuple [.int (x i), .int (y i)]) ko ea
      rw [PySem.W.dataLe_ii (β := Nat) x y] at eo
      exact h h' tk h1.objs.size out c (fun b o e => kp b o (ne1 b o e) (up1 b o e)) (by
        cases q : s.heap.get? h1.objs.size with
        | none => rfl
        | some o => exact absurd rfl (ne1 _ o q)) hD' eo

/-! ### the lambda: place to (0 - numbers[place], place) -/
abbrev lamP (pa : Pos) : Arguments := { posonlyargs := [], args := [{ arg := "place", annotation := none, pos := pa }], vararg := none, kwonlyargs := [], kw_defaults := [], kwarg := none, defaults := [] }
abbrev lamS : Scope := { kind := .function, names := [("place", .local), ("numbers", .free)], isGenerator := false, isCoroutine := false, more := [] }
abbrev lamB (k0 k6 : Nat) (p0 p1 p2 p3 p4 p5 p6 : Pos) : Expr := .Tuple [.BinOp (.Constant (.int 0) k0 p0) .Sub (.Subscript (.Name "numbers" p1) (.Name "place" p2) p3) p4, .Name "place" p5] k6 p6
theorem lamTurn {f c' a cl : Addr} {qual : Str} {pm ctv : Value} {clos : List (Str × Addr)} {pa p0 p1 p2 p3 p4 p5 p6 : Pos} {k0 k6 : Nat} {its : Array Value} {i : Nat} {ti tx : Tok} {x : Int}
    (hd : A.depth < recursionLimit) (hf : s.heap.get? f = some (PySem.W.kla_obj "<lambda>" qual (lamP pa) (lamB k0 k6 p0 p1 p2 p3 p4 p5 p6) lamS clos pm c' ctv)) (hcl : clos.lookup ("numbers" : Str) = some cl) (hcell : s.heap.IsCell cl (some (.ref a)))
    (hl : s.heap.IsList a its) (hx : its[i]? = some (.int x tx)) (hi : i < 5000) (hcr : s.heap.CodeRec (.ref c') qual) (hlim : s.heap.NoLimit) :
    wpAny (model prog w) A (call (.ref f) [.int (i : Int) ti]) (PySem.W.KeyPure (.tuple [.int (0 - x), .int (i : Int)]) s) (fun _ _ => False) s := by
  refine wpAny_call (codeAny_mono (R := fun r s' => ∃ v, r = .ok (.ret v) ∧ PySem.W.KeyPure (PyData.tuple [PyData.int (0 - x), PyData.int (i : Int)]) s v s') (PySem.W.kla_callFunE hd hf rfl rfl rfl rfl hcr ?_) fun r s' hq => ?_)
  · rw [show bindArgs (PySem.W.kla_fn "<lambda>" qual (lamP pa) (lamB k0 k6 p0 p1 p2 p3 p4 p5 p6) lamS clos pm (.ref c') ctv) ⟨[.int (i : Int) ti], []⟩ = (pure [(("place" : Str), Value.int (i : Int) ti)] : Sem (List (Str × Value))) from rfl]
    refine wpAny_pure (wpAny_newFunctionEnv (show ∀ x ∈ lamS.names, x.2 ≠ .cell by decide) (fun x hx => by obtain rfl := List.mem_singleton.mp hx; exact rfl) (fun h1 hns hsb => ⟨hlim.fresh _ hsb, ?_⟩) rfl)
    have kp : ∀ b o, s.heap.get? b = some o → h1.get? b = some o := fun b o e => hsb.extBut b o (Nat.ne_of_lt (Heap.lt_size e)) (Heap.get?_push_of_some _ e)
    refine PySem.W.kla_codeExpr ?_
    have c1 : h1.IsCell cl (some (.ref a)) := let ⟨o, e, d⟩ := hcell; ⟨o, kp _ _ e, d⟩
    have l1 : h1.IsList a its := let ⟨o, e, r⟩ := hl; ⟨o, kp _ _ e, r⟩
    refine wpAny_Tuple_spliced (args_cons (wpAny_BinOp (wpAny_Constant_int (Subscript_ (wpAny_Name (wpAny_loadName_free rfl rfl hcl c1 (wpAny_Name (wpAny_loadName_local rfl rfl hns rfl (item_listR l1 (by omega) (by omega) (by rw [show ((i : Int)).toNat = i by omega]; exact hx) (PyProof.Rows.sub_int ?_)))))))) ))
    refine args_cons (wpAny_Name (wpAny_loadName_local rfl rfl hns rfl (args_nil ⟨two_line, ?_⟩)))
    refine ⟨_, rfl, _, _, rfl, fun b o e => Heap.get?_push_of_some _ (kp b o e), .tuple (Heap.get?_push_size _ rfl) rfl rfl (.cons (.int _ _) (.cons (.int _ _) .nil))⟩
  · obtain ⟨v, rfl, hk⟩ := hq
    exact hk
end
/-! ### objects laid at a free place -/
section
variable {X : Cx} {pins : List (Addr × Obj)} {σ : L2.St} {H : Hp} {s : Shared}
theorem stands {P : Program} {w : World} {h : Heap} {a : Addr} {o : HO} (x : ObjOk P w H h a o) : ∃ u, h.get? a = some u := by
  cases o with
  | lst xs => obtain ⟨_, _, _, _, e⟩ := x; exact ⟨_, e⟩
  | tup xs => obtain ⟨_, _, _, ⟨_, e, _⟩⟩ := x; exact ⟨_, e⟩
  | dK kvs => obtain ⟨_, _, _, _, o, _, _, e, _⟩ := x; exact ⟨_, e⟩
  | dT kvs => obtain ⟨_, _, _, _, o, _, _, e, _⟩ := x; exact ⟨_, e⟩
  | set S n => obtain ⟨o, _, _, _, e, _⟩ := x; exact ⟨_, e⟩
  | ins C dx fs => obtain ⟨_, _, _, e, _⟩ := x; exact ⟨_, e⟩
  | own y => exact x
  | xd fs => obtain ⟨_, ⟨_, _, _, e, _⟩, _⟩ := x; exact ⟨_, e⟩
  | rng lo hi => obtain ⟨_, _, _, e⟩ := x; exact ⟨_, e⟩
  | frz ob u => exact ⟨_, x.1⟩
  | tbl ps => exact ⟨_, x⟩
  | met f y => exact ⟨_, x⟩
  | ext φ => exact x.2.1
theorem free_of (I : Inv X pins σ H s) {a : Addr} (h : s.heap.get? a = none) : H a = none := by
  cases q : H a with
  | none => rfl
  | some o =>
    obtain ⟨u, e⟩ := stands (I.hok a o q)
    rw [h] at e
    cases e
theorem laid_free {a : Addr} {o : HO} {h' : Heap} {t' : Nat} (I : Inv X pins σ H s) (k : ∀ b u, s.heap.get? b = some u → h'.get? b = some u) (ha : s.heap.get? a = none) (new : ObjOk X.prog X.w (upd H a o) h' a o) :
    Inv X pins σ (upd H a o) { s with heap := h', toks := t' } := by
  have nA := free_of I ha
  have ne : ∀ b u, s.heap.get? b = some u → b ≠ a := fun b u e z => by
    rw [z, ha] at e
    cases e
  have st : ∀ b u, H b = some u → upd H a o b = some u := fun b u e => by
    rw [upd_ne (ne_of_none e nA)]
    exact e
  refine I.step (g' := s.gens) (d' := s.drawn) (ch := []) (fun b hb => absurd hb (by simp)) (fun b u _ _ _ e _ => k b u e) (fun b u _ _ _ e _ => ⟨u.slots, k b u e⟩) (fun b u _ e n => by rw [upd_ne (ne b u e)]; exact n)
    (fun b u _ e => ⟨u, k b u e⟩) (fun b xs e => st _ _ e) (fun b u v e => st _ _ e) (fun b ps e => ⟨#[], by rw [st _ _ e]; simp⟩) (fun m hn => let ⟨ob, es, ep, ho, r⟩ := hn; ⟨ob, es, ep, k _ ob ho, r⟩) (fun b u e => ?_) I.bare
  by_cases hb : b = a
  · rw [hb, upd_same] at e
    cases e
    rw [hb]
    exact new
  · rw [upd_ne hb] at e
    exact (I.hok b u e).stay (fun d v _ q => k d v q) (fun d q => st _ _ q) fun d xs q => st _ _ q
end
/-! ### what is kept where a table may grow -/
theorem extSame {H H' : Hp} (e : Same H H') : LamX.ExtN H H' := LamX.ExtN.of e
theorem extLst {H H' : Hp} (e : LamX.ExtN H H') {a : Addr} {xs : List V} (h : H a = some (.lst xs)) : H' a = some (.lst xs) := e _ _ h fun _ z => by cases z
theorem extTup {H H' : Hp} (e : LamX.ExtN H H') {a : Addr} {xs : List V} (h : H a = some (.tup xs)) : H' a = some (.tup xs) := e _ _ h fun _ z => by cases z
theorem extSeq {K : PySem.W.Frag} {H H' : Hp} {a : Addr} {xs : List V} (e : LamX.ExtN H H') (h : SqL K H a xs) : SqL K H' a xs := by
  rcases h with (h | ⟨o, h⟩) | h
  · exact .inl (.inl (extLst e h))
  · exact .inl (.inr ⟨o, e _ _ h fun _ z => by cases z⟩)
  · exact .inr h
theorem extSeqT {K : PySem.W.Frag} {H H' : Hp} {a : Addr} {xs : List V} (e : LamX.ExtN H H') (h : SqT K H a xs) : SqT K H' a xs := by
  rcases h with (h | ⟨o, h⟩) | h
  · exact .inl (.inl (extTup e h))
  · exact .inl (.inr ⟨o, e _ _ h fun _ z => by cases z⟩)
  · exact .inr h
theorem extSet {H H1 : Hp} {p : Addr} {o : HO} (s : LamX.ExtN H H1) (h : H p = none) : LamX.ExtN H (upd H1 p o) := fun b x e n => by
  rw [upd_ne (ne_of_none e h)]
  exact s b x e n
/-! ### sorted(range(n), key=lambda place: (0 - numbers[place], place)) -/
theorem vals_each {l : List Nat} {out : List Value} (h : PySem.W.EachIs NumOf out l) : Vals (nv l) out := by
  induction h with
  | nil => exact .nil
  | cons a _ ih => exact .cons a ih
theorem nums_at {l : List Nat} {its : List Value} (h : Vals (nv l) its) {i : Nat} (hi : i < l.length) : ∃ t, its[i]? = some (.int ((Sh66.num l i : Nat) : Int) t) := by
  obtain ⟨u, e, r⟩ := Vals.get h (nv_at hi)
  obtain ⟨t, rfl⟩ := r
  exact ⟨t, e⟩
def tSortedBy (K : PySem.W.Frag) (T : List (Addr × Str)) (te : TE) : TE := fun σ H Q => te σ H fun v H1 => ∃ (p a : Addr) (x : List Nat), v = .ref p ∧ H1 p = some (.rng 0 ((x.length : Nat) : Int)) ∧ σ[0]? = some (some (.ref a)) ∧ SqL K H1 a (nv x) ∧ x.length ≤ 5000 ∧ LamX.Tabs T H1 ∧
  ∀ H2 b, LamX.ExtN H1 H2 → LamX.Tabs T H2 → H2 b = none → Q (.ref b) (upd H2 b (.lst (nv (order x))))
theorem pe_sortedBy {X : Cx} {c P : Addr} {eg : Expr} {ees : List Expr} {ep : Pos} {te : TE} {k k0 k6 : Nat} {pa p0 p1 p2 p3 p4 p5 p6 lpos kpos np pos : Pos} (he : PE X (.Call eg ees [] ep) te) (hg : Gl X "sorted") (hm : X.mg "sorted" = none) (TB : LamX.TabB X.base X.mg c P) (hcode : X.env.code = .ref c) (hr : Room k X.A)
    (hN : X.N[0]? = some ("numbers" : Str)) (hc : X.env.scope.names.lookup ("numbers" : Str) = some .cell) :
    PE X (.Call (.Name "sorted" np) [.Call eg ees [] ep] [⟨some "key", .Lambda (lamP pa) (lamB k0 k6 p0 p1 p2 p3 p4 p5 p6) lamS lpos, kpos⟩] pos) (tSortedBy X.K [(P, X.env.qual ++ "<lambda>")] te) := by
  refine ⟨fun pins s σ H Q I h => ?_⟩
  refine wpAny_Call_Name_kw (ld_blt I hg hm (show bootBuiltins "sorted" = some (.builtin "sorted") by decide +kernel) ?_)
  refine callWith_kw (args_cons (thn (he.run pins s σ H _ I h) fun u s1 ⟨v, H1, I1, r1, q1⟩ => args_nil ?_))
  obtain ⟨p, a, x, rfl, hp, ha, hsq, hlen, hT, kq⟩ := q1
  obtain rfl : u = Value.ref p := r1
  have hkind : X.env.kindOf "numbers" = some .cell := hc
  have hfree : ∀ y ∈ lamS.names, y.2 = .free → ∃ c, X.env.cells.lookup y.1 = some c := fun y hy e => by
    rcases List.mem_cons.mp hy with rfl | hy
    · cases e
    · obtain rfl := List.mem_singleton.mp hy
      exact I.ok.has _ (.inl hkind)
  refine wpAny_evalAll_cons (wpAny_bind (LamX.lam_make2 I1 TB hcode (List.mem_singleton.mpr rfl) (fun q hq _ => by obtain rfl := List.mem_singleton.mp hq; rfl) hT rfl hfree fun f c' pm ctv H2 s2 I2 eN T2 hf hfn hfr hco => wpAny_bind (wpAny_standAt (wpAny_pure (wpAny_pure ?_)))))
  show wpAny _ _ (call (.builtin "sorted") [.ref p] [(Str.ofString "key", .ref f)]) _ _ _
  obtain ⟨m, hns, hl⟩ := I2.loc
  obtain ⟨ua, ra, la⟩ := hl 0 "numbers" (.ref a) hN ha (.inr (.inl hc))
  obtain rfl : ua = Value.ref a := ra
  obtain ⟨cl, hcl, hcell⟩ : ∃ cl, X.env.cells.lookup ("numbers" : Str) = some cl ∧ s2.heap.IsCell cl (some (.ref a)) := by
    rcases la with ⟨z, _⟩ | ⟨_, cl, e1, e2⟩
    · rw [hkind] at z
      cases z
    · exact ⟨cl, e1, e2⟩
  obtain ⟨its, o, n, rv, ho, hcls, hdat⟩ := sqL_at I2.hok I2.kIn (extSeq eN hsq)
  obtain ⟨t, u, v, hrg⟩ : ∃ t u v, s2.heap.get? p = some { cls := .type "range", data := .fields #[.int 0 t, .int ((x.length : Nat) : Int) u, .int 1 v] } := I2.hok p _ (eN _ _ hp fun _ z => by cases z)
  obtain ⟨⟨oc, vs, tq, hoc, hdc, hvc⟩, _, _⟩ := I2.hok c' _ hco
  have hlk : (cloFrom X.env.cells lamS.names []).lookup ("numbers" : Str) = some cl := by
    show (cloFrom X.env.cells [(("place" : Str), NameKind.local), (("numbers" : Str), NameKind.free)] []).lookup ("numbers" : Str) = some cl
    have : cloFrom X.env.cells [(("place" : Str), NameKind.local), (("numbers" : Str), NameKind.free)] [] = [(("numbers" : Str), (X.env.cells.lookup ("numbers" : Str)).getD 0)] := rfl
    rw [this, hcl]
    rfl
  refine sortedRangeKey (n := x.length) (fun i => 0 - ((Sh66.num x i : Nat) : Int)) (fun i => (i : Int)) hr.hd hrg hlen (by have := hr.un; omega) (fun i tk0 hi h tk kp => ?_) fun h' tk b out cnt kp nb eb ho2 => ?_
  · obtain ⟨tx, ex⟩ := nums_at rv hi
    refine lamTurn (s := { s2 with heap := h, toks := tk }) (its := its.toArray) (hr.depth) (kp _ _ hf) hlk (let ⟨o, e, d⟩ := hcell; ⟨o, kp _ _ e, d⟩) ⟨o, kp _ _ ho, hcls, n, hdat⟩ (by simpa using ex) (by omega) ⟨c', oc, vs, tq, rfl, kp _ _ hoc, hdc, hvc⟩ (I2.nolimit.keeps kp)
  · refine ⟨.ref b, _, laid_free (o := .lst (nv (order x))) I2 kp nb ⟨?_, out, cnt, vals_each ho2, eb⟩, rfl, kq H2 b eN T2 (free_of I2 nb)⟩
    rw [nv_length, order_len]
    exact line_of (by omega)
/-! ### range(n) as a value; a def that makes code objects -/
theorem cr_upto {X : Cx} : CallR X (.type "range") (fun vs H Q => ∃ i, vs = [V.int i] ∧ ∀ p, H p = none → Q (.ref p) (upd H p (.rng 0 i))) := by
  intro pins s σ H vs us Q I r h
  obtain ⟨i, rfl, q⟩ := h
  cases r with
  | cons a b =>
    cases b
    obtain ⟨t, rfl⟩ := a
    exact call_range_1 ⟨.ref s.heap.objs.size, upd H s.heap.objs.size (.rng 0 i), laid_free (o := .rng 0 i) (t' := s.toks + 1 + 1) I (fun _ _ e => Heap.get?_push_of_some _ e) (by
      cases z : s.heap.get? s.heap.objs.size with
      | none => rfl
      | some o => exact absurd (Heap.lt_size z) (Nat.lt_irrefl _)) ⟨s.toks, t, s.toks + 1, Heap.get?_push_size _ rfl⟩, rfl, q _ (I.hok.fresh (Nat.le_refl _))⟩
structure FunC (K : PySem.W.Frag) (x : Str) (st : Stmt) (f c : Addr) (fd : FuncData) : Prop where
  ex : ∃ (oc : Value) (od : Option Addr) (kV doc pm : Value) (an : Option Addr) (ct : Value) (osl : Array (Option Value)),
    fd = PySem.W.fnOf x x (defArgs st) (defBody st) (defScope st) .none kV doc pm an (.ref c) ct ∧ K.lookup f = some ⟨oc, od, .func fd, osl⟩ ∧ PySem.W.codeIn K (.ref c) x = true
theorem FunC.ok {P : Program} {w : World} {K : PySem.W.Frag} {mg : Str → Option Value} {base : Heap} {x : Str} {st : Stmt} {f c : Addr} {fd : FuncData} {N ps : List Str} {k : Nat} {sp : Sp} (F : FunC K x st f c fd) (S : FnScope N ps (defScope st)) (len : ∀ vs H Q E, sp vs H Q E → vs.length = ps.length)
    (hb : ∀ (A : Around) (outer : List Env) (s : Shared) (H : Hp) (vs : List V) (Q : VK) (E : XK), Room k (A.deeper (envOfC x (defScope st) s.heap.objs.size f (.ref c))) → sp vs H Q E →
      ∃ t, PSs (cxOf CX0 P w K mg base N x (defScope st) f (.ref c) A outer s H E).nox (defBody st) t ∧ t { nx := fun _ H' => Q .non H', rt := Q } (L2.start N vs) H) : FnOk P w K mg base CX0 (k + 1) f fd ps sp := by
  obtain ⟨oc, od, kV, doc, pm, an, ct, osl, rfl, lk, hcd⟩ := F.ex
  refine fn_of lk hcd S len fun A outer s H vs Q E hr hsp => ?_
  obtain ⟨t, a, b⟩ := hb A outer s H vs Q E hr hsp
  exact ⟨t, a.nox, b⟩
end Sky
namespace Sky
open PySem PySem.Spec PyProof.Rows L2
open PySem.W (WData Codec OpenSpec)
/-! ### the end of a Spec row where one def makes code objects: its table may grow -/
mutual
theorem dwMore {K : PySem.W.Frag} {H H' : Hp} (e : Same H H') : ∀ (d : WData) (v : V), Dw K H v d → Dw K H' v d
  | .none, _, x => by cases x; exact .non
  | .bool b, _, x => by cases x; exact .bl _
  | .int i, _, x => by cases x; exact .int _
  | .str z, _, x => by cases x; exact .str _
  | .bytes b, _, x => by cases x; exact .byt _
  | .list ds, _, x => by
    cases x with
    | lst p q => exact .lst (e.seq p) (dwsMore e ds _ q)
  | .tuple ds, _, x => by
    cases x with
    | tup p q => exact .tup (seqT e p) (dwsMore e ds _ q)
  | .float _, _, x => by cases x
  | .dict _, _, x => by cases x
  | .bytearray _, _, x => by cases x
  | .set _, _, x => by cases x
  | .frozenset _, _, x => by cases x
  | .obj _ _, _, x => by cases x
theorem dwsMore {K : PySem.W.Frag} {H H' : Hp} (e : Same H H') : ∀ (ds : List WData) (vs : List V), DwAll K H vs ds → DwAll K H' vs ds
  | [], _, x => by cases x; exact .nil
  | d :: ds, _, x => by
    cases x with
    | cons p q => exact .cons (dwMore e d _ p) (dwsMore e ds _ q)
end
theorem heapKept {P : Program} {w : World} {H : Hp} {h : Heap} {b p : Addr} {o u : HO} (n : H p = none) (x : ObjOk P w H h b o) : ObjOk P w (upd H p u) h b o :=
  x.stay (fun _ _ _ q => q) (fun d q => by rw [upd_ne (ne_of_none q n)]; exact q) fun d xs q => by rw [upd_ne (ne_of_none q n)]; exact q
/-- the call with one table -/
theorem table_call {P : Program} {w : World} {K : PySem.W.Frag} {mg mb : Str → Option Value} {k : Nat} {fa c T : Addr} {fd : FuncData} {ps : List Str} {sp : Sp} {s1 : Shared} {vals : List Value} {ds : List WData} {R : PySem.W.WRecords} {cl : Str → Option Addr} {d0 : WData}
    (KX : K.In s1.heap) (ng : s1.heap.Ns mainGlobals mg) (nb : s1.heap.Ns builtinsNs mb) (hbb : ∀ x : Str, x ≠ "__name__" → mb x = bootBuiltins x) (lim : s1.heap.NoLimit) (gens : s1.gens = #[])
    (hT : s1.heap.get? T = some (PySem.W.tabObj #[])) (nT : K.lookup T = none) (C : PySem.W.CodeHd s1.heap c T)
    (hbm : ∃ (bm : Addr) (ob : Obj), mg "__builtins__" = some (.ref bm) ∧ bm ≠ builtinsNs ∧ s1.heap.get? bm = some ob ∧ ob.cls = .type "module" ∧ ob.dict = some builtinsNs ∧ ob.data = .plain)
    (hwl : PySem.W.WellAll w.params s1.heap vals ds) (hpl : plWs ds = true) (hwt : ∀ d ∈ ds, d.weight ≤ 1048576) (hr : Room k callerA)
    (F : ∀ base : Heap, K.In base → base.Ns mainGlobals mg → LamX.TabB base mg c T → FnOk P w K mg base CX0 k fa fd ps sp) (hbind : ∀ (s : Shared) (us : List Value), us.length = ps.length → BindsTo s fd ⟨us, []⟩ (ps.zip us)) (hlen : ds.length = ps.length)
    (hsp : ∀ (H : Hp) (xs : List V), H T = some (.tbl #[]) → DwAll K H xs ds → sp xs H (fun v H' => Dw K H' v d0) fun _ _ _ => False) :
    codeAny (model P w) callerA (.call (.ref fa) ⟨vals, []⟩) (fun r s' => ∃ u as, r = .ok (.ret u) ∧ PySem.W.ReadsW R cl s'.heap u d0 as ∧ OldK s1.heap s'.heap ∧ s'.os = s1.os ∧ AllBare s'.gens) s1 := by
  obtain ⟨A, ho, ar⟩ := area_all ds vals hwl hpl hwt
  have TA : T ∉ A := fun z => by
    obtain ⟨vs, _, _, q | q⟩ := ar T z <;> rw [hT] at q <;> cases congrArg Obj.data (Option.some.inj q)
  have aT : argH K s1.heap A T = none := by
    cases q : argH K s1.heap A T with
    | none => rfl
    | some u => exact absurd (of_argH q).1 TA
  have ok0 : HOk P w (argH K s1.heap A) s1.heap := argH_ok ar
  have dS := dw_all KX ar ds vals hwl hpl ho
  have dV := vals_toV ho
  have isA : ∀ b u, argH K s1.heap A b = some u → K.lookup b = none ∧ ∃ o v, s1.heap.get? b = some o ∧ u = .frz o v ∧ ∃ (z : List Value), o.data = .seq z.toArray := fun b u q => by
    obtain ⟨nk, vs, _, _, ⟨e, z⟩ | ⟨e, z⟩⟩ := argH_is ar q
    · exact ⟨nk, _, _, e, z, vs, rfl⟩
    · exact ⟨nk, _, _, e, z, vs, rfl⟩
  generalize argH K s1.heap A = H0 at aT ok0 dS isA
  have sm : Same H0 (upd H0 T (.tbl #[])) := same_upd aT
  have hHT : upd H0 T (.tbl #[]) T = some (.tbl #[]) := upd_same
  have ok1 : HOk P w (upd H0 T (.tbl #[])) s1.heap := fun b u q => by
    by_cases hb : b = T
    · rw [hb, upd_same] at q
      cases q
      rw [hb]
      exact hT
    · rw [upd_ne hb] at q
      exact heapKept aT (ok0 b u q)
  have isH : ∀ b u, upd H0 T (.tbl #[]) b = some u → b ≠ T → K.lookup b = none ∧ ∃ o v, s1.heap.get? b = some o ∧ u = .frz o v ∧ ∃ (z : List Value), o.data = .seq z.toArray := fun b u q n => isA b u (by rw [upd_ne n] at q; exact q)
  have dS1 := dwsMore sm ds _ dS
  generalize upd H0 T (.tbl #[]) = H at hHT ok1 isH dS1
  -- an object that is neither a list, a tuple nor the table is not tracked
  have loose : ∀ {b : Addr} {o : Obj}, s1.heap.get? b = some o → b ≠ T → (∀ z : List Value, o.data ≠ .seq z.toArray) → H b = none := fun {b o} e n d => by
    cases q : H b with
    | none => rfl
    | some u =>
      obtain ⟨_, o2, _, e2, _, z, hz⟩ := isH b u q n
      rw [e] at e2
      cases e2
      exact absurd hz (d z)
  have inBase : ∀ {b : Addr} {o : Obj}, s1.heap.get? b = some o → H b = none → (hidT s1.heap H).get? b = some o := fun e n => hidT_get e n
  have nsT : ∀ {b : Addr} {m : Str → Option Value}, s1.heap.Ns b m → b ≠ T := fun {b m} ⟨o, es, ep, e, d, _⟩ z => by
    rw [z, hT] at e
    cases e
    cases d
  have nsIn : ∀ {b : Addr} {m : Str → Option Value}, s1.heap.Ns b m → (hidT s1.heap H).Ns b m := fun {b m} N => by
    have nz := nsT N
    obtain ⟨o, es, ep, e, d, r⟩ := N
    exact ⟨o, es, ep, inBase e (loose e nz fun z q => by rw [d] at q; cases q), d, r⟩
  have kIn : K.In (hidT s1.heap H) := fun b o e => inBase (KX b o e) (by
    cases q : H b with
    | none => rfl
    | some u =>
      by_cases n : b = T
      · rw [n, nT] at e
        cases e
      · rw [(isH b u q n).1] at e
        cases e)
  have cT : c ≠ T := fun z => by
    obtain ⟨o, us, file, tf, flags, tg, inF, text, tt, e1, r1, r2, r3, _⟩ := C
    rw [z, hT] at e1
    cases e1
    cases r2
    simp at r3
  have tb : LamX.TabB (hidT s1.heap H) mg c T := by
    refine ⟨?_, ?_, fun z => nsT ng z⟩
    · obtain ⟨o, us, file, tf, flags, tg, inF, text, tt, e1, r1, r2, r⟩ := C
      exact ⟨o, us, file, tf, flags, tg, inF, text, tt, inBase e1 (loose e1 cT fun z q => by rw [r2] at q; cases q), r1, r2, r⟩
    · obtain ⟨bm, ob, b1, b2, b3, b4, b5, b6⟩ := hbm
      have nG : bm ≠ mainGlobals := fun q => by
        obtain ⟨o, es, ep, e, d, _⟩ := ng
        rw [← q, b3] at e
        cases e
        rw [b6] at d
        cases d
      have nP : bm ≠ T := fun q => by
        rw [q, hT] at b3
        cases b3
        cases b6
      exact ⟨bm, ob, b1, b2, nG, nP, inBase b3 (loose b3 nP fun z q => by rw [b6] at q; cases q), b4, b5, b6⟩
  have md : Mod K mg (hidT s1.heap H) := ⟨kIn, nsIn ng, ⟨mb, nsIn nb, hbb⟩, let ⟨mc, h1, h2⟩ := lim; ⟨mc, nsIn h1, h2⟩⟩
  have e0 : Env0 P w K mg (hidT s1.heap H) callerA [] s1 H := ⟨rfl, md, fun b o e => of_hidT e, Nat.le_of_eq (hidT_size _ _), trivial, fun b z => (List.not_mem_nil z).elim, ok1, .of_eq gens⟩
  have lv : vals.length = ps.length := (wellAll_len hwl).trans hlen
  refine codeAny_mono ((F _ kIn (nsIn ng) tb).run callerA [] s1 H ⟨vals, []⟩ vals (vals.map toV) _ _ hr e0 (hbind s1 vals lv) dV (hsp H _ hHT dS1)) fun r s' x => ?_
  rcases r with e | fl
  · exact False.elim x
  · rcases fl with u | _ | _ | _
    all_goals first | exact False.elim x | skip
    obtain ⟨v, H', os, bare, un, ok2, r2, q⟩ := x
    have stay : ∀ b o, b ≠ T → s1.heap.get? b = some o → s'.heap.get? b = some o := fun b o nb e => by
      cases y : H b with
      | none => exact un.keep b o e y (fun z => (List.not_mem_nil z).elim) (fun z => (List.not_mem_nil z).elim)
      | some u2 =>
        obtain ⟨_, o2, v2, e2, rfl, _⟩ := isH b u2 y nb
        rw [e] at e2
        cases e2
        exact (ok2 b _ (un.frzs b o v2 y)).1
    obtain ⟨more, hm⟩ := un.tbls T #[] hHT
    have hm2 : s'.heap.get? T = some { cls := .none, data := .fields (#[] ++ more) } := ok2 T _ hm
    have KX' : K.In s'.heap := fun b o e => stay b o (fun z => by rw [z, nT] at e; cases e) (KX b o e)
    obtain ⟨as, rd⟩ := Dw.reads (R := R) (cl := cl) ok2 KX' d0 v _ q r2
    refine ⟨_, as, rfl, rd, ⟨fun b o e => ?_, fun b o e => ?_⟩, os, bare⟩
    · by_cases hb : b = T
      · rw [hb] at e ⊢
        rw [hT] at e
        cases e
        exact .inr (.inl ⟨(C.tab hT).isCodeTable, rfl, #[], more, rfl, hm2⟩)
      · exact .inl (stay b o hb e)
    · by_cases hb : b = T
      · rw [hb]
        exact ⟨_, hm2⟩
      · exact ⟨o, stay b o hb e⟩
/-- the row's end: from the promise of the row's def, told with the table's place -/
theorem table_walk {r : OpenSpec} {k : Nat} {q : Program} {loose : List Str} {XP : (Str → Option Value) → Heap → Prop} {YP : World → Heap → Prop} {d : DefRec} {K : Params → PySem.W.Frag} {ps : List Str} {sp : PySem.W.Frag → Addr → Sp}
    (hwell : r.wellSaid = true) (hdf : d.params.defaults = []) (hlen : r.args.length = ps.length) (hr : Room k callerA) (hY : ∀ (w : World) (h : Heap), YP w h → (K w.params).In h)
    (F : ∀ (w : World) (mg : Str → Option Value) (fa : Addr) (h : Heap), YP w h → (K w.params).In h → h.Ns mainGlobals mg → mg d.name = some (.ref fa) → (∀ (x : Str) (c T : Addr) (e : DefRec), (recsOf q).find? (fun e => e.name == x) = some e → PySem.W.tabIn (K w.params) x = some (c, T) → PySem.W.CodeHd h c T ∧ h.get? T = some (PySem.W.tabObj #[])) →
      ∃ (fd : FuncData) (c T : Addr), PySem.W.CodeHd h c T ∧ h.get? T = some (PySem.W.tabObj #[]) ∧ (K w.params).lookup T = none ∧ (∀ (s : Shared) (us : List Value), us.length = ps.length → BindsTo s fd ⟨us, []⟩ (ps.zip us)) ∧
        ∀ base : Heap, (K w.params).In base → base.Ns mainGlobals mg → LamX.TabB base mg c T → FnOk r.prog w (K w.params) mg base CX0 k fa fd ps (sp (K w.params) T))
    (hsp : ∀ (K : PySem.W.Frag) (T : Addr) (H : Hp) (xs : List V) (a : Codec.denoteAll r.args), H T = some (.tbl #[]) → Codec.withinAll r.args a = true → Codec.app r.args r.asked a = true → DwAll K H xs (Codec.encAll r.args a) →
      sp K T xs H (fun v H' => Dw K H' v (r.ret.enc (Codec.app r.args r.f a))) fun _ _ _ => False) :
    PySem.W.WalkOS q loose XP YP r d [] (fun f vs => PySem.call f vs) := by
  intro w s0 s1 mg mb G Y fa o pm cd doc dV kV _ _ _ _ hmg gens args vals as hpre hlay _ hwl _
  obtain ⟨a, e1, e2⟩ := PySem.W.os_pre_some hpre
  obtain ⟨rfl, hwi⟩ := Codec.encAll_of_decAll r.args args a e1
  have KX := hY w _ Y
  obtain ⟨fd, c, T, C, hT, nT, hb, hF⟩ := F w mg fa _ Y KX G.T.g hmg fun x c T e h1 h2 => PySem.W.tab_of G.T KX h1 h2
  have call := table_call (R := []) (cl := classAt s0.heap) (d0 := r.ret.enc (Codec.app r.args r.f a)) KX G.T.g G.T.b G.T.builtins G.T.nolimit gens hT nT C G.T.bmain hwl (pl_encAll _ _) (layable_weight hlay) hr hF hb ((encAll_len _ _).trans hlen) fun H xs t z => hsp (K w.params) T H xs a t hwi e2 z
  refine PySem.W.enter_call (codeAny_mono call fun r' s' x => ?_)
  obtain ⟨u, as', rfl, h1, h2, h3, h4⟩ := x
  exact ⟨.inl ⟨u, _, as', rfl, fun _ => rfl, h1, (OpenSpec.post_iff hwell hwi _ _).mpr rfl, fun z => Bool.noConfusion z⟩, h2, h3, h4⟩
end Sky
namespace Sky
open PySem PySem.Spec PyProof.Rows L2
def topS (i : Nat) : Stmt := PySem.Challenge.pw_skyabove_s06_sk_stars.main.body.getD i (.Pass ⟨0, 0, 0, 0⟩)
abbrev s_beside : Stmt := topS 1
abbrev s_upward : Stmt := topS 4
abbrev s_from_above : Stmt := topS 5
abbrev s_peaks_of_all : Stmt := topS 6
abbrev s_peaks : Stmt := topS 7
abbrev s_star : Stmt := topS 8
abbrev s_is_side : Stmt := topS 13
abbrev s_is_frame : Stmt := topS 14
abbrev s_sk_stars : Stmt := topS 15
section
variable {P : Program} {w : World} {K : PySem.W.Frag} {mg : Str → Option Value} {base : Heap}
/-! ### beside(w, h, place): slots w, h, place, x, y, found, row, column -/
def spBeside : Sp := fun vs H Q _ => ∃ w h p : Nat, vs = [.int w, .int h, .int p] ∧ 1 ≤ w ∧ w ≤ 64 ∧ 1 ≤ h ∧ h ≤ 64 ∧ p < w * h ∧ ∀ H' q, Same H H' → H q = none → H' q = some (.lst (nv (around w h p))) → Q (.ref q) H'
theorem lo_eq (y : Nat) : (if (y : Int) - 1 > 0 then (y : Int) - 1 else 0) = ((y - 1 : Nat) : Int) := by split <;> omega
theorem hi_eq (h y : Nat) : (if (y : Int) + 2 < (h : Int) then (y : Int) + 2 else (h : Int)) = ((min h (y + 2) : Nat) : Int) := by split <;> omega
theorem near_map (c w : Nat) (f : Nat → Nat) : (List.range (((min w (c + 2) : Nat) : Int) - ((c - 1 : Nat) : Int)).toNat).map (fun i => V.int ((f (c - 1 + i) : Nat) : Int)) = nv ((near c w).map f) := by
  unfold near
  rw [show (((min w (c + 2) : Nat) : Int) - ((c - 1 : Nat) : Int)).toNat = min w (c + 2) - (c - 1) by omega, List.range'_eq_map_range, List.map_map, nv_map]
  rfl
theorem rows_len (c w : Nat) : ∀ l : List Nat, (l.flatMap fun r => (near c w).map fun c' => r * w + c').length ≤ l.length * 3
  | [] => Nat.le_refl _
  | a :: l => by
    rw [List.flatMap_cons, List.length_append, List.length_map, List.length_cons]
    have := rows_len c w l
    have := near_len c w
    omega
theorem sc_beside : FnScope ["w", "h", "place", "x", "y", "found", "row", "column"] ["w", "h", "place"] (defScope s_beside) := ⟨rfl, rfl, rfl, by decide +kernel, rfl, by decide +kernel, by decide +kernel⟩
theorem ok_beside {f : Addr} {fd : FuncData} (F : Fun K "beside" "beside" s_beside f fd) (b_range : mg "range" = none) (b_max : mg "max" = none) (b_min : mg "min" = none) : FnOk P w K mg base CX0 1 f fd ["w", "h", "place"] spBeside := by
  refine F.ok sc_beside (fun vs H Q E h => ?_) (fun cdv A outer s H vs Q E hr h => ?_)
  · obtain ⟨_, _, _, rfl, _⟩ := h
    rfl
  · obtain ⟨w, h, p, rfl, hw, hw2, hh, hh2, hp, k⟩ := h
    refine ⟨_, pss_cons (ps_par (i := 3) (j := 4) rfl sc_beside.nd rfl rfl (by decide) rfl rfl (pa_cons (pe_op op_mod (pv 2) (pv 0)) (pa_cons (pe_op op_fdiv (pv 2) (pv 0)) pa_nil)) (by rfl))
      (pss_cons (ps_set (i := 5) sc_beside.nd rfl (.inl rfl) (pe_lst pa_nil))
      (pss_cons (ps_for PassesOwn.never rfl (pi_range2 rfl b_range (pa_cons (pe_bi (call_max2 rfl) rfl b_max (pa_cons pe_int (pa_cons (pe_op op_sub (pv 4) pe_int) pa_nil))) (pa_cons (pe_bi (call_min2 rfl) rfl b_min (pa_cons (pv 1) (pa_cons (pe_op op_add (pv 4) pe_int) pa_nil))) pa_nil))) (pg_name (i := 6) sc_beside.nd rfl (.inr rfl))
        (pss_one (ps_expr (pe_bm PySem.F.plainAttrs_list PySem.F.slot_list_extend PySem.F.type_list_extend mt_extend (pv 5) (pa_cons
          (pe_lc (own := [("column", 7)]) (g := gName 7) rfl sc_beside.nd (pi_range2 rfl b_range (pa_cons (pe_bi (call_max2 rfl) rfl b_max (pa_cons pe_int (pa_cons (pe_op op_sub (pv 3) pe_int) pa_nil))) (pa_cons (pe_bi (call_min2 rfl) rfl b_min (pa_cons (pv 0) (pa_cons (pe_op op_add (pv 3) pe_int) pa_nil))) pa_nil)))
            (blkOk_by (N := ["w", "h", "place", "x", "y", "found", "row", "column"]) (sc := defScope s_beside) (by decide +kernel)) (fun _ _ _ _ _ => pg_name (i := 7) sc_beside.nd rfl (.inl rfl)) (fun _ _ _ _ _ => pts_nil) (fun _ _ _ _ _ => pe_op op_add (pe_op op_mul (pv 6) (pv 0)) (pv 7))) pa_nil)))))
      (pss_one (ps_ret (pv 5))))), ?_⟩
    -- x, y = place % w, place // w
    refine ⟨_, rfl, _, rfl, _, _, rfl, rfl, by omega, _, rfl, _, rfl, _, _, rfl, rfl, ⟨by omega, by omega⟩, .int ((p % w : Nat) : Int), .int ((p / w : Nat) : Int), rfl, ?_⟩
    have hc : p % w < w := Nat.mod_lt _ hw
    have hrr : p / w < h := Nat.div_lt_of_lt_mul hp
    have hpe : around w h p = (near (p / w) h).flatMap fun r => (near (p % w) w).map fun c => r * w + c := rfl
    generalize hX : p % w = c at *
    generalize hY : p / w = r at *
    -- found = []
    refine ⟨Nat.zero_le _, fun o no => ?_⟩
    -- for row in range(..)
    refine ⟨_, rfl, _, _, rfl, rfl, _, _, rfl, _, rfl, _, rfl, _, _, rfl, rfl, _, _, rfl, ((r - 1 : Nat) : Int), ((min h (r + 2) : Nat) : Int), ?_, ⟨by omega, by omega, by omega, by omega⟩,
      for_it (walk_range (lo := ((r - 1 : Nat) : Int)) (n := (((min h (r + 2) : Nat) : Int) - ((r - 1 : Nat) : Int)).toNat)) (fun i σ H' => ∃ v6 v7, σ = [some (.int w), some (.int h), some (.int p), some (.int c), some (.int r), some (.ref o), v6, v7] ∧ Same H H' ∧ H' o = some (.lst (nv ((List.range' (r - 1) i).flatMap fun r => (near c w).map fun c => r * w + c))))
      ⟨none, none, rfl, same_upd no, upd_same⟩ (fun _ _ _ _ _ => trivial) ?_ ?_⟩
    · rw [← lo_eq, ← hi_eq]
    · rintro i x σ H1 H2 hi ⟨v6, v7, rfl, s1, eo⟩ ⟨rfl, rfl⟩
      -- found.extend([..])
      refine ⟨.ref o, rfl, .inl ⟨rfl, _, .inl (.inl eo)⟩, ?_⟩
      refine ⟨_, rfl, _, _, rfl, rfl, _, _, rfl, _, rfl, _, rfl, _, _, rfl, rfl, _, _, rfl, ((c - 1 : Nat) : Int), ((min w (c + 2) : Nat) : Int), ?_, ⟨by omega, by omega, by omega, by omega⟩, fun D nD =>
        lc_map (walk_range (lo := ((c - 1 : Nat) : Int)) (n := (((min w (c + 2) : Nat) : Int) - ((c - 1 : Nat) : Int)).toNat)) (fun j => .int (((r - 1 + i) * w + (c - 1 + j) : Nat) : Int)) nD (line_of (by omega)) (fun _ _ => trivial) ?_ ?_⟩
      · rw [← lo_eq, ← hi_eq]
      · rintro j x H3 H4 R hj s3 ⟨rfl, rfl⟩ q
        refine ⟨rfl, _, rfl, _, rfl, _, _, rfl, rfl, .inr ⟨by omega, by omega⟩, _, rfl, _, _, rfl, rfl, ?_⟩
        have e : ((((r - 1 : Nat) : Int) + (i : Nat)) * (w : Int) + (((c - 1 : Nat) : Int) + (j : Nat))) = (((r - 1 + i) * w + (c - 1 + j) : Nat) : Int) := by
          rw [Int.natCast_add, Int.natCast_mul, Int.natCast_add, Int.natCast_add]
        have q := q _ (Same.refl _)
        rw [← e] at q
        exact q
      · intro H4 s4 e4
        refine ⟨o, D, _, _, rfl, rfl, s4 _ _ eo, e4, line_of ?_, _, _, rfl, same_set (s1.trans s4) no, ?_⟩
        · rw [nv_length, List.length_map, List.length_range]
          have := rows_len c w (List.range' (r - 1) i)
          rw [List.length_range'] at this
          omega
        · rw [upd_same, List.range'_concat, List.flatMap_append, nv_append, near_map c w fun z => (r - 1 + i) * w + z, List.flatMap_cons, List.flatMap_nil, List.append_nil, Nat.one_mul]
    · rintro σ H1 ⟨v6, v7, rfl, s1, eo⟩
      refine ⟨_, rfl, k _ o s1 no ?_⟩
      rw [eo, hpe]
      unfold near
      rw [show (((min h (r + 2) : Nat) : Int) - ((r - 1 : Nat) : Int)).toNat = min h (r + 2) - (r - 1) by omega]
/-! ### upward(frame, place): slots frame, place, w, h, numbers, found, other -/
/-- what stands for the frame: its sides, its numbers -/
def Fr (K : PySem.W.Frag) (H : Hp) (t : Addr) (w h : Nat) (x : List Nat) : Prop := ∃ a, H t = some (.tup [.int (w : Int), .int (h : Int), .ref a]) ∧ SqL K H a (nv x)
theorem Fr.ext {K : PySem.W.Frag} {H H' : Hp} {t : Addr} {w h : Nat} {x : List Nat} (e : LamX.ExtN H H') (f : Fr K H t w h x) : Fr K H' t w h x := by
  obtain ⟨a, h1, h2⟩ := f
  exact ⟨a, extTup e h1, extSeq e h2⟩
def spUpward (K : PySem.W.Frag) : Sp := fun vs H Q _ => ∃ (t : Addr) (w h p : Nat) (x : List Nat), vs = [.ref t, .int p] ∧ Fr K H t w h x ∧ x.length = w * h ∧ 1 ≤ w ∧ w ≤ 64 ∧ 1 ≤ h ∧ h ≤ 64 ∧ p < w * h ∧ ∀ H', Same H H' → Q (.int ((Sh66.up w h x p : Nat) : Int)) H'
theorem sc_upward : FnScope ["frame", "place", "w", "h", "numbers", "found", "other"] ["frame", "place"] (defScope s_upward) := ⟨rfl, rfl, rfl, by decide +kernel, rfl, by decide +kernel, by decide +kernel⟩
theorem pick_lt {x : List Nat} {n : Nat} : ∀ (l : List Nat) (b : Nat), b < n → (∀ j ∈ l, j < n) → l.foldl (pick x) b < n := fun l b hb hl => by
  rcases pick_mem x l b with e | e
  · rw [e]
    exact hb
  · exact hl _ e
theorem ok_upward {f : Addr} {fd : FuncData} (F : Fun K "upward" "upward" s_upward f fd) (D_beside : Def P w K mg base 1 "beside" ["w", "h", "place"] spBeside) : FnOk P w K mg base CX0 2 f fd ["frame", "place"] (spUpward K) := by
  refine F.ok sc_upward (fun vs H Q E h => ?_) (fun cdv A outer s H vs Q E hr h => ?_)
  · obtain ⟨_, _, _, _, _, rfl, _⟩ := h
    rfl
  · obtain ⟨t, w, h, p, x, rfl, ⟨a, ht, hs⟩, hl, hw, hw2, hh, hh2, hp, k⟩ := h
    refine ⟨_, pss_cons (ps_asg (pv 0) (pg_tup rfl (pgs_cons (pg_name (i := 2) sc_upward.nd rfl (.inl rfl)) (pgs_cons (pg_name (i := 3) sc_upward.nd rfl (.inl rfl)) (pgs_cons (pg_name (i := 4) sc_upward.nd rfl (.inl rfl)) pgs_nil)))))
      (pss_cons (ps_set (i := 5) sc_upward.nd rfl (.inl rfl) (pv 1))
      (pss_cons (ps_for PassesOwn.never rfl (pi_list (pe_def D_beside hr rfl (pa_cons (pv 2) (pa_cons (pv 3) (pa_cons (pv 1) pa_nil))))) (pg_name (i := 6) sc_upward.nd rfl (.inl rfl))
        (pss_one (ps_if (PW.pt (pw_or (pt_cmpR op_gt (pe_ix ix_list (pv 4) (pv 6) (fun _ _ => rfl)) (pe_ix ix_list (pv 4) (pv 5) (fun _ _ => rfl)) (nomark _))
            (pw_or1 (PW.pt (pw_and (pt_cmpR op_eq (pe_ix ix_list (pv 4) (pv 6) (fun _ _ => rfl)) (pe_ix ix_list (pv 4) (pv 5) (fun _ _ => rfl)) (nomark _)) (pw_and1 (pt_cmpR op_lt (pv 6) (pv 5) (nomark _))))))))
          (pss_one (ps_set (i := 5) sc_upward.nd rfl (.inl rfl) (pv 6))) pss_nil)))
      (pss_one (ps_ret (pv 5))))), ?_⟩
    refine ⟨_, rfl, t, _, rfl, SqT.of ht, rfl, _, _, rfl, _, _, rfl, _, _, rfl, rfl, ?_⟩
    refine ⟨_, rfl, ?_⟩
    refine ⟨_, rfl, _, rfl, _, rfl, w, h, p, rfl, hw, hw2, hh, hh2, hp, fun H1 b s1 nb eb => ?_⟩
    refine ⟨b, rfl, ⟨_, SqL.of eb⟩, for_it (walk_list (xs := nv (around w h p))) (fun i σ H' => ∃ v6, σ = [some (.ref t), some (.int p), some (.int w), some (.int h), some (.ref a), some (.int ((((around w h p).take i).foldl (pick x) p : Nat) : Int)), v6] ∧ H' = H1)
      ⟨none, rfl, rfl⟩ (fun i σ H' _ ⟨_, _, e⟩ => e ▸ SqL.of eb) ?_ ?_⟩
    · rintro i v σ H4 H5 hi ⟨v6, rfl, rfl⟩ ⟨rfl, hv⟩
      obtain ⟨hi, rfl⟩ := nv_get hv
      have hs1 : SqL K H5 a (nv x) := s1.seq hs
      have et : (around w h p).take (i + 1) = (around w h p).take i ++ [Sh66.num (around w h p) i] := by
        rw [List.take_add_one, num_at hi]
        rfl
      have hj : Sh66.num (around w h p) i < x.length := by
        rw [hl]
        exact around_lt (List.mem_of_getElem? (num_at hi))
      have hb : ((around w h p).take i).foldl (pick x) p < x.length := by
        rw [hl]
        exact pick_lt _ _ hp fun j hj => around_lt (List.mem_of_mem_take hj)
      rw [et, List.foldl_append, List.foldl_cons, List.foldl_nil]
      generalize Sh66.num (around w h p) i = j at *
      generalize ((around w h p).take i).foldl (pick x) p = g at *
      have iy : atI (nv x) ((j : Nat) : Int) = some (.int ((Sh66.num x j : Nat) : Int)) := at_n (nv_at hj)
      have ig : atI (nv x) ((g : Nat) : Int) = some (.int ((Sh66.num x g : Nat) : Int)) := at_n (nv_at hb)
      have yes : (Sh66.num x g < Sh66.num x j ∨ (Sh66.num x j = Sh66.num x g ∧ j < g)) → pick x g j = j := fun c => by
        unfold pick
        rw [if_pos (over_iff.mpr c)]
      have no : ¬ (Sh66.num x g < Sh66.num x j ∨ (Sh66.num x j = Sh66.num x g ∧ j < g)) → pick x g j = g := fun c => by
        unfold pick
        rw [over_no.mpr c, if_neg (by decide)]
      refine ⟨_, rfl, _, rfl, a, _, _, _, rfl, rfl, hs1, iy, _, rfl, _, rfl, a, _, _, _, rfl, rfl, hs1, ig, _, _, rfl, rfl, _, rfl, ite2 (fun c => ?_) (fun c => ?_)⟩
      · have c : ((Sh66.num x g : Nat) : Int) < ((Sh66.num x j : Nat) : Int) := of_decide_eq_true c
        rw [yes (by omega)]
        exact iteT ⟨_, rfl, _, rfl, rfl⟩
      · have c : ¬ ((Sh66.num x g : Nat) : Int) < ((Sh66.num x j : Nat) : Int) := fun z => c (decide_eq_true z)
        refine ⟨_, rfl, _, rfl, a, _, _, _, rfl, rfl, hs1, iy, _, rfl, _, rfl, a, _, _, _, rfl, rfl, hs1, ig, rfl, _, rfl, ite2 (fun c2 => ?_) (fun c2 => ?_)⟩
        · have c2 := of_decide_eq_true c2
          have c2 : ((Sh66.num x j : Nat) : Int) = ((Sh66.num x g : Nat) : Int) := V.int.inj c2
          refine ⟨_, rfl, _, rfl, _, _, rfl, rfl, _, rfl, ite2 (fun c3 => ?_) (fun c3 => ?_)⟩
          · have c3 : ((j : Nat) : Int) < ((g : Nat) : Int) := of_decide_eq_true c3
            rw [yes (by omega)]
            exact ⟨_, rfl, _, rfl, rfl⟩
          · have c3 : ¬ ((j : Nat) : Int) < ((g : Nat) : Int) := fun z => c3 (decide_eq_true z)
            rw [no (by omega)]
            exact ⟨_, rfl, rfl⟩
        · have c2 : ¬ ((Sh66.num x j : Nat) : Int) = ((Sh66.num x g : Nat) : Int) := fun z => c2 (decide_eq_true (congrArg V.int z))
          rw [no (by omega)]
          exact iteF ⟨_, rfl, rfl⟩
    · rintro σ H4 ⟨v6, rfl, rfl⟩
      refine ⟨_, rfl, ?_⟩
      have e : (around w h p).take (nv (around w h p)).length = around w h p := by
        rw [nv_length, List.take_length]
      rw [e, up_around x hw hp]
      exact k _ s1
/-! ### from_above(numbers): slot numbers; P_: the table of its code object -/
def lamQ : Str := (("from_above" : Str) ++ ".<locals>.") ++ "<lambda>"
theorem tabs_at {H : Hp} {T : Addr} (h : H T = some (.tbl #[])) : LamX.Tabs [(T, lamQ)] H := fun p hp => by
  obtain rfl := List.mem_singleton.mp hp
  exact LamX.TabS.nil h
def spFromAbove (K : PySem.W.Frag) (T : Addr) : Sp := fun vs H Q _ => ∃ (a : Addr) (x : List Nat), vs = [.ref a] ∧ SqL K H a (nv x) ∧ x.length ≤ 5000 ∧ LamX.Tabs [(T, lamQ)] H ∧ ∀ H' b, LamX.ExtN H H' → LamX.Tabs [(T, lamQ)] H' → H' b = none → Q (.ref b) (upd H' b (.lst (nv (order x))))
theorem sc_from_above : FnScope ["numbers"] ["numbers"] (defScope s_from_above) := ⟨rfl, rfl, rfl, by decide +kernel, rfl, by decide +kernel, by decide +kernel⟩
theorem ok_from_above {f c T : Addr} {fd : FuncData} (F : FunC K "from_above" s_from_above f c fd) (TB : LamX.TabB base mg c T) (b_sorted : mg "sorted" = none) (b_range : mg "range" = none) (b_len : mg "len" = none) : FnOk P w K mg base CX0 2 f fd ["numbers"] (spFromAbove K T) := by
  refine F.ok sc_from_above (fun vs H Q E h => ?_) (fun A outer s H vs Q E hr h => ?_)
  · obtain ⟨_, _, rfl, _⟩ := h
    rfl
  · obtain ⟨a, x, rfl, hx, hl, hT, k⟩ := h
    refine ⟨_, pss_one (ps_ret (pe_sortedBy (pe_callTy cr_upto rfl b_range (by decide +kernel) (pa_cons (pe_bi call_len_seq rfl b_len (pa_cons (pv 0) pa_nil)) pa_nil)) rfl b_sorted TB rfl hr rfl rfl)), ?_⟩
    refine ⟨_, rfl, a, _, rfl, .inl hx, _, rfl, fun p np => ?_⟩
    rw [nv_length]
    have s1 := same_upd (o := .rng 0 ((x.length : Nat) : Int)) np
    exact ⟨p, a, x, rfl, upd_same, rfl, s1.seq hx, hl, hT.ext s1, fun H2 b e2 t2 nb => k H2 b ((extSame s1).trans e2) t2 nb⟩
/-! ### peaks_of_all(frame): slots frame, numbers, found, place, higher -/
def spPeaksOfAll (K : PySem.W.Frag) (T : Addr) : Sp := fun vs H Q _ => ∃ (t : Addr) (w h : Nat) (x : List Nat), vs = [.ref t] ∧ Fr K H t w h x ∧ x.length = w * h ∧ 1 ≤ w ∧ w ≤ 64 ∧ 1 ≤ h ∧ h ≤ 64 ∧ LamX.Tabs [(T, lamQ)] H ∧ ∀ H' o, LamX.ExtN H H' → H o = none → H' o = some (.lst ((List.range (w * h)).map fun j => V.int (own w h x j))) → Q (.ref o) H'
theorem sc_peaks_of_all : FnScope ["frame", "numbers", "found", "place", "higher"] ["frame"] (defScope s_peaks_of_all) := ⟨rfl, rfl, rfl, by decide +kernel, rfl, by decide +kernel, by decide +kernel⟩
theorem ixN_of {n p : Nat} (h : p < n) : ixN n (p : Int) = some p := by
  unfold ixN
  rw [if_pos (Int.natCast_nonneg p), if_pos (by omega), Int.toNat_natCast]
theorem map_at {α : Type} (f : Nat → α) {n p : Nat} (h : p < n) : ((List.range n).map f)[p]? = some (f p) := by
  rw [List.getElem?_map, List.getElem?_range h]
  rfl
theorem map_get {α : Type} {f : Nat → α} {n i : Nat} {v : α} (h : ((List.range n).map f)[i]? = some v) : i < n ∧ v = f i := by
  have hi : i < n := by
    have := (List.getElem?_eq_some_iff.mp h).1
    rw [List.length_map, List.length_range] at this
    exact this
  rw [map_at f hi] at h
  exact ⟨hi, (Option.some.inj h).symm⟩
theorem three_line : 3 ≤ sizeLine := by decide
theorem rep_map {α : Type} (n : Nat) (v : α) (f : Nat → α) (h : ∀ j, f j = v) : (List.replicate n [v]).flatten = (List.range n).map f := by
  rw [List.flatten_replicate_singleton, show f = fun _ => v from funext h, List.map_const', List.length_range]
theorem ok_peaks_of_all {f T : Addr} {fd : FuncData} (F : Fun K "peaks_of_all" "peaks_of_all" s_peaks_of_all f fd) (D_from_above : Def P w K mg base 2 "from_above" ["numbers"] (spFromAbove K T)) (D_upward : Def P w K mg base 2 "upward" ["frame", "place"] (spUpward K))
    (c_NONE : ∃ t, mg "NONE" = some (.int (-1) t)) (b_len : mg "len" = none) : FnOk P w K mg base CX0 3 f fd ["frame"] (spPeaksOfAll K T) := by
  refine F.ok sc_peaks_of_all (fun vs H Q E h => ?_) (fun cdv A outer s H vs Q E hr h => ?_)
  · obtain ⟨_, _, _, _, rfl, _⟩ := h
    rfl
  · obtain ⟨t, w, h, x, rfl, fr, hl, hw, hw2, hh, hh2, hT, k⟩ := h
    have hwh : w * h ≤ 4096 := Nat.mul_le_mul hw2 hh2
    refine ⟨_, pss_cons (ps_set (i := 1) sc_peaks_of_all.nd rfl (.inl rfl) (pe_ix ix_tup (pv 0) pe_int (fun _ _ => rfl)))
      (pss_cons (ps_set (i := 2) sc_peaks_of_all.nd rfl (.inl rfl) (pe_op op_rep (pe_lst (pa_cons (pe_gi rfl c_NONE) pa_nil)) (pe_bi call_len_seq rfl b_len (pa_cons (pv 1) pa_nil))))
      (pss_cons (ps_for PassesOwn.never rfl (pi_list (pe_def D_from_above hr rfl (pa_cons (pv 1) pa_nil))) (pg_name (i := 3) sc_peaks_of_all.nd rfl (.inl rfl))
        (pss_one (ps_if (pt_cmpR op_gt (pe_ix ix_list (pv 1) (pv 3) (fun _ _ => rfl)) pe_int (nomark _))
          (pss_cons (ps_set (i := 4) sc_peaks_of_all.nd rfl (.inl rfl) (pe_def D_upward hr rfl (pa_cons (pv 0) (pa_cons (pv 3) pa_nil))))
            (pss_one (ps_asg (pe_ifExp (pt_cmpR op_eq (pv 4) (pv 3) (nomark _)) (pv 3) (pe_ix ix_list (pv 2) (pv 4) (fun _ _ => rfl))) (pg_sub (pv 2) (pv 3) set_list)))) pss_nil)))
      (pss_one (ps_ret (pv 2))))), ?_⟩
    have fr' := fr
    obtain ⟨a, ht, hs⟩ := fr'
    refine ⟨_, rfl, t, _, 2, _, rfl, rfl, SqT.of ht, at_n (i := 2) rfl, ?_⟩
    refine ⟨one_line, fun l nl => ?_⟩
    have s1 := same_upd (o := .lst [.int (-1)]) nl
    refine ⟨_, rfl, a, _, rfl, .inl (s1.seq hs), l, _, _, rfl, rfl, upd_same, ?_, ?_, ?_, fun o no => ?_⟩
    · omega
    · rw [nv_length]
      omega
    · refine line_of ?_
      rw [nv_length, Int.toNat_natCast]
      show 1 * x.length ≤ _
      omega
    have no0 : H o = none := s1.free no
    have s2 := s1.trans (same_upd (o := .lst (List.replicate ((nv x).length : Int).toNat [V.int (-1)]).flatten) no)
    refine ⟨_, rfl, a, x, rfl, s2.seq hs, by omega, hT.ext s2, fun H2 b e2 t2 nb => ?_⟩
    have e0 : (List.replicate ((nv x).length : Int).toNat [V.int (-1)]).flatten = (List.range (w * h)).map fun j => V.int (upTo w h x 0 j) := by
      rw [rep_map _ (V.int (-1)) (fun j => V.int (upTo w h x 0 j)) (fun j => by rw [upTo_zero]), nv_length, Int.toNat_natCast, hl]
    rw [e0] at e2
    have o2 : H2 o = some (.lst ((List.range (w * h)).map fun j => V.int (upTo w h x 0 j))) := extLst e2 upd_same
    have ob : b ≠ o := fun z => by
      rw [← z, nb] at o2
      cases o2
    have e3 : LamX.ExtN H (upd H2 b (.lst (nv (order x)))) := by
      refine LamX.ExtN.trans ?_ ((e2).trans (extSame (same_upd nb)))
      rw [e0] at s2
      exact extSame s2
    refine ⟨b, rfl, ⟨_, SqL.of upd_same⟩, for_it (walk_list (xs := nv (order x))) (fun i σ H' => ∃ v3 v4, σ = [some (.ref t), some (.ref a), some (.ref o), v3, v4] ∧ LamX.ExtN H H' ∧ H' b = some (.lst (nv (order x))) ∧ H' o = some (.lst ((List.range (w * h)).map fun j => V.int (upTo w h x i j))))
      ⟨none, none, rfl, e3, upd_same, by rw [upd_ne (Ne.symm ob)]; exact o2⟩ (fun i σ H' _ ⟨_, _, _, _, e, _⟩ => SqL.of e) ?_ ?_⟩
    · rintro i v σ H4 H5 hi ⟨v3, v4, rfl, e4, b4, o4⟩ ⟨rfl, hv⟩
      obtain ⟨hi, rfl⟩ := nv_get hv
      have hp := num_at hi
      generalize Sh66.num (order x) i = p at *
      have pn : p < x.length := order_mem.mp (List.mem_of_getElem? hp)
      have iy : atI (nv x) ((p : Nat) : Int) = some (.int ((Sh66.num x p : Nat) : Int)) := at_n (nv_at pn)
      refine ⟨_, rfl, _, rfl, a, _, _, _, rfl, rfl, extSeq e4 hs, iy, _, _, rfl, rfl, _, rfl, ite2 (fun c => ?_) (fun c => ?_)⟩
      · have c : (0 : Int) < ((Sh66.num x p : Nat) : Int) := of_decide_eq_true c
        have c0 : Sh66.num x p ≠ 0 := by omega
        refine ⟨_, rfl, _, rfl, t, w, h, p, x, rfl, fr.ext e4, hl, hw, hw2, hh, hh2, by omega, fun H6 s6 => ?_⟩
        have o6 := s6 _ _ o4
        have e6 := e4.trans (extSame s6)
        have put : ∀ q : Int, q = own w h x p → ((List.range (w * h)).map fun j => V.int (upTo w h x i j)).set p (V.int q) = (List.range (w * h)).map fun j => V.int (upTo w h x (i + 1) j) := fun q e => by
          rw [set_range, e]
          refine List.map_congr_left fun j _ => ?_
          rw [upTo_next hp]
          by_cases z : j = p
          · rw [if_pos z, if_pos z]
          · rw [if_neg z, if_neg z]
        have len : ((List.range (w * h)).map fun j => V.int (upTo w h x i j)).length = w * h := by rw [List.length_map, List.length_range]
        refine ⟨_, rfl, _, rfl, rfl, _, rfl, ite2 (fun c2 => ?_) (fun c2 => ?_)⟩
        · have c2 : ((Sh66.up w h x p : Nat) : Int) = ((p : Nat) : Int) := V.int.inj (of_decide_eq_true c2)
          refine ⟨_, rfl, _, rfl, _, rfl, o, _, _, p, rfl, rfl, o6, ixN_of (by rw [len]; omega), _, _, rfl, extSet e6 no0, by rw [upd_ne ob]; exact s6 _ _ b4, ?_⟩
          rw [upd_same, put _ (own_top c0 (by omega) (by omega)).symm]
        · have c2 : ¬ Sh66.up w h x p = p := fun z => c2 (decide_eq_true (congrArg V.int (by omega)))
          refine ⟨_, rfl, _, rfl, o, _, _, _, rfl, rfl, SqL.of o6, at_n (map_at _ (up_lt x hw (by omega))), _, rfl, _, rfl, o, _, _, p, rfl, rfl, o6, ixN_of (by rw [len]; omega), _, _, rfl, extSet e6 no0, by rw [upd_ne ob]; exact s6 _ _ b4, ?_⟩
          rw [upd_same, put _ (own_up hl hw hp c0 c2)]
      · have c : ¬ (0 : Int) < ((Sh66.num x p : Nat) : Int) := fun z => c (decide_eq_true z)
        refine ⟨_, _, rfl, e4, b4, ?_⟩
        rw [o4]
        refine congrArg (fun z => some (HO.lst z)) (List.map_congr_left fun j _ => ?_)
        rw [upTo_skip hp (by omega)]
    · rintro σ H4 ⟨v3, v4, rfl, e4, b4, o4⟩
      refine ⟨_, rfl, k H4 o e4 no0 ?_⟩
      rw [o4]
      refine congrArg (fun z => some (HO.lst z)) (List.map_congr_left fun j hj => ?_)
      have hj := List.mem_range.mp hj
      rw [nv_length, order_len, upTo_all (by omega)]
/-! ### peaks(owners): slots owners, place, peak -/
def spPeaks (K : PySem.W.Frag) : Sp := fun vs H Q _ => ∃ (a : Addr) (w h : Nat) (x : List Nat), vs = [.ref a] ∧ SqL K H a ((List.range (w * h)).map fun j => V.int (own w h x j)) ∧ 1 ≤ w ∧ w * h ≤ 4096 ∧ ∀ H' p, Same H H' → H p = none → H' p = some (.lst (nv (Sh66.peaks w h x))) → Q (.ref p) H'
theorem sc_peaks : FnScope ["owners", "place", "peak"] ["owners"] (defScope s_peaks) := ⟨rfl, rfl, rfl, by decide +kernel, rfl, by decide +kernel, by decide +kernel⟩
theorem ok_peaks {f : Addr} {fd : FuncData} (F : Fun K "peaks" "peaks" s_peaks f fd) (b_enumerate : mg "enumerate" = none) : FnOk P w K mg base CX0 1 f fd ["owners"] (spPeaks K) := by
  refine F.ok sc_peaks (fun vs H Q E h => ?_) (fun cdv A outer s H vs Q E hr h => ?_)
  · obtain ⟨_, _, _, _, rfl, _⟩ := h
    rfl
  · obtain ⟨a, w, h, x, rfl, ha, hw, hwh, k⟩ := h
    refine ⟨_, pss_one (ps_ret (pe_lc (own := [("place", 1), ("peak", 2)]) (g := gTup K 2 (gCons (gName 1) (gCons (gName 2) gNil))) rfl sc_peaks.nd (pi_enum (by rfl) b_enumerate (pa_cons (pv 0) pa_nil))
      (blkOk_by (N := ["owners", "place", "peak"]) (sc := defScope s_peaks) (by decide +kernel))
      (fun _ _ _ _ _ => pg_tup rfl (pgs_cons (pg_name (i := 1) sc_peaks.nd rfl (.inl rfl)) (pgs_cons (pg_name (i := 2) sc_peaks.nd rfl (.inl rfl)) pgs_nil)))
      (fun _ _ _ _ _ => pts_one (pt_cmpR op_eq (pv 2) (pv 1) (nomark _))) (fun _ _ _ _ _ => pv 1))), ?_⟩
    refine ⟨_, rfl, a, _, rfl, ha, fun D nD => lc_sel (walk_enum (xs := (List.range (w * h)).map fun j => V.int (own w h x j))) (fun i => .int ((i : Nat) : Int)) (fun i => decide (own w h x i = ((i : Nat) : Int))) nD (line_of (by rw [List.length_map, List.length_range]; omega)) (fun H4 s4 => s4.seq ha) ?_ ?_⟩
    · intro i v H3 H4 R N hi s3 yv h1 h2
      obtain ⟨T, u1, u2, rfl, nT, rfl, g1, g2⟩ := yv
      obtain rfl := Option.some.inj g1
      obtain ⟨_, rfl⟩ := map_get g2
      refine ⟨T, _, rfl, SqT.of upd_same, rfl, _, _, rfl, _, _, rfl, rfl, rfl, _, rfl, _, rfl, rfl, _, rfl, ite2 (fun c => ?_) (fun c => ?_)⟩
      · have c := V.int.inj (of_decide_eq_true c)
        exact ⟨_, rfl, h1 (decide_eq_true c) _ (same_upd nT)⟩
      · exact h2 (decide_eq_false fun z => c (decide_eq_true (congrArg V.int z))) _ (same_upd nT)
    · intro H4 s4 e4
      refine k _ D s4 nD (e4.trans ?_)
      rw [List.length_map, List.length_range, peaks_own hw, ← List.map_id ((List.range (w * h)).filter fun i => decide (own w h x i = ((i : Nat) : Int))), nv_map, List.map_id]
      rfl
/-! ### star(frame, owners, peak): slots frame, owners, peak (a cell), w, h, numbers (a cell), own, place, other -/
def spStar (K : PySem.W.Frag) : Sp := fun vs H Q _ => ∃ (t b : Addr) (w h p : Nat) (x : List Nat), vs = [.ref t, .ref b, .int p] ∧ Fr K H t w h x ∧ SqL K H b ((List.range (w * h)).map fun j => V.int (own w h x j)) ∧ x.length = w * h ∧ 1 ≤ w ∧ w ≤ 64 ∧ w * h ≤ 4096 ∧ p < w * h ∧
  ∀ H' q, Same H H' → H q = none → H' q = some (.lst (nv (starOf w h x p))) → Q (.ref q) H'
theorem sc_star : FnScope ["frame", "owners", "peak", "w", "h", "numbers", "own", "place", "other"] ["frame", "owners", "peak"] (defScope s_star) := ⟨rfl, rfl, rfl, by decide +kernel, rfl, by decide +kernel, by decide +kernel⟩
theorem ints_sum : ∀ l : List Nat, (Sh66Neutral.ints l).sum = ((l.sum : Nat) : Int)
  | [] => rfl
  | a :: l => by
    rw [List.sum_cons, Int.natCast_add, ← ints_sum l]
    exact List.sum_cons
theorem five_line : 5 ≤ sizeLine := by decide
theorem ok_star {f : Addr} {fd : FuncData} (F : Fun K "star" "star" s_star f fd) (b_enumerate : mg "enumerate" = none) (b_len : mg "len" = none) (b_sum : mg "sum" = none) : FnOk P w K mg base CX0 1 f fd ["frame", "owners", "peak"] (spStar K) := by
  refine F.ok sc_star (fun vs H Q E h => ?_) (fun cdv A outer s H vs Q E hr h => ?_)
  · obtain ⟨_, _, _, _, _, _, rfl, _⟩ := h
    rfl
  · obtain ⟨t, b, w, h, p, x, rfl, ⟨a, ht, hs⟩, hb, hl, hw, hw2, hwh, hp, k⟩ := h
    refine ⟨_, pss_cons (ps_asg (pv 0) (pg_tup rfl (pgs_cons (pg_name (i := 3) sc_star.nd rfl (.inl rfl)) (pgs_cons (pg_name (i := 4) sc_star.nd rfl (.inl rfl)) (pgs_cons (pg_name (i := 5) sc_star.nd rfl (.inr rfl)) pgs_nil)))))
      (pss_cons (ps_setLc (i := 6) (own := [("place", 7), ("other", 8)]) (g := gTup K 2 (gCons (gName 7) (gCons (gName 8) gNil))) (te := tOp (rIxL K) (tVar 5) (tVar 7)) rfl sc_star.nd rfl rfl (sw_true rfl rfl rfl (by decide +kernel)) (pi_enum (by rfl) b_enumerate (pa_cons (pv 1) pa_nil))
        (blkOk_by (N := ["frame", "owners", "peak", "w", "h", "numbers", "own", "place", "other"]) (sc := defScope s_star) (by decide +kernel))
        (fun _ _ _ _ _ => pg_tup rfl (pgs_cons (pg_name (i := 7) sc_star.nd rfl (.inl rfl)) (pgs_cons (pg_name (i := 8) sc_star.nd rfl (.inl rfl)) pgs_nil)))
        (fun _ _ _ _ _ => pts_one (pt_cmpR op_eq (pv 8) (pv 2) (nomark _))) (fun _ _ _ _ _ => pe_ix ix_list (pv 5) (pv 7) (fun _ _ => rfl)))
      (pss_one (ps_ret (pe_lst (pa_cons (pe_op op_mod (pv 2) (pv 3)) (pa_cons (pe_op op_fdiv (pv 2) (pv 3)) (pa_cons (pe_ix ix_list (pv 5) (pv 2) (fun _ _ => rfl)) (pa_cons (pe_bi call_len_seq rfl b_len (pa_cons (pv 6) pa_nil)) (pa_cons (pe_bi (cr_sum rfl) rfl b_sum (pa_cons (pv 6) pa_nil)) pa_nil))))))))), ?_⟩
    refine ⟨_, rfl, t, _, rfl, SqT.of ht, rfl, _, _, rfl, _, _, rfl, _, _, rfl, rfl, ?_⟩
    have nx : ∀ j, j < w * h → atI (nv x) ((j : Nat) : Int) = some (.int ((Sh66.num x j : Nat) : Int)) := fun j hj => at_n (nv_at (by omega))
    refine ⟨_, rfl, b, _, rfl, hb, fun D nD => lc_sel (walk_enum (xs := (List.range (w * h)).map fun j => V.int (own w h x j))) (fun i => .int ((Sh66.num x i : Nat) : Int)) (fun i => decide (own w h x i = ((p : Nat) : Int))) nD (line_of (by rw [List.length_map, List.length_range]; omega)) (fun H4 s4 => s4.seq hb) ?_ ?_⟩
    · intro i v H3 H4 R N hi s3 yv h1 h2
      rw [List.length_map, List.length_range] at hi
      obtain ⟨T, u1, u2, rfl, nT, rfl, g1, g2⟩ := yv
      obtain rfl := Option.some.inj g1
      obtain ⟨_, rfl⟩ := map_get g2
      refine ⟨T, _, rfl, SqT.of upd_same, rfl, _, _, rfl, _, _, rfl, rfl, rfl, _, rfl, _, rfl, rfl, _, rfl, ite2 (fun c => ?_) (fun c => ?_)⟩
      · have c := V.int.inj (of_decide_eq_true c)
        exact ⟨_, rfl, _, rfl, a, _, _, _, rfl, rfl, (s3.trans (same_upd nT)).seq hs, nx i hi, h1 (decide_eq_true c) _ (same_upd nT)⟩
      · exact h2 (decide_eq_false fun z => c (decide_eq_true (congrArg V.int z))) _ (same_upd nT)
    · intro H4 s4 e4
      rw [List.length_map, List.length_range] at e4
      have e4 : H4 D = some (.lst (nv ((mems w h x p).map (Sh66.num x)))) := e4.trans (by rw [nv_map]; rfl)
      refine ⟨_, rfl, _, rfl, _, _, rfl, rfl, by omega, _, rfl, _, rfl, _, _, rfl, rfl, ⟨by omega, by omega⟩, _, rfl, _, rfl, a, _, _, _, rfl, rfl, s4.seq hs, nx p hp, _, rfl, D, _, rfl, .inl (SqL.of e4), _, rfl, D, Sh66Neutral.ints ((mems w h x p).map (Sh66.num x)), rfl, SqL.of e4, five_line, fun q nq => k _ q (s4.trans (same_upd nq)) (s4.free nq) ?_⟩
      rw [upd_same, nv_length, List.length_map, ints_sum]
      rfl
/-! ### is_side(number) -/
def spSide : Sp := fun vs H Q _ => ∃ i : Nat, vs = [.int i] ∧ Q (.bl (decide (1 ≤ i ∧ i ≤ 64))) H
theorem sc_is_side : FnScope ["number"] ["number"] (defScope s_is_side) := ⟨rfl, rfl, rfl, by decide +kernel, rfl, by decide +kernel, by decide +kernel⟩
theorem ok_is_side {f : Addr} {fd : FuncData} (F : Fun K "is_side" "is_side" s_is_side f fd) (c_MS : ∃ t, mg "MOST_SIDE" = some (.int 64 t)) : FnOk P w K mg base CX0 1 f fd ["number"] spSide := by
  refine F.ok sc_is_side (fun vs H Q E h => ?_) (fun cdv A outer s H vs Q E hr h => ?_)
  · obtain ⟨_, rfl, _⟩ := h
    rfl
  · obtain ⟨i, rfl, k⟩ := h
    refine ⟨_, pss_one (ps_ret (pe_chain op_le op_le pe_int (pv 0) (pe_gi rfl c_MS))), ?_⟩
    refine ⟨_, rfl, _, _, rfl, rfl, _, rfl, ite2 (fun c => ?_) (fun c => ?_)⟩
    · have c : (1 : Int) ≤ (i : Int) := of_decide_eq_true c
      refine ⟨_, _, rfl, rfl, ?_⟩
      have e : decide (1 ≤ i ∧ i ≤ 64) = decide ((i : Int) ≤ 64) := decide_eq_decide.mpr (by omega)
      rw [e] at k
      exact k
    · have c : ¬ (1 : Int) ≤ (i : Int) := fun z => c (decide_eq_true z)
      rw [decide_eq_false (show ¬ (1 ≤ i ∧ i ≤ 64) by omega)] at k
      exact k
/-! ### is_frame(w, h) -/
def spFrame : Sp := fun vs H Q _ => ∃ w h : Nat, vs = [.int w, .int h] ∧ Q (.bl (decide ((1 ≤ w ∧ w ≤ 64) ∧ 1 ≤ h ∧ h ≤ 64))) H
theorem sc_is_frame : FnScope ["w", "h"] ["w", "h"] (defScope s_is_frame) := ⟨rfl, rfl, rfl, by decide +kernel, rfl, by decide +kernel, by decide +kernel⟩
theorem ok_is_frame {f : Addr} {fd : FuncData} (F : Fun K "is_frame" "is_frame" s_is_frame f fd) (D_is_side : Def P w K mg base 1 "is_side" ["number"] spSide) : FnOk P w K mg base CX0 2 f fd ["w", "h"] spFrame := by
  refine F.ok sc_is_frame (fun vs H Q E h => ?_) (fun cdv A outer s H vs Q E hr h => ?_)
  · obtain ⟨_, _, rfl, _⟩ := h
    rfl
  · obtain ⟨i, j, rfl, k⟩ := h
    refine ⟨_, pss_one (ps_ret (pe_and (pe_def D_is_side hr rfl (pa_cons (pv 0) pa_nil)) (pe_one (pe_def D_is_side hr rfl (pa_cons (pv 1) pa_nil))))), ?_⟩
    refine ⟨_, rfl, i, rfl, _, rfl, ite2 (fun c => ?_) (fun c => ?_)⟩
    · have c := of_decide_eq_true c
      have e : decide ((1 ≤ i ∧ i ≤ 64) ∧ 1 ≤ j ∧ j ≤ 64) = decide (1 ≤ j ∧ j ≤ 64) := decide_eq_decide.mpr (by omega)
      rw [e] at k
      exact ⟨_, rfl, j, rfl, k⟩
    · have c : ¬ (1 ≤ i ∧ i ≤ 64) := fun z => c (decide_eq_true z)
      rw [decide_eq_false (show ¬ ((1 ≤ i ∧ i ≤ 64) ∧ 1 ≤ j ∧ j ≤ 64) from fun z => c z.1)] at k
      exact k
/-! ### sk_stars(least, w, h, x): slots least (a cell), w, h, x, frame, owners (cells), some, one, found, peak -/
def okStars (least w h : Nat) : Prop := least ≤ 4096 ∧ (1 ≤ w ∧ w ≤ 64) ∧ 1 ≤ h ∧ h ≤ 64
instance (least w h : Nat) : Decidable (okStars least w h) := by unfold okStars; infer_instance
def ansStars (least w h : Nat) (x : List Nat) : List Int := if okStars least w h then (((Sh66.stars least w h x).length : Nat) : Int) :: Sh66Neutral.ints (Sh66.stars least w h x).flatten else [-2]
def spTop (K : PySem.W.Frag) (T : Addr) : Sp := fun vs H Q _ => ∃ (least w h : Nat) (a : Addr) (x : List Nat), vs = [.int least, .int w, .int h, .ref a] ∧ SqL K H a (nv x) ∧ (okStars least w h → x.length = w * h) ∧ LamX.Tabs [(T, lamQ)] H ∧ ∀ H' p, H' p = some (.lst ((ansStars least w h x).map V.int)) → Q (.ref p) H'
theorem sc_sk_stars : FnScope ["least", "w", "h", "x", "frame", "owners", "some", "one", "found", "peak"] ["least", "w", "h", "x"] (defScope s_sk_stars) := ⟨rfl, rfl, rfl, by decide +kernel, rfl, by decide +kernel, by decide +kernel⟩
theorem getD_at {α : Type} {l : List α} {i : Nat} {v d : α} (h : l[i]? = some v) : l.getD i d = v := by
  rw [List.getD_eq_getElem?_getD, h]
  rfl
theorem flat5 (g : Nat → List Nat) (hg : ∀ j, (g j).length = 5) : ∀ l : List Nat, (l.flatMap g).length = 5 * l.length
  | [] => rfl
  | a :: l => by
    rw [List.flatMap_cons, List.length_append, hg, flat5 g hg l, List.length_cons]
    omega
theorem ok_sk_stars {f T : Addr} {fd : FuncData} (F : Fun K "sk_stars" "sk_stars" s_sk_stars f fd) (D_is_frame : Def P w K mg base 2 "is_frame" ["w", "h"] spFrame) (D_peaks_of_all : Def P w K mg base 3 "peaks_of_all" ["frame"] (spPeaksOfAll K T))
    (D_peaks : Def P w K mg base 1 "peaks" ["owners"] (spPeaks K)) (D_star : Def P w K mg base 1 "star" ["frame", "owners", "peak"] (spStar K)) (c_MN : ∃ t, mg "MOST_NUMBERS" = some (.int 4096 t))
    (b_list : mg "list" = none) (b_len : mg "len" = none) (r : RefOk K mg) : FnOk P w K mg base CX0 4 f fd ["least", "w", "h", "x"] (spTop K T) := by
  refine F.ok sc_sk_stars (fun vs H Q E h => ?_) (fun cdv A outer s H vs Q E hr h => ?_)
  · obtain ⟨_, _, _, _, _, rfl, _⟩ := h
    rfl
  · obtain ⟨least, w, h, a, x, rfl, hx, hl, hT, k⟩ := h
    have hr1 := hr.mono (show 1 ≤ 3 by decide)
    have hr2 := hr.mono (show 2 ≤ 3 by decide)
    refine ⟨_, pss_cons (ps_if (PW.pt (pw_or (pt_cmpR op_gt (pv 0) (pe_gi rfl c_MN) (nomark _)) (pw_or1 (pt_not (pt_val (pe_def D_is_frame hr2 rfl (pa_cons (pv 1) (pa_cons (pv 2) pa_nil)))))))) (pss_one (ps_ret (pe_refused rfl rfl b_list r))) pss_nil)
      (pss_cons (ps_set (i := 4) sc_sk_stars.nd rfl (.inr rfl) (pe_tup (pa_cons (pv 1) (pa_cons (pv 2) (pa_cons (pv 3) pa_nil)))))
      (pss_cons (ps_set (i := 5) sc_sk_stars.nd rfl (.inr rfl) (pe_def D_peaks_of_all hr rfl (pa_cons (pv 4) pa_nil)))
      (pss_cons (ps_setLc (i := 6) (own := [("peak", 9)]) (g := gName 9) rfl sc_sk_stars.nd rfl rfl (sw_true rfl rfl rfl (by decide +kernel)) (pi_list (pe_def D_peaks hr1 rfl (pa_cons (pv 5) pa_nil)))
        (blkOk_by (N := ["least", "w", "h", "x", "frame", "owners", "some", "one", "found", "peak"]) (sc := defScope s_sk_stars) (by decide +kernel)) (fun _ _ _ _ _ => pg_name (i := 9) sc_sk_stars.nd rfl (.inl rfl)) (fun _ _ _ _ _ => pts_nil)
        (fun _ _ _ _ _ => pe_def D_star hr1 rfl (pa_cons (pv 4) (pa_cons (pv 5) (pa_cons (pv 9) pa_nil)))))
      (pss_cons (ps_setLc (i := 6) (own := [("one", 7)]) (g := gName 7) (tt := tTest (tOp (rI0 fun i j => .bl (decide (j ≤ i))) (tOp (rIxL K) (tVar 7) (tC (.int 3))) (tVar 0))) rfl sc_sk_stars.nd rfl rfl (sw_true rfl rfl rfl (by decide +kernel)) (pi_list (pv 6))
        (blkOk_by (N := ["least", "w", "h", "x", "frame", "owners", "some", "one", "found", "peak"]) (sc := defScope s_sk_stars) (by decide +kernel)) (fun _ _ _ _ _ => pg_name (i := 7) sc_sk_stars.nd rfl (.inl rfl))
        (fun _ _ _ _ _ => pts_one (pt_cmpR op_ge (pe_ix ix_list (pv 7) pe_int (fun _ _ => rfl)) (pv 0) (nomark _))) (fun _ _ _ _ _ => pv 7))
      (pss_cons (ps_set (i := 8) sc_sk_stars.nd rfl (.inl rfl) (pe_lst (pa_cons (pe_bi call_len_seq rfl b_len (pa_cons (pv 6) pa_nil)) pa_nil)))
      (pss_cons (ps_for PassesOwn.never rfl (pi_list (pv 6)) (pg_name (i := 7) sc_sk_stars.nd rfl (.inl rfl))
        (pss_one (ps_expr (pe_bm PySem.F.plainAttrs_list PySem.F.slot_list_extend PySem.F.type_list_extend mt_extend (pv 8) (pa_cons (pv 7) pa_nil)))))
      (pss_one (ps_ret (pv 8))))))))), ?_⟩
    have no : ¬ okStars least w h → ∀ p, H p = none → Q (.ref p) (upd H p (.lst [.int (-2)])) := fun c p np => k _ p (by
      rw [upd_same]
      unfold ansStars
      rw [if_neg c]
      rfl)
    refine ⟨_, rfl, _, _, rfl, rfl, _, rfl, ite2 (fun c => ?_) (fun c => ?_)⟩
    · have c : (4096 : Int) < (least : Int) := of_decide_eq_true c
      refine iteT (no fun z => ?_)
      have := z.1
      omega
    have ck : ¬ (4096 : Int) < (least : Int) := fun z => c (decide_eq_true z)
    refine ⟨_, rfl, _, rfl, w, h, rfl, _, rfl, ?_⟩
    by_cases c : (1 ≤ w ∧ w ≤ 64) ∧ 1 ≤ h ∧ h ≤ 64
    · rw [decide_eq_true c]
      refine iteF ?_
      have hok : okStars least w h := ⟨by omega, c⟩
      have hxl := hl hok
      obtain ⟨⟨hw, hw2⟩, hh, hh2⟩ := c
      have hwh : w * h ≤ 4096 := Nat.mul_le_mul hw2 hh2
      have hans : ansStars least w h x = (((Sh66.stars least w h x).length : Nat) : Int) :: Sh66Neutral.ints (Sh66.stars least w h x).flatten := if_pos hok
      rw [hans, stars_eq] at k
      have hpl := peaks_len w h x
      -- frame = (w, h, x)
      refine ⟨_, rfl, _, rfl, _, rfl, three_line, fun t nt => ?_⟩
      have s1 : Same H (upd H t (.tup [.int w, .int h, .ref a])) := same_upd nt
      -- owners = peaks_of_all(frame)
      refine ⟨_, rfl, t, w, h, x, rfl, ⟨a, upd_same, s1.seq hx⟩, hxl, hw, hw2, hh, hh2, hT.ext s1, fun H2 b e2 nb eb => ?_⟩
      have fr : Fr K H2 t w h x := Fr.ext e2 ⟨a, upd_same, s1.seq hx⟩
      -- some = [star(frame, owners, peak) for peak in peaks(owners)]
      refine ⟨_, rfl, b, w, h, x, rfl, SqL.of eb, hw, hwh, fun H3 pb s3 npb epb => ?_⟩
      refine ⟨pb, rfl, ⟨_, SqL.of epb⟩, fun D nD => lc_rel (walk_list (xs := nv (Sh66.peaks w h x))) (fun i v H => ∃ q, v = .ref q ∧ q ≠ D ∧ H q = some (.lst (nv (starOf w h x (Sh66.num (Sh66.peaks w h x) i))))) nD (line_of (by rw [nv_length]; omega)) (fun H4 s4 => SqL.of (s4 _ _ epb)) ?_ ?_ ?_⟩
      · rintro i v H4 H5 ⟨q, rfl, n1, e⟩ keep
        exact ⟨q, rfl, n1, keep q _ n1 e⟩
      · rintro i v H4 H5 R hi s4 ⟨acc, eD⟩ ⟨rfl, g1⟩ q
        obtain ⟨hi, rfl⟩ := nv_get g1
        have hp : Sh66.num (Sh66.peaks w h x) i < w * h := peaks_lt (List.mem_of_getElem? (num_at hi))
        have s34 := s3.trans s4
        exact ⟨rfl, _, rfl, _, rfl, _, rfl, t, b, w, h, _, x, rfl, fr.ext (extSame s34), SqL.of (s34 _ _ eb), hxl, hw, hw2, hwh, hp, fun H6 d s6 nd ed => q _ _ s6 ⟨d, rfl, (ne_of_none eD nd).symm, ed⟩⟩
      · intro H4 acc s4 eD la ta
        rw [nv_length] at la
        -- some = [one for one in some if one[3] >= least]
        refine ⟨_, rfl, D, rfl, ⟨_, SqL.of eD⟩, fun D2 nD2 => lc_sel (walk_list (xs := acc)) (fun i => acc.getD i .non) (fun i => decide (least ≤ (mems w h x (Sh66.num (Sh66.peaks w h x) i)).length)) nD2 (line_of (by omega)) (fun H5 s5 => SqL.of (s5 _ _ eD)) ?_ ?_⟩
        · rintro i v H5 H6 R N hi s5 ⟨rfl, hv⟩ h1 h2
          obtain ⟨q, rfl, n1, eq⟩ := ta i v hv
          have e : acc.getD i .non = .ref q := getD_at hv
          refine ⟨rfl, _, rfl, q, _, _, _, rfl, rfl, SqL.of (s5 _ _ eq), at_n (i := 3) rfl, _, rfl, _, _, rfl, rfl, _, rfl, ite2 (fun c => ?_) (fun c => ?_)⟩
          · have c : ((least : Nat) : Int) ≤ (((mems w h x (Sh66.num (Sh66.peaks w h x) i)).length : Nat) : Int) := of_decide_eq_true c
            have h3 := h1 (decide_eq_true (by omega)) _ (Same.refl _)
            exact ⟨_, rfl, Eq.mp (congrArg (fun z => R z _) e) h3⟩
          · exact h2 (decide_eq_false fun z => c (decide_eq_true (show ((least : Nat) : Int) ≤ (((mems w h x (Sh66.num (Sh66.peaks w h x) i)).length : Nat) : Int) by omega))) _ (Same.refl _)
        · intro H6 s6 e6
          rw [la] at e6
          have e6 : H6 D2 = some (.lst ((told5 least w h x).map fun i => acc.getD i .non)) := e6
          have htl := told5_len least w h x
          -- found = [len(some)]
          refine ⟨_, rfl, D2, _, rfl, .inl (SqL.of e6), one_line, fun o no1 => ?_⟩
          rw [List.length_map]
          have s7 := same_upd (o := .lst [.int (((told5 least w h x).length : Nat) : Int)]) no1
          -- for one in some
          refine ⟨_, rfl, D2, rfl, ⟨_, SqL.of (s7 _ _ e6)⟩, for_it (walk_list (xs := (told5 least w h x).map fun i => acc.getD i .non)) (fun i σ H' => ∃ v7, σ = [some (.int least), some (.int w), some (.int h), some (.ref a), some (.ref t), some (.ref b), some (.ref D2), v7, some (.ref o), none] ∧ Same H6 H' ∧
              H' o = some (.lst (.int (((told5 least w h x).length : Nat) : Int) :: nv (((told5 least w h x).take i).flatMap fun j => starOf w h x (Sh66.num (Sh66.peaks w h x) j)))))
            ⟨none, rfl, s7, upd_same⟩ (fun i σ H' _ ⟨_, _, e, _⟩ => SqL.of (e _ _ e6)) ?_ ?_⟩
          · rintro i v σ H8 H9 hi ⟨v7, rfl, s8, eo⟩ ⟨rfl, hv⟩
            obtain ⟨j, hj, rfl⟩ := Option.map_eq_some_iff.mp ((List.getElem?_map).symm.trans hv)
            have jl : j < acc.length := by
              have := told5_lt (List.mem_of_getElem? hj)
              omega
            have ej : acc[j]? = some (acc.getD j .non) := by
              rw [List.getD_eq_getElem?_getD, List.getElem?_eq_getElem jl]
              rfl
            obtain ⟨q, e1, n1, eq⟩ := ta j _ ej
            rw [e1]
            have eq8 := s8 _ _ (s6 _ _ eq)
            refine ⟨.ref o, rfl, .inl ⟨rfl, _, .inl (.inl eo)⟩, _, rfl, o, q, _, _, rfl, rfl, eo, eq8, line_of ?_, _, rfl, same_set s8 no1, ?_⟩
            · have f5 := flat5 (fun j => starOf w h x (Sh66.num (Sh66.peaks w h x) j)) (fun _ => rfl) ((told5 least w h x).take i)
              rw [List.length_map] at hi
              rw [List.length_take] at f5
              rw [List.length_cons, nv_length, nv_length, f5]
              show _ + 5 ≤ _
              omega
            · rw [upd_same, List.take_add_one, hj, List.flatMap_append, nv_append]
              rfl
          · rintro σ H8 ⟨v7, rfl, s8, eo⟩
            refine ⟨_, rfl, k _ o ?_⟩
            rw [eo, List.length_map, List.length_map, List.take_length]
            rfl
    · rw [decide_eq_false c]
      refine iteT (no fun z => c z.2)
end
theorem spec_top (least w h : Nat) (x : List Nat) : PySh66.sk_stars (least : Int) (w : Int) (h : Int) (Sh66Neutral.ints x) = ansStars least w h x := by
  show Sh66Neutral.told (Sh66.answer (if (Sh66.sized (w : Int).toNat (h : Int).toNat && decide ((least : Int).toNat ≤ 4096)) = true then .stars (least : Int).toNat (w : Int).toNat (h : Int).toNat (Sh66Neutral.nats (Sh66Neutral.ints x)) else .bad)) = _
  rw [nats_ints, Int.toNat_natCast, Int.toNat_natCast, Int.toNat_natCast]
  unfold ansStars
  by_cases c : okStars least w h
  · rw [if_pos (Bool.and_eq_true_iff.mpr ⟨sized_iff.mpr c.2, decide_eq_true c.1⟩), if_pos c]
    rfl
  · rw [if_neg (fun z => c ⟨of_decide_eq_true (Bool.and_eq_true_iff.mp z).2, sized_iff.mp (Bool.and_eq_true_iff.mp z).1⟩), if_neg c]
    rfl
theorem asked_if {s w h : Int} {x : List Int} (q : PySh66.sk_stars_asked s w h x = true) : (if (Sh66.sized w.toNat h.toNat && decide (s.toNat ≤ 4096)) = true then x.length == w.toNat * h.toNat else (x.isEmpty) || (x.length == w.toNat * h.toNat)) = true := by
  have q : (Sh66Neutral.asked1 [[5, s, w, h], x] && decide ((Sh66Neutral.f [[5, s, w, h], x]).length < 1000000)) = true := q
  have q := (Bool.and_eq_true_iff.mp q).1
  have q : (Sh66Neutral.natural s 32 && (Sh66Neutral.natural w 32 && (Sh66Neutral.natural h 32 && ((x.all fun z => Sh66Neutral.natural z 16) && (if (Sh66.sized w.toNat h.toNat && decide (s.toNat ≤ 4096)) = true then x.length == w.toNat * h.toNat else (x.isEmpty) || (x.length == w.toNat * h.toNat)))))) = true := q
  exact and2 (and2 (and2 (and2 q)))
theorem asked_top {s w h : Nat} {x : List Nat} (q : PySh66.sk_stars_asked (s : Int) (w : Int) (h : Int) (Sh66Neutral.ints x) = true) : okStars s w h → x.length = w * h := by
  intro c
  have q := asked_if q
  rw [Int.toNat_natCast, Int.toNat_natCast, Int.toNat_natCast, if_pos (Bool.and_eq_true_iff.mpr ⟨sized_iff.mpr c.2, decide_eq_true c.1⟩), ints_length, beq_iff_eq] at q
  exact q
theorem app4 (g : Int → Int → Int → List Int → Bool) (s w h : Int) (x : List Int) : PySem.W.Codec.app PySem.Challenge.fa_skyabove_s06_sk_stars g (s, w, h, x, ()) = g s w h x := rfl
theorem all_mk {P : Program} {w : World} {K : PySem.W.Frag} {h : Heap} {mg : Str → Option Value} {fa : Addr} (X : K.In h) (G : h.Ns mainGlobals mg) (hfa : mg "sk_stars" = some (.ref fa))
    {f0 : Addr} {od0 an0 : Option Addr} {sl0 : Array (Option Value)} {oc0 kV0 dc0 pm0 cd0 ct0 : Value}
    (a0 : PySem.W.nsIn K mainGlobals "beside" = some (some (.ref f0))) (l0 : K.lookup f0 = some ⟨oc0, od0, .func (PySem.W.fnOf "beside" "beside" (defArgs s_beside) (defBody s_beside) (defScope s_beside) .none kV0 dc0 pm0 an0 cd0 ct0), sl0⟩) (c0 : PySem.W.codeIn K cd0 "beside" = true) (k0 : PySem.W.keepIn K (.ref f0) = true)
    {f1 : Addr} {od1 an1 : Option Addr} {sl1 : Array (Option Value)} {oc1 kV1 dc1 pm1 cd1 ct1 : Value}
    (a1 : PySem.W.nsIn K mainGlobals "upward" = some (some (.ref f1))) (l1 : K.lookup f1 = some ⟨oc1, od1, .func (PySem.W.fnOf "upward" "upward" (defArgs s_upward) (defBody s_upward) (defScope s_upward) .none kV1 dc1 pm1 an1 cd1 ct1), sl1⟩) (c1 : PySem.W.codeIn K cd1 "upward" = true) (k1 : PySem.W.keepIn K (.ref f1) = true)
    {f2 cc TT : Addr} {od2 an2 : Option Addr} {sl2 : Array (Option Value)} {oc2 kV2 dc2 pm2 ct2 : Value}
    (a2 : PySem.W.nsIn K mainGlobals "from_above" = some (some (.ref f2))) (l2 : K.lookup f2 = some ⟨oc2, od2, .func (PySem.W.fnOf "from_above" "from_above" (defArgs s_from_above) (defBody s_from_above) (defScope s_from_above) .none kV2 dc2 pm2 an2 (.ref cc) ct2), sl2⟩) (c2 : PySem.W.codeIn K (.ref cc) "from_above" = true) (k2 : PySem.W.keepIn K (.ref f2) = true)
    {oo : Value} {dd : Option Addr} {vv : Array Value} {ss : Array (Option Value)} (lc : K.lookup cc = some ⟨oo, dd, .fields vv, ss⟩) (vp : (vv[11]? : Option Value) = some (.ref TT)) (nT : K.lookup TT = none)
    {f3 : Addr} {od3 an3 : Option Addr} {sl3 : Array (Option Value)} {oc3 kV3 dc3 pm3 cd3 ct3 : Value}
    (a3 : PySem.W.nsIn K mainGlobals "peaks_of_all" = some (some (.ref f3))) (l3 : K.lookup f3 = some ⟨oc3, od3, .func (PySem.W.fnOf "peaks_of_all" "peaks_of_all" (defArgs s_peaks_of_all) (defBody s_peaks_of_all) (defScope s_peaks_of_all) .none kV3 dc3 pm3 an3 cd3 ct3), sl3⟩) (c3 : PySem.W.codeIn K cd3 "peaks_of_all" = true) (k3 : PySem.W.keepIn K (.ref f3) = true)
    {f4 : Addr} {od4 an4 : Option Addr} {sl4 : Array (Option Value)} {oc4 kV4 dc4 pm4 cd4 ct4 : Value}
    (a4 : PySem.W.nsIn K mainGlobals "peaks" = some (some (.ref f4))) (l4 : K.lookup f4 = some ⟨oc4, od4, .func (PySem.W.fnOf "peaks" "peaks" (defArgs s_peaks) (defBody s_peaks) (defScope s_peaks) .none kV4 dc4 pm4 an4 cd4 ct4), sl4⟩) (c4 : PySem.W.codeIn K cd4 "peaks" = true) (k4 : PySem.W.keepIn K (.ref f4) = true)
    {f5 : Addr} {od5 an5 : Option Addr} {sl5 : Array (Option Value)} {oc5 kV5 dc5 pm5 cd5 ct5 : Value}
    (a5 : PySem.W.nsIn K mainGlobals "star" = some (some (.ref f5))) (l5 : K.lookup f5 = some ⟨oc5, od5, .func (PySem.W.fnOf "star" "star" (defArgs s_star) (defBody s_star) (defScope s_star) .none kV5 dc5 pm5 an5 cd5 ct5), sl5⟩) (c5 : PySem.W.codeIn K cd5 "star" = true) (k5 : PySem.W.keepIn K (.ref f5) = true)
    {f6 : Addr} {od6 an6 : Option Addr} {sl6 : Array (Option Value)} {oc6 kV6 dc6 pm6 cd6 ct6 : Value}
    (a6 : PySem.W.nsIn K mainGlobals "is_side" = some (some (.ref f6))) (l6 : K.lookup f6 = some ⟨oc6, od6, .func (PySem.W.fnOf "is_side" "is_side" (defArgs s_is_side) (defBody s_is_side) (defScope s_is_side) .none kV6 dc6 pm6 an6 cd6 ct6), sl6⟩) (c6 : PySem.W.codeIn K cd6 "is_side" = true) (k6 : PySem.W.keepIn K (.ref f6) = true)
    {f7 : Addr} {od7 an7 : Option Addr} {sl7 : Array (Option Value)} {oc7 kV7 dc7 pm7 cd7 ct7 : Value}
    (a7 : PySem.W.nsIn K mainGlobals "is_frame" = some (some (.ref f7))) (l7 : K.lookup f7 = some ⟨oc7, od7, .func (PySem.W.fnOf "is_frame" "is_frame" (defArgs s_is_frame) (defBody s_is_frame) (defScope s_is_frame) .none kV7 dc7 pm7 an7 cd7 ct7), sl7⟩) (c7 : PySem.W.codeIn K cd7 "is_frame" = true) (k7 : PySem.W.keepIn K (.ref f7) = true)
    {f8 : Addr} {od8 an8 : Option Addr} {sl8 : Array (Option Value)} {oc8 kV8 dc8 pm8 cd8 ct8 : Value}
    (a8 : PySem.W.nsIn K mainGlobals "sk_stars" = some (some (.ref f8))) (l8 : K.lookup f8 = some ⟨oc8, od8, .func (PySem.W.fnOf "sk_stars" "sk_stars" (defArgs s_sk_stars) (defBody s_sk_stars) (defScope s_sk_stars) .none kV8 dc8 pm8 an8 cd8 ct8), sl8⟩) (c8 : PySem.W.codeIn K cd8 "sk_stars" = true) (k8 : PySem.W.keepIn K (.ref f8) = true)
    {t_NONE : Tok} (n_NONE : PySem.W.nsIn K mainGlobals "NONE" = some (some (.int (-1) t_NONE)))
    {t_MOST_SIDE : Tok} (n_MOST_SIDE : PySem.W.nsIn K mainGlobals "MOST_SIDE" = some (some (.int (64) t_MOST_SIDE)))
    {t_MOST_NUMBERS : Tok} (n_MOST_NUMBERS : PySem.W.nsIn K mainGlobals "MOST_NUMBERS" = some (some (.int (4096) t_MOST_NUMBERS)))
    {rr : Addr} {rt : Tok} {rn : Nat} {rs : Array (Option Value)} (n_REFUSED : PySem.W.nsIn K mainGlobals "REFUSED" = some (some (.ref rr))) (l_REFUSED : K.lookup rr = some ⟨.type "list", none, .seq #[.int (-2) rt] rn, rs⟩)
    (n_range : PySem.W.nsIn K mainGlobals "range" = some none)
    (n_max : PySem.W.nsIn K mainGlobals "max" = some none)
    (n_min : PySem.W.nsIn K mainGlobals "min" = some none)
    (n_sorted : PySem.W.nsIn K mainGlobals "sorted" = some none)
    (n_len : PySem.W.nsIn K mainGlobals "len" = some none)
    (n_enumerate : PySem.W.nsIn K mainGlobals "enumerate" = some none)
    (n_sum : PySem.W.nsIn K mainGlobals "sum" = some none)
    (n_list : PySem.W.nsIn K mainGlobals "list" = some none)
    (fact : ∀ (x : Str) (c T : Addr), x = "from_above" → PySem.W.tabIn K x = some (c, T) → PySem.W.CodeHd h c T ∧ h.get? T = some (PySem.W.tabObj #[]))
    : ∃ (fd : FuncData) (c T : Addr), PySem.W.CodeHd h c T ∧ h.get? T = some (PySem.W.tabObj #[]) ∧ K.lookup T = none ∧ (∀ (s : Shared) (us : List Value), us.length = (["least", "w", "h", "x"] : List Str).length → BindsTo s fd ⟨us, []⟩ ((["least", "w", "h", "x"] : List Str).zip us)) ∧ ∀ base : Heap, K.In base → base.Ns mainGlobals mg → LamX.TabB base mg c T → FnOk P w K mg base CX0 4 fa fd ["least", "w", "h", "x"] (spTop K T) := by
  have e := hfa.symm.trans (PySem.W.mg_of X G a8)
  cases e
  have F0 := fun_mk (st := s_beside) l0 c0 k0
  have F1 := fun_mk (st := s_upward) l1 c1 k1
  have F2 : FunC K "from_above" s_from_above f2 cc (PySem.W.fnOf "from_above" "from_above" (defArgs s_from_above) (defBody s_from_above) (defScope s_from_above) .none kV2 dc2 pm2 an2 (.ref cc) ct2) := ⟨⟨oc2, od2, kV2, dc2, pm2, an2, ct2, sl2, rfl, l2, c2⟩⟩
  have tb : PySem.W.tabIn K "from_above" = some (cc, TT) := by simp only [PySem.W.tabIn, a2, l2, lc, vp]
  have F3 := fun_mk (st := s_peaks_of_all) l3 c3 k3
  have F4 := fun_mk (st := s_peaks) l4 c4 k4
  have F5 := fun_mk (st := s_star) l5 c5 k5
  have F6 := fun_mk (st := s_is_side) l6 c6 k6
  have F7 := fun_mk (st := s_is_frame) l7 c7 k7
  have F8 := fun_mk (st := s_sk_stars) l8 c8 k8
  have b0 := F0.binds (ps := ["w", "h", "place"]) fun _ _ _ _ _ _ us hl => match us, hl with | [_, _, _], _ => rfl
  have b1 := F1.binds (ps := ["frame", "place"]) fun _ _ _ _ _ _ us hl => match us, hl with | [_, _], _ => rfl
  have b2 : L2.Binds K (PySem.W.fnOf "from_above" "from_above" (defArgs s_from_above) (defBody s_from_above) (defScope s_from_above) .none kV2 dc2 pm2 an2 (.ref cc) ct2) ["numbers"] [] := .all fun us hl => match us, hl with | [_], _ => rfl
  have b3 := F3.binds (ps := ["frame"]) fun _ _ _ _ _ _ us hl => match us, hl with | [_], _ => rfl
  have b4 := F4.binds (ps := ["owners"]) fun _ _ _ _ _ _ us hl => match us, hl with | [_], _ => rfl
  have b5 := F5.binds (ps := ["frame", "owners", "peak"]) fun _ _ _ _ _ _ us hl => match us, hl with | [_, _, _], _ => rfl
  have b6 := F6.binds (ps := ["number"]) fun _ _ _ _ _ _ us hl => match us, hl with | [_], _ => rfl
  have b7 := F7.binds (ps := ["w", "h"]) fun _ _ _ _ _ _ us hl => match us, hl with | [_, _], _ => rfl
  obtain ⟨hC, hT⟩ := fact _ _ _ rfl tb
  refine ⟨PySem.W.fnOf "sk_stars" "sk_stars" (defArgs s_sk_stars) (defBody s_sk_stars) (defScope s_sk_stars) .none kV8 dc8 pm8 an8 cd8 ct8, cc, TT, hC, hT, nT, fun s us hu => match us, hu with | [_, _, _, _], _ => .of_eq rfl, fun base _ _ TB => ?_⟩
  have D_beside : Def P w K mg base 1 "beside" ["w", "h", "place"] (spBeside) := ⟨_, _, PySem.W.mg_of X G a0, k0, b0, ok_beside F0 (PySem.W.mg_none_of X G n_range) (PySem.W.mg_none_of X G n_max) (PySem.W.mg_none_of X G n_min)⟩
  have D_upward : Def P w K mg base 2 "upward" ["frame", "place"] (spUpward K) := ⟨_, _, PySem.W.mg_of X G a1, k1, b1, ok_upward F1 D_beside⟩
  have D_from_above : Def P w K mg base 2 "from_above" ["numbers"] (spFromAbove K TT) := ⟨_, _, PySem.W.mg_of X G a2, k2, b2, ok_from_above F2 TB (PySem.W.mg_none_of X G n_sorted) (PySem.W.mg_none_of X G n_range) (PySem.W.mg_none_of X G n_len)⟩
  have D_peaks_of_all : Def P w K mg base 3 "peaks_of_all" ["frame"] (spPeaksOfAll K TT) := ⟨_, _, PySem.W.mg_of X G a3, k3, b3, ok_peaks_of_all F3 D_from_above D_upward ⟨_, PySem.W.mg_of X G n_NONE⟩ (PySem.W.mg_none_of X G n_len)⟩
  have D_peaks : Def P w K mg base 1 "peaks" ["owners"] (spPeaks K) := ⟨_, _, PySem.W.mg_of X G a4, k4, b4, ok_peaks F4 (PySem.W.mg_none_of X G n_enumerate)⟩
  have D_star : Def P w K mg base 1 "star" ["frame", "owners", "peak"] (spStar K) := ⟨_, _, PySem.W.mg_of X G a5, k5, b5, ok_star F5 (PySem.W.mg_none_of X G n_enumerate) (PySem.W.mg_none_of X G n_len) (PySem.W.mg_none_of X G n_sum)⟩
  have D_is_side : Def P w K mg base 1 "is_side" ["number"] (spSide) := ⟨_, _, PySem.W.mg_of X G a6, k6, b6, ok_is_side F6 ⟨_, PySem.W.mg_of X G n_MOST_SIDE⟩⟩
  have D_is_frame : Def P w K mg base 2 "is_frame" ["w", "h"] (spFrame) := ⟨_, _, PySem.W.mg_of X G a7, k7, b7, ok_is_frame F7 D_is_side⟩
  exact ok_sk_stars F8 D_is_frame D_peaks_of_all D_peaks D_star ⟨_, PySem.W.mg_of X G n_MOST_NUMBERS⟩ (PySem.W.mg_none_of X G n_list) (PySem.W.mg_none_of X G n_len) ⟨rr, PySem.W.mg_of X G n_REFUSED, fun _ => .inr ⟨_, _, _, l_REFUSED, rfl, rfl, rfl, one_line, .cons ⟨_, rfl⟩ .nil⟩⟩
end Sky
open PySem PySem.W PyProof.Rows
set_option maxRecDepth 100000 in
set_option maxHeartbeats 8000000 in
theorem PySem.Challenge.cw_skyabove_s06_sk_stars_holds : PySem.Challenge.rw_skyabove_s06_sk_stars.Holds := by
  w_on; k_headS; (case hw => exact ⟨[.int 0, .int 0, .int 0, .list []], by decide +kernel, by decide +kernel⟩)
  k_fillS
  refine Sky.table_walk (r := PySem.Challenge.rw_skyabove_s06_sk_stars) (k := 4) (ps := ["least", "w", "h", "x"]) (sp := Sky.spTop) (by decide +kernel) rfl rfl ⟨rfl, by decide, by decide⟩ (fun w h Y => PySem.W.kIn_of Y) ?F ?S
  case F =>
    intro w mg fa h Y KX G hmg tabf
    refine' Sky.all_mk KX G hmg ?a0 ?l0 ?c0 ?k0 ?a1 ?l1 ?c1 ?k1 ?a2 ?l2 ?c2 ?k2 ?lc ?vp ?nT ?a3 ?l3 ?c3 ?k3 ?a4 ?l4 ?c4 ?k4 ?a5 ?l5 ?c5 ?k5 ?a6 ?l6 ?c6 ?k6 ?a7 ?l7 ?c7 ?k7 ?a8 ?l8 ?c8 ?k8 ?n_NONE ?n_MOST_SIDE ?n_MOST_NUMBERS ?n_REFUSED ?l_REFUSED ?n_range ?n_max ?n_min ?n_sorted ?n_len ?n_enumerate ?n_sum ?n_list (fun x c T ex e => by subst ex; exact tabf _ c T _ rfl e)
    (case a0 => k_is)
    (case l0 => k_is)
    (case c0 => k_is)
    (case k0 => k_is)
    (case a1 => k_is)
    (case l1 => k_is)
    (case c1 => k_is)
    (case k1 => k_is)
    (case a2 => k_is)
    (case l2 => k_is)
    (case c2 => k_is)
    (case k2 => k_is)
    (case lc => k_is)
    (case vp => rfl)
    (case nT => kernel_rfl)
    (case a3 => k_is)
    (case l3 => k_is)
    (case c3 => k_is)
    (case k3 => k_is)
    (case a4 => k_is)
    (case l4 => k_is)
    (case c4 => k_is)
    (case k4 => k_is)
    (case a5 => k_is)
    (case l5 => k_is)
    (case c5 => k_is)
    (case k5 => k_is)
    (case a6 => k_is)
    (case l6 => k_is)
    (case c6 => k_is)
    (case k6 => k_is)
    (case a7 => k_is)
    (case l7 => k_is)
    (case c7 => k_is)
    (case k7 => k_is)
    (case a8 => k_is)
    (case l8 => k_is)
    (case c8 => k_is)
    (case k8 => k_is)
    (case n_NONE => k_is)
    (case n_MOST_SIDE => k_is)
    (case n_MOST_NUMBERS => k_is)
    (case n_REFUSED => k_is)
    (case l_REFUSED => k_is)
    (case n_range => k_is)
    (case n_max => k_is)
    (case n_min => k_is)
    (case n_sorted => k_is)
    (case n_len => k_is)
    (case n_enumerate => k_is)
    (case n_sum => k_is)
    (case n_list => k_is)
  case S =>
    intro K T H xs a hO hwi hask hx
    obtain ⟨k, w, h, x, u⟩ := a
    cases hx with
    | cons h0 hx => cases hx with
    | cons h1 hx => cases hx with
    | cons h2 hx => cases hx with
    | cons h3 hx =>
      cases hx
      cases h0
      cases h1
      cases h2
      cases h3 with
      | lst s1 d1 =>
        have e1 := L2.ints_dw x _ d1
        subst e1
        have q : (Codec.inInt 0 4294967295 k && (Codec.inInt 0 4294967295 w && (Codec.inInt 0 4294967295 h && ((Codec.inLen 0 4200 x && x.all (Codec.inInt 0 65535)) && true)))) = true := hwi
        simp only [Bool.and_eq_true] at q
        obtain ⟨k, rfl⟩ := Sky.of_int q.1
        obtain ⟨w, rfl⟩ := Sky.of_int q.2.1
        obtain ⟨h, rfl⟩ := Sky.of_int q.2.2.1
        obtain ⟨x, rfl⟩ := Sky.of_ints q.2.2.2.1.2
        have z : PySh66.sk_stars_asked (k : Int) (w : Int) (h : Int) (Sh66Neutral.ints x) = true := (Sky.app4 PySh66.sk_stars_asked (k : Int) (w : Int) (h : Int) (Sh66Neutral.ints x)).symm.trans hask
        refine ⟨k, w, h, _, x, rfl, s1, Sky.asked_top z, Sky.tabs_at hO, fun H' p hp => ?_⟩
        show L2.Dw K H' (.ref p) (WData.list ((PySh66.sk_stars (k : Int) (w : Int) (h : Int) (Sh66Neutral.ints x)).map WData.int))
        rw [Sky.spec_top k w h x]
        exact Sky.dw_ans _ hp
#print axioms PySem.Challenge.cw_skyabove_s06_sk_stars_holds
