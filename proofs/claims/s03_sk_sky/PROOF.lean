import PyProof.Rows.All
import Wide.All
import OpenK.AllK
import Wide.FinOn
import Open.SpecLaws
import KE.OsGo
import HandS.Base
import HandS.Call
import HandS.List
import HandS.Comp
import HandS.Dict
import HandS.Iter
import HandS.Words
import HandS.Spec
import HandS.SortInts
import HandS.Walk
import PySem.Challenge.RW_skyabove_s03_sk_sky
set_option Elab.async false
set_option linter.all false
set_option maxRecDepth 100000
set_option maxHeartbeats 4000000
namespace Sky
open Sh66
/-! ### lists of naturals as lists of integers -/
theorem ints_def (l : List Nat) : Sh66Neutral.ints l = l.map fun (x : Nat) => (x : Int) := rfl
theorem ints_length (l : List Nat) : (Sh66Neutral.ints l).length = l.length := by rw [ints_def, List.length_map]
theorem ints_append (l m : List Nat) : Sh66Neutral.ints (l ++ m) = Sh66Neutral.ints l ++ Sh66Neutral.ints m := by rw [ints_def, List.map_append]; rfl
theorem nats_ints (l : List Nat) : Sh66Neutral.nats (Sh66Neutral.ints l) = l := by
  show (l.map _).map _ = l
  rw [List.map_map]
  exact (List.map_congr_left fun a _ => Int.toNat_natCast a).trans (List.map_id l)
theorem ints_nats {l : List Int} (h : ∀ z ∈ l, 0 ≤ z) : Sh66Neutral.ints (Sh66Neutral.nats l) = l := by
  show (l.map _).map _ = l
  rw [List.map_map]
  exact (List.map_congr_left fun a m => Int.toNat_of_nonneg (h a m)).trans (List.map_id l)
theorem num_at {l : List Nat} {i : Nat} (h : i < l.length) : l[i]? = some (num l i) := by
  unfold num
  rw [List.getD_eq_getElem?_getD, List.getElem?_eq_getElem h]
  rfl
theorem ints_at {l : List Nat} {i : Nat} (h : i < l.length) : (Sh66Neutral.ints l)[i]? = some ((num l i : Nat) : Int) := by
  rw [ints_def, List.getElem?_map, num_at h]
  rfl
/-! ### the middle one -/
theorem sorted_perm (l : List Nat) : (sorted l).Perm l := List.mergeSort_perm l _
theorem sorted_length (l : List Nat) : (sorted l).length = l.length := (sorted_perm l).length_eq
theorem sorted_le (l : List Nat) : (sorted l).Pairwise (fun a b => a ≤ b) := by
  have h := List.pairwise_mergeSort (le := fun (a b : Nat) => decide (a ≤ b)) (fun a b c h1 h2 => by
    have := of_decide_eq_true h1
    have := of_decide_eq_true h2
    exact decide_eq_true (by omega)) (fun a b => by
    rcases Nat.le_total a b with h | h
    · rw [decide_eq_true h]; rfl
    · rw [decide_eq_true h, Bool.or_true]) l
  exact h.imp fun {a b} q => of_decide_eq_true q
theorem sorted_ints {l : List Nat} {ns : List Int} (hp : ns.Perm (Sh66Neutral.ints l)) (hs : ns.Pairwise (· ≤ ·)) : ns = Sh66Neutral.ints (sorted l) := by
  refine List.Perm.eq_of_pairwise (le := fun (a b : Int) => a ≤ b) (fun a b _ _ h1 h2 => Int.le_antisymm h1 h2) hs ?_ (hp.trans ((sorted_perm l).symm.map _))
  exact List.pairwise_map.mpr ((sorted_le l).imp fun {a b} h => Int.ofNat_le.mpr h)
theorem median_nil : median [] = 0 := by simp [median, sorted, num]
theorem mid_lt {l : List Nat} (h : l ≠ []) : (l.length - 1) / 2 < (sorted l).length := by
  rw [sorted_length]
  have : 0 < l.length := List.length_pos_iff.mpr h
  omega
theorem median_at {l : List Nat} (h : l ≠ []) : (Sh66Neutral.ints (sorted l))[(l.length - 1) / 2]? = some ((median l : Nat) : Int) := ints_at (mid_lt h)
theorem apart_abs (a b : Nat) : (if (b : Int) - (a : Int) < 0 then -((b : Int) - (a : Int)) else (b : Int) - (a : Int)) = ((apart a b : Nat) : Int) := by
  unfold apart
  split <;> omega
theorem median_mem {l : List Nat} (h : l ≠ []) : median l ∈ l := by
  have e := num_at (mid_lt h)
  exact (sorted_perm l).mem_iff.mp (List.mem_of_getElem? e)
theorem median_lt {l : List Nat} {B : Nat} (hB : 0 < B) (h : ∀ x ∈ l, x < B) : median l < B := by
  by_cases e : l = []
  · rw [e, median_nil]; exact hB
  · exact h _ (median_mem e)
theorem spread_lt {l : List Nat} {B : Nat} (hB : 0 < B) (h : ∀ x ∈ l, x < B) : spread l < B := by
  unfold spread
  refine median_lt hB fun x hx => ?_
  obtain ⟨a, ha, rfl⟩ := List.mem_map.mp hx
  have h1 := median_lt hB h
  have h2 := h a ha
  unfold apart
  omega
/-! ### clipped -/
def once (k : Nat) (l : List Nat) : List Nat := l.filter fun a => decide (4 * apart (median l) a ≤ k * spread l)
def iter (k : Nat) : Nat → List Nat → List Nat
  | 0, l => l
  | n + 1, l => once k (iter k n l)
theorem iter_once (k : Nat) : ∀ (n : Nat) (l : List Nat), iter k (n + 1) l = iter k n (once k l)
  | 0, _ => rfl
  | n + 1, l => by
    show once k (iter k (n + 1) l) = once k (iter k n (once k l))
    rw [iter_once k n l]
theorem iter_fix {k : Nat} {l : List Nat} (h : once k l = l) : ∀ n, iter k n l = l
  | 0 => rfl
  | n + 1 => by
    show once k (iter k n l) = l
    rw [iter_fix h n, h]
theorem clipped_iter (k : Nat) : ∀ (n : Nat) (l : List Nat), clipped k n l = iter k n l
  | 0, _ => rfl
  | n + 1, l => by
    rw [iter_once]
    show (if (once k l).length = l.length then l else clipped k n (once k l)) = _
    by_cases h : (once k l).length = l.length
    · rw [if_pos h]
      have e : once k l = l := List.filter_eq_self.mpr (List.length_filter_eq_length_iff.mp h)
      rw [e, iter_fix e]
    · rw [if_neg h]
      exact clipped_iter k n _
theorem once_sub (k : Nat) (l : List Nat) : ∀ x ∈ once k l, x ∈ l := fun x h => (List.mem_filter.mp h).1
theorem iter_sub (k : Nat) (l : List Nat) : ∀ n, ∀ x ∈ iter k n l, x ∈ l
  | 0, _, h => h
  | n + 1, x, h => iter_sub k l n x (once_sub k _ x h)
theorem once_len (k : Nat) (l : List Nat) : (once k l).length ≤ l.length := List.length_filter_le _ _
theorem iter_len (k : Nat) (l : List Nat) : ∀ n, (iter k n l).length ≤ l.length
  | 0 => Nat.le_refl _
  | n + 1 => Nat.le_trans (once_len k _) (iter_len k l n)
end Sky
namespace Sky
theorem sized_iff {w h : Nat} : Sh66.sized w h = true ↔ (1 ≤ w ∧ w ≤ 64) ∧ 1 ≤ h ∧ h ≤ 64 := by
  unfold Sh66.sized Sh66.among
  rw [Bool.and_eq_true, Bool.and_eq_true, Bool.and_eq_true, decide_eq_true_eq, decide_eq_true_eq, decide_eq_true_eq, decide_eq_true_eq]
theorem among_iff {s : Nat} : Sh66.among s 1 64 = true ↔ 1 ≤ s ∧ s ≤ 64 := by
  unfold Sh66.among
  rw [Bool.and_eq_true, decide_eq_true_eq, decide_eq_true_eq]
end Sky
namespace Sky
open Sh66
/-! ### places of a frame -/
theorem flatMap_congr {α β : Type} {f g : α → List β} : ∀ {l : List α}, (∀ a ∈ l, f a = g a) → l.flatMap f = l.flatMap g
  | [], _ => rfl
  | a :: l, h => by
    rw [List.flatMap_cons, List.flatMap_cons, h a List.mem_cons_self, flatMap_congr fun b m => h b (List.mem_cons_of_mem _ m)]
theorem range_add (a b : Nat) : List.range (a + b) = List.range a ++ (List.range b).map (fun x => a + x) := List.range_add
theorem range_mul (w : Nat) : ∀ h : Nat, List.range (w * h) = (List.range h).flatMap fun r => (List.range w).map fun c => r * w + c
  | 0 => by simp
  | h + 1 => by
    rw [Nat.mul_succ, range_add, range_mul w h, List.range_succ, List.flatMap_append]
    congr 1
    simp [Nat.mul_comm]
/-- row by row is place by place -/
theorem each_range {α : Type} {w : Nat} (hw : 0 < w) (h : Nat) (f : Nat → Nat → α) : each w h f = (List.range (w * h)).map fun p => f (p % w) (p / w) := by
  rw [range_mul, List.map_flatMap]
  unfold each
  refine flatMap_congr fun r _ => ?_
  rw [List.map_map]
  refine List.map_congr_left fun c hc => ?_
  have hc := List.mem_range.mp hc
  show f c r = f ((r * w + c) % w) ((r * w + c) / w)
  rw [Nat.mul_comm r w, Nat.mul_add_mod, Nat.mod_eq_of_lt hc, Nat.mul_add_div hw, Nat.div_eq_of_lt hc, Nat.add_zero]
/-- the up to three at m along a side of n -/
def near (m n : Nat) : List Nat := List.range' (m - 1) (min n (m + 2) - (m - 1))
theorem near_span {m n : Nat} (h : m < n) : near m n = span m n := by
  unfold near span
  by_cases h0 : 0 < m
  · rw [if_pos h0]
    by_cases h1 : m + 1 < n
    · rw [if_pos h1, show min n (m + 2) - (m - 1) = 3 by omega]
      show [m - 1, m - 1 + 1, m - 1 + 1 + 1] = [m - 1] ++ [m] ++ [m + 1]
      rw [show m - 1 + 1 = m by omega]
      rfl
    · rw [if_neg h1, show min n (m + 2) - (m - 1) = 2 by omega]
      show [m - 1, m - 1 + 1] = [m - 1] ++ [m] ++ []
      rw [show m - 1 + 1 = m by omega]
      rfl
  · rw [if_neg h0]
    have e : m = 0 := by omega
    subst e
    by_cases h1 : 0 + 1 < n
    · rw [if_pos h1, show min n (0 + 2) - (0 - 1) = 2 by omega]
      rfl
    · rw [if_neg h1, show min n (0 + 2) - (0 - 1) = 1 by omega]
      rfl
theorem near_mem {m n x : Nat} (h : x ∈ near m n) : x < n ∧ m - 1 ≤ x ∧ x ≤ m + 1 := by
  unfold near at h
  rw [List.mem_range'_1] at h
  omega
theorem near_len (m n : Nat) : (near m n).length ≤ 3 := by
  unfold near
  rw [List.length_range']
  omega
/-- a place and those beside it, row by row -/
def around (w h p : Nat) : List Nat := (near (p / w) h).flatMap fun r => (near (p % w) w).map fun c => r * w + c
theorem place_lt {w h r c : Nat} (hr : r < h) (hc : c < w) : r * w + c < w * h := by
  have : (r + 1) * w ≤ h * w := Nat.mul_le_mul_right w hr
  rw [Nat.succ_mul, Nat.mul_comm h w] at this
  omega
theorem around_lt {w h p x : Nat} (hx : x ∈ around w h p) : x < w * h := by
  obtain ⟨r, hr, hx⟩ := List.mem_flatMap.mp hx
  obtain ⟨c, hc, rfl⟩ := List.mem_map.mp hx
  exact place_lt (near_mem hr).1 (near_mem hc).1
theorem around_len (w h p : Nat) : (around w h p).length ≤ 9 := by
  unfold around
  rw [List.length_flatMap]
  have h1 := near_len (p / w) h
  have h2 := near_len (p % w) w
  have : ∀ l : List Nat, (l.map fun r => ((near (p % w) w).map fun c => r * w + c).length).sum ≤ l.length * 3 := by
    intro l
    induction l with
    | nil => simp
    | cons a l ih =>
      rw [List.map_cons, List.sum_cons, List.length_cons, List.length_map]
      omega
  have := this (near (p / w) h)
  omega
theorem calmed_eq {w h : Nat} (hw : 0 < w) (x : List Nat) : calmed w h x = (List.range (w * h)).map fun p => median ((around w h p).map (num x)) := by
  unfold calmed
  rw [each_range hw]
  refine List.map_congr_left fun p hp => ?_
  have hp := List.mem_range.mp hp
  have h1 : p % w < w := Nat.mod_lt _ hw
  have h2 : p / w < h := Nat.div_lt_of_lt_mul hp
  show median ((span (p / w) h).flatMap fun q => (span (p % w) w).map fun c => at_ w x c q) = _
  unfold around
  rw [near_span h1, near_span h2, List.map_flatMap]
  congr 1
  refine flatMap_congr fun r _ => ?_
  rw [List.map_map]
  rfl
/-! ### what stands out -/
def outAt (t a b m : Nat) : Nat := if t * max 1 m < 4 * (a - b) then a - b else 0
theorem out_eq {t w h : Nat} (hw : 0 < w) (x sky noise : List Nat) : Sh66.out t w h x sky noise = (List.range (w * h)).map fun p => outAt t (num x p) (num sky p) (num noise p) := by
  unfold Sh66.out
  rw [each_range hw]
  refine List.map_congr_left fun p _ => ?_
  show (if t * max 1 (at_ w noise (p % w) (p / w)) < 4 * (at_ w x (p % w) (p / w) - at_ w sky (p % w) (p / w)) then at_ w x (p % w) (p / w) - at_ w sky (p % w) (p / w) else 0) = _
  have e : p / w * w + p % w = p := by rw [Nat.mul_comm]; exact Nat.div_add_mod p w
  unfold at_
  rw [e]
  rfl
/-! ### a list by its places -/
theorem map_num (l : List Nat) : (List.range l.length).map (num l) = l := by
  apply List.ext_getElem?
  intro i
  rw [List.getElem?_map]
  by_cases h : i < l.length
  · rw [List.getElem?_range h, num_at h]; rfl
  · rw [List.getElem?_eq_none (by rw [List.length_range]; omega), List.getElem?_eq_none (by omega)]; rfl
theorem zip_num {x y : List Nat} (h : y.length = x.length) (f : Nat → Nat → Nat) : (x.zip y).map (fun p => f p.1 p.2) = (List.range x.length).map fun i => f (num x i) (num y i) := by
  apply List.ext_getElem?
  intro i
  rw [List.getElem?_map, List.getElem?_map]
  by_cases hi : i < x.length
  · rw [List.getElem?_range hi, (List.getElem?_zip_eq_some (z := (num x i, num y i))).mpr ⟨num_at hi, num_at (by omega)⟩]; rfl
  · rw [List.getElem?_eq_none (by rw [List.length_zip]; omega), List.getElem?_eq_none (by rw [List.length_range]; omega)]; rfl
end Sky
namespace Sky
open Sh66
/-! ### between the middles of cells -/
/-- where a place stands: the first cell, how far beyond its middle -/
def btw (n s p : Nat) : Nat × Nat := ((between n s p).1, (between n s p).2.2)
theorem btw_q (s p : Nat) : (256 : Int) * (2 * (p : Int) + 1) - 256 * (s : Int) = (((2 * p + 1) * 256 : Nat) : Int) - ((s * 256 : Nat) : Int) := by omega
theorem between_le {n s p : Nat} (h : (((2 * p + 1) * 256 : Nat) : Int) - ((s * 256 : Nat) : Int) ≤ 0) : between n s p = (0, 0, 0) := if_pos h
theorem between_gt {n s p : Nat} (h : ¬ (((2 * p + 1) * 256 : Nat) : Int) - ((s * 256 : Nat) : Int) ≤ 0) :
    between n s p = if n ≤ ((((2 * p + 1) * 256 : Nat) : Int) - ((s * 256 : Nat) : Int)).toNat / (512 * s) + 1 then (n - 1, n - 1, 0)
      else (((((2 * p + 1) * 256 : Nat) : Int) - ((s * 256 : Nat) : Int)).toNat / (512 * s), ((((2 * p + 1) * 256 : Nat) : Int) - ((s * 256 : Nat) : Int)).toNat / (512 * s) + 1, ((((2 * p + 1) * 256 : Nat) : Int) - ((s * 256 : Nat) : Int)).toNat % (512 * s) / s) := if_neg h
theorem btw_le {n s p : Nat} {q : Int} (e : q = 256 * (2 * (p : Int) + 1) - 256 * (s : Int)) (h : q ≤ 0) : btw n s p = (0, 0) := by
  unfold btw
  rw [between_le (by rw [← btw_q, ← e]; exact h)]
theorem btw_last {n s p : Nat} {q : Int} (e : q = 256 * (2 * (p : Int) + 1) - 256 * (s : Int)) (h : ¬ q ≤ 0) (h2 : (n : Int) ≤ q / (512 * (s : Int)) + 1) : btw n s p = (n - 1, 0) := by
  rw [btw_q] at e
  have hq : (q.toNat : Int) = q := Int.toNat_of_nonneg (by omega)
  rw [← hq, show (512 : Int) * (s : Int) = ((512 * s : Nat) : Int) by omega, ← Int.natCast_ediv] at h2
  unfold btw
  rw [between_gt (by rw [← e]; exact h), ← e, if_pos (by omega)]
theorem btw_mid {n s p : Nat} {q : Int} (e : q = 256 * (2 * (p : Int) + 1) - 256 * (s : Int)) (h : ¬ q ≤ 0) (h2 : ¬ (n : Int) ≤ q / (512 * (s : Int)) + 1) :
    (((btw n s p).1 : Nat) : Int) = q / (512 * (s : Int)) ∧ (((btw n s p).2 : Nat) : Int) = q % (512 * (s : Int)) / (s : Int) := by
  rw [btw_q] at e
  have hq : (q.toNat : Int) = q := Int.toNat_of_nonneg (by omega)
  have e1 : q / (512 * (s : Int)) = ((q.toNat / (512 * s) : Nat) : Int) := by
    rw [Int.natCast_ediv, hq]
    congr 1
  have e2 : q % (512 * (s : Int)) / (s : Int) = ((q.toNat % (512 * s) / s : Nat) : Int) := by
    rw [Int.natCast_ediv, Int.natCast_emod, hq]
    congr 2
  rw [e1] at h2
  unfold btw
  rw [between_gt (by rw [← e]; exact h), ← e, if_neg (by omega), e1, e2]
  exact ⟨rfl, rfl⟩
theorem btw_lt {n s p : Nat} (hn : 1 ≤ n) : (btw n s p).1 < n := by
  unfold btw
  by_cases h : (((2 * p + 1) * 256 : Nat) : Int) - ((s * 256 : Nat) : Int) ≤ 0
  · rw [between_le h]
    exact hn
  · rw [between_gt h]
    split
    · exact (show n - 1 < n by omega)
    · exact (show _ / _ < n by omega)
theorem btw_f {n s p : Nat} (hs : 1 ≤ s) : (btw n s p).2 < 512 := by
  unfold btw
  by_cases h : (((2 * p + 1) * 256 : Nat) : Int) - ((s * 256 : Nat) : Int) ≤ 0
  · rw [between_le h]
    exact (show 0 < 512 by decide)
  · rw [between_gt h]
    split
    · exact (show 0 < 512 by decide)
    · refine (show _ / _ < 512 from ?_)
      exact Nat.div_lt_of_lt_mul (by rw [Nat.mul_comm s 512]; exact Nat.mod_lt _ (by omega))
/-- the second cell told by Python's way: where it isn't the specification's, it weighs nothing -/
theorem btw_second (n s p : Nat) : (between n s p).2.1 = min (n - 1) ((btw n s p).1 + 1) ∨ (btw n s p).2 = 0 := by
  unfold btw
  by_cases h : (((2 * p + 1) * 256 : Nat) : Int) - ((s * 256 : Nat) : Int) ≤ 0
  · rw [between_le h]
    exact .inr rfl
  · rw [between_gt h]
    split
    · exact .inr rfl
    · refine .inl ?_
      show ((((2 * p + 1) * 256 : Nat) : Int) - ((s * 256 : Nat) : Int)).toNat / (512 * s) + 1 = min (n - 1) (((((2 * p + 1) * 256 : Nat) : Int) - ((s * 256 : Nat) : Int)).toNat / (512 * s) + 1)
      omega
/-! ### the sky -/
theorem cells_le {n s : Nat} (hs : 1 ≤ s) (hn : 1 ≤ n) : 1 ≤ cells n s ∧ cells n s ≤ n := by
  unfold cells
  refine ⟨(Nat.le_div_iff_mul_le (by omega)).mpr (by omega), ?_⟩
  refine Nat.div_le_of_le_mul ?_
  have : n + s ≤ s * n + 1 := by
    have h : 0 ≤ (s - 1) * (n - 1) := Nat.zero_le _
    obtain ⟨a, rfl⟩ : ∃ a, s = a + 1 := ⟨s - 1, by omega⟩
    obtain ⟨b, rfl⟩ : ∃ b, n = b + 1 := ⟨n - 1, by omega⟩
    have : (a + 1) * (b + 1) = a * b + a + b + 1 := by
      rw [Nat.add_mul, Nat.mul_add, Nat.one_mul, Nat.mul_one]
      omega
    omega
  omega
/-- the sky by Python's way -/
def skyP (u v s : Nat) (m : List Nat) (c r : Nat) : Nat :=
  let a := btw u s c
  let b := btw v s r
  let top := num m (b.1 * u + a.1) * (512 - a.2) + num m (b.1 * u + min (u - 1) (a.1 + 1)) * a.2
  let low := num m (min (v - 1) (b.1 + 1) * u + a.1) * (512 - a.2) + num m (min (v - 1) (b.1 + 1) * u + min (u - 1) (a.1 + 1)) * a.2
  (top * (512 - b.2) + low * b.2 + 131072) / 262144
theorem skyP_eq (u v s : Nat) (m : List Nat) (c r : Nat) : skyAt u v s m c r = skyP u v s m c r := by
  have ha := btw_second u s c
  have hb := btw_second v s r
  show ((at_ u m (btw u s c).1 (btw v s r).1 * (512 - (btw u s c).2) + at_ u m (between u s c).2.1 (btw v s r).1 * (btw u s c).2) * (512 - (btw v s r).2) + (at_ u m (btw u s c).1 (between v s r).2.1 * (512 - (btw u s c).2) + at_ u m (between u s c).2.1 (between v s r).2.1 * (btw u s c).2) * (btw v s r).2 + 131072) / 262144 =
    ((num m ((btw v s r).1 * u + (btw u s c).1) * (512 - (btw u s c).2) + num m ((btw v s r).1 * u + min (u - 1) ((btw u s c).1 + 1)) * (btw u s c).2) * (512 - (btw v s r).2) + (num m (min (v - 1) ((btw v s r).1 + 1) * u + (btw u s c).1) * (512 - (btw u s c).2) + num m (min (v - 1) ((btw v s r).1 + 1) * u + min (u - 1) ((btw u s c).1 + 1)) * (btw u s c).2) * (btw v s r).2 + 131072) / 262144
  unfold at_
  generalize btw u s c = a at *
  generalize btw v s r = b at *
  generalize (between u s c).2.1 = a2 at *
  generalize (between v s r).2.1 = b2 at *
  rcases ha with ha | ha <;> rcases hb with hb | hb <;> rw [ha, hb] <;> simp only [Nat.mul_zero, Nat.add_zero]
end Sky
namespace Sky
open PySem PySem.Spec PyProof.Rows L2
/-! ### values and heaps -/
/-- a list of naturals, as values -/
def nv (l : List Nat) : List V := (Sh66Neutral.ints l).map V.int
theorem nv_length (l : List Nat) : (nv l).length = l.length := by unfold nv; rw [List.length_map, ints_length]
theorem nv_at {l : List Nat} {i : Nat} (h : i < l.length) : (nv l)[i]? = some (.int ((Sh66.num l i : Nat) : Int)) := by
  unfold nv
  rw [List.getElem?_map, ints_at h]
  rfl
theorem nv_get {l : List Nat} {i : Nat} {x : V} (h : (nv l)[i]? = some x) : i < l.length ∧ x = .int ((Sh66.num l i : Nat) : Int) := by
  have hi : i < l.length := by
    have := (List.getElem?_eq_some_iff.mp h).1
    rw [nv_length] at this
    exact this
  rw [nv_at hi] at h
  exact ⟨hi, (Option.some.inj h).symm⟩
theorem nv_append (l m : List Nat) : nv (l ++ m) = nv l ++ nv m := by unfold nv; rw [ints_append, List.map_append]
theorem nv_map {α : Type} (f : α → Nat) (l : List α) : nv (l.map f) = l.map fun a => V.int ((f a : Nat) : Int) := by
  show ((l.map f).map _).map _ = _
  rw [List.map_map, List.map_map]
  rfl
theorem nv_cons (n : Nat) (l : List Nat) : nv (n :: l) = V.int (n : Int) :: nv l := rfl
theorem at_n {xs : List V} {i : Nat} {v : V} (h : xs[i]? = some v) : atI xs ((i : Nat) : Int) = some v := atI_nat h
theorem same_upd {H : Hp} {p : Addr} {o : HO} (h : H p = none) : Same H (upd H p o) := fun b x e => by
  rw [upd_ne (ne_of_none e h)]
  exact e
/-- an object that was made since is written: what was there before stands -/
theorem same_set {H H1 : Hp} {p : Addr} {o : HO} (s : Same H H1) (h : H p = none) : Same H (upd H1 p o) := fun b x e => by
  rw [upd_ne (ne_of_none e h)]
  exact s b x e
theorem Same.none {H H1 : Hp} {p : Addr} (s : Same H H1) (h : H1 p = none) : H p = none := s.free h
theorem seqT {K : PySem.W.Frag} {H H' : Hp} {a : Addr} {xs : List V} (e : Same H H') (h : SqT K H a xs) : SqT K H' a xs := by
  rcases h with (h | ⟨o, h⟩) | h
  · exact .inl (.inl (e _ _ h))
  · exact .inl (.inr ⟨o, e _ _ h⟩)
  · exact .inr h
theorem line_of {n : Nat} (h : n ≤ 1048576) : n ≤ sizeLine := Nat.le_trans h (by decide)
theorem line_lt {n : Nat} (h : n < 1048576) : n < sizeLine := Nat.lt_of_lt_of_le h (by decide)
theorem one_line : 1 ≤ sizeLine := by decide
theorem two_line : 2 ≤ sizeLine := by decide
/-- the answer's end: a list of whole numbers -/
theorem dw_ans {K : PySem.W.Frag} {H : Hp} {p : Addr} (l : List Int) (hp : H p = some (.lst (l.map V.int))) : Dw K H (.ref p) (PySem.W.WData.list (l.map PySem.W.WData.int)) := .lst (SqL.of hp) (dw_ints l)
theorem of_ints {l : List Int} (h : l.all (PySem.W.Codec.inInt 0 65535) = true) : ∃ m : List Nat, l = Sh66Neutral.ints m :=
  ⟨Sh66Neutral.nats l, (ints_nats fun z hz => by
    have q := List.all_eq_true.mp h z hz
    simp only [PySem.W.Codec.inInt, Bool.and_eq_true, decide_eq_true_eq] at q
    exact q.1).symm⟩
theorem dp_ints {K : PySem.W.Frag} {H : Hp} : ∀ l : List Int, DpAll K H (l.map V.int) (l.map PyData.int)
  | [] => .nil
  | i :: l => .cons (.int i) (dp_ints l)
theorem at_of {xs : List V} {z : Int} {j : Nat} {v : V} (e : z = (j : Int)) (h : xs[j]? = some v) : atI xs z = some v := by
  rw [e]
  exact atI_nat h
theorem nv_filter (p : Nat → Bool) (l : List Nat) : ((List.range l.length).filter fun i => p (Sh66.num l i)).map (fun i => V.int ((Sh66.num l i : Nat) : Int)) = nv (l.filter p) := by
  conv => rhs; rw [← map_num l]
  rw [List.filter_map, nv_map]
  rfl
theorem of_int {i hi : Int} (h : PySem.W.Codec.inInt 0 hi i = true) : ∃ n : Nat, i = (n : Int) := by
  simp only [PySem.W.Codec.inInt, Bool.and_eq_true, decide_eq_true_eq] at h
  exact Int.eq_ofNat_of_zero_le h.1
theorem and2 {a b : Bool} (q : (a && b) = true) : b = true := (Bool.and_eq_true_iff.mp q).2
/-! ### names of the module -/
theorem pe_gi {X : Cx} {x : Str} {i : Int} {pos : Pos} (hg : Gl X x) (h : ∃ t, X.mg x = some (.int i t)) (hd : (x == ("__debug__" : Str)) = false := by decide) : PE X (.Name x pos) (tC (.int i)) := by
  obtain ⟨t, h⟩ := h
  exact pe_glob hg h ⟨t, rfl⟩ hd
/-- a def of the module that keeps a promise -/
def Def (P : Program) (w : World) (K : PySem.W.Frag) (mg : Str → Option Value) (base : Heap) (k : Nat) (x : Str) (ps : List Str) (sp : Sp) : Prop :=
  ∃ f fd, mg x = some (.ref f) ∧ PySem.W.keepIn K (.ref f) = true ∧ L2.Binds K fd ps [] ∧ FnOk P w K mg base CX0 k f fd ps sp
theorem Def.mono {P : Program} {w : World} {K : PySem.W.Frag} {mg : Str → Option Value} {base : Heap} {k j : Nat} {x : Str} {ps : List Str} {sp : Sp} (D : Def P w K mg base k x ps sp) (h : k ≤ j) : Def P w K mg base j x ps sp := by
  obtain ⟨f, fd, a, b, c, d⟩ := D
  exact ⟨f, fd, a, b, c, d.mono h⟩
theorem pe_def {X : Cx} {k : Nat} {ps : List Str} {sp : Sp} {x : Str} {p pos : Pos} {e : Expr} {es : List Expr} {t : TA} (D : Def X.prog X.w X.K X.mg X.base k x ps sp) (hr : Room k X.A) (hg : Gl X x) (ha : PA X (e :: es) t)
    (hdb : (x == ("__debug__" : Str)) = false := by decide) (he : starEach (e :: es) X.env = (false, eval e X.env) :: starEach es X.env := by rfl) (hpl : (backTo pos (starEach es X.env)).any (·.1) = false := by rfl) :
    PE X (.Call (.Name x p) (e :: es) [] pos) (tCall sp [] E0 t) := by
  obtain ⟨f, fd, a, b, c, d⟩ := D
  exact pe_call d hr hg a b c .nil pass0 ha hdb he hpl
/-- a built-in function, a built-in class by its name -/
theorem pe_bi {X : Cx} {id : String} {x : Str} {p pos : Pos} {e : Expr} {es : List Expr} {t : TA} {r : List V → Hp → VK → Prop} (hc : CallR X (.builtin id) r) (hg : Gl X x) (hm : X.mg x = none) (ha : PA X (e :: es) t) (hv : bootBuiltins x = some (.builtin id) := by decide +kernel)
    (hn : x ≠ "__name__" := by decide) (hdb : (x == ("__debug__" : Str)) = false := by decide) (he : starEach (e :: es) X.env = (false, eval e X.env) :: starEach es X.env := by rfl) (hpl : (backTo pos (starEach es X.env)).any (·.1) = false := by rfl) : PE X (.Call (.Name x p) (e :: es) [] pos) (tCB r t) := pe_callB hc hg hm hv ha hn hdb he hpl
/-- list(REFUSED) -/
def RefOk (K : PySem.W.Frag) (mg : Str → Option Value) : Prop := ∃ a, mg "REFUSED" = some (.ref a) ∧ ∀ H, SqL K H a [.int (-2)]
def tRefused : TE := fun _ H Q => ∀ l, H l = none → Q (.ref l) (upd H l (.lst [.int (-2)]))
theorem pe_refused {X : Cx} {p p2 pos : Pos} (hg : Gl X "list") (hg2 : Gl X "REFUSED") (hm : X.mg "list" = none) (h : RefOk X.K X.mg) : PE X (.Call (.Name "list" p) [.Name "REFUSED" p2] [] pos) tRefused := by
  obtain ⟨a, e, q⟩ := h
  have b := pe_callTy (X := X) (p := p) (pos := pos) call_list_of hg hm (by decide +kernel) (pa_cons (pe_glob (v := .ref a) (pos := p2) hg2 e rfl) pa_nil)
  exact ⟨fun pins s σ H Q I hw => b.run pins s σ H Q I ⟨a, _, rfl, .inl (q H), hw⟩⟩
/-! ### the walks of a comprehension -/
section
variable {J : It} {n : Nat} {G : Hp → Prop} {Y : Nat → Hp → V → Hp → Prop}
/-- [f i for .. if keep i], the heap growing -/
theorem lc_sel (w : Walk J n G Y) {g : TG} {tt : TT} {te : TE} {vs : List Nat} {σ : L2.St} {H1 : Hp} {D : Addr} {Qd : Hp → Prop} (f : Nat → V) (keep : Nat → Bool) (hD : H1 D = none) (hz : n ≤ sizeLine) (hG : ∀ H, Same H1 H → G H)
    (hs : ∀ i x H H' (R : V → Hp → Prop) (N : Hp → Prop), i < n → Same H1 H → Y i H x H' → (keep i = true → ∀ H4, Same H H4 → R (f i) H4) → (keep i = false → ∀ H4, Same H H4 → N H4) →
      g x (wipe σ vs) H' fun σ2 H2 => wipe σ2 vs = wipe σ vs ∧ tt σ2 H2 fun b H3 => if b = true then te σ2 H3 R else N H3)
    (hd : ∀ H, Same H1 H → H D = some (.lst (((List.range n).filter keep).map f)) → Qd H) :
    ∃ W : Nat → Nat → Hp → Prop, (∃ m, W 0 m (upd H1 D (.lst []))) ∧ ∀ i m H, W i m H →
      (J.stop i H ∧ Qd H) ∨ (J.go i H ∧ ∃ Nx : Hp → Prop, (∀ H', Nx H' → ∃ m', m' < m ∧ W (i + 1) m' H') ∧ ∀ x H', J.yld i H x H' → g x (wipe σ vs) H' fun σ2 H2 => wipe σ2 vs = wipe σ vs ∧ tt σ2 H2 fun b H3 =>
        if b = true then te σ2 H3 fun y H4 => ∃ acc, H4 D = some (.lst acc) ∧ acc.length < sizeLine ∧ Nx (upd H4 D (.lst (acc ++ [y]))) else Nx H3) := by
  have step : ∀ i, (List.range (i + 1)).filter keep = (List.range i).filter keep ++ (if keep i = true then [i] else []) := fun i => by
    rw [List.range_succ, List.filter_append]
    congr 1
    by_cases h : keep i = true
    · rw [List.filter_cons_of_pos h, if_pos h]; rfl
    · rw [List.filter_cons_of_neg h, if_neg h]; rfl
  have len : ∀ i, (((List.range i).filter keep).map f).length ≤ i := fun i => by
    rw [List.length_map]
    exact Nat.le_trans (List.length_filter_le _ _) (Nat.le_of_eq List.length_range)
  refine lc_it w (fun i H => Same H1 H ∧ H D = some (.lst (((List.range i).filter keep).map f))) ⟨same_upd hD, upd_same⟩ (fun i H _ p => hG H p.1) (fun i x H H' hi p y => ?_) fun H p => hd H p.1 p.2
  refine hs i x H H' _ _ hi p.1 y (fun hk H4 s4 => ?_) fun hk H4 s4 => ?_
  · refine ⟨_, s4 _ _ p.2, Nat.lt_of_le_of_lt (len i) (Nat.lt_of_lt_of_le hi hz), same_set (p.1.trans s4) hD, ?_⟩
    rw [upd_same, step i, if_pos hk, List.map_append]
    rfl
  · refine ⟨p.1.trans s4, ?_⟩
    rw [s4 _ _ p.2, step i, if_neg (by rw [hk]; decide), List.append_nil]
/-- [f i for ..] -/
theorem lc_map (w : Walk J n G Y) {g : TG} {te : TE} {vs : List Nat} {σ : L2.St} {H1 : Hp} {D : Addr} {Qd : Hp → Prop} (f : Nat → V) (hD : H1 D = none) (hz : n ≤ sizeLine) (hG : ∀ H, Same H1 H → G H)
    (hs : ∀ i x H H' (R : V → Hp → Prop), i < n → Same H1 H → Y i H x H' → (∀ H4, Same H H4 → R (f i) H4) → g x (wipe σ vs) H' fun σ2 H2 => wipe σ2 vs = wipe σ vs ∧ te σ2 H2 R)
    (hd : ∀ H, Same H1 H → H D = some (.lst ((List.range n).map f)) → Qd H) :
    ∃ W : Nat → Nat → Hp → Prop, (∃ m, W 0 m (upd H1 D (.lst []))) ∧ ∀ i m H, W i m H →
      (J.stop i H ∧ Qd H) ∨ (J.go i H ∧ ∃ Nx : Hp → Prop, (∀ H', Nx H' → ∃ m', m' < m ∧ W (i + 1) m' H') ∧ ∀ x H', J.yld i H x H' → g x (wipe σ vs) H' fun σ2 H2 => wipe σ2 vs = wipe σ vs ∧ tYes σ2 H2 fun b H3 =>
        if b = true then te σ2 H3 fun y H4 => ∃ acc, H4 D = some (.lst acc) ∧ acc.length < sizeLine ∧ Nx (upd H4 D (.lst (acc ++ [y]))) else Nx H3) :=
  lc_sel w f (fun _ => true) hD hz hG (fun i x H H' R N hi s y h1 _ => hs i x H H' R hi s y (h1 rfl)) fun H s e => hd H s (by rw [e, List.filter_eq_self.mpr fun _ _ => rfl])
end
end Sky
namespace Sky
open PySem PySem.Spec PyProof.Rows L2
def topS (i : Nat) : Stmt := PySem.Challenge.pw_skyabove_s03_sk_sky.main.body.getD i (.Pass ⟨0, 0, 0, 0⟩)
abbrev s_cells_along : Stmt := topS 1
abbrev s_between : Stmt := topS 7
abbrev s_cells_at : Stmt := topS 8
abbrev s_sky_at : Stmt := topS 9
abbrev s_standings : Stmt := topS 10
abbrev s_spread : Stmt := topS 11
abbrev s_is_side : Stmt := topS 15
abbrev s_is_frame : Stmt := topS 16
abbrev s_sk_sky : Stmt := topS 17
section
variable {P : Program} {w : World} {K : PySem.W.Frag} {mg : Str → Option Value} {base : Heap}
/-! ### cells_along(size, s) -/
def spCellsAlong : Sp := fun vs H Q _ => ∃ n s : Nat, vs = [.int n, .int s] ∧ 1 ≤ s ∧ s ≤ 64 ∧ Q (.int ((Sh66.cells n s : Nat) : Int)) H
theorem sc_cells_along : FnScope ["size", "s"] ["size", "s"] (defScope s_cells_along) := ⟨rfl, rfl, rfl, by decide +kernel, rfl, by decide +kernel, by decide +kernel⟩
theorem ok_cells_along {f : Addr} {fd : FuncData} (F : Fun K "cells_along" "cells_along" s_cells_along f fd) : FnOk P w K mg base CX0 1 f fd ["size", "s"] spCellsAlong := by
  refine F.ok sc_cells_along (fun vs H Q E h => ?_) (fun cdv A outer s H vs Q E hr h => ?_)
  · obtain ⟨_, _, rfl, _⟩ := h
    rfl
  · obtain ⟨n, s', rfl, hs, hs2, k⟩ := h
    refine ⟨_, pss_one (ps_ret (pe_op op_fdiv (pe_op op_sub (pe_op op_add (pv 0) (pv 1)) pe_int) (pv 1))), ?_⟩
    refine ⟨_, rfl, _, rfl, _, _, rfl, rfl, _, _, rfl, rfl, _, rfl, _, _, rfl, rfl, ⟨by omega, by omega⟩, ?_⟩
    have e : ((n : Int) + (s' : Int) - 1) / (s' : Int) = ((Sh66.cells n s' : Nat) : Int) := by
      unfold Sh66.cells
      rw [Int.natCast_ediv, show (n : Int) + (s' : Int) - 1 = ((n + s' - 1 : Nat) : Int) by omega]
    rw [← e] at k
    exact k
/-! ### between(n, s, p): slots n, s, p, q, cell -/
def spBetween : Sp := fun vs H Q _ => ∃ n s p : Nat, vs = [.int n, .int s, .int p] ∧ 1 ≤ n ∧ n ≤ 65536 ∧ 1 ≤ s ∧ s ≤ 65536 ∧ p ≤ 65536 ∧
  ∀ H' t, Same H H' → H t = none → H' t = some (.tup [.int ((btw n s p).1 : Nat), .int ((btw n s p).2 : Nat)]) → Q (.ref t) H'
theorem sc_between : FnScope ["n", "s", "p", "q", "cell"] ["n", "s", "p"] (defScope s_between) := ⟨rfl, rfl, rfl, by decide +kernel, rfl, by decide +kernel, by decide +kernel⟩
theorem ok_between {f : Addr} {fd : FuncData} (F : Fun K "between" "between" s_between f fd) (c_PART : ∃ t, mg "PART" = some (.int 256 t)) (c_PARTS : ∃ t, mg "PARTS" = some (.int 512 t)) :
    FnOk P w K mg base CX0 1 f fd ["n", "s", "p"] spBetween := by
  refine F.ok sc_between (fun vs H Q E h => ?_) (fun cdv A outer s H vs Q E hr h => ?_)
  · obtain ⟨_, _, _, rfl, _⟩ := h
    rfl
  · obtain ⟨n, s', p, rfl, hn, hn2, hs, hs2, hp, k⟩ := h
    refine ⟨_, pss_cons (ps_set (i := 3) sc_between.nd rfl (.inl rfl) (pe_op op_sub (pe_op op_mul (pe_gi rfl c_PART) (pe_op op_add (pe_op op_mul pe_int (pv 2)) pe_int)) (pe_op op_mul (pe_gi rfl c_PART) (pv 1))))
      (pss_cons (ps_if (pt_cmpR op_le (pv 3) pe_int (nomark _)) (pss_one (ps_ret (pe_tup (pa_cons pe_int (pa_cons pe_int pa_nil))))) pss_nil)
      (pss_cons (ps_set (i := 4) sc_between.nd rfl (.inl rfl) (pe_op op_fdiv (pv 3) (pe_op op_mul (pe_gi rfl c_PARTS) (pv 1))))
      (pss_cons (ps_if (pt_cmpR op_ge (pe_op op_add (pv 4) pe_int) (pv 0) (nomark _)) (pss_one (ps_ret (pe_tup (pa_cons (pe_op op_sub (pv 0) pe_int) (pa_cons pe_int pa_nil))))) pss_nil)
      (pss_one (ps_ret (pe_tup (pa_cons (pv 4) (pa_cons (pe_op op_fdiv (pe_op op_mod (pv 3) (pe_op op_mul (pe_gi rfl c_PARTS) (pv 1))) (pv 1)) pa_nil)))))))), ?_⟩
    -- q
    refine ⟨_, rfl, _, _, rfl, rfl, .inl ⟨by decide, by decide⟩, _, _, rfl, rfl, _, _, rfl, rfl, .inl ⟨by decide, by decide⟩, _, rfl, _, _, rfl, rfl, .inl ⟨by decide, by decide⟩, _, _, rfl, rfl, ?_⟩
    -- if q <= 0
    refine ⟨_, rfl, _, _, rfl, rfl, _, rfl, ite2 (fun c => ?_) (fun c => ?_)⟩
    · have c := of_decide_eq_true c
      refine ⟨two_line, fun t ht => ?_⟩
      refine k _ t (same_upd ht) ht ?_
      rw [upd_same, btw_le rfl c]
      rfl
    · have c : ¬ (256 : Int) * (2 * (p : Int) + 1) - 256 * (s' : Int) ≤ 0 := fun z => c (decide_eq_true z)
      -- cell
      refine ⟨_, rfl, _, rfl, _, _, rfl, rfl, .inl ⟨by decide, by decide⟩, _, _, rfl, rfl, ⟨by omega, by omega⟩, ?_⟩
      -- if cell + 1 >= n
      refine ⟨_, rfl, _, _, rfl, rfl, _, rfl, _, _, rfl, rfl, _, rfl, ite2 (fun c2 => ?_) (fun c2 => ?_)⟩
      · have c2 := of_decide_eq_true c2
        refine ⟨_, rfl, _, _, rfl, rfl, two_line, fun t ht => ?_⟩
        refine k _ t (same_upd ht) ht ?_
        rw [upd_same, btw_last rfl c c2, show ((n - 1 : Nat) : Int) = (n : Int) - 1 by omega]
        rfl
      · have c2 : ¬ (n : Int) ≤ (256 * (2 * (p : Int) + 1) - 256 * (s' : Int)) / (512 * (s' : Int)) + 1 := fun z => c2 (decide_eq_true z)
        refine ⟨_, rfl, _, rfl, _, rfl, _, _, rfl, rfl, .inl ⟨by decide, by decide⟩, _, _, rfl, rfl, by omega, _, rfl, _, _, rfl, rfl, ⟨by omega, by omega⟩, two_line, fun t ht => ?_⟩
        obtain ⟨e1, e2⟩ := btw_mid rfl c c2
        refine k _ t (same_upd ht) ht ?_
        rw [upd_same, e1, e2]
/-! ### cells_at(n, standing) -/
def spCellsAt (K : PySem.W.Frag) : Sp := fun vs H Q _ => ∃ (n a f : Nat) (t : Addr), vs = [.int n, .ref t] ∧ H t = some (.tup [.int a, .int f]) ∧ 1 ≤ n ∧ ∀ H' p, Same H H' → H p = none → H' p = some (.tup [.int a, .int ((min (n - 1) (a + 1) : Nat) : Int)]) → Q (.ref p) H'
theorem sc_cells_at : FnScope ["n", "standing"] ["n", "standing"] (defScope s_cells_at) := ⟨rfl, rfl, rfl, by decide +kernel, rfl, by decide +kernel, by decide +kernel⟩
theorem ok_cells_at {f : Addr} {fd : FuncData} (F : Fun K "cells_at" "cells_at" s_cells_at f fd) (b_min : mg "min" = none) : FnOk P w K mg base CX0 1 f fd ["n", "standing"] (spCellsAt K) := by
  refine F.ok sc_cells_at (fun vs H Q E h => ?_) (fun cdv A outer s H vs Q E hr h => ?_)
  · obtain ⟨_, _, _, _, rfl, _⟩ := h
    rfl
  · obtain ⟨n, a, f', t, rfl, ht, hn, k⟩ := h
    refine ⟨_, pss_one (ps_ret (pe_tup (pa_cons (pe_ix ix_tup (pv 1) pe_int (fun _ _ => rfl)) (pa_cons (pe_bi (call_min2 rfl) rfl b_min (pa_cons (pe_op op_sub (pv 0) pe_int) (pa_cons (pe_op op_add (pe_ix ix_tup (pv 1) pe_int (fun _ _ => rfl)) pe_int) pa_nil))) pa_nil)))), ?_⟩
    refine ⟨_, rfl, t, _, 0, _, rfl, rfl, SqT.of ht, at_n (i := 0) rfl, _, rfl, _, _, rfl, rfl, _, rfl, t, _, 0, _, rfl, rfl, SqT.of ht, at_n (i := 0) rfl, _, _, rfl, rfl, _, _, rfl, two_line, fun p np => k _ p (same_upd np) np ?_⟩
    have e : (if (a : Int) + 1 < (n : Int) - 1 then (a : Int) + 1 else (n : Int) - 1) = ((min (n - 1) (a + 1) : Nat) : Int) := by split <;> omega
    rw [upd_same, ← e]
/-! ### sky_at(mesh, across, along, below): slots mesh, across, along, below, left, right, above, under, f, g, upper, lower -/
/-- what stands for a place along a side: the two cells, how far beyond the first one's middle -/
def Stand (H : Hp) (n s p : Nat) (v : V) : Prop := ∃ t u : Addr, v = .ref t ∧ H t = some (.tup [.ref u, .int ((btw n s p).2 : Nat)]) ∧ H u = some (.tup [.int ((btw n s p).1 : Nat), .int ((min (n - 1) ((btw n s p).1 + 1) : Nat) : Int)])
theorem Stand.same {H H' : Hp} {n s p : Nat} {v : V} (e : Same H H') (x : Stand H n s p v) : Stand H' n s p v := by
  obtain ⟨t, u, h1, h2, h3⟩ := x
  exact ⟨t, u, h1, e _ _ h2, e _ _ h3⟩
theorem Stand.write {H : Hp} {n s p : Nat} {v : V} {o : Addr} {xs ys : List V} (x : Stand H n s p v) (ho : H o = some (.lst xs)) : Stand (upd H o (.lst ys)) n s p v := by
  obtain ⟨t, u, h1, h2, h3⟩ := x
  exact ⟨t, u, h1, by rw [upd_ne (ne_of h2 ho (by intro z; cases z))]; exact h2, by rw [upd_ne (ne_of h3 ho (by intro z; cases z))]; exact h3⟩
def spSkyAt (K : PySem.W.Frag) : Sp := fun vs H Q _ => ∃ (a : Addr) (m : List Nat) (u v s c r : Nat) (x y : V), vs = [.ref a, .int u, x, y] ∧ SqL K H a (nv m) ∧ Stand H u s c x ∧ Stand H v s r y ∧ 1 ≤ u ∧ u ≤ 64 ∧ 1 ≤ v ∧ 1 ≤ s ∧ m.length = u * v ∧ Q (.int ((skyP u v s m c r : Nat) : Int)) H
theorem sc_sky_at : FnScope ["mesh", "across", "along", "below", "left", "right", "above", "under", "f", "g", "upper", "lower"] ["mesh", "across", "along", "below"] (defScope s_sky_at) := ⟨rfl, rfl, rfl, by decide +kernel, rfl, by decide +kernel, by decide +kernel⟩
theorem sky_int1 (t1 t2 l1 l2 f e g d k m : Nat) : (((t1 : Int) * (e : Int) + (t2 : Int) * (f : Int)) * (d : Int) + ((l1 : Int) * (e : Int) + (l2 : Int) * (f : Int)) * (g : Int) + (k : Int)) / (m : Int) = ((((t1 * e + t2 * f) * d + (l1 * e + l2 * f) * g + k) / m : Nat) : Int) := by
  simp only [Int.natCast_add, Int.natCast_mul, Int.natCast_ediv]
theorem sky_int (t1 t2 l1 l2 f g : Nat) (hf : f < 512) (hg : g < 512) : (((t1 : Int) * (512 - (f : Int)) + (t2 : Int) * (f : Int)) * (512 - (g : Int)) + ((l1 : Int) * (512 - (f : Int)) + (l2 : Int) * (f : Int)) * (g : Int) + 131072) / 262144 =
    ((((t1 * (512 - f) + t2 * f) * (512 - g) + (l1 * (512 - f) + l2 * f) * g + 131072) / 262144 : Nat) : Int) := by
  rw [show (512 : Int) - (f : Int) = ((512 - f : Nat) : Int) by omega, show (512 : Int) - (g : Int) = ((512 - g : Nat) : Int) by omega]
  exact sky_int1 t1 t2 l1 l2 f (512 - f) g (512 - g) 131072 262144
theorem ok_sky_at {f : Addr} {fd : FuncData} (F : Fun K "sky_at" "sky_at" s_sky_at f fd) (c_PARTS : ∃ t, mg "PARTS" = some (.int 512 t)) (c_HALF : ∃ t, mg "HALF_OF_ALL" = some (.int 131072 t)) (c_ALL : ∃ t, mg "ALL_PARTS" = some (.int 262144 t)) :
    FnOk P w K mg base CX0 1 f fd ["mesh", "across", "along", "below"] (spSkyAt K) := by
  refine F.ok sc_sky_at (fun vs H Q E h => ?_) (fun cdv A outer s H vs Q E hr h => ?_)
  · obtain ⟨_, _, _, _, _, _, _, _, _, rfl, _⟩ := h
    rfl
  · obtain ⟨a, m, u, v, s', c, r, x, y, rfl, hm, ⟨t1, u1, rfl, ht1, hu1⟩, ⟨t2, u2, rfl, ht2, hu2⟩, hu, hu64, hv, hs, hl, k⟩ := h
    refine ⟨_, pss_cons (ps_asg (pe_ix ix_tup (pv 2) pe_int (fun _ _ => rfl)) (pg_tup rfl (pgs_cons (pg_name (i := 4) sc_sky_at.nd rfl (.inl rfl)) (pgs_cons (pg_name (i := 5) sc_sky_at.nd rfl (.inl rfl)) pgs_nil))))
      (pss_cons (ps_asg (pe_ix ix_tup (pv 3) pe_int (fun _ _ => rfl)) (pg_tup rfl (pgs_cons (pg_name (i := 6) sc_sky_at.nd rfl (.inl rfl)) (pgs_cons (pg_name (i := 7) sc_sky_at.nd rfl (.inl rfl)) pgs_nil))))
      (pss_cons (ps_par (i := 8) (j := 9) rfl sc_sky_at.nd rfl rfl (by decide) rfl rfl (pa_cons (pe_ix ix_tup (pv 2) pe_int (fun _ _ => rfl)) (pa_cons (pe_ix ix_tup (pv 3) pe_int (fun _ _ => rfl)) pa_nil)) (by rfl))
      (pss_cons (ps_set (i := 10) sc_sky_at.nd rfl (.inl rfl) (pe_op op_add (pe_op op_mul (pe_ix ix_list (pv 0) (pe_op op_add (pe_op op_mul (pv 6) (pv 1)) (pv 4)) (fun _ _ => rfl)) (pe_op op_sub (pe_gi rfl c_PARTS) (pv 8))) (pe_op op_mul (pe_ix ix_list (pv 0) (pe_op op_add (pe_op op_mul (pv 6) (pv 1)) (pv 5)) (fun _ _ => rfl)) (pv 8))))
      (pss_cons (ps_set (i := 11) sc_sky_at.nd rfl (.inl rfl) (pe_op op_add (pe_op op_mul (pe_ix ix_list (pv 0) (pe_op op_add (pe_op op_mul (pv 7) (pv 1)) (pv 4)) (fun _ _ => rfl)) (pe_op op_sub (pe_gi rfl c_PARTS) (pv 8))) (pe_op op_mul (pe_ix ix_list (pv 0) (pe_op op_add (pe_op op_mul (pv 7) (pv 1)) (pv 5)) (fun _ _ => rfl)) (pv 8))))
      (pss_one (ps_ret (pe_op op_fdiv (pe_op op_add (pe_op op_add (pe_op op_mul (pv 10) (pe_op op_sub (pe_gi rfl c_PARTS) (pv 9))) (pe_op op_mul (pv 11) (pv 9))) (pe_gi rfl c_HALF)) (pe_gi rfl c_ALL)))))))), ?_⟩
    have la : (btw u s' c).1 < u := btw_lt hu
    have lb : (btw v s' r).1 < v := btw_lt hv
    have fa : (btw u s' c).2 < 512 := btw_f hs
    have fb : (btw v s' r).2 < 512 := btw_f hs
    have lr : min (u - 1) ((btw u s' c).1 + 1) < u := by omega
    have lu : min (v - 1) ((btw v s' r).1 + 1) < v := by omega
    have key : skyP u v s' m c r = ((Sh66.num m ((btw v s' r).1 * u + (btw u s' c).1) * (512 - (btw u s' c).2) + Sh66.num m ((btw v s' r).1 * u + min (u - 1) ((btw u s' c).1 + 1)) * (btw u s' c).2) * (512 - (btw v s' r).2) + (Sh66.num m (min (v - 1) ((btw v s' r).1 + 1) * u + (btw u s' c).1) * (512 - (btw u s' c).2) + Sh66.num m (min (v - 1) ((btw v s' r).1 + 1) * u + min (u - 1) ((btw u s' c).1 + 1)) * (btw u s' c).2) * (btw v s' r).2 + 131072) / 262144 := rfl
    rw [key, ← sky_int _ _ _ _ _ _ fa fb] at k
    have ix : ∀ i j : Nat, i < v → j < u → atI (nv m) ((i : Int) * (u : Int) + (j : Int)) = some (.int ((Sh66.num m (i * u + j) : Nat) : Int)) := fun i j hi hj => by
      rw [show (i : Int) * (u : Int) + (j : Int) = ((i * u + j : Nat) : Int) by rw [Int.natCast_add, Int.natCast_mul]]
      exact at_n (nv_at (by rw [hl]; exact place_lt hi hj))
    generalize (btw u s' c).1 = al at *
    generalize (btw v s' r).1 = bl at *
    generalize (btw u s' c).2 = fl at *
    generalize (btw v s' r).2 = gl at *
    generalize min (u - 1) (al + 1) = ar at *
    generalize min (v - 1) (bl + 1) = br at *
    -- left, right = along[0]; above, under = below[0]
    refine ⟨_, rfl, t1, _, 0, _, rfl, rfl, SqT.of ht1, at_n (i := 0) rfl, u1, _, rfl, SqT.of hu1, rfl, _, _, rfl, _, _, rfl, rfl, ?_⟩
    refine ⟨_, rfl, t2, _, 0, _, rfl, rfl, SqT.of ht2, at_n (i := 0) rfl, u2, _, rfl, SqT.of hu2, rfl, _, _, rfl, _, _, rfl, rfl, ?_⟩
    -- f, g
    refine ⟨_, rfl, t1, _, 1, _, rfl, rfl, SqT.of ht1, at_n (i := 1) rfl, _, rfl, t2, _, 1, _, rfl, rfl, SqT.of ht2, at_n (i := 1) rfl, _, _, rfl, ?_⟩
    -- upper
    refine ⟨_, rfl, _, rfl, _, rfl, _, _, rfl, rfl, .inr ⟨by omega, by omega⟩, _, rfl, _, _, rfl, rfl, a, _, _, _, rfl, rfl, hm, ix _ _ lb la, _, rfl, _, _, rfl, rfl, _, _, rfl, rfl, .inr ⟨by omega, by omega⟩,
      _, rfl, _, rfl, _, rfl, _, _, rfl, rfl, .inr ⟨by omega, by omega⟩, _, rfl, _, _, rfl, rfl, a, _, _, _, rfl, rfl, hm, ix _ _ lb lr, _, rfl, _, _, rfl, rfl, .inr ⟨by omega, by omega⟩, _, _, rfl, rfl, ?_⟩
    -- lower
    refine ⟨_, rfl, _, rfl, _, rfl, _, _, rfl, rfl, .inr ⟨by omega, by omega⟩, _, rfl, _, _, rfl, rfl, a, _, _, _, rfl, rfl, hm, ix _ _ lu la, _, rfl, _, _, rfl, rfl, _, _, rfl, rfl, .inr ⟨by omega, by omega⟩,
      _, rfl, _, rfl, _, rfl, _, _, rfl, rfl, .inr ⟨by omega, by omega⟩, _, rfl, _, _, rfl, rfl, a, _, _, _, rfl, rfl, hm, ix _ _ lu lr, _, rfl, _, _, rfl, rfl, .inr ⟨by omega, by omega⟩, _, _, rfl, rfl, ?_⟩
    exact ⟨_, rfl, _, rfl, _, _, rfl, rfl, _, _, rfl, rfl, .inr ⟨by omega, by omega⟩, _, rfl, _, rfl, _, _, rfl, rfl, .inr ⟨by omega, by omega⟩, _, _, rfl, rfl, _, _, rfl, rfl, _, _, rfl, rfl, ⟨by decide, by decide⟩, k⟩
/-! ### standings(size, s): slots size, s, n, found, p, standing -/
def Stands (H : Hp) (n s size : Nat) (ts : List V) : Prop := ts.length = size ∧ ∀ i v, ts[i]? = some v → Stand H n s i v
theorem Stands.same {H H' : Hp} {n s size : Nat} {ts : List V} (e : Same H H') (x : Stands H n s size ts) : Stands H' n s size ts := ⟨x.1, fun i v h => (x.2 i v h).same e⟩
theorem Stands.more {H H' : Hp} {n s size : Nat} {ts : List V} {v : V} (e : Same H H') (x : Stands H n s size ts) (y : Stand H' n s size v) : Stands H' n s (size + 1) (ts ++ [v]) := by
  refine ⟨by rw [List.length_append, x.1]; rfl, fun i u h => ?_⟩
  by_cases c : i < size
  · rw [List.getElem?_append_left (by rw [x.1]; exact c)] at h
    exact (x.2 i u h).same e
  · rw [List.getElem?_append_right (by rw [x.1]; omega), x.1] at h
    by_cases c2 : i = size
    · subst c2
      rw [Nat.sub_self] at h
      have : v = u := Option.some.inj h
      subst this
      exact y
    · rw [List.getElem?_eq_none (show [v].length ≤ i - size by simp only [List.length_singleton]; omega)] at h
      cases h
theorem Stands.write {H : Hp} {n s size : Nat} {ts : List V} {o : Addr} {xs ys : List V} (x : Stands H n s size ts) (ho : H o = some (.lst xs)) : Stands (upd H o (.lst ys)) n s size ts := ⟨x.1, fun i v h => (x.2 i v h).write ho⟩
def spStandings : Sp := fun vs H Q _ => ∃ n s : Nat, vs = [.int n, .int s] ∧ 1 ≤ n ∧ n ≤ 64 ∧ 1 ≤ s ∧ s ≤ 64 ∧ ∀ H' p ts, Same H H' → H p = none → H' p = some (.lst ts) → Stands H' (Sh66.cells n s) s n ts → Q (.ref p) H'
theorem sc_standings : FnScope ["size", "s", "n", "found", "p", "standing"] ["size", "s"] (defScope s_standings) := ⟨rfl, rfl, rfl, by decide +kernel, rfl, by decide +kernel, by decide +kernel⟩
theorem ok_standings {f : Addr} {fd : FuncData} (F : Fun K "standings" "standings" s_standings f fd) (D_cells_along : Def P w K mg base 1 "cells_along" ["size", "s"] spCellsAlong) (D_between : Def P w K mg base 1 "between" ["n", "s", "p"] spBetween) (D_cells_at : Def P w K mg base 1 "cells_at" ["n", "standing"] (spCellsAt K)) (b_range : mg "range" = none) :
    FnOk P w K mg base CX0 2 f fd ["size", "s"] spStandings := by
  refine F.ok sc_standings (fun vs H Q E h => ?_) (fun cdv A outer s H vs Q E hr h => ?_)
  · obtain ⟨_, _, rfl, _⟩ := h
    rfl
  · obtain ⟨z, s', rfl, hz, hz2, hs, hs2, k⟩ := h
    refine ⟨_, pss_cons (ps_set (i := 2) sc_standings.nd rfl (.inl rfl) (pe_def D_cells_along hr rfl (pa_cons (pv 0) (pa_cons (pv 1) pa_nil))))
      (pss_cons (ps_set (i := 3) sc_standings.nd rfl (.inl rfl) (pe_lst pa_nil))
      (pss_cons (ps_for PassesOwn.never rfl (pi_range1 rfl b_range (pa_cons (pv 0) pa_nil)) (pg_name (i := 4) sc_standings.nd rfl (.inl rfl))
        (pss_cons (ps_set (i := 5) sc_standings.nd rfl (.inl rfl) (pe_def D_between hr rfl (pa_cons (pv 2) (pa_cons (pv 1) (pa_cons (pv 4) pa_nil)))))
        (pss_one (ps_expr (pe_bm PySem.F.plainAttrs_list PySem.F.slot_list_append PySem.F.type_list_append mt_append (pv 3) (pa_cons (pe_tup (pa_cons (pe_def D_cells_at hr rfl (pa_cons (pv 2) (pa_cons (pv 5) pa_nil))) (pa_cons (pe_ix ix_tup (pv 5) pe_int (fun _ _ => rfl)) pa_nil))) pa_nil))))))
      (pss_one (ps_ret (pv 3))))), ?_⟩
    obtain ⟨hn1, hn2⟩ := cells_le (n := z) hs hz
    refine ⟨_, rfl, _, rfl, z, s', rfl, hs, hs2, ?_⟩
    generalize Sh66.cells z s' = n at *
    refine ⟨Nat.zero_le _, fun o no => ?_⟩
    refine ⟨_, rfl, (z : Int), rfl, by omega, by omega, for_it (walk_range (lo := 0) (n := ((z : Nat) : Int).toNat)) (fun i σ H' => ∃ v4 v5 ts, σ = [some (.int z), some (.int s'), some (.int n), some (.ref o), v4, v5] ∧ Same H H' ∧ H' o = some (.lst ts) ∧ Stands H' n s' i ts)
      ⟨none, none, [], rfl, same_upd no, upd_same, rfl, fun i v h => by simp at h⟩ (fun _ _ _ _ _ => trivial) ?_ ?_⟩
    · rintro i x σ H1 H2 hi ⟨v4, v5, ts, rfl, s1, eo, st⟩ ⟨rfl, rfl⟩
      rw [Int.toNat_natCast] at hi
      refine ⟨_, rfl, _, rfl, _, rfl, n, s', i, ?_, hn1, by omega, hs, by omega, by omega, fun H3 t s3 nt et => ?_⟩
      · show [V.int (n : Int), V.int (s' : Int), V.int (0 + (i : Int))] = _
        rw [Int.zero_add]
      · refine ⟨.ref o, rfl, .inl ⟨rfl, _, .inl (.inl (s3 _ _ eo))⟩, _, rfl, _, rfl, n, _, _, t, rfl, et, hn1, fun H4 u s4 nu eu => ?_⟩
        refine ⟨_, rfl, t, _, 1, _, rfl, rfl, SqT.of (s4 _ _ et), at_n (i := 1) rfl, two_line, fun q nq => ?_⟩
        have s5 := same_upd (o := .tup [.ref u, .int ((btw n s' i).2 : Nat)]) nq
        have eo5 := s5 _ _ (s4 _ _ (s3 _ _ eo))
        refine ⟨o, ts, .ref q, rfl, rfl, eo5, line_lt (by rw [st.1]; omega), ?_⟩
        refine ⟨_, _, ts ++ [.ref q], rfl, same_set (((s1.trans s3).trans s4).trans s5) no, upd_same, ?_⟩
        have nu5 := s5 _ _ eu
        have all5 := Stands.more (v := .ref q) (((s3.trans s4).trans s5)) st ⟨q, u, rfl, upd_same, nu5⟩
        exact all5.write eo5
    · rintro σ H1 ⟨v4, v5, ts, rfl, s1, eo, st⟩
      rw [Int.toNat_natCast] at st
      exact ⟨_, rfl, k _ o ts s1 no eo st⟩
/-! ### spread(mesh, w, h, s): slots mesh, w, h, s, across, along, found, below, one -/
def spSpread (K : PySem.W.Frag) : Sp := fun vs H Q _ => ∃ (a : Addr) (m : List Nat) (w h s : Nat), vs = [.ref a, .int w, .int h, .int s] ∧ SqL K H a (nv m) ∧ 1 ≤ w ∧ w ≤ 64 ∧ 1 ≤ h ∧ h ≤ 64 ∧ 1 ≤ s ∧ s ≤ 64 ∧ m.length = Sh66.cells w s * Sh66.cells h s ∧
  ∀ H' p, Same H H' → H p = none → H' p = some (.lst (nv (Sh66.sky (Sh66.cells w s) (Sh66.cells h s) s w h m))) → Q (.ref p) H'
theorem sc_spread : FnScope ["mesh", "w", "h", "s", "across", "along", "found", "below", "one"] ["mesh", "w", "h", "s"] (defScope s_spread) := ⟨rfl, rfl, rfl, by decide +kernel, rfl, by decide +kernel, by decide +kernel⟩
theorem grid_len (w : Nat) (g : Nat → Nat → Nat) (i : Nat) : ((List.range i).flatMap fun r => (List.range w).map fun c => g c r).length = i * w := by
  induction i with
  | zero => simp
  | succ i ih =>
    rw [List.range_succ, List.flatMap_append, List.length_append, ih, List.flatMap_cons, List.flatMap_nil, List.append_nil, List.length_map, List.length_range, Nat.succ_mul]
theorem ok_spread {f : Addr} {fd : FuncData} (F : Fun K "spread" "spread" s_spread f fd) (D_cells_along : Def P w K mg base 1 "cells_along" ["size", "s"] spCellsAlong) (D_standings : Def P w K mg base 2 "standings" ["size", "s"] spStandings) (D_sky_at : Def P w K mg base 1 "sky_at" ["mesh", "across", "along", "below"] (spSkyAt K)) :
    FnOk P w K mg base CX0 3 f fd ["mesh", "w", "h", "s"] (spSpread K) := by
  refine F.ok sc_spread (fun vs H Q E h => ?_) (fun cdv A outer s H vs Q E hr h => ?_)
  · obtain ⟨_, _, _, _, _, rfl, _⟩ := h
    rfl
  · obtain ⟨a, m, w, h, s', rfl, hm, hw, hw2, hh, hh2, hs, hs2, hl, k⟩ := h
    have hr1 := hr.mono (show 1 ≤ 2 by decide)
    refine ⟨_, pss_cons (ps_set (i := 4) sc_spread.nd rfl (.inr rfl) (pe_def D_cells_along hr1 rfl (pa_cons (pv 1) (pa_cons (pv 3) pa_nil))))
      (pss_cons (ps_set (i := 5) sc_spread.nd rfl (.inl rfl) (pe_def D_standings hr rfl (pa_cons (pv 1) (pa_cons (pv 3) pa_nil))))
      (pss_cons (ps_set (i := 6) sc_spread.nd rfl (.inl rfl) (pe_lst pa_nil))
      (pss_cons (ps_for PassesOwn.never rfl (pi_list (pe_def D_standings hr rfl (pa_cons (pv 2) (pa_cons (pv 3) pa_nil)))) (pg_name (i := 7) sc_spread.nd rfl (.inr rfl))
        (pss_one (ps_expr (pe_bm PySem.F.plainAttrs_list PySem.F.slot_list_extend PySem.F.type_list_extend mt_extend (pv 6) (pa_cons
          (pe_lc (own := [("one", 8)]) (g := gName 8) rfl sc_spread.nd (pi_list (pv 5)) (blkOk_by (N := ["mesh", "w", "h", "s", "across", "along", "found", "below", "one"]) (sc := defScope s_spread) (by decide +kernel))
            (fun _ _ _ _ _ => pg_name (i := 8) sc_spread.nd rfl (.inl rfl)) (fun _ _ _ _ _ => pts_nil) (fun _ _ _ _ _ => pe_def D_sky_at hr1 rfl (pa_cons (pv 0) (pa_cons (pv 4) (pa_cons (pv 8) (pa_cons (pv 7) pa_nil)))))) pa_nil)))))
      (pss_one (ps_ret (pv 6)))))), ?_⟩
    obtain ⟨hu1, hu2⟩ := cells_le (n := w) hs hw
    obtain ⟨hv1, hv2⟩ := cells_le (n := h) hs hh
    have hsky : Sh66.sky (Sh66.cells w s') (Sh66.cells h s') s' w h m = (List.range h).flatMap fun r => (List.range w).map fun c => skyP (Sh66.cells w s') (Sh66.cells h s') s' m c r :=
      flatMap_congr fun r _ => List.map_congr_left fun c _ => skyP_eq _ _ _ _ _ _
    rw [hsky] at k
    refine ⟨_, rfl, _, rfl, w, s', rfl, hs, hs2, ?_⟩
    refine ⟨_, rfl, _, rfl, w, s', rfl, hw, hw2, hs, hs2, fun H1 p1 ts s1 np1 ep1 st1 => ?_⟩
    refine ⟨Nat.zero_le _, fun o no => ?_⟩
    have s2 := same_upd (o := .lst []) no
    refine ⟨_, rfl, _, rfl, h, s', rfl, hh, hh2, hs, hs2, fun H3 p3 rs s3 np3 ep3 st3 => ?_⟩
    have no1 : H o = none := s1.free no
    have hm3 : SqL K H3 a (nv m) := ((s1.trans s2).trans s3).seq hm
    have tp3 : H3 p1 = some (.lst ts) := s3 _ _ (s2 _ _ ep1)
    have to3 : H3 o = some (.lst []) := s3 _ _ upd_same
    have tt3 : Stands H3 (Sh66.cells w s') s' w ts := (st1.same s2).same s3
    have ne1 : p1 ≠ o := ne_of_none ep1 no
    have ne3 : p3 ≠ o := fun z => by
      rw [z, upd_same] at np3
      cases np3
    generalize Sh66.cells w s' = u at *
    generalize Sh66.cells h s' = v at *
    -- what stands while found grows
    refine ⟨p3, rfl, ⟨_, SqL.of ep3⟩, for_it (walk_list (xs := rs)) (fun i σ H' => ∃ v7 v8, σ = [some (.ref a), some (.int w), some (.int h), some (.int s'), some (.int u), some (.ref p1), some (.ref o), v7, v8] ∧ Same H H' ∧ H' p1 = some (.lst ts) ∧ H' p3 = some (.lst rs) ∧ Stands H' u s' w ts ∧ Stands H' v s' h rs ∧
        H' o = some (.lst (nv ((List.range i).flatMap fun r => (List.range w).map fun c => skyP u v s' m c r))))
      ⟨none, none, rfl, (s1.trans s2).trans s3, tp3, ep3, tt3, st3, to3⟩ (fun i σ H' _ ⟨_, _, _, _, _, e3, _⟩ => SqL.of e3) ?_ ?_⟩
    · rintro i x σ H4 H5 hi ⟨v7, v8, rfl, s4, e1, e3, t1, t3, eo⟩ ⟨rfl, hx⟩
      have hih : i < h := by rw [← t3.1]; exact hi
      refine ⟨.ref o, rfl, .inl ⟨rfl, _, .inl (.inl eo)⟩, ?_⟩
      refine ⟨_, rfl, p1, rfl, ⟨_, SqL.of e1⟩, fun D nD => lc_map (walk_list (xs := ts)) (fun c => .int ((skyP u v s' m c i : Nat) : Int)) nD (line_of (by rw [t1.1]; omega)) (fun H6 s6 => SqL.of (s6 _ _ e1)) ?_ ?_⟩
      · rintro j y H6 H7 R hj s6 ⟨rfl, hy⟩ q
        exact ⟨rfl, _, rfl, _, rfl, _, rfl, _, rfl, a, m, u, v, s', j, i, y, x, rfl, (s4.trans s6).seq hm, (t1.2 j y hy).same s6, (t3.2 i x hx).same s6, hu1, by omega, hv1, hs, hl, q _ (Same.refl _)⟩
      · intro H6 s6 e6
        rw [t1.1, ← nv_map] at e6
        have eo6 := s6 _ _ eo
        refine ⟨o, D, _, _, rfl, rfl, eo6, e6, line_of ?_, _, _, rfl, same_set (s4.trans s6) no1, ?_, ?_, (t1.same s6).write eo6, (t3.same s6).write eo6, ?_⟩
        · rw [nv_length, nv_length, grid_len, List.length_map, List.length_range]
          have : i * w ≤ 64 * 64 := Nat.mul_le_mul (by omega) hw2
          omega
        · rw [upd_ne ne1]
          exact s6 _ _ e1
        · rw [upd_ne ne3]
          exact s6 _ _ e3
        · rw [upd_same, List.range_succ, List.flatMap_append, nv_append, List.flatMap_cons, List.flatMap_nil, List.append_nil]
    · rintro σ H4 ⟨v7, v8, rfl, s4, e1, e3, t1, t3, eo⟩
      rw [t3.1] at eo
      exact ⟨_, rfl, k _ o s4 no1 eo⟩
/-! ### is_side(number) -/
def spSide : Sp := fun vs H Q _ => ∃ i : Nat, vs = [.int i] ∧ Q (.bl (decide (1 ≤ i ∧ i ≤ 64))) H
theorem sc_is_side : FnScope ["number"] ["number"] (defScope s_is_side) := ⟨rfl, rfl, rfl, by decide +kernel, rfl, by decide +kernel, by decide +kernel⟩
theorem ok_is_side {f : Addr} {fd : FuncData} (F : Fun K "is_side" "is_side" s_is_side f fd) (c_MS : ∃ t, mg "MOST_SIDE" = some (.int 64 t)) : FnOk P w K mg base CX0 1 f fd ["number"] spSide := by
  refine F.ok sc_is_side (fun vs H Q E h => ?_) (fun cdv A outer s H vs Q E hr h => ?_)
  · obtain ⟨_, rfl, _⟩ := h
    rfl
  · obtain ⟨i, rfl, k⟩ := h
    refine ⟨_, pss_one (ps_ret (pe_chain op_le op_le pe_int (pv 0) (pe_gi rfl c_MS))), ?_⟩
    refine ⟨_, rfl, _, _, rfl, rfl, _, rfl, ite2 (fun c => ?_) (fun c => ?_)⟩
    · have c : (1 : Int) ≤ (i : Int) := of_decide_eq_true c
      refine ⟨_, _, rfl, rfl, ?_⟩
      have e : decide (1 ≤ i ∧ i ≤ 64) = decide ((i : Int) ≤ 64) := decide_eq_decide.mpr (by omega)
      rw [e] at k
      exact k
    · have c : ¬ (1 : Int) ≤ (i : Int) := fun z => c (decide_eq_true z)
      rw [decide_eq_false (show ¬ (1 ≤ i ∧ i ≤ 64) by omega)] at k
      exact k
/-! ### is_frame(w, h) -/
def spFrame : Sp := fun vs H Q _ => ∃ w h : Nat, vs = [.int w, .int h] ∧ Q (.bl (decide ((1 ≤ w ∧ w ≤ 64) ∧ 1 ≤ h ∧ h ≤ 64))) H
theorem sc_is_frame : FnScope ["w", "h"] ["w", "h"] (defScope s_is_frame) := ⟨rfl, rfl, rfl, by decide +kernel, rfl, by decide +kernel, by decide +kernel⟩
theorem ok_is_frame {f : Addr} {fd : FuncData} (F : Fun K "is_frame" "is_frame" s_is_frame f fd) (D_is_side : Def P w K mg base 1 "is_side" ["number"] spSide) : FnOk P w K mg base CX0 2 f fd ["w", "h"] spFrame := by
  refine F.ok sc_is_frame (fun vs H Q E h => ?_) (fun cdv A outer s H vs Q E hr h => ?_)
  · obtain ⟨_, _, rfl, _⟩ := h
    rfl
  · obtain ⟨i, j, rfl, k⟩ := h
    refine ⟨_, pss_one (ps_ret (pe_and (pe_def D_is_side hr rfl (pa_cons (pv 0) pa_nil)) (pe_one (pe_def D_is_side hr rfl (pa_cons (pv 1) pa_nil))))), ?_⟩
    refine ⟨_, rfl, i, rfl, _, rfl, ite2 (fun c => ?_) (fun c => ?_)⟩
    · have c := of_decide_eq_true c
      have e : decide ((1 ≤ i ∧ i ≤ 64) ∧ 1 ≤ j ∧ j ≤ 64) = decide (1 ≤ j ∧ j ≤ 64) := decide_eq_decide.mpr (by omega)
      rw [e] at k
      exact ⟨_, rfl, j, rfl, k⟩
    · have c : ¬ (1 ≤ i ∧ i ≤ 64) := fun z => c (decide_eq_true z)
      rw [decide_eq_false (show ¬ ((1 ≤ i ∧ i ≤ 64) ∧ 1 ≤ j ∧ j ≤ 64) from fun z => c z.1)] at k
      exact k
/-! ### sk_sky(s, w, h, m) -/
def okSky (s w h : Nat) : Prop := (1 ≤ s ∧ s ≤ 64) ∧ (1 ≤ w ∧ w ≤ 64) ∧ 1 ≤ h ∧ h ≤ 64
instance (s w h : Nat) : Decidable (okSky s w h) := by unfold okSky; infer_instance
def ansSky (s w h : Nat) (m : List Nat) : List Int := if okSky s w h then 0 :: Sh66Neutral.ints (Sh66.sky (Sh66.cells w s) (Sh66.cells h s) s w h m) else [-2]
def spTop (K : PySem.W.Frag) : Sp := fun vs H Q _ => ∃ (s w h : Nat) (a : Addr) (m : List Nat), vs = [.int s, .int w, .int h, .ref a] ∧ SqL K H a (nv m) ∧ (okSky s w h → m.length = Sh66.cells w s * Sh66.cells h s) ∧ ∀ H' p, H' p = some (.lst ((ansSky s w h m).map V.int)) → Q (.ref p) H'
theorem sky_len (u v s w h : Nat) (m : List Nat) : (Sh66.sky u v s w h m).length = h * w := grid_len w (Sh66.skyAt u v s m) h
theorem sc_sk_sky : FnScope ["s", "w", "h", "m"] ["s", "w", "h", "m"] (defScope s_sk_sky) := ⟨rfl, rfl, rfl, by decide +kernel, rfl, by decide +kernel, by decide +kernel⟩
theorem ok_sk_sky {f : Addr} {fd : FuncData} (F : Fun K "sk_sky" "sk_sky" s_sk_sky f fd) (D_is_side : Def P w K mg base 1 "is_side" ["number"] spSide) (D_is_frame : Def P w K mg base 2 "is_frame" ["w", "h"] spFrame) (D_spread : Def P w K mg base 3 "spread" ["mesh", "w", "h", "s"] (spSpread K))
    (b_list : mg "list" = none) (r : RefOk K mg) : FnOk P w K mg base CX0 4 f fd ["s", "w", "h", "m"] (spTop K) := by
  refine F.ok sc_sk_sky (fun vs H Q E h => ?_) (fun cdv A outer s H vs Q E hr h => ?_)
  · obtain ⟨_, _, _, _, _, rfl, _⟩ := h
    rfl
  · obtain ⟨s', w, h, a, m, rfl, hm, hl, k⟩ := h
    refine ⟨_, pss_cons (ps_if (PW.pt (pw_or (pt_not (pt_val (pe_def D_is_side (hr.mono (by decide)) rfl (pa_cons (pv 0) pa_nil)))) (pw_or1 (pt_not (pt_val (pe_def D_is_frame (hr.mono (by decide)) rfl (pa_cons (pv 1) (pa_cons (pv 2) pa_nil)))))))) (pss_one (ps_ret (pe_refused rfl rfl b_list r))) pss_nil)
      (pss_one (ps_ret (pe_op op_cat (pe_lst (pa_cons pe_int pa_nil)) (pe_def D_spread hr rfl (pa_cons (pv 3) (pa_cons (pv 1) (pa_cons (pv 2) (pa_cons (pv 0) pa_nil)))))))), ?_⟩
    have no : ¬ okSky s' w h → ∀ p, H p = none → Q (.ref p) (upd H p (.lst [.int (-2)])) := fun c p np => k _ p (by
      rw [upd_same]
      unfold ansSky
      rw [if_neg c]
      rfl)
    refine ⟨_, rfl, s', rfl, _, rfl, ?_⟩
    by_cases c : 1 ≤ s' ∧ s' ≤ 64
    · rw [decide_eq_true c]
      refine iteF ⟨_, rfl, _, rfl, w, h, rfl, _, rfl, ?_⟩
      by_cases c2 : (1 ≤ w ∧ w ≤ 64) ∧ 1 ≤ h ∧ h ≤ 64
      · rw [decide_eq_true c2]
        refine iteF ⟨one_line, fun o no => ?_⟩
        have s1 : Same H (upd H o (.lst [.int 0])) := same_upd no
        refine ⟨_, rfl, _, rfl, _, rfl, _, rfl, a, m, w, h, s', rfl, s1.seq hm, c2.1.1, c2.1.2, c2.2.1, c2.2.2, c.1, c.2, hl ⟨c, c2⟩, fun H2 q s2 nq eq => ?_⟩
        refine ⟨o, q, _, _, rfl, rfl, s2 _ _ upd_same, eq, line_of ?_, fun p np => k _ p ?_⟩
        · rw [nv_length, sky_len]
          have : h * w ≤ 64 * 64 := Nat.mul_le_mul c2.2.2 c2.1.2
          show 1 + h * w ≤ _
          omega
        · rw [upd_same]
          unfold ansSky
          rw [if_pos ⟨c, c2⟩]
          rfl
      · rw [decide_eq_false c2]
        exact iteT (no fun z => c2 z.2)
    · rw [decide_eq_false c]
      exact iteT (iteT (no fun z => c z.1))
end
theorem okSky_iff {s w h : Nat} : (Sh66.sized w h && Sh66.among s 1 64) = true ↔ okSky s w h := by
  rw [Bool.and_eq_true, sized_iff, among_iff]
  exact ⟨fun z => ⟨z.2, z.1⟩, fun z => ⟨z.2, z.1⟩⟩
theorem spec_top (s w h : Nat) (m : List Nat) : PySh66.sk_sky (s : Int) (w : Int) (h : Int) (Sh66Neutral.ints m) = ansSky s w h m := by
  show Sh66Neutral.told (Sh66.answer (if (Sh66.sized (w : Int).toNat (h : Int).toNat && Sh66.among (s : Int).toNat 1 64) = true then .sky (s : Int).toNat (w : Int).toNat (h : Int).toNat (Sh66Neutral.nats (Sh66Neutral.ints m)) else .bad)) = _
  rw [nats_ints, Int.toNat_natCast, Int.toNat_natCast, Int.toNat_natCast]
  unfold ansSky
  by_cases c : okSky s w h
  · rw [if_pos (okSky_iff.mpr c), if_pos c]
    rfl
  · rw [if_neg (fun z => c (okSky_iff.mp z)), if_neg c]
    rfl
theorem asked_if {s w h : Int} {x : List Int} (q : PySh66.sk_sky_asked s w h x = true) : (if (Sh66.sized w.toNat h.toNat && Sh66.among s.toNat 1 64) = true then x.length == (Sh66.cells w.toNat s.toNat * Sh66.cells h.toNat s.toNat) else (x.isEmpty) || (x.length == (Sh66.cells w.toNat s.toNat * Sh66.cells h.toNat s.toNat))) = true := by
  have q : (Sh66Neutral.asked1 [[2, s, w, h], x] && decide ((Sh66Neutral.f [[2, s, w, h], x]).length < 1000000)) = true := q
  have q := (Bool.and_eq_true_iff.mp q).1
  have q : (Sh66Neutral.natural s 32 && (Sh66Neutral.natural w 32 && (Sh66Neutral.natural h 32 && ((x.all fun z => Sh66Neutral.natural z 16) && (if (Sh66.sized w.toNat h.toNat && Sh66.among s.toNat 1 64) = true then x.length == (Sh66.cells w.toNat s.toNat * Sh66.cells h.toNat s.toNat) else (x.isEmpty) || (x.length == (Sh66.cells w.toNat s.toNat * Sh66.cells h.toNat s.toNat))))))) = true := q
  exact and2 (and2 (and2 (and2 q)))
theorem asked_top {s w h : Nat} {x : List Nat} (q : PySh66.sk_sky_asked (s : Int) (w : Int) (h : Int) (Sh66Neutral.ints x) = true) : okSky s w h → x.length = Sh66.cells w s * Sh66.cells h s := by
  intro c
  have q := asked_if q
  rw [Int.toNat_natCast, Int.toNat_natCast, Int.toNat_natCast, if_pos (okSky_iff.mpr c), ints_length, beq_iff_eq] at q
  exact q
theorem app_top (g : Int → Int → Int → List Int → Bool) (s w h : Int) (x : List Int) : PySem.W.Codec.app PySem.Challenge.fa_skyabove_s03_sk_sky g (s, w, h, x, ()) = g s w h x := rfl
theorem all_mk {P : Program} {w : World} {K : PySem.W.Frag} {h : Heap} {mg : Str → Option Value} {fa : Addr} (X : K.In h) (G : h.Ns mainGlobals mg) (hfa : mg "sk_sky" = some (.ref fa))
    {f0 : Addr} {od0 an0 : Option Addr} {sl0 : Array (Option Value)} {oc0 kV0 dc0 pm0 cd0 ct0 : Value}
    (a0 : PySem.W.nsIn K mainGlobals "cells_along" = some (some (.ref f0))) (l0 : K.lookup f0 = some ⟨oc0, od0, .func (PySem.W.fnOf "cells_along" "cells_along" (defArgs s_cells_along) (defBody s_cells_along) (defScope s_cells_along) .none kV0 dc0 pm0 an0 cd0 ct0), sl0⟩) (c0 : PySem.W.codeIn K cd0 "cells_along" = true) (k0 : PySem.W.keepIn K (.ref f0) = true)
    {f1 : Addr} {od1 an1 : Option Addr} {sl1 : Array (Option Value)} {oc1 kV1 dc1 pm1 cd1 ct1 : Value}
    (a1 : PySem.W.nsIn K mainGlobals "between" = some (some (.ref f1))) (l1 : K.lookup f1 = some ⟨oc1, od1, .func (PySem.W.fnOf "between" "between" (defArgs s_between) (defBody s_between) (defScope s_between) .none kV1 dc1 pm1 an1 cd1 ct1), sl1⟩) (c1 : PySem.W.codeIn K cd1 "between" = true) (k1 : PySem.W.keepIn K (.ref f1) = true)
    {f2 : Addr} {od2 an2 : Option Addr} {sl2 : Array (Option Value)} {oc2 kV2 dc2 pm2 cd2 ct2 : Value}
    (a2 : PySem.W.nsIn K mainGlobals "cells_at" = some (some (.ref f2))) (l2 : K.lookup f2 = some ⟨oc2, od2, .func (PySem.W.fnOf "cells_at" "cells_at" (defArgs s_cells_at) (defBody s_cells_at) (defScope s_cells_at) .none kV2 dc2 pm2 an2 cd2 ct2), sl2⟩) (c2 : PySem.W.codeIn K cd2 "cells_at" = true) (k2 : PySem.W.keepIn K (.ref f2) = true)
    {f3 : Addr} {od3 an3 : Option Addr} {sl3 : Array (Option Value)} {oc3 kV3 dc3 pm3 cd3 ct3 : Value}
    (a3 : PySem.W.nsIn K mainGlobals "sky_at" = some (some (.ref f3))) (l3 : K.lookup f3 = some ⟨oc3, od3, .func (PySem.W.fnOf "sky_at" "sky_at" (defArgs s_sky_at) (defBody s_sky_at) (defScope s_sky_at) .none kV3 dc3 pm3 an3 cd3 ct3), sl3⟩) (c3 : PySem.W.codeIn K cd3 "sky_at" = true) (k3 : PySem.W.keepIn K (.ref f3) = true)
    {f4 : Addr} {od4 an4 : Option Addr} {sl4 : Array (Option Value)} {oc4 kV4 dc4 pm4 cd4 ct4 : Value}
    (a4 : PySem.W.nsIn K mainGlobals "standings" = some (some (.ref f4))) (l4 : K.lookup f4 = some ⟨oc4, od4, .func (PySem.W.fnOf "standings" "standings" (defArgs s_standings) (defBody s_standings) (defScope s_standings) .none kV4 dc4 pm4 an4 cd4 ct4), sl4⟩) (c4 : PySem.W.codeIn K cd4 "standings" = true) (k4 : PySem.W.keepIn K (.ref f4) = true)
    {f5 : Addr} {od5 an5 : Option Addr} {sl5 : Array (Option Value)} {oc5 kV5 dc5 pm5 cd5 ct5 : Value}
    (a5 : PySem.W.nsIn K mainGlobals "spread" = some (some (.ref f5))) (l5 : K.lookup f5 = some ⟨oc5, od5, .func (PySem.W.fnOf "spread" "spread" (defArgs s_spread) (defBody s_spread) (defScope s_spread) .none kV5 dc5 pm5 an5 cd5 ct5), sl5⟩) (c5 : PySem.W.codeIn K cd5 "spread" = true) (k5 : PySem.W.keepIn K (.ref f5) = true)
    {f6 : Addr} {od6 an6 : Option Addr} {sl6 : Array (Option Value)} {oc6 kV6 dc6 pm6 cd6 ct6 : Value}
    (a6 : PySem.W.nsIn K mainGlobals "is_side" = some (some (.ref f6))) (l6 : K.lookup f6 = some ⟨oc6, od6, .func (PySem.W.fnOf "is_side" "is_side" (defArgs s_is_side) (defBody s_is_side) (defScope s_is_side) .none kV6 dc6 pm6 an6 cd6 ct6), sl6⟩) (c6 : PySem.W.codeIn K cd6 "is_side" = true) (k6 : PySem.W.keepIn K (.ref f6) = true)
    {f7 : Addr} {od7 an7 : Option Addr} {sl7 : Array (Option Value)} {oc7 kV7 dc7 pm7 cd7 ct7 : Value}
    (a7 : PySem.W.nsIn K mainGlobals "is_frame" = some (some (.ref f7))) (l7 : K.lookup f7 = some ⟨oc7, od7, .func (PySem.W.fnOf "is_frame" "is_frame" (defArgs s_is_frame) (defBody s_is_frame) (defScope s_is_frame) .none kV7 dc7 pm7 an7 cd7 ct7), sl7⟩) (c7 : PySem.W.codeIn K cd7 "is_frame" = true) (k7 : PySem.W.keepIn K (.ref f7) = true)
    {f8 : Addr} {od8 an8 : Option Addr} {sl8 : Array (Option Value)} {oc8 kV8 dc8 pm8 cd8 ct8 : Value}
    (a8 : PySem.W.nsIn K mainGlobals "sk_sky" = some (some (.ref f8))) (l8 : K.lookup f8 = some ⟨oc8, od8, .func (PySem.W.fnOf "sk_sky" "sk_sky" (defArgs s_sk_sky) (defBody s_sk_sky) (defScope s_sk_sky) .none kV8 dc8 pm8 an8 cd8 ct8), sl8⟩) (c8 : PySem.W.codeIn K cd8 "sk_sky" = true) (k8 : PySem.W.keepIn K (.ref f8) = true)
    {t_PART : Tok} (n_PART : PySem.W.nsIn K mainGlobals "PART" = some (some (.int (256) t_PART)))
    {t_PARTS : Tok} (n_PARTS : PySem.W.nsIn K mainGlobals "PARTS" = some (some (.int (512) t_PARTS)))
    {t_HALF_OF_ALL : Tok} (n_HALF_OF_ALL : PySem.W.nsIn K mainGlobals "HALF_OF_ALL" = some (some (.int (131072) t_HALF_OF_ALL)))
    {t_ALL_PARTS : Tok} (n_ALL_PARTS : PySem.W.nsIn K mainGlobals "ALL_PARTS" = some (some (.int (262144) t_ALL_PARTS)))
    {t_MOST_SIDE : Tok} (n_MOST_SIDE : PySem.W.nsIn K mainGlobals "MOST_SIDE" = some (some (.int (64) t_MOST_SIDE)))
    {rr : Addr} {rt : Tok} {rn : Nat} {rs : Array (Option Value)} (n_REFUSED : PySem.W.nsIn K mainGlobals "REFUSED" = some (some (.ref rr))) (l_REFUSED : K.lookup rr = some ⟨.type "list", none, .seq #[.int (-2) rt] rn, rs⟩)
    (n_min : PySem.W.nsIn K mainGlobals "min" = some none)
    (n_range : PySem.W.nsIn K mainGlobals "range" = some none)
    (n_list : PySem.W.nsIn K mainGlobals "list" = some none)
    : ∃ fd : FuncData, (∀ (s : Shared) (us : List Value), us.length = (["s", "w", "h", "m"] : List Str).length → BindsTo s fd ⟨us, []⟩ ((["s", "w", "h", "m"] : List Str).zip us)) ∧ ∀ base : Heap, K.In base → base.Ns mainGlobals mg → FnOk P w K mg base CX0 4 fa fd ["s", "w", "h", "m"] (spTop K) := by
  have e := hfa.symm.trans (PySem.W.mg_of X G a8)
  cases e
  have F0 := fun_mk (st := s_cells_along) l0 c0 k0
  have F1 := fun_mk (st := s_between) l1 c1 k1
  have F2 := fun_mk (st := s_cells_at) l2 c2 k2
  have F3 := fun_mk (st := s_sky_at) l3 c3 k3
  have F4 := fun_mk (st := s_standings) l4 c4 k4
  have F5 := fun_mk (st := s_spread) l5 c5 k5
  have F6 := fun_mk (st := s_is_side) l6 c6 k6
  have F7 := fun_mk (st := s_is_frame) l7 c7 k7
  have F8 := fun_mk (st := s_sk_sky) l8 c8 k8
  have b0 := F0.binds (ps := ["size", "s"]) fun _ _ _ _ _ _ us hl => match us, hl with | [_, _], _ => rfl
  have b1 := F1.binds (ps := ["n", "s", "p"]) fun _ _ _ _ _ _ us hl => match us, hl with | [_, _, _], _ => rfl
  have b2 := F2.binds (ps := ["n", "standing"]) fun _ _ _ _ _ _ us hl => match us, hl with | [_, _], _ => rfl
  have b3 := F3.binds (ps := ["mesh", "across", "along", "below"]) fun _ _ _ _ _ _ us hl => match us, hl with | [_, _, _, _], _ => rfl
  have b4 := F4.binds (ps := ["size", "s"]) fun _ _ _ _ _ _ us hl => match us, hl with | [_, _], _ => rfl
  have b5 := F5.binds (ps := ["mesh", "w", "h", "s"]) fun _ _ _ _ _ _ us hl => match us, hl with | [_, _, _, _], _ => rfl
  have b6 := F6.binds (ps := ["number"]) fun _ _ _ _ _ _ us hl => match us, hl with | [_], _ => rfl
  have b7 := F7.binds (ps := ["w", "h"]) fun _ _ _ _ _ _ us hl => match us, hl with | [_, _], _ => rfl
  refine ⟨PySem.W.fnOf "sk_sky" "sk_sky" (defArgs s_sk_sky) (defBody s_sk_sky) (defScope s_sk_sky) .none kV8 dc8 pm8 an8 cd8 ct8, fun s us hu => match us, hu with | [_, _, _, _], _ => .of_eq rfl, fun base _ _ => ?_⟩
  have D_cells_along : Def P w K mg base 1 "cells_along" ["size", "s"] (spCellsAlong) := ⟨_, _, PySem.W.mg_of X G a0, k0, b0, ok_cells_along F0⟩
  have D_between : Def P w K mg base 1 "between" ["n", "s", "p"] (spBetween) := ⟨_, _, PySem.W.mg_of X G a1, k1, b1, ok_between F1 ⟨_, PySem.W.mg_of X G n_PART⟩ ⟨_, PySem.W.mg_of X G n_PARTS⟩⟩
  have D_cells_at : Def P w K mg base 1 "cells_at" ["n", "standing"] (spCellsAt K) := ⟨_, _, PySem.W.mg_of X G a2, k2, b2, ok_cells_at F2 (PySem.W.mg_none_of X G n_min)⟩
  have D_sky_at : Def P w K mg base 1 "sky_at" ["mesh", "across", "along", "below"] (spSkyAt K) := ⟨_, _, PySem.W.mg_of X G a3, k3, b3, ok_sky_at F3 ⟨_, PySem.W.mg_of X G n_PARTS⟩ ⟨_, PySem.W.mg_of X G n_HALF_OF_ALL⟩ ⟨_, PySem.W.mg_of X G n_ALL_PARTS⟩⟩
  have D_standings : Def P w K mg base 2 "standings" ["size", "s"] (spStandings) := ⟨_, _, PySem.W.mg_of X G a4, k4, b4, ok_standings F4 D_cells_along D_between D_cells_at (PySem.W.mg_none_of X G n_range)⟩
  have D_spread : Def P w K mg base 3 "spread" ["mesh", "w", "h", "s"] (spSpread K) := ⟨_, _, PySem.W.mg_of X G a5, k5, b5, ok_spread F5 D_cells_along D_standings D_sky_at⟩
  have D_is_side : Def P w K mg base 1 "is_side" ["number"] (spSide) := ⟨_, _, PySem.W.mg_of X G a6, k6, b6, ok_is_side F6 ⟨_, PySem.W.mg_of X G n_MOST_SIDE⟩⟩
  have D_is_frame : Def P w K mg base 2 "is_frame" ["w", "h"] (spFrame) := ⟨_, _, PySem.W.mg_of X G a7, k7, b7, ok_is_frame F7 D_is_side⟩
  exact ok_sk_sky F8 D_is_side D_is_frame D_spread (PySem.W.mg_none_of X G n_list) ⟨rr, PySem.W.mg_of X G n_REFUSED, fun _ => .inr ⟨_, _, _, l_REFUSED, rfl, rfl, rfl, one_line, .cons ⟨_, rfl⟩ .nil⟩⟩
end Sky
open PySem PySem.W PyProof.Rows
set_option maxRecDepth 100000 in
set_option maxHeartbeats 8000000 in
theorem PySem.Challenge.cw_skyabove_s03_sk_sky_holds : PySem.Challenge.rw_skyabove_s03_sk_sky.Holds := by
  w_on; k_headS; (case hw => exact ⟨[.int 0, .int 0, .int 0, .list []], by decide +kernel, by decide +kernel⟩)
  k_fillS
  refine L2.walk_specK (r := PySem.Challenge.rw_skyabove_s03_sk_sky) (k := 4) (CX := L2.CX0) (ps := ["s", "w", "h", "m"]) (sp := Sky.spTop) (by decide +kernel) rfl rfl ⟨rfl, by decide, by decide⟩ (fun w h Y => PySem.W.kIn_of Y) ?F ?S (fun _ _ _ _ z => z)
  case F =>
    intro w mg fa h Y KX G hmg
    refine' Sky.all_mk KX G hmg ?a0 ?l0 ?c0 ?k0 ?a1 ?l1 ?c1 ?k1 ?a2 ?l2 ?c2 ?k2 ?a3 ?l3 ?c3 ?k3 ?a4 ?l4 ?c4 ?k4 ?a5 ?l5 ?c5 ?k5 ?a6 ?l6 ?c6 ?k6 ?a7 ?l7 ?c7 ?k7 ?a8 ?l8 ?c8 ?k8 ?n_PART ?n_PARTS ?n_HALF_OF_ALL ?n_ALL_PARTS ?n_MOST_SIDE ?n_REFUSED ?l_REFUSED ?n_min ?n_range ?n_list
    (case a0 => k_is)
    (case l0 => k_is)
    (case c0 => k_is)
    (case k0 => k_is)
    (case a1 => k_is)
    (case l1 => k_is)
    (case c1 => k_is)
    (case k1 => k_is)
    (case a2 => k_is)
    (case l2 => k_is)
    (case c2 => k_is)
    (case k2 => k_is)
    (case a3 => k_is)
    (case l3 => k_is)
    (case c3 => k_is)
    (case k3 => k_is)
    (case a4 => k_is)
    (case l4 => k_is)
    (case c4 => k_is)
    (case k4 => k_is)
    (case a5 => k_is)
    (case l5 => k_is)
    (case c5 => k_is)
    (case k5 => k_is)
    (case a6 => k_is)
    (case l6 => k_is)
    (case c6 => k_is)
    (case k6 => k_is)
    (case a7 => k_is)
    (case l7 => k_is)
    (case c7 => k_is)
    (case k7 => k_is)
    (case a8 => k_is)
    (case l8 => k_is)
    (case c8 => k_is)
    (case k8 => k_is)
    (case n_PART => k_is)
    (case n_PARTS => k_is)
    (case n_HALF_OF_ALL => k_is)
    (case n_ALL_PARTS => k_is)
    (case n_MOST_SIDE => k_is)
    (case n_REFUSED => k_is)
    (case l_REFUSED => k_is)
    (case n_min => k_is)
    (case n_range => k_is)
    (case n_list => k_is)
  case S =>
    intro K H xs a hO hwi hask hx
    obtain ⟨s, w, h, x, u⟩ := a
    cases hx with
    | cons hs hx => cases hx with
    | cons h0 hx => cases hx with
    | cons h1 hx => cases hx with
    | cons h2 hx =>
      cases hx
      cases hs
      cases h0
      cases h1
      cases h2 with
      | lst s1 d1 =>
        have e1 := L2.ints_dw x _ d1
        subst e1
        have q : (Codec.inInt 0 4294967295 s && (Codec.inInt 0 4294967295 w && (Codec.inInt 0 4294967295 h && ((Codec.inLen 0 4200 x && x.all (Codec.inInt 0 65535)) && true)))) = true := hwi
        simp only [Bool.and_eq_true] at q
        obtain ⟨s, rfl⟩ := Sky.of_int q.1
        obtain ⟨w, rfl⟩ := Sky.of_int q.2.1
        obtain ⟨h, rfl⟩ := Sky.of_int q.2.2.1
        obtain ⟨x, rfl⟩ := Sky.of_ints q.2.2.2.1.2
        have z : PySh66.sk_sky_asked (s : Int) (w : Int) (h : Int) (Sh66Neutral.ints x) = true := (Sky.app_top PySh66.sk_sky_asked (s : Int) (w : Int) (h : Int) (Sh66Neutral.ints x)).symm.trans hask
        refine ⟨s, w, h, _, x, rfl, s1, Sky.asked_top z, fun H' p hp => ?_⟩
        show L2.Dw K H' (.ref p) (WData.list ((PySh66.sk_sky (s : Int) (w : Int) (h : Int) (Sh66Neutral.ints x)).map WData.int))
        rw [Sky.spec_top s w h x]
        exact Sky.dw_ans _ hp
#print axioms PySem.Challenge.cw_skyabove_s03_sk_sky_holds
