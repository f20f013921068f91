import PyProof.Rows.All
import Wide.All
import OpenK.AllK
import Wide.FinOn
import Open.SpecLaws
import KE.OsGo
import HandS.Base
import HandS.Call
import HandS.List
import HandS.Comp
import HandS.Dict
import HandS.Iter
import HandS.Words
import HandS.Spec
import HandS.SortInts
import HandS.Walk
import PySem.Challenge.RW_skyabove_s02_sk_calm
set_option Elab.async false
set_option linter.all false
set_option maxRecDepth 100000
set_option maxHeartbeats 4000000
namespace Sky
open Sh66
/-! ### lists of naturals as lists of integers -/
theorem ints_def (l : List Nat) : Sh66Neutral.ints l = l.map fun (x : Nat) => (x : Int) := rfl
theorem ints_length (l : List Nat) : (Sh66Neutral.ints l).length = l.length := by rw [ints_def, List.length_map]
theorem ints_append (l m : List Nat) : Sh66Neutral.ints (l ++ m) = Sh66Neutral.ints l ++ Sh66Neutral.ints m := by rw [ints_def, List.map_append]; rfl
theorem nats_ints (l : List Nat) : Sh66Neutral.nats (Sh66Neutral.ints l) = l := by
  show (l.map _).map _ = l
  rw [List.map_map]
  exact (List.map_congr_left fun a _ => Int.toNat_natCast a).trans (List.map_id l)
theorem ints_nats {l : List Int} (h : ∀ z ∈ l, 0 ≤ z) : Sh66Neutral.ints (Sh66Neutral.nats l) = l := by
  show (l.map _).map _ = l
  rw [List.map_map]
  exact (List.map_congr_left fun a m => Int.toNat_of_nonneg (h a m)).trans (List.map_id l)
theorem num_at {l : List Nat} {i : Nat} (h : i < l.length) : l[i]? = some (num l i) := by
  unfold num
  rw [List.getD_eq_getElem?_getD, List.getElem?_eq_getElem h]
  rfl
theorem ints_at {l : List Nat} {i : Nat} (h : i < l.length) : (Sh66Neutral.ints l)[i]? = some ((num l i : Nat) : Int) := by
  rw [ints_def, List.getElem?_map, num_at h]
  rfl
/-! ### the middle one -/
theorem sorted_perm (l : List Nat) : (sorted l).Perm l := List.mergeSort_perm l _
theorem sorted_length (l : List Nat) : (sorted l).length = l.length := (sorted_perm l).length_eq
theorem sorted_le (l : List Nat) : (sorted l).Pairwise (fun a b => a ≤ b) := by
  have h := List.pairwise_mergeSort (le := fun (a b : Nat) => decide (a ≤ b)) (fun a b c h1 h2 => by
    have := of_decide_eq_true h1
    have := of_decide_eq_true h2
    exact decide_eq_true (by omega)) (fun a b => by
    rcases Nat.le_total a b with h | h
    · rw [decide_eq_true h]; rfl
    · rw [decide_eq_true h, Bool.or_true]) l
  exact h.imp fun {a b} q => of_decide_eq_true q
theorem sorted_ints {l : List Nat} {ns : List Int} (hp : ns.Perm (Sh66Neutral.ints l)) (hs : ns.Pairwise (· ≤ ·)) : ns = Sh66Neutral.ints (sorted l) := by
  refine List.Perm.eq_of_pairwise (le := fun (a b : Int) => a ≤ b) (fun a b _ _ h1 h2 => Int.le_antisymm h1 h2) hs ?_ (hp.trans ((sorted_perm l).symm.map _))
  exact List.pairwise_map.mpr ((sorted_le l).imp fun {a b} h => Int.ofNat_le.mpr h)
theorem median_nil : median [] = 0 := by simp [median, sorted, num]
theorem mid_lt {l : List Nat} (h : l ≠ []) : (l.length - 1) / 2 < (sorted l).length := by
  rw [sorted_length]
  have : 0 < l.length := List.length_pos_iff.mpr h
  omega
theorem median_at {l : List Nat} (h : l ≠ []) : (Sh66Neutral.ints (sorted l))[(l.length - 1) / 2]? = some ((median l : Nat) : Int) := ints_at (mid_lt h)
theorem apart_abs (a b : Nat) : (if (b : Int) - (a : Int) < 0 then -((b : Int) - (a : Int)) else (b : Int) - (a : Int)) = ((apart a b : Nat) : Int) := by
  unfold apart
  split <;> omega
theorem median_mem {l : List Nat} (h : l ≠ []) : median l ∈ l := by
  have e := num_at (mid_lt h)
  exact (sorted_perm l).mem_iff.mp (List.mem_of_getElem? e)
theorem median_lt {l : List Nat} {B : Nat} (hB : 0 < B) (h : ∀ x ∈ l, x < B) : median l < B := by
  by_cases e : l = []
  · rw [e, median_nil]; exact hB
  · exact h _ (median_mem e)
theorem spread_lt {l : List Nat} {B : Nat} (hB : 0 < B) (h : ∀ x ∈ l, x < B) : spread l < B := by
  unfold spread
  refine median_lt hB fun x hx => ?_
  obtain ⟨a, ha, rfl⟩ := List.mem_map.mp hx
  have h1 := median_lt hB h
  have h2 := h a ha
  unfold apart
  omega
/-! ### clipped -/
def once (k : Nat) (l : List Nat) : List Nat := l.filter fun a => decide (4 * apart (median l) a ≤ k * spread l)
def iter (k : Nat) : Nat → List Nat → List Nat
  | 0, l => l
  | n + 1, l => once k (iter k n l)
theorem iter_once (k : Nat) : ∀ (n : Nat) (l : List Nat), iter k (n + 1) l = iter k n (once k l)
  | 0, _ => rfl
  | n + 1, l => by
    show once k (iter k (n + 1) l) = once k (iter k n (once k l))
    rw [iter_once k n l]
theorem iter_fix {k : Nat} {l : List Nat} (h : once k l = l) : ∀ n, iter k n l = l
  | 0 => rfl
  | n + 1 => by
    show once k (iter k n l) = l
    rw [iter_fix h n, h]
theorem clipped_iter (k : Nat) : ∀ (n : Nat) (l : List Nat), clipped k n l = iter k n l
  | 0, _ => rfl
  | n + 1, l => by
    rw [iter_once]
    show (if (once k l).length = l.length then l else clipped k n (once k l)) = _
    by_cases h : (once k l).length = l.length
    · rw [if_pos h]
      have e : once k l = l := List.filter_eq_self.mpr (List.length_filter_eq_length_iff.mp h)
      rw [e, iter_fix e]
    · rw [if_neg h]
      exact clipped_iter k n _
theorem once_sub (k : Nat) (l : List Nat) : ∀ x ∈ once k l, x ∈ l := fun x h => (List.mem_filter.mp h).1
theorem iter_sub (k : Nat) (l : List Nat) : ∀ n, ∀ x ∈ iter k n l, x ∈ l
  | 0, _, h => h
  | n + 1, x, h => iter_sub k l n x (once_sub k _ x h)
theorem once_len (k : Nat) (l : List Nat) : (once k l).length ≤ l.length := List.length_filter_le _ _
theorem iter_len (k : Nat) (l : List Nat) : ∀ n, (iter k n l).length ≤ l.length
  | 0 => Nat.le_refl _
  | n + 1 => Nat.le_trans (once_len k _) (iter_len k l n)
end Sky
namespace Sky
theorem sized_iff {w h : Nat} : Sh66.sized w h = true ↔ (1 ≤ w ∧ w ≤ 64) ∧ 1 ≤ h ∧ h ≤ 64 := by
  unfold Sh66.sized Sh66.among
  rw [Bool.and_eq_true, Bool.and_eq_true, Bool.and_eq_true, decide_eq_true_eq, decide_eq_true_eq, decide_eq_true_eq, decide_eq_true_eq]
theorem among_iff {s : Nat} : Sh66.among s 1 64 = true ↔ 1 ≤ s ∧ s ≤ 64 := by
  unfold Sh66.among
  rw [Bool.and_eq_true, decide_eq_true_eq, decide_eq_true_eq]
end Sky
namespace Sky
open Sh66
/-! ### places of a frame -/
theorem flatMap_congr {α β : Type} {f g : α → List β} : ∀ {l : List α}, (∀ a ∈ l, f a = g a) → l.flatMap f = l.flatMap g
  | [], _ => rfl
  | a :: l, h => by
    rw [List.flatMap_cons, List.flatMap_cons, h a List.mem_cons_self, flatMap_congr fun b m => h b (List.mem_cons_of_mem _ m)]
theorem range_add (a b : Nat) : List.range (a + b) = List.range a ++ (List.range b).map (fun x => a + x) := List.range_add
theorem range_mul (w : Nat) : ∀ h : Nat, List.range (w * h) = (List.range h).flatMap fun r => (List.range w).map fun c => r * w + c
  | 0 => by simp
  | h + 1 => by
    rw [Nat.mul_succ, range_add, range_mul w h, List.range_succ, List.flatMap_append]
    congr 1
    simp [Nat.mul_comm]
/-- row by row is place by place -/
theorem each_range {α : Type} {w : Nat} (hw : 0 < w) (h : Nat) (f : Nat → Nat → α) : each w h f = (List.range (w * h)).map fun p => f (p % w) (p / w) := by
  rw [range_mul, List.map_flatMap]
  unfold each
  refine flatMap_congr fun r _ => ?_
  rw [List.map_map]
  refine List.map_congr_left fun c hc => ?_
  have hc := List.mem_range.mp hc
  show f c r = f ((r * w + c) % w) ((r * w + c) / w)
  rw [Nat.mul_comm r w, Nat.mul_add_mod, Nat.mod_eq_of_lt hc, Nat.mul_add_div hw, Nat.div_eq_of_lt hc, Nat.add_zero]
/-- the up to three at m along a side of n -/
def near (m n : Nat) : List Nat := List.range' (m - 1) (min n (m + 2) - (m - 1))
theorem near_span {m n : Nat} (h : m < n) : near m n = span m n := by
  unfold near span
  by_cases h0 : 0 < m
  · rw [if_pos h0]
    by_cases h1 : m + 1 < n
    · rw [if_pos h1, show min n (m + 2) - (m - 1) = 3 by omega]
      show [m - 1, m - 1 + 1, m - 1 + 1 + 1] = [m - 1] ++ [m] ++ [m + 1]
      rw [show m - 1 + 1 = m by omega]
      rfl
    · rw [if_neg h1, show min n (m + 2) - (m - 1) = 2 by omega]
      show [m - 1, m - 1 + 1] = [m - 1] ++ [m] ++ []
      rw [show m - 1 + 1 = m by omega]
      rfl
  · rw [if_neg h0]
    have e : m = 0 := by omega
    subst e
    by_cases h1 : 0 + 1 < n
    · rw [if_pos h1, show min n (0 + 2) - (0 - 1) = 2 by omega]
      rfl
    · rw [if_neg h1, show min n (0 + 2) - (0 - 1) = 1 by omega]
      rfl
theorem near_mem {m n x : Nat} (h : x ∈ near m n) : x < n ∧ m - 1 ≤ x ∧ x ≤ m + 1 := by
  unfold near at h
  rw [List.mem_range'_1] at h
  omega
theorem near_len (m n : Nat) : (near m n).length ≤ 3 := by
  unfold near
  rw [List.length_range']
  omega
/-- a place and those beside it, row by row -/
def around (w h p : Nat) : List Nat := (near (p / w) h).flatMap fun r => (near (p % w) w).map fun c => r * w + c
theorem place_lt {w h r c : Nat} (hr : r < h) (hc : c < w) : r * w + c < w * h := by
  have : (r + 1) * w ≤ h * w := Nat.mul_le_mul_right w hr
  rw [Nat.succ_mul, Nat.mul_comm h w] at this
  omega
theorem around_lt {w h p x : Nat} (hx : x ∈ around w h p) : x < w * h := by
  obtain ⟨r, hr, hx⟩ := List.mem_flatMap.mp hx
  obtain ⟨c, hc, rfl⟩ := List.mem_map.mp hx
  exact place_lt (near_mem hr).1 (near_mem hc).1
theorem around_len (w h p : Nat) : (around w h p).length ≤ 9 := by
  unfold around
  rw [List.length_flatMap]
  have h1 := near_len (p / w) h
  have h2 := near_len (p % w) w
  have : ∀ l : List Nat, (l.map fun r => ((near (p % w) w).map fun c => r * w + c).length).sum ≤ l.length * 3 := by
    intro l
    induction l with
    | nil => simp
    | cons a l ih =>
      rw [List.map_cons, List.sum_cons, List.length_cons, List.length_map]
      omega
  have := this (near (p / w) h)
  omega
theorem calmed_eq {w h : Nat} (hw : 0 < w) (x : List Nat) : calmed w h x = (List.range (w * h)).map fun p => median ((around w h p).map (num x)) := by
  unfold calmed
  rw [each_range hw]
  refine List.map_congr_left fun p hp => ?_
  have hp := List.mem_range.mp hp
  have h1 : p % w < w := Nat.mod_lt _ hw
  have h2 : p / w < h := Nat.div_lt_of_lt_mul hp
  show median ((span (p / w) h).flatMap fun q => (span (p % w) w).map fun c => at_ w x c q) = _
  unfold around
  rw [near_span h1, near_span h2, List.map_flatMap]
  congr 1
  refine flatMap_congr fun r _ => ?_
  rw [List.map_map]
  rfl
/-! ### what stands out -/
def outAt (t a b m : Nat) : Nat := if t * max 1 m < 4 * (a - b) then a - b else 0
theorem out_eq {t w h : Nat} (hw : 0 < w) (x sky noise : List Nat) : Sh66.out t w h x sky noise = (List.range (w * h)).map fun p => outAt t (num x p) (num sky p) (num noise p) := by
  unfold Sh66.out
  rw [each_range hw]
  refine List.map_congr_left fun p _ => ?_
  show (if t * max 1 (at_ w noise (p % w) (p / w)) < 4 * (at_ w x (p % w) (p / w) - at_ w sky (p % w) (p / w)) then at_ w x (p % w) (p / w) - at_ w sky (p % w) (p / w) else 0) = _
  have e : p / w * w + p % w = p := by rw [Nat.mul_comm]; exact Nat.div_add_mod p w
  unfold at_
  rw [e]
  rfl
/-! ### a list by its places -/
theorem map_num (l : List Nat) : (List.range l.length).map (num l) = l := by
  apply List.ext_getElem?
  intro i
  rw [List.getElem?_map]
  by_cases h : i < l.length
  · rw [List.getElem?_range h, num_at h]; rfl
  · rw [List.getElem?_eq_none (by rw [List.length_range]; omega), List.getElem?_eq_none (by omega)]; rfl
theorem zip_num {x y : List Nat} (h : y.length = x.length) (f : Nat → Nat → Nat) : (x.zip y).map (fun p => f p.1 p.2) = (List.range x.length).map fun i => f (num x i) (num y i) := by
  apply List.ext_getElem?
  intro i
  rw [List.getElem?_map, List.getElem?_map]
  by_cases hi : i < x.length
  · rw [List.getElem?_range hi, (List.getElem?_zip_eq_some (z := (num x i, num y i))).mpr ⟨num_at hi, num_at (by omega)⟩]; rfl
  · rw [List.getElem?_eq_none (by rw [List.length_zip]; omega), List.getElem?_eq_none (by rw [List.length_range]; omega)]; rfl
end Sky
namespace Sky
open PySem PySem.Spec PyProof.Rows L2
/-! ### values and heaps -/
/-- a list of naturals, as values -/
def nv (l : List Nat) : List V := (Sh66Neutral.ints l).map V.int
theorem nv_length (l : List Nat) : (nv l).length = l.length := by unfold nv; rw [List.length_map, ints_length]
theorem nv_at {l : List Nat} {i : Nat} (h : i < l.length) : (nv l)[i]? = some (.int ((Sh66.num l i : Nat) : Int)) := by
  unfold nv
  rw [List.getElem?_map, ints_at h]
  rfl
theorem nv_get {l : List Nat} {i : Nat} {x : V} (h : (nv l)[i]? = some x) : i < l.length ∧ x = .int ((Sh66.num l i : Nat) : Int) := by
  have hi : i < l.length := by
    have := (List.getElem?_eq_some_iff.mp h).1
    rw [nv_length] at this
    exact this
  rw [nv_at hi] at h
  exact ⟨hi, (Option.some.inj h).symm⟩
theorem nv_append (l m : List Nat) : nv (l ++ m) = nv l ++ nv m := by unfold nv; rw [ints_append, List.map_append]
theorem nv_map {α : Type} (f : α → Nat) (l : List α) : nv (l.map f) = l.map fun a => V.int ((f a : Nat) : Int) := by
  show ((l.map f).map _).map _ = _
  rw [List.map_map, List.map_map]
  rfl
theorem nv_cons (n : Nat) (l : List Nat) : nv (n :: l) = V.int (n : Int) :: nv l := rfl
theorem at_n {xs : List V} {i : Nat} {v : V} (h : xs[i]? = some v) : atI xs ((i : Nat) : Int) = some v := atI_nat h
theorem same_upd {H : Hp} {p : Addr} {o : HO} (h : H p = none) : Same H (upd H p o) := fun b x e => by
  rw [upd_ne (ne_of_none e h)]
  exact e
/-- an object that was made since is written: what was there before stands -/
theorem same_set {H H1 : Hp} {p : Addr} {o : HO} (s : Same H H1) (h : H p = none) : Same H (upd H1 p o) := fun b x e => by
  rw [upd_ne (ne_of_none e h)]
  exact s b x e
theorem Same.none {H H1 : Hp} {p : Addr} (s : Same H H1) (h : H1 p = none) : H p = none := s.free h
theorem seqT {K : PySem.W.Frag} {H H' : Hp} {a : Addr} {xs : List V} (e : Same H H') (h : SqT K H a xs) : SqT K H' a xs := by
  rcases h with (h | ⟨o, h⟩) | h
  · exact .inl (.inl (e _ _ h))
  · exact .inl (.inr ⟨o, e _ _ h⟩)
  · exact .inr h
theorem line_of {n : Nat} (h : n ≤ 1048576) : n ≤ sizeLine := Nat.le_trans h (by decide)
theorem line_lt {n : Nat} (h : n < 1048576) : n < sizeLine := Nat.lt_of_lt_of_le h (by decide)
theorem one_line : 1 ≤ sizeLine := by decide
theorem two_line : 2 ≤ sizeLine := by decide
/-- the answer's end: a list of whole numbers -/
theorem dw_ans {K : PySem.W.Frag} {H : Hp} {p : Addr} (l : List Int) (hp : H p = some (.lst (l.map V.int))) : Dw K H (.ref p) (PySem.W.WData.list (l.map PySem.W.WData.int)) := .lst (SqL.of hp) (dw_ints l)
theorem of_ints {l : List Int} (h : l.all (PySem.W.Codec.inInt 0 65535) = true) : ∃ m : List Nat, l = Sh66Neutral.ints m :=
  ⟨Sh66Neutral.nats l, (ints_nats fun z hz => by
    have q := List.all_eq_true.mp h z hz
    simp only [PySem.W.Codec.inInt, Bool.and_eq_true, decide_eq_true_eq] at q
    exact q.1).symm⟩
theorem dp_ints {K : PySem.W.Frag} {H : Hp} : ∀ l : List Int, DpAll K H (l.map V.int) (l.map PyData.int)
  | [] => .nil
  | i :: l => .cons (.int i) (dp_ints l)
theorem at_of {xs : List V} {z : Int} {j : Nat} {v : V} (e : z = (j : Int)) (h : xs[j]? = some v) : atI xs z = some v := by
  rw [e]
  exact atI_nat h
theorem nv_filter (p : Nat → Bool) (l : List Nat) : ((List.range l.length).filter fun i => p (Sh66.num l i)).map (fun i => V.int ((Sh66.num l i : Nat) : Int)) = nv (l.filter p) := by
  conv => rhs; rw [← map_num l]
  rw [List.filter_map, nv_map]
  rfl
theorem of_int {i hi : Int} (h : PySem.W.Codec.inInt 0 hi i = true) : ∃ n : Nat, i = (n : Int) := by
  simp only [PySem.W.Codec.inInt, Bool.and_eq_true, decide_eq_true_eq] at h
  exact Int.eq_ofNat_of_zero_le h.1
/-! ### names of the module -/
theorem pe_gi {X : Cx} {x : Str} {i : Int} {pos : Pos} (hg : Gl X x) (h : ∃ t, X.mg x = some (.int i t)) (hd : (x == ("__debug__" : Str)) = false := by decide) : PE X (.Name x pos) (tC (.int i)) := by
  obtain ⟨t, h⟩ := h
  exact pe_glob hg h ⟨t, rfl⟩ hd
/-- a def of the module that keeps a promise -/
def Def (P : Program) (w : World) (K : PySem.W.Frag) (mg : Str → Option Value) (base : Heap) (k : Nat) (x : Str) (ps : List Str) (sp : Sp) : Prop :=
  ∃ f fd, mg x = some (.ref f) ∧ PySem.W.keepIn K (.ref f) = true ∧ L2.Binds K fd ps [] ∧ FnOk P w K mg base CX0 k f fd ps sp
theorem Def.mono {P : Program} {w : World} {K : PySem.W.Frag} {mg : Str → Option Value} {base : Heap} {k j : Nat} {x : Str} {ps : List Str} {sp : Sp} (D : Def P w K mg base k x ps sp) (h : k ≤ j) : Def P w K mg base j x ps sp := by
  obtain ⟨f, fd, a, b, c, d⟩ := D
  exact ⟨f, fd, a, b, c, d.mono h⟩
theorem pe_def {X : Cx} {k : Nat} {ps : List Str} {sp : Sp} {x : Str} {p pos : Pos} {e : Expr} {es : List Expr} {t : TA} (D : Def X.prog X.w X.K X.mg X.base k x ps sp) (hr : Room k X.A) (hg : Gl X x) (ha : PA X (e :: es) t)
    (hdb : (x == ("__debug__" : Str)) = false := by decide) (he : starEach (e :: es) X.env = (false, eval e X.env) :: starEach es X.env := by rfl) (hpl : (backTo pos (starEach es X.env)).any (·.1) = false := by rfl) :
    PE X (.Call (.Name x p) (e :: es) [] pos) (tCall sp [] E0 t) := by
  obtain ⟨f, fd, a, b, c, d⟩ := D
  exact pe_call d hr hg a b c .nil pass0 ha hdb he hpl
/-- a built-in function, a built-in class by its name -/
theorem pe_bi {X : Cx} {id : String} {x : Str} {p pos : Pos} {e : Expr} {es : List Expr} {t : TA} {r : List V → Hp → VK → Prop} (hc : CallR X (.builtin id) r) (hg : Gl X x) (hm : X.mg x = none) (ha : PA X (e :: es) t) (hv : bootBuiltins x = some (.builtin id) := by decide +kernel)
    (hn : x ≠ "__name__" := by decide) (hdb : (x == ("__debug__" : Str)) = false := by decide) (he : starEach (e :: es) X.env = (false, eval e X.env) :: starEach es X.env := by rfl) (hpl : (backTo pos (starEach es X.env)).any (·.1) = false := by rfl) : PE X (.Call (.Name x p) (e :: es) [] pos) (tCB r t) := pe_callB hc hg hm hv ha hn hdb he hpl
/-- list(REFUSED) -/
def RefOk (K : PySem.W.Frag) (mg : Str → Option Value) : Prop := ∃ a, mg "REFUSED" = some (.ref a) ∧ ∀ H, SqL K H a [.int (-2)]
def tRefused : TE := fun _ H Q => ∀ l, H l = none → Q (.ref l) (upd H l (.lst [.int (-2)]))
theorem pe_refused {X : Cx} {p p2 pos : Pos} (hg : Gl X "list") (hg2 : Gl X "REFUSED") (hm : X.mg "list" = none) (h : RefOk X.K X.mg) : PE X (.Call (.Name "list" p) [.Name "REFUSED" p2] [] pos) tRefused := by
  obtain ⟨a, e, q⟩ := h
  have b := pe_callTy (X := X) (p := p) (pos := pos) call_list_of hg hm (by decide +kernel) (pa_cons (pe_glob (v := .ref a) (pos := p2) hg2 e rfl) pa_nil)
  exact ⟨fun pins s σ H Q I hw => b.run pins s σ H Q I ⟨a, _, rfl, .inl (q H), hw⟩⟩
/-! ### the walks of a comprehension -/
section
variable {J : It} {n : Nat} {G : Hp → Prop} {Y : Nat → Hp → V → Hp → Prop}
/-- [f i for .. if keep i], the heap growing -/
theorem lc_sel (w : Walk J n G Y) {g : TG} {tt : TT} {te : TE} {vs : List Nat} {σ : L2.St} {H1 : Hp} {D : Addr} {Qd : Hp → Prop} (f : Nat → V) (keep : Nat → Bool) (hD : H1 D = none) (hz : n ≤ sizeLine) (hG : ∀ H, Same H1 H → G H)
    (hs : ∀ i x H H' (R : V → Hp → Prop) (N : Hp → Prop), i < n → Same H1 H → Y i H x H' → (keep i = true → ∀ H4, Same H H4 → R (f i) H4) → (keep i = false → ∀ H4, Same H H4 → N H4) →
      g x (wipe σ vs) H' fun σ2 H2 => wipe σ2 vs = wipe σ vs ∧ tt σ2 H2 fun b H3 => if b = true then te σ2 H3 R else N H3)
    (hd : ∀ H, Same H1 H → H D = some (.lst (((List.range n).filter keep).map f)) → Qd H) :
    ∃ W : Nat → Nat → Hp → Prop, (∃ m, W 0 m (upd H1 D (.lst []))) ∧ ∀ i m H, W i m H →
      (J.stop i H ∧ Qd H) ∨ (J.go i H ∧ ∃ Nx : Hp → Prop, (∀ H', Nx H' → ∃ m', m' < m ∧ W (i + 1) m' H') ∧ ∀ x H', J.yld i H x H' → g x (wipe σ vs) H' fun σ2 H2 => wipe σ2 vs = wipe σ vs ∧ tt σ2 H2 fun b H3 =>
        if b = true then te σ2 H3 fun y H4 => ∃ acc, H4 D = some (.lst acc) ∧ acc.length < sizeLine ∧ Nx (upd H4 D (.lst (acc ++ [y]))) else Nx H3) := by
  have step : ∀ i, (List.range (i + 1)).filter keep = (List.range i).filter keep ++ (if keep i = true then [i] else []) := fun i => by
    rw [List.range_succ, List.filter_append]
    congr 1
    by_cases h : keep i = true
    · rw [List.filter_cons_of_pos h, if_pos h]; rfl
    · rw [List.filter_cons_of_neg h, if_neg h]; rfl
  have len : ∀ i, (((List.range i).filter keep).map f).length ≤ i := fun i => by
    rw [List.length_map]
    exact Nat.le_trans (List.length_filter_le _ _) (Nat.le_of_eq List.length_range)
  refine lc_it w (fun i H => Same H1 H ∧ H D = some (.lst (((List.range i).filter keep).map f))) ⟨same_upd hD, upd_same⟩ (fun i H _ p => hG H p.1) (fun i x H H' hi p y => ?_) fun H p => hd H p.1 p.2
  refine hs i x H H' _ _ hi p.1 y (fun hk H4 s4 => ?_) fun hk H4 s4 => ?_
  · refine ⟨_, s4 _ _ p.2, Nat.lt_of_le_of_lt (len i) (Nat.lt_of_lt_of_le hi hz), same_set (p.1.trans s4) hD, ?_⟩
    rw [upd_same, step i, if_pos hk, List.map_append]
    rfl
  · refine ⟨p.1.trans s4, ?_⟩
    rw [s4 _ _ p.2, step i, if_neg (by rw [hk]; decide), List.append_nil]
/-- [f i for ..] -/
theorem lc_map (w : Walk J n G Y) {g : TG} {te : TE} {vs : List Nat} {σ : L2.St} {H1 : Hp} {D : Addr} {Qd : Hp → Prop} (f : Nat → V) (hD : H1 D = none) (hz : n ≤ sizeLine) (hG : ∀ H, Same H1 H → G H)
    (hs : ∀ i x H H' (R : V → Hp → Prop), i < n → Same H1 H → Y i H x H' → (∀ H4, Same H H4 → R (f i) H4) → g x (wipe σ vs) H' fun σ2 H2 => wipe σ2 vs = wipe σ vs ∧ te σ2 H2 R)
    (hd : ∀ H, Same H1 H → H D = some (.lst ((List.range n).map f)) → Qd H) :
    ∃ W : Nat → Nat → Hp → Prop, (∃ m, W 0 m (upd H1 D (.lst []))) ∧ ∀ i m H, W i m H →
      (J.stop i H ∧ Qd H) ∨ (J.go i H ∧ ∃ Nx : Hp → Prop, (∀ H', Nx H' → ∃ m', m' < m ∧ W (i + 1) m' H') ∧ ∀ x H', J.yld i H x H' → g x (wipe σ vs) H' fun σ2 H2 => wipe σ2 vs = wipe σ vs ∧ tYes σ2 H2 fun b H3 =>
        if b = true then te σ2 H3 fun y H4 => ∃ acc, H4 D = some (.lst acc) ∧ acc.length < sizeLine ∧ Nx (upd H4 D (.lst (acc ++ [y]))) else Nx H3) :=
  lc_sel w f (fun _ => true) hD hz hG (fun i x H H' R N hi s y h1 _ => hs i x H H' R hi s y (h1 rfl)) fun H s e => hd H s (by rw [e, List.filter_eq_self.mpr fun _ _ => rfl])
end
end Sky
namespace Sky
open PySem PySem.Spec PyProof.Rows L2
def topS (i : Nat) : Stmt := PySem.Challenge.pw_skyabove_s02_sk_calm.main.body.getD i (.Pass ⟨0, 0, 0, 0⟩)
abbrev s_beside : Stmt := topS 1
abbrev s_numbers_at : Stmt := topS 2
abbrev s_middle : Stmt := topS 4
abbrev s_is_side : Stmt := topS 8
abbrev s_is_frame : Stmt := topS 9
abbrev s_sk_calm : Stmt := topS 10
section
variable {P : Program} {w : World} {K : PySem.W.Frag} {mg : Str → Option Value} {base : Heap}
/-! ### beside(w, h, place): slots w, h, place, x, y, found, row, column -/
def spBeside : Sp := fun vs H Q _ => ∃ w h p : Nat, vs = [.int w, .int h, .int p] ∧ 1 ≤ w ∧ w ≤ 64 ∧ 1 ≤ h ∧ h ≤ 64 ∧ p < w * h ∧ ∀ H' q, Same H H' → H q = none → H' q = some (.lst (nv (around w h p))) → Q (.ref q) H'
theorem lo_eq (y : Nat) : (if (y : Int) - 1 > 0 then (y : Int) - 1 else 0) = ((y - 1 : Nat) : Int) := by split <;> omega
theorem hi_eq (h y : Nat) : (if (y : Int) + 2 < (h : Int) then (y : Int) + 2 else (h : Int)) = ((min h (y + 2) : Nat) : Int) := by split <;> omega
theorem near_map (c w : Nat) (f : Nat → Nat) : (List.range (((min w (c + 2) : Nat) : Int) - ((c - 1 : Nat) : Int)).toNat).map (fun i => V.int ((f (c - 1 + i) : Nat) : Int)) = nv ((near c w).map f) := by
  unfold near
  rw [show (((min w (c + 2) : Nat) : Int) - ((c - 1 : Nat) : Int)).toNat = min w (c + 2) - (c - 1) by omega, List.range'_eq_map_range, List.map_map, nv_map]
  rfl
theorem rows_len (c w : Nat) : ∀ l : List Nat, (l.flatMap fun r => (near c w).map fun c' => r * w + c').length ≤ l.length * 3
  | [] => Nat.le_refl _
  | a :: l => by
    rw [List.flatMap_cons, List.length_append, List.length_map, List.length_cons]
    have := rows_len c w l
    have := near_len c w
    omega
theorem sc_beside : FnScope ["w", "h", "place", "x", "y", "found", "row", "column"] ["w", "h", "place"] (defScope s_beside) := ⟨rfl, rfl, rfl, by decide +kernel, rfl, by decide +kernel, by decide +kernel⟩
theorem ok_beside {f : Addr} {fd : FuncData} (F : Fun K "beside" "beside" s_beside f fd) (b_range : mg "range" = none) (b_max : mg "max" = none) (b_min : mg "min" = none) : FnOk P w K mg base CX0 1 f fd ["w", "h", "place"] spBeside := by
  refine F.ok sc_beside (fun vs H Q E h => ?_) (fun cdv A outer s H vs Q E hr h => ?_)
  · obtain ⟨_, _, _, rfl, _⟩ := h
    rfl
  · obtain ⟨w, h, p, rfl, hw, hw2, hh, hh2, hp, k⟩ := h
    refine ⟨_, pss_cons (ps_par (i := 3) (j := 4) rfl sc_beside.nd rfl rfl (by decide) rfl rfl (pa_cons (pe_op op_mod (pv 2) (pv 0)) (pa_cons (pe_op op_fdiv (pv 2) (pv 0)) pa_nil)) (by rfl))
      (pss_cons (ps_set (i := 5) sc_beside.nd rfl (.inl rfl) (pe_lst pa_nil))
      (pss_cons (ps_for PassesOwn.never rfl (pi_range2 rfl b_range (pa_cons (pe_bi (call_max2 rfl) rfl b_max (pa_cons pe_int (pa_cons (pe_op op_sub (pv 4) pe_int) pa_nil))) (pa_cons (pe_bi (call_min2 rfl) rfl b_min (pa_cons (pv 1) (pa_cons (pe_op op_add (pv 4) pe_int) pa_nil))) pa_nil))) (pg_name (i := 6) sc_beside.nd rfl (.inr rfl))
        (pss_one (ps_expr (pe_bm PySem.F.plainAttrs_list PySem.F.slot_list_extend PySem.F.type_list_extend mt_extend (pv 5) (pa_cons
          (pe_lc (own := [("column", 7)]) (g := gName 7) rfl sc_beside.nd (pi_range2 rfl b_range (pa_cons (pe_bi (call_max2 rfl) rfl b_max (pa_cons pe_int (pa_cons (pe_op op_sub (pv 3) pe_int) pa_nil))) (pa_cons (pe_bi (call_min2 rfl) rfl b_min (pa_cons (pv 0) (pa_cons (pe_op op_add (pv 3) pe_int) pa_nil))) pa_nil)))
            (blkOk_by (N := ["w", "h", "place", "x", "y", "found", "row", "column"]) (sc := defScope s_beside) (by decide +kernel)) (fun _ _ _ _ _ => pg_name (i := 7) sc_beside.nd rfl (.inl rfl)) (fun _ _ _ _ _ => pts_nil) (fun _ _ _ _ _ => pe_op op_add (pe_op op_mul (pv 6) (pv 0)) (pv 7))) pa_nil)))))
      (pss_one (ps_ret (pv 5))))), ?_⟩
    -- x, y = place % w, place // w
    refine ⟨_, rfl, _, rfl, _, _, rfl, rfl, by omega, _, rfl, _, rfl, _, _, rfl, rfl, ⟨by omega, by omega⟩, .int ((p % w : Nat) : Int), .int ((p / w : Nat) : Int), rfl, ?_⟩
    have hc : p % w < w := Nat.mod_lt _ hw
    have hrr : p / w < h := Nat.div_lt_of_lt_mul hp
    have hpe : around w h p = (near (p / w) h).flatMap fun r => (near (p % w) w).map fun c => r * w + c := rfl
    generalize hX : p % w = c at *
    generalize hY : p / w = r at *
    -- found = []
    refine ⟨Nat.zero_le _, fun o no => ?_⟩
    -- for row in range(..)
    refine ⟨_, rfl, _, _, rfl, rfl, _, _, rfl, _, rfl, _, rfl, _, _, rfl, rfl, _, _, rfl, ((r - 1 : Nat) : Int), ((min h (r + 2) : Nat) : Int), ?_, ⟨by omega, by omega, by omega, by omega⟩,
      for_it (walk_range (lo := ((r - 1 : Nat) : Int)) (n := (((min h (r + 2) : Nat) : Int) - ((r - 1 : Nat) : Int)).toNat)) (fun i σ H' => ∃ v6 v7, σ = [some (.int w), some (.int h), some (.int p), some (.int c), some (.int r), some (.ref o), v6, v7] ∧ Same H H' ∧ H' o = some (.lst (nv ((List.range' (r - 1) i).flatMap fun r => (near c w).map fun c => r * w + c))))
      ⟨none, none, rfl, same_upd no, upd_same⟩ (fun _ _ _ _ _ => trivial) ?_ ?_⟩
    · rw [← lo_eq, ← hi_eq]
    · rintro i x σ H1 H2 hi ⟨v6, v7, rfl, s1, eo⟩ ⟨rfl, rfl⟩
      -- found.extend([..])
      refine ⟨.ref o, rfl, .inl ⟨rfl, _, .inl (.inl eo)⟩, ?_⟩
      refine ⟨_, rfl, _, _, rfl, rfl, _, _, rfl, _, rfl, _, rfl, _, _, rfl, rfl, _, _, rfl, ((c - 1 : Nat) : Int), ((min w (c + 2) : Nat) : Int), ?_, ⟨by omega, by omega, by omega, by omega⟩, fun D nD =>
        lc_map (walk_range (lo := ((c - 1 : Nat) : Int)) (n := (((min w (c + 2) : Nat) : Int) - ((c - 1 : Nat) : Int)).toNat)) (fun j => .int (((r - 1 + i) * w + (c - 1 + j) : Nat) : Int)) nD (line_of (by omega)) (fun _ _ => trivial) ?_ ?_⟩
      · rw [← lo_eq, ← hi_eq]
      · rintro j x H3 H4 R hj s3 ⟨rfl, rfl⟩ q
        refine ⟨rfl, _, rfl, _, rfl, _, _, rfl, rfl, .inr ⟨by omega, by omega⟩, _, rfl, _, _, rfl, rfl, ?_⟩
        have e : ((((r - 1 : Nat) : Int) + (i : Nat)) * (w : Int) + (((c - 1 : Nat) : Int) + (j : Nat))) = (((r - 1 + i) * w + (c - 1 + j) : Nat) : Int) := by
          rw [Int.natCast_add, Int.natCast_mul, Int.natCast_add, Int.natCast_add]
        have q := q _ (Same.refl _)
        rw [← e] at q
        exact q
      · intro H4 s4 e4
        refine ⟨o, D, _, _, rfl, rfl, s4 _ _ eo, e4, line_of ?_, _, _, rfl, same_set (s1.trans s4) no, ?_⟩
        · rw [nv_length, List.length_map, List.length_range]
          have := rows_len c w (List.range' (r - 1) i)
          rw [List.length_range'] at this
          omega
        · rw [upd_same, List.range'_concat, List.flatMap_append, nv_append, near_map c w fun z => (r - 1 + i) * w + z, List.flatMap_cons, List.flatMap_nil, List.append_nil, Nat.one_mul]
    · rintro σ H1 ⟨v6, v7, rfl, s1, eo⟩
      refine ⟨_, rfl, k _ o s1 no ?_⟩
      rw [eo, hpe]
      unfold near
      rw [show (((min h (r + 2) : Nat) : Int) - ((r - 1 : Nat) : Int)).toNat = min h (r + 2) - (r - 1) by omega]
/-! ### numbers_at(frame, places): slots frame, places, place -/
def spNumbersAt (K : PySem.W.Frag) : Sp := fun vs H Q _ => ∃ (a b : Addr) (x l : List Nat), vs = [.ref a, .ref b] ∧ SqL K H a (nv x) ∧ SqL K H b (nv l) ∧ l.length ≤ 5000 ∧ (∀ i ∈ l, i < x.length) ∧ ∀ H' p, Same H H' → H p = none → H' p = some (.lst (nv (l.map (Sh66.num x)))) → Q (.ref p) H'
theorem sc_numbers_at : FnScope ["frame", "places", "place"] ["frame", "places"] (defScope s_numbers_at) := ⟨rfl, rfl, rfl, by decide +kernel, rfl, by decide +kernel, by decide +kernel⟩
theorem ok_numbers_at {f : Addr} {fd : FuncData} (F : Fun K "numbers_at" "numbers_at" s_numbers_at f fd) : FnOk P w K mg base CX0 1 f fd ["frame", "places"] (spNumbersAt K) := by
  refine F.ok sc_numbers_at (fun vs H Q E h => ?_) (fun cdv A outer s H vs Q E hr h => ?_)
  · obtain ⟨_, _, _, _, rfl, _⟩ := h
    rfl
  · obtain ⟨a, b, x, l, rfl, ha, hb, hl, hi, k⟩ := h
    refine ⟨_, pss_one (ps_ret (pe_lc (own := [("place", 2)]) (g := gName 2) (te := tOp (rIxL K) (tVar 0) (tVar 2)) rfl sc_numbers_at.nd (pi_list (pv 1)) (blkOk_by (N := ["frame", "places", "place"]) (sc := defScope s_numbers_at) (by decide +kernel))
        (fun _ _ _ _ _ => pg_name (i := 2) sc_numbers_at.nd rfl (.inl rfl)) (fun _ _ _ _ _ => pts_nil) (fun _ _ _ _ _ => pe_ix ix_list (pv 0) (pv 2) (fun _ _ => rfl)))), ?_⟩
    refine ⟨_, rfl, b, rfl, ⟨_, hb⟩, fun D nD => lc_map (walk_list (xs := nv l)) (fun i => .int ((Sh66.num x (Sh66.num l i) : Nat) : Int)) nD (line_of (by rw [nv_length]; omega)) (fun H2 s2 => s2.seq hb) ?_ ?_⟩
    · intro i v H2 H3 R hil s2 yv r
      obtain ⟨rfl, g1⟩ := yv
      obtain ⟨hil, rfl⟩ := nv_get g1
      exact ⟨rfl, _, rfl, _, rfl, a, _, _, _, rfl, rfl, s2.seq ha, at_n (nv_at (hi _ (List.mem_of_getElem? (num_at hil)))), r _ (Same.refl _)⟩
    · intro H4 s4 e4
      refine k _ D s4 nD (e4.trans (congrArg (fun z => some (HO.lst z)) ?_))
      rw [nv_length]
      conv => rhs; rw [← map_num l]
      rw [List.map_map, nv_map]
      rfl
/-! ### middle(some) -/
def spMiddle (K : PySem.W.Frag) : Sp := fun vs H Q _ => ∃ (a : Addr) (l : List Nat), vs = [.ref a] ∧ SqL K H a (nv l) ∧ ∀ H', Same H H' → Q (.int ((Sh66.median l : Nat) : Int)) H'
theorem sc_middle : FnScope ["some"] ["some"] (defScope s_middle) := ⟨rfl, rfl, rfl, by decide +kernel, rfl, by decide +kernel, by decide +kernel⟩
theorem ok_middle {f : Addr} {fd : FuncData} (F : Fun K "middle" "middle" s_middle f fd) (b_sorted : mg "sorted" = none) (b_len : mg "len" = none) : FnOk P w K mg base CX0 1 f fd ["some"] (spMiddle K) := by
  refine F.ok sc_middle (fun vs H Q E h => ?_) (fun cdv A outer s H vs Q E hr h => ?_)
  · obtain ⟨_, _, rfl, _⟩ := h
    rfl
  · obtain ⟨a, l, rfl, hs, k⟩ := h
    refine ⟨_, pss_cons (ps_if (pt_cmpR (op_eqD hr.units) (pv 0) (pe_lst pa_nil) (nomark _)) (pss_one (ps_ret pe_int)) pss_nil)
      (pss_one (ps_ret (pe_ix ix_list (pe_bi cr_sortedI rfl b_sorted (pa_cons (pv 0) pa_nil)) (pe_op op_fdiv (pe_op op_sub (pe_bi call_len_seq rfl b_len (pa_cons (pv 0) pa_nil)) pe_int) pe_int) (fun _ _ => rfl)))), ?_⟩
    refine ⟨_, rfl, Nat.zero_le _, fun o no => ?_⟩
    have s1 : Same H (upd H o (.lst [])) := same_upd no
    refine ⟨.list ((Sh66Neutral.ints l).map PyData.int), .list [], .lst (s1.seq hs) (dp_ints _), .lst (SqL.of upd_same) .nil, PySem.W.shaped_ints _, PySem.W.shaped_ints [], _, rfl, ?_⟩
    cases l with
    | nil =>
      have q := k _ s1
      rw [median_nil] at q
      exact iteT q
    | cons n r =>
      refine iteF ?_
      generalize hl : n :: r = l at *
      have hne : l ≠ [] := by rw [← hl]; exact List.cons_ne_nil _ _
      refine ⟨_, rfl, a, Sh66Neutral.ints l, rfl, s1.seq hs, fun ns' p hp hq np => ?_⟩
      have s2 := same_upd (o := .lst (ns'.map V.int)) np
      refine ⟨_, rfl, a, nv l, rfl, .inl (s2.seq (s1.seq hs)), _, _, rfl, rfl, _, _, rfl, rfl, ⟨by decide, by decide⟩, p, _, _, .int ((Sh66.median l : Nat) : Int), rfl, rfl, SqL.of upd_same, ?_, k _ (s1.trans s2)⟩
      have e := sorted_ints hp hq
      subst e
      have hlen : 0 < l.length := List.length_pos_iff.mpr hne
      refine at_of (j := (l.length - 1) / 2) ?_ ?_
      · rw [nv_length]
        omega
      · rw [List.getElem?_map, median_at hne]
        rfl
/-! ### is_side(number) -/
def spSide : Sp := fun vs H Q _ => ∃ i : Nat, vs = [.int i] ∧ Q (.bl (decide (1 ≤ i ∧ i ≤ 64))) H
theorem sc_is_side : FnScope ["number"] ["number"] (defScope s_is_side) := ⟨rfl, rfl, rfl, by decide +kernel, rfl, by decide +kernel, by decide +kernel⟩
theorem ok_is_side {f : Addr} {fd : FuncData} (F : Fun K "is_side" "is_side" s_is_side f fd) (c_MS : ∃ t, mg "MOST_SIDE" = some (.int 64 t)) : FnOk P w K mg base CX0 1 f fd ["number"] spSide := by
  refine F.ok sc_is_side (fun vs H Q E h => ?_) (fun cdv A outer s H vs Q E hr h => ?_)
  · obtain ⟨_, rfl, _⟩ := h
    rfl
  · obtain ⟨i, rfl, k⟩ := h
    refine ⟨_, pss_one (ps_ret (pe_chain op_le op_le pe_int (pv 0) (pe_gi rfl c_MS))), ?_⟩
    refine ⟨_, rfl, _, _, rfl, rfl, _, rfl, ite2 (fun c => ?_) (fun c => ?_)⟩
    · have c : (1 : Int) ≤ (i : Int) := of_decide_eq_true c
      refine ⟨_, _, rfl, rfl, ?_⟩
      have e : decide (1 ≤ i ∧ i ≤ 64) = decide ((i : Int) ≤ 64) := decide_eq_decide.mpr (by omega)
      rw [e] at k
      exact k
    · have c : ¬ (1 : Int) ≤ (i : Int) := fun z => c (decide_eq_true z)
      rw [decide_eq_false (show ¬ (1 ≤ i ∧ i ≤ 64) by omega)] at k
      exact k
/-! ### is_frame(w, h) -/
def spFrame : Sp := fun vs H Q _ => ∃ w h : Nat, vs = [.int w, .int h] ∧ Q (.bl (decide ((1 ≤ w ∧ w ≤ 64) ∧ 1 ≤ h ∧ h ≤ 64))) H
theorem sc_is_frame : FnScope ["w", "h"] ["w", "h"] (defScope s_is_frame) := ⟨rfl, rfl, rfl, by decide +kernel, rfl, by decide +kernel, by decide +kernel⟩
theorem ok_is_frame {f : Addr} {fd : FuncData} (F : Fun K "is_frame" "is_frame" s_is_frame f fd) (D_is_side : Def P w K mg base 1 "is_side" ["number"] spSide) : FnOk P w K mg base CX0 2 f fd ["w", "h"] spFrame := by
  refine F.ok sc_is_frame (fun vs H Q E h => ?_) (fun cdv A outer s H vs Q E hr h => ?_)
  · obtain ⟨_, _, rfl, _⟩ := h
    rfl
  · obtain ⟨i, j, rfl, k⟩ := h
    refine ⟨_, pss_one (ps_ret (pe_and (pe_def D_is_side hr rfl (pa_cons (pv 0) pa_nil)) (pe_one (pe_def D_is_side hr rfl (pa_cons (pv 1) pa_nil))))), ?_⟩
    refine ⟨_, rfl, i, rfl, _, rfl, ite2 (fun c => ?_) (fun c => ?_)⟩
    · have c := of_decide_eq_true c
      have e : decide ((1 ≤ i ∧ i ≤ 64) ∧ 1 ≤ j ∧ j ≤ 64) = decide (1 ≤ j ∧ j ≤ 64) := decide_eq_decide.mpr (by omega)
      rw [e] at k
      exact ⟨_, rfl, j, rfl, k⟩
    · have c : ¬ (1 ≤ i ∧ i ≤ 64) := fun z => c (decide_eq_true z)
      rw [decide_eq_false (show ¬ ((1 ≤ i ∧ i ≤ 64) ∧ 1 ≤ j ∧ j ≤ 64) from fun z => c z.1)] at k
      exact k
/-! ### sk_calm(w, h, x): slots w, h, x, place -/
def ansCalm (w h : Nat) (x : List Nat) : List Int := if (1 ≤ w ∧ w ≤ 64) ∧ 1 ≤ h ∧ h ≤ 64 then 0 :: Sh66Neutral.ints (Sh66.calmed w h x) else [-2]
def spTop (K : PySem.W.Frag) : Sp := fun vs H Q _ => ∃ (w h : Nat) (a : Addr) (x : List Nat), vs = [.int w, .int h, .ref a] ∧ SqL K H a (nv x) ∧ ((1 ≤ w ∧ w ≤ 64) ∧ 1 ≤ h ∧ h ≤ 64 → x.length = w * h) ∧ ∀ H' p, H' p = some (.lst ((ansCalm w h x).map V.int)) → Q (.ref p) H'
theorem sc_sk_calm : FnScope ["w", "h", "x", "place"] ["w", "h", "x"] (defScope s_sk_calm) := ⟨rfl, rfl, rfl, by decide +kernel, rfl, by decide +kernel, by decide +kernel⟩
theorem ok_sk_calm {f : Addr} {fd : FuncData} (F : Fun K "sk_calm" "sk_calm" s_sk_calm f fd) (D_is_frame : Def P w K mg base 2 "is_frame" ["w", "h"] spFrame) (D_middle : Def P w K mg base 1 "middle" ["some"] (spMiddle K)) (D_numbers_at : Def P w K mg base 1 "numbers_at" ["frame", "places"] (spNumbersAt K)) (D_beside : Def P w K mg base 1 "beside" ["w", "h", "place"] spBeside)
    (b_list : mg "list" = none) (b_range : mg "range" = none) (r : RefOk K mg) : FnOk P w K mg base CX0 3 f fd ["w", "h", "x"] (spTop K) := by
  refine F.ok sc_sk_calm (fun vs H Q E h => ?_) (fun cdv A outer s H vs Q E hr h => ?_)
  · obtain ⟨_, _, _, _, rfl, _⟩ := h
    rfl
  · obtain ⟨w, h, a, x, rfl, hx, hl, k⟩ := h
    have hr1 := hr.mono (show 1 ≤ 2 by decide)
    refine ⟨_, pss_cons (ps_if (pt_not (pt_val (pe_def D_is_frame hr rfl (pa_cons (pv 0) (pa_cons (pv 1) pa_nil))))) (pss_one (ps_ret (pe_refused rfl rfl b_list r))) pss_nil)
      (pss_one (ps_ret (pe_op op_cat (pe_lst (pa_cons pe_int pa_nil)) (pe_lc (own := [("place", 3)]) (g := gName 3) rfl sc_sk_calm.nd (pi_range1 rfl b_range (pa_cons (pe_op op_mul (pv 0) (pv 1)) pa_nil))
        (blkOk_by (N := ["w", "h", "x", "place"]) (sc := defScope s_sk_calm) (by decide +kernel)) (fun _ _ _ _ _ => pg_name (i := 3) sc_sk_calm.nd rfl (.inl rfl)) (fun _ _ _ _ _ => pts_nil)
        (fun _ _ _ _ _ => pe_def D_middle hr1 rfl (pa_cons (pe_def D_numbers_at hr1 rfl (pa_cons (pv 2) (pa_cons (pe_def D_beside hr1 rfl (pa_cons (pv 0) (pa_cons (pv 1) (pa_cons (pv 3) pa_nil)))) pa_nil))) pa_nil)))))), ?_⟩
    refine ⟨_, rfl, _, rfl, w, h, rfl, _, rfl, ?_⟩
    by_cases c : (1 ≤ w ∧ w ≤ 64) ∧ 1 ≤ h ∧ h ≤ 64
    · rw [decide_eq_true c]
      refine iteF ?_
      have hxl := hl c
      obtain ⟨⟨hw, hw2⟩, hh, hh2⟩ := c
      have hwh : w * h ≤ 4096 := Nat.mul_le_mul hw2 hh2
      refine ⟨one_line, fun o no => ?_⟩
      have s1 : Same H (upd H o (.lst [.int 0])) := same_upd no
      refine ⟨_, rfl, _, rfl, _, _, rfl, rfl, .inl ⟨by omega, by omega⟩, ((w * h : Nat) : Int), by rw [Int.natCast_mul], by omega, by omega, fun D nD => lc_map (walk_range (lo := 0) (n := ((w * h : Nat) : Int).toNat)) (fun p => .int ((Sh66.median ((around w h p).map (Sh66.num x)) : Nat) : Int)) nD (line_of (by omega)) (fun _ _ => trivial) ?_ ?_⟩
      · rintro i v H2 H3 R hi s2 ⟨rfl, rfl⟩ q
        rw [Int.toNat_natCast] at hi
        refine ⟨rfl, _, rfl, _, rfl, _, rfl, _, rfl, w, h, i, ?_, hw, hw2, hh, hh2, hi, fun H4 b s4 nb eb => ?_⟩
        · show [V.int (w : Int), V.int (h : Int), V.int (0 + (i : Int))] = _
          rw [Int.zero_add]
        · refine ⟨a, b, x, around w h i, rfl, ((s1.trans s2).trans s4).seq hx, SqL.of eb, Nat.le_trans (around_len w h i) (by decide), fun j hj => by rw [hxl]; exact around_lt hj, fun H5 d s5 nd ed => ?_⟩
          exact ⟨d, _, rfl, SqL.of ed, fun H6 s6 => q _ ((s4.trans s5).trans s6)⟩
      · intro H4 s4 e4
        refine ⟨o, D, _, _, rfl, rfl, s4 _ _ upd_same, e4, line_of ?_, fun p np => k _ p ?_⟩
        · rw [List.length_map, List.length_range, Int.toNat_natCast]
          show 1 + w * h ≤ _
          omega
        · rw [upd_same]
          unfold ansCalm
          rw [if_pos ⟨⟨hw, hw2⟩, hh, hh2⟩, List.map_cons, calmed_eq hw, Int.toNat_natCast]
          show _ = some (HO.lst (V.int 0 :: nv _))
          rw [nv_map]
          rfl
    · rw [decide_eq_false c]
      refine iteT fun p np => k _ p ?_
      rw [upd_same]
      unfold ansCalm
      rw [if_neg c]
      rfl
end
theorem spec_top (w h : Nat) (x : List Nat) : PySh66.sk_calm (w : Int) (h : Int) (Sh66Neutral.ints x) = ansCalm w h x := by
  show Sh66Neutral.told (Sh66.answer (if (Sh66.sized (w : Int).toNat (h : Int).toNat) = true then .calm (w : Int).toNat (h : Int).toNat (Sh66Neutral.nats (Sh66Neutral.ints x)) else .bad)) = _
  rw [nats_ints, Int.toNat_natCast, Int.toNat_natCast]
  unfold ansCalm
  by_cases c : (1 ≤ w ∧ w ≤ 64) ∧ 1 ≤ h ∧ h ≤ 64
  · rw [if_pos (sized_iff.mpr c), if_pos c]
    rfl
  · rw [if_neg (fun z => c (sized_iff.mp z)), if_neg c]
    rfl
theorem asked_if {w h : Int} {x : List Int} (q : PySh66.sk_calm_asked w h x = true) : (if (Sh66.sized w.toNat h.toNat) = true then x.length == w.toNat * h.toNat else (x.isEmpty) || (x.length == w.toNat * h.toNat)) = true := by
  have q : (Sh66Neutral.asked1 [[1, w, h], x] && decide ((Sh66Neutral.f [[1, w, h], x]).length < 1000000)) = true := q
  have q := (Bool.and_eq_true_iff.mp q).1
  have q : (Sh66Neutral.natural w 32 && (Sh66Neutral.natural h 32 && ((x.all fun z => Sh66Neutral.natural z 16) && (if (Sh66.sized w.toNat h.toNat) = true then x.length == w.toNat * h.toNat else (x.isEmpty) || (x.length == w.toNat * h.toNat))))) = true := q
  simp only [Bool.and_eq_true] at q
  exact q.2.2.2
theorem asked_top {w h : Nat} {x : List Nat} (q : PySh66.sk_calm_asked (w : Int) (h : Int) (Sh66Neutral.ints x) = true) : (1 ≤ w ∧ w ≤ 64) ∧ 1 ≤ h ∧ h ≤ 64 → x.length = w * h := by
  intro c
  have q := asked_if q
  rw [Int.toNat_natCast, Int.toNat_natCast, if_pos (sized_iff.mpr c), ints_length, beq_iff_eq] at q
  exact q
theorem app3 (g : Int → Int → List Int → Bool) (w h : Int) (x : List Int) : PySem.W.Codec.app PySem.Challenge.fa_skyabove_s02_sk_calm g (w, h, x, ()) = g w h x := rfl
theorem all_mk {P : Program} {w : World} {K : PySem.W.Frag} {h : Heap} {mg : Str → Option Value} {fa : Addr} (X : K.In h) (G : h.Ns mainGlobals mg) (hfa : mg "sk_calm" = some (.ref fa))
    {f0 : Addr} {od0 an0 : Option Addr} {sl0 : Array (Option Value)} {oc0 kV0 dc0 pm0 cd0 ct0 : Value}
    (a0 : PySem.W.nsIn K mainGlobals "beside" = some (some (.ref f0))) (l0 : K.lookup f0 = some ⟨oc0, od0, .func (PySem.W.fnOf "beside" "beside" (defArgs s_beside) (defBody s_beside) (defScope s_beside) .none kV0 dc0 pm0 an0 cd0 ct0), sl0⟩) (c0 : PySem.W.codeIn K cd0 "beside" = true) (k0 : PySem.W.keepIn K (.ref f0) = true)
    {f1 : Addr} {od1 an1 : Option Addr} {sl1 : Array (Option Value)} {oc1 kV1 dc1 pm1 cd1 ct1 : Value}
    (a1 : PySem.W.nsIn K mainGlobals "numbers_at" = some (some (.ref f1))) (l1 : K.lookup f1 = some ⟨oc1, od1, .func (PySem.W.fnOf "numbers_at" "numbers_at" (defArgs s_numbers_at) (defBody s_numbers_at) (defScope s_numbers_at) .none kV1 dc1 pm1 an1 cd1 ct1), sl1⟩) (c1 : PySem.W.codeIn K cd1 "numbers_at" = true) (k1 : PySem.W.keepIn K (.ref f1) = true)
    {f2 : Addr} {od2 an2 : Option Addr} {sl2 : Array (Option Value)} {oc2 kV2 dc2 pm2 cd2 ct2 : Value}
    (a2 : PySem.W.nsIn K mainGlobals "middle" = some (some (.ref f2))) (l2 : K.lookup f2 = some ⟨oc2, od2, .func (PySem.W.fnOf "middle" "middle" (defArgs s_middle) (defBody s_middle) (defScope s_middle) .none kV2 dc2 pm2 an2 cd2 ct2), sl2⟩) (c2 : PySem.W.codeIn K cd2 "middle" = true) (k2 : PySem.W.keepIn K (.ref f2) = true)
    {f3 : Addr} {od3 an3 : Option Addr} {sl3 : Array (Option Value)} {oc3 kV3 dc3 pm3 cd3 ct3 : Value}
    (a3 : PySem.W.nsIn K mainGlobals "is_side" = some (some (.ref f3))) (l3 : K.lookup f3 = some ⟨oc3, od3, .func (PySem.W.fnOf "is_side" "is_side" (defArgs s_is_side) (defBody s_is_side) (defScope s_is_side) .none kV3 dc3 pm3 an3 cd3 ct3), sl3⟩) (c3 : PySem.W.codeIn K cd3 "is_side" = true) (k3 : PySem.W.keepIn K (.ref f3) = true)
    {f4 : Addr} {od4 an4 : Option Addr} {sl4 : Array (Option Value)} {oc4 kV4 dc4 pm4 cd4 ct4 : Value}
    (a4 : PySem.W.nsIn K mainGlobals "is_frame" = some (some (.ref f4))) (l4 : K.lookup f4 = some ⟨oc4, od4, .func (PySem.W.fnOf "is_frame" "is_frame" (defArgs s_is_frame) (defBody s_is_frame) (defScope s_is_frame) .none kV4 dc4 pm4 an4 cd4 ct4), sl4⟩) (c4 : PySem.W.codeIn K cd4 "is_frame" = true) (k4 : PySem.W.keepIn K (.ref f4) = true)
    {f5 : Addr} {od5 an5 : Option Addr} {sl5 : Array (Option Value)} {oc5 kV5 dc5 pm5 cd5 ct5 : Value}
    (a5 : PySem.W.nsIn K mainGlobals "sk_calm" = some (some (.ref f5))) (l5 : K.lookup f5 = some ⟨oc5, od5, .func (PySem.W.fnOf "sk_calm" "sk_calm" (defArgs s_sk_calm) (defBody s_sk_calm) (defScope s_sk_calm) .none kV5 dc5 pm5 an5 cd5 ct5), sl5⟩) (c5 : PySem.W.codeIn K cd5 "sk_calm" = true) (k5 : PySem.W.keepIn K (.ref f5) = true)
    {t_MOST_SIDE : Tok} (n_MOST_SIDE : PySem.W.nsIn K mainGlobals "MOST_SIDE" = some (some (.int (64) t_MOST_SIDE)))
    {rr : Addr} {rt : Tok} {rn : Nat} {rs : Array (Option Value)} (n_REFUSED : PySem.W.nsIn K mainGlobals "REFUSED" = some (some (.ref rr))) (l_REFUSED : K.lookup rr = some ⟨.type "list", none, .seq #[.int (-2) rt] rn, rs⟩)
    (n_range : PySem.W.nsIn K mainGlobals "range" = some none)
    (n_max : PySem.W.nsIn K mainGlobals "max" = some none)
    (n_min : PySem.W.nsIn K mainGlobals "min" = some none)
    (n_sorted : PySem.W.nsIn K mainGlobals "sorted" = some none)
    (n_len : PySem.W.nsIn K mainGlobals "len" = some none)
    (n_list : PySem.W.nsIn K mainGlobals "list" = some none)
    : ∃ fd : FuncData, (∀ (s : Shared) (us : List Value), us.length = (["w", "h", "x"] : List Str).length → BindsTo s fd ⟨us, []⟩ ((["w", "h", "x"] : List Str).zip us)) ∧ ∀ base : Heap, K.In base → base.Ns mainGlobals mg → FnOk P w K mg base CX0 3 fa fd ["w", "h", "x"] (spTop K) := by
  have e := hfa.symm.trans (PySem.W.mg_of X G a5)
  cases e
  have F0 := fun_mk (st := s_beside) l0 c0 k0
  have F1 := fun_mk (st := s_numbers_at) l1 c1 k1
  have F2 := fun_mk (st := s_middle) l2 c2 k2
  have F3 := fun_mk (st := s_is_side) l3 c3 k3
  have F4 := fun_mk (st := s_is_frame) l4 c4 k4
  have F5 := fun_mk (st := s_sk_calm) l5 c5 k5
  have b0 := F0.binds (ps := ["w", "h", "place"]) fun _ _ _ _ _ _ us hl => match us, hl with | [_, _, _], _ => rfl
  have b1 := F1.binds (ps := ["frame", "places"]) fun _ _ _ _ _ _ us hl => match us, hl with | [_, _], _ => rfl
  have b2 := F2.binds (ps := ["some"]) fun _ _ _ _ _ _ us hl => match us, hl with | [_], _ => rfl
  have b3 := F3.binds (ps := ["number"]) fun _ _ _ _ _ _ us hl => match us, hl with | [_], _ => rfl
  have b4 := F4.binds (ps := ["w", "h"]) fun _ _ _ _ _ _ us hl => match us, hl with | [_, _], _ => rfl
  refine ⟨PySem.W.fnOf "sk_calm" "sk_calm" (defArgs s_sk_calm) (defBody s_sk_calm) (defScope s_sk_calm) .none kV5 dc5 pm5 an5 cd5 ct5, fun s us hu => match us, hu with | [_, _, _], _ => .of_eq rfl, fun base _ _ => ?_⟩
  have D_beside : Def P w K mg base 1 "beside" ["w", "h", "place"] (spBeside) := ⟨_, _, PySem.W.mg_of X G a0, k0, b0, ok_beside F0 (PySem.W.mg_none_of X G n_range) (PySem.W.mg_none_of X G n_max) (PySem.W.mg_none_of X G n_min)⟩
  have D_numbers_at : Def P w K mg base 1 "numbers_at" ["frame", "places"] (spNumbersAt K) := ⟨_, _, PySem.W.mg_of X G a1, k1, b1, ok_numbers_at F1⟩
  have D_middle : Def P w K mg base 1 "middle" ["some"] (spMiddle K) := ⟨_, _, PySem.W.mg_of X G a2, k2, b2, ok_middle F2 (PySem.W.mg_none_of X G n_sorted) (PySem.W.mg_none_of X G n_len)⟩
  have D_is_side : Def P w K mg base 1 "is_side" ["number"] (spSide) := ⟨_, _, PySem.W.mg_of X G a3, k3, b3, ok_is_side F3 ⟨_, PySem.W.mg_of X G n_MOST_SIDE⟩⟩
  have D_is_frame : Def P w K mg base 2 "is_frame" ["w", "h"] (spFrame) := ⟨_, _, PySem.W.mg_of X G a4, k4, b4, ok_is_frame F4 D_is_side⟩
  exact ok_sk_calm F5 D_is_frame D_middle D_numbers_at D_beside (PySem.W.mg_none_of X G n_list) (PySem.W.mg_none_of X G n_range) ⟨rr, PySem.W.mg_of X G n_REFUSED, fun _ => .inr ⟨_, _, _, l_REFUSED, rfl, rfl, rfl, one_line, .cons ⟨_, rfl⟩ .nil⟩⟩
end Sky
open PySem PySem.W PyProof.Rows
set_option maxRecDepth 100000 in
set_option maxHeartbeats 8000000 in
theorem PySem.Challenge.cw_skyabove_s02_sk_calm_holds : PySem.Challenge.rw_skyabove_s02_sk_calm.Holds := by
  w_on; k_headS; (case hw => exact ⟨[.int 0, .int 0, .list []], by decide +kernel, by decide +kernel⟩)
  k_fillS
  refine L2.walk_specK (r := PySem.Challenge.rw_skyabove_s02_sk_calm) (k := 3) (CX := L2.CX0) (ps := ["w", "h", "x"]) (sp := Sky.spTop) (by decide +kernel) rfl rfl ⟨rfl, by decide, by decide⟩ (fun w h Y => PySem.W.kIn_of Y) ?F ?S (fun _ _ _ _ z => z)
  case F =>
    intro w mg fa h Y KX G hmg
    refine' Sky.all_mk KX G hmg ?a0 ?l0 ?c0 ?k0 ?a1 ?l1 ?c1 ?k1 ?a2 ?l2 ?c2 ?k2 ?a3 ?l3 ?c3 ?k3 ?a4 ?l4 ?c4 ?k4 ?a5 ?l5 ?c5 ?k5 ?n_MOST_SIDE ?n_REFUSED ?l_REFUSED ?n_range ?n_max ?n_min ?n_sorted ?n_len ?n_list
    (case a0 => k_is)
    (case l0 => k_is)
    (case c0 => k_is)
    (case k0 => k_is)
    (case a1 => k_is)
    (case l1 => k_is)
    (case c1 => k_is)
    (case k1 => k_is)
    (case a2 => k_is)
    (case l2 => k_is)
    (case c2 => k_is)
    (case k2 => k_is)
    (case a3 => k_is)
    (case l3 => k_is)
    (case c3 => k_is)
    (case k3 => k_is)
    (case a4 => k_is)
    (case l4 => k_is)
    (case c4 => k_is)
    (case k4 => k_is)
    (case a5 => k_is)
    (case l5 => k_is)
    (case c5 => k_is)
    (case k5 => k_is)
    (case n_MOST_SIDE => k_is)
    (case n_REFUSED => k_is)
    (case l_REFUSED => k_is)
    (case n_range => k_is)
    (case n_max => k_is)
    (case n_min => k_is)
    (case n_sorted => k_is)
    (case n_len => k_is)
    (case n_list => k_is)
  case S =>
    intro K H xs a hO hwi hask hx
    obtain ⟨w, h, x, u⟩ := a
    cases hx with
    | cons h0 hx => cases hx with
    | cons h1 hx => cases hx with
    | cons h2 hx =>
      cases hx
      cases h0
      cases h1
      cases h2 with
      | lst s1 d1 =>
        have e1 := L2.ints_dw x _ d1
        subst e1
        have q : (Codec.inInt 0 4294967295 w && (Codec.inInt 0 4294967295 h && ((Codec.inLen 0 4200 x && x.all (Codec.inInt 0 65535)) && true))) = true := hwi
        simp only [Bool.and_eq_true] at q
        obtain ⟨w, rfl⟩ := Sky.of_int q.1
        obtain ⟨h, rfl⟩ := Sky.of_int q.2.1
        obtain ⟨x, rfl⟩ := Sky.of_ints q.2.2.1.2
        have z : PySh66.sk_calm_asked (w : Int) (h : Int) (Sh66Neutral.ints x) = true := (Sky.app3 PySh66.sk_calm_asked (w : Int) (h : Int) (Sh66Neutral.ints x)).symm.trans hask
        refine ⟨w, h, _, x, rfl, s1, Sky.asked_top z, fun H' p hp => ?_⟩
        show L2.Dw K H' (.ref p) (WData.list ((PySh66.sk_calm (w : Int) (h : Int) (Sh66Neutral.ints x)).map WData.int))
        rw [Sky.spec_top w h x]
        exact Sky.dw_ans _ hp
#print axioms PySem.Challenge.cw_skyabove_s02_sk_calm_holds
