import PyProof.Rows.All
import Wide.All
import OpenK.AllK
import Wide.FinOn
import Open.SpecLaws
import KE.OsGo
import HandS.Base
import HandS.Call
import HandS.List
import HandS.Comp
import HandS.Dict
import HandS.Iter
import HandS.Words
import HandS.Spec
import HandS.SortInts
import HandS.Walk
import KE.GoesNew
import PySem.Challenge.RW_skyabove_s04_sk_out
set_option Elab.async false
set_option linter.all false
set_option maxRecDepth 100000
set_option maxHeartbeats 4000000
namespace Sky
open Sh66
/-! ### lists of naturals as lists of integers -/
theorem ints_def (l : List Nat) : Sh66Neutral.ints l = l.map fun (x : Nat) => (x : Int) := rfl
theorem ints_length (l : List Nat) : (Sh66Neutral.ints l).length = l.length := by rw [ints_def, List.length_map]
theorem ints_append (l m : List Nat) : Sh66Neutral.ints (l ++ m) = Sh66Neutral.ints l ++ Sh66Neutral.ints m := by rw [ints_def, List.map_append]; rfl
theorem nats_ints (l : List Nat) : Sh66Neutral.nats (Sh66Neutral.ints l) = l := by
  show (l.map _).map _ = l
  rw [List.map_map]
  exact (List.map_congr_left fun a _ => Int.toNat_natCast a).trans (List.map_id l)
theorem ints_nats {l : List Int} (h : ∀ z ∈ l, 0 ≤ z) : Sh66Neutral.ints (Sh66Neutral.nats l) = l := by
  show (l.map _).map _ = l
  rw [List.map_map]
  exact (List.map_congr_left fun a m => Int.toNat_of_nonneg (h a m)).trans (List.map_id l)
theorem num_at {l : List Nat} {i : Nat} (h : i < l.length) : l[i]? = some (num l i) := by
  unfold num
  rw [List.getD_eq_getElem?_getD, List.getElem?_eq_getElem h]
  rfl
theorem ints_at {l : List Nat} {i : Nat} (h : i < l.length) : (Sh66Neutral.ints l)[i]? = some ((num l i : Nat) : Int) := by
  rw [ints_def, List.getElem?_map, num_at h]
  rfl
/-! ### the middle one -/
theorem sorted_perm (l : List Nat) : (sorted l).Perm l := List.mergeSort_perm l _
theorem sorted_length (l : List Nat) : (sorted l).length = l.length := (sorted_perm l).length_eq
theorem sorted_le (l : List Nat) : (sorted l).Pairwise (fun a b => a ≤ b) := by
  have h := List.pairwise_mergeSort (le := fun (a b : Nat) => decide (a ≤ b)) (fun a b c h1 h2 => by
    have := of_decide_eq_true h1
    have := of_decide_eq_true h2
    exact decide_eq_true (by omega)) (fun a b => by
    rcases Nat.le_total a b with h | h
    · rw [decide_eq_true h]; rfl
    · rw [decide_eq_true h, Bool.or_true]) l
  exact h.imp fun {a b} q => of_decide_eq_true q
theorem sorted_ints {l : List Nat} {ns : List Int} (hp : ns.Perm (Sh66Neutral.ints l)) (hs : ns.Pairwise (· ≤ ·)) : ns = Sh66Neutral.ints (sorted l) := by
  refine List.Perm.eq_of_pairwise (le := fun (a b : Int) => a ≤ b) (fun a b _ _ h1 h2 => Int.le_antisymm h1 h2) hs ?_ (hp.trans ((sorted_perm l).symm.map _))
  exact List.pairwise_map.mpr ((sorted_le l).imp fun {a b} h => Int.ofNat_le.mpr h)
theorem median_nil : median [] = 0 := by simp [median, sorted, num]
theorem mid_lt {l : List Nat} (h : l ≠ []) : (l.length - 1) / 2 < (sorted l).length := by
  rw [sorted_length]
  have : 0 < l.length := List.length_pos_iff.mpr h
  omega
theorem median_at {l : List Nat} (h : l ≠ []) : (Sh66Neutral.ints (sorted l))[(l.length - 1) / 2]? = some ((median l : Nat) : Int) := ints_at (mid_lt h)
theorem apart_abs (a b : Nat) : (if (b : Int) - (a : Int) < 0 then -((b : Int) - (a : Int)) else (b : Int) - (a : Int)) = ((apart a b : Nat) : Int) := by
  unfold apart
  split <;> omega
theorem median_mem {l : List Nat} (h : l ≠ []) : median l ∈ l := by
  have e := num_at (mid_lt h)
  exact (sorted_perm l).mem_iff.mp (List.mem_of_getElem? e)
theorem median_lt {l : List Nat} {B : Nat} (hB : 0 < B) (h : ∀ x ∈ l, x < B) : median l < B := by
  by_cases e : l = []
  · rw [e, median_nil]; exact hB
  · exact h _ (median_mem e)
theorem spread_lt {l : List Nat} {B : Nat} (hB : 0 < B) (h : ∀ x ∈ l, x < B) : spread l < B := by
  unfold spread
  refine median_lt hB fun x hx => ?_
  obtain ⟨a, ha, rfl⟩ := List.mem_map.mp hx
  have h1 := median_lt hB h
  have h2 := h a ha
  unfold apart
  omega
/-! ### clipped -/
def once (k : Nat) (l : List Nat) : List Nat := l.filter fun a => decide (4 * apart (median l) a ≤ k * spread l)
def iter (k : Nat) : Nat → List Nat → List Nat
  | 0, l => l
  | n + 1, l => once k (iter k n l)
theorem iter_once (k : Nat) : ∀ (n : Nat) (l : List Nat), iter k (n + 1) l = iter k n (once k l)
  | 0, _ => rfl
  | n + 1, l => by
    show once k (iter k (n + 1) l) = once k (iter k n (once k l))
    rw [iter_once k n l]
theorem iter_fix {k : Nat} {l : List Nat} (h : once k l = l) : ∀ n, iter k n l = l
  | 0 => rfl
  | n + 1 => by
    show once k (iter k n l) = l
    rw [iter_fix h n, h]
theorem clipped_iter (k : Nat) : ∀ (n : Nat) (l : List Nat), clipped k n l = iter k n l
  | 0, _ => rfl
  | n + 1, l => by
    rw [iter_once]
    show (if (once k l).length = l.length then l else clipped k n (once k l)) = _
    by_cases h : (once k l).length = l.length
    · rw [if_pos h]
      have e : once k l = l := List.filter_eq_self.mpr (List.length_filter_eq_length_iff.mp h)
      rw [e, iter_fix e]
    · rw [if_neg h]
      exact clipped_iter k n _
theorem once_sub (k : Nat) (l : List Nat) : ∀ x ∈ once k l, x ∈ l := fun x h => (List.mem_filter.mp h).1
theorem iter_sub (k : Nat) (l : List Nat) : ∀ n, ∀ x ∈ iter k n l, x ∈ l
  | 0, _, h => h
  | n + 1, x, h => iter_sub k l n x (once_sub k _ x h)
theorem once_len (k : Nat) (l : List Nat) : (once k l).length ≤ l.length := List.length_filter_le _ _
theorem iter_len (k : Nat) (l : List Nat) : ∀ n, (iter k n l).length ≤ l.length
  | 0 => Nat.le_refl _
  | n + 1 => Nat.le_trans (once_len k _) (iter_len k l n)
end Sky
namespace Sky
theorem sized_iff {w h : Nat} : Sh66.sized w h = true ↔ (1 ≤ w ∧ w ≤ 64) ∧ 1 ≤ h ∧ h ≤ 64 := by
  unfold Sh66.sized Sh66.among
  rw [Bool.and_eq_true, Bool.and_eq_true, Bool.and_eq_true, decide_eq_true_eq, decide_eq_true_eq, decide_eq_true_eq, decide_eq_true_eq]
theorem among_iff {s : Nat} : Sh66.among s 1 64 = true ↔ 1 ≤ s ∧ s ≤ 64 := by
  unfold Sh66.among
  rw [Bool.and_eq_true, decide_eq_true_eq, decide_eq_true_eq]
end Sky
namespace Sky
open Sh66
/-! ### places of a frame -/
theorem flatMap_congr {α β : Type} {f g : α → List β} : ∀ {l : List α}, (∀ a ∈ l, f a = g a) → l.flatMap f = l.flatMap g
  | [], _ => rfl
  | a :: l, h => by
    rw [List.flatMap_cons, List.flatMap_cons, h a List.mem_cons_self, flatMap_congr fun b m => h b (List.mem_cons_of_mem _ m)]
theorem range_add (a b : Nat) : List.range (a + b) = List.range a ++ (List.range b).map (fun x => a + x) := List.range_add
theorem range_mul (w : Nat) : ∀ h : Nat, List.range (w * h) = (List.range h).flatMap fun r => (List.range w).map fun c => r * w + c
  | 0 => by simp
  | h + 1 => by
    rw [Nat.mul_succ, range_add, range_mul w h, List.range_succ, List.flatMap_append]
    congr 1
    simp [Nat.mul_comm]
/-- row by row is place by place -/
theorem each_range {α : Type} {w : Nat} (hw : 0 < w) (h : Nat) (f : Nat → Nat → α) : each w h f = (List.range (w * h)).map fun p => f (p % w) (p / w) := by
  rw [range_mul, List.map_flatMap]
  unfold each
  refine flatMap_congr fun r _ => ?_
  rw [List.map_map]
  refine List.map_congr_left fun c hc => ?_
  have hc := List.mem_range.mp hc
  show f c r = f ((r * w + c) % w) ((r * w + c) / w)
  rw [Nat.mul_comm r w, Nat.mul_add_mod, Nat.mod_eq_of_lt hc, Nat.mul_add_div hw, Nat.div_eq_of_lt hc, Nat.add_zero]
/-- the up to three at m along a side of n -/
def near (m n : Nat) : List Nat := List.range' (m - 1) (min n (m + 2) - (m - 1))
theorem near_span {m n : Nat} (h : m < n) : near m n = span m n := by
  unfold near span
  by_cases h0 : 0 < m
  · rw [if_pos h0]
    by_cases h1 : m + 1 < n
    · rw [if_pos h1, show min n (m + 2) - (m - 1) = 3 by omega]
      show [m - 1, m - 1 + 1, m - 1 + 1 + 1] = [m - 1] ++ [m] ++ [m + 1]
      rw [show m - 1 + 1 = m by omega]
      rfl
    · rw [if_neg h1, show min n (m + 2) - (m - 1) = 2 by omega]
      show [m - 1, m - 1 + 1] = [m - 1] ++ [m] ++ []
      rw [show m - 1 + 1 = m by omega]
      rfl
  · rw [if_neg h0]
    have e : m = 0 := by omega
    subst e
    by_cases h1 : 0 + 1 < n
    · rw [if_pos h1, show min n (0 + 2) - (0 - 1) = 2 by omega]
      rfl
    · rw [if_neg h1, show min n (0 + 2) - (0 - 1) = 1 by omega]
      rfl
theorem near_mem {m n x : Nat} (h : x ∈ near m n) : x < n ∧ m - 1 ≤ x ∧ x ≤ m + 1 := by
  unfold near at h
  rw [List.mem_range'_1] at h
  omega
theorem near_len (m n : Nat) : (near m n).length ≤ 3 := by
  unfold near
  rw [List.length_range']
  omega
/-- a place and those beside it, row by row -/
def around (w h p : Nat) : List Nat := (near (p / w) h).flatMap fun r => (near (p % w) w).map fun c => r * w + c
theorem place_lt {w h r c : Nat} (hr : r < h) (hc : c < w) : r * w + c < w * h := by
  have : (r + 1) * w ≤ h * w := Nat.mul_le_mul_right w hr
  rw [Nat.succ_mul, Nat.mul_comm h w] at this
  omega
theorem around_lt {w h p x : Nat} (hx : x ∈ around w h p) : x < w * h := by
  obtain ⟨r, hr, hx⟩ := List.mem_flatMap.mp hx
  obtain ⟨c, hc, rfl⟩ := List.mem_map.mp hx
  exact place_lt (near_mem hr).1 (near_mem hc).1
theorem around_len (w h p : Nat) : (around w h p).length ≤ 9 := by
  unfold around
  rw [List.length_flatMap]
  have h1 := near_len (p / w) h
  have h2 := near_len (p % w) w
  have : ∀ l : List Nat, (l.map fun r => ((near (p % w) w).map fun c => r * w + c).length).sum ≤ l.length * 3 := by
    intro l
    induction l with
    | nil => simp
    | cons a l ih =>
      rw [List.map_cons, List.sum_cons, List.length_cons, List.length_map]
      omega
  have := this (near (p / w) h)
  omega
theorem calmed_eq {w h : Nat} (hw : 0 < w) (x : List Nat) : calmed w h x = (List.range (w * h)).map fun p => median ((around w h p).map (num x)) := by
  unfold calmed
  rw [each_range hw]
  refine List.map_congr_left fun p hp => ?_
  have hp := List.mem_range.mp hp
  have h1 : p % w < w := Nat.mod_lt _ hw
  have h2 : p / w < h := Nat.div_lt_of_lt_mul hp
  show median ((span (p / w) h).flatMap fun q => (span (p % w) w).map fun c => at_ w x c q) = _
  unfold around
  rw [near_span h1, near_span h2, List.map_flatMap]
  congr 1
  refine flatMap_congr fun r _ => ?_
  rw [List.map_map]
  rfl
/-! ### what stands out -/
def outAt (t a b m : Nat) : Nat := if t * max 1 m < 4 * (a - b) then a - b else 0
theorem out_eq {t w h : Nat} (hw : 0 < w) (x sky noise : List Nat) : Sh66.out t w h x sky noise = (List.range (w * h)).map fun p => outAt t (num x p) (num sky p) (num noise p) := by
  unfold Sh66.out
  rw [each_range hw]
  refine List.map_congr_left fun p _ => ?_
  show (if t * max 1 (at_ w noise (p % w) (p / w)) < 4 * (at_ w x (p % w) (p / w) - at_ w sky (p % w) (p / w)) then at_ w x (p % w) (p / w) - at_ w sky (p % w) (p / w) else 0) = _
  have e : p / w * w + p % w = p := by rw [Nat.mul_comm]; exact Nat.div_add_mod p w
  unfold at_
  rw [e]
  rfl
/-! ### a list by its places -/
theorem map_num (l : List Nat) : (List.range l.length).map (num l) = l := by
  apply List.ext_getElem?
  intro i
  rw [List.getElem?_map]
  by_cases h : i < l.length
  · rw [List.getElem?_range h, num_at h]; rfl
  · rw [List.getElem?_eq_none (by rw [List.length_range]; omega), List.getElem?_eq_none (by omega)]; rfl
theorem zip_num {x y : List Nat} (h : y.length = x.length) (f : Nat → Nat → Nat) : (x.zip y).map (fun p => f p.1 p.2) = (List.range x.length).map fun i => f (num x i) (num y i) := by
  apply List.ext_getElem?
  intro i
  rw [List.getElem?_map, List.getElem?_map]
  by_cases hi : i < x.length
  · rw [List.getElem?_range hi, (List.getElem?_zip_eq_some (z := (num x i, num y i))).mpr ⟨num_at hi, num_at (by omega)⟩]; rfl
  · rw [List.getElem?_eq_none (by rw [List.length_zip]; omega), List.getElem?_eq_none (by rw [List.length_range]; omega)]; rfl
end Sky
namespace Sky
open PySem PySem.Spec PyProof.Rows L2
/-! ### values and heaps -/
/-- a list of naturals, as values -/
def nv (l : List Nat) : List V := (Sh66Neutral.ints l).map V.int
theorem nv_length (l : List Nat) : (nv l).length = l.length := by unfold nv; rw [List.length_map, ints_length]
theorem nv_at {l : List Nat} {i : Nat} (h : i < l.length) : (nv l)[i]? = some (.int ((Sh66.num l i : Nat) : Int)) := by
  unfold nv
  rw [List.getElem?_map, ints_at h]
  rfl
theorem nv_get {l : List Nat} {i : Nat} {x : V} (h : (nv l)[i]? = some x) : i < l.length ∧ x = .int ((Sh66.num l i : Nat) : Int) := by
  have hi : i < l.length := by
    have := (List.getElem?_eq_some_iff.mp h).1
    rw [nv_length] at this
    exact this
  rw [nv_at hi] at h
  exact ⟨hi, (Option.some.inj h).symm⟩
theorem nv_append (l m : List Nat) : nv (l ++ m) = nv l ++ nv m := by unfold nv; rw [ints_append, List.map_append]
theorem nv_map {α : Type} (f : α → Nat) (l : List α) : nv (l.map f) = l.map fun a => V.int ((f a : Nat) : Int) := by
  show ((l.map f).map _).map _ = _
  rw [List.map_map, List.map_map]
  rfl
theorem nv_cons (n : Nat) (l : List Nat) : nv (n :: l) = V.int (n : Int) :: nv l := rfl
theorem at_n {xs : List V} {i : Nat} {v : V} (h : xs[i]? = some v) : atI xs ((i : Nat) : Int) = some v := atI_nat h
theorem same_upd {H : Hp} {p : Addr} {o : HO} (h : H p = none) : Same H (upd H p o) := fun b x e => by
  rw [upd_ne (ne_of_none e h)]
  exact e
/-- an object that was made since is written: what was there before stands -/
theorem same_set {H H1 : Hp} {p : Addr} {o : HO} (s : Same H H1) (h : H p = none) : Same H (upd H1 p o) := fun b x e => by
  rw [upd_ne (ne_of_none e h)]
  exact s b x e
theorem Same.none {H H1 : Hp} {p : Addr} (s : Same H H1) (h : H1 p = none) : H p = none := s.free h
theorem seqT {K : PySem.W.Frag} {H H' : Hp} {a : Addr} {xs : List V} (e : Same H H') (h : SqT K H a xs) : SqT K H' a xs := by
  rcases h with (h | ⟨o, h⟩) | h
  · exact .inl (.inl (e _ _ h))
  · exact .inl (.inr ⟨o, e _ _ h⟩)
  · exact .inr h
theorem line_of {n : Nat} (h : n ≤ 1048576) : n ≤ sizeLine := Nat.le_trans h (by decide)
theorem line_lt {n : Nat} (h : n < 1048576) : n < sizeLine := Nat.lt_of_lt_of_le h (by decide)
theorem one_line : 1 ≤ sizeLine := by decide
theorem two_line : 2 ≤ sizeLine := by decide
/-- the answer's end: a list of whole numbers -/
theorem dw_ans {K : PySem.W.Frag} {H : Hp} {p : Addr} (l : List Int) (hp : H p = some (.lst (l.map V.int))) : Dw K H (.ref p) (PySem.W.WData.list (l.map PySem.W.WData.int)) := .lst (SqL.of hp) (dw_ints l)
theorem of_ints {l : List Int} (h : l.all (PySem.W.Codec.inInt 0 65535) = true) : ∃ m : List Nat, l = Sh66Neutral.ints m :=
  ⟨Sh66Neutral.nats l, (ints_nats fun z hz => by
    have q := List.all_eq_true.mp h z hz
    simp only [PySem.W.Codec.inInt, Bool.and_eq_true, decide_eq_true_eq] at q
    exact q.1).symm⟩
theorem dp_ints {K : PySem.W.Frag} {H : Hp} : ∀ l : List Int, DpAll K H (l.map V.int) (l.map PyData.int)
  | [] => .nil
  | i :: l => .cons (.int i) (dp_ints l)
theorem at_of {xs : List V} {z : Int} {j : Nat} {v : V} (e : z = (j : Int)) (h : xs[j]? = some v) : atI xs z = some v := by
  rw [e]
  exact atI_nat h
theorem nv_filter (p : Nat → Bool) (l : List Nat) : ((List.range l.length).filter fun i => p (Sh66.num l i)).map (fun i => V.int ((Sh66.num l i : Nat) : Int)) = nv (l.filter p) := by
  conv => rhs; rw [← map_num l]
  rw [List.filter_map, nv_map]
  rfl
theorem of_int {i hi : Int} (h : PySem.W.Codec.inInt 0 hi i = true) : ∃ n : Nat, i = (n : Int) := by
  simp only [PySem.W.Codec.inInt, Bool.and_eq_true, decide_eq_true_eq] at h
  exact Int.eq_ofNat_of_zero_le h.1
theorem and2 {a b : Bool} (q : (a && b) = true) : b = true := (Bool.and_eq_true_iff.mp q).2
/-- lists of lists: at each item's address its numbers -/
def Lists (H : Hp) (ts : List V) (cs : List (List Nat)) : Prop := ts.length = cs.length ∧ ∀ (i : Nat) (v : V), ts[i]? = some v → ∃ q, v = .ref q ∧ H q = some (.lst (nv (cs.getD i [])))
theorem Lists.same {H H' : Hp} {ts : List V} {cs : List (List Nat)} (e : Same H H') (x : Lists H ts cs) : Lists H' ts cs :=
  ⟨x.1, fun i v h => let ⟨q, a, b⟩ := x.2 i v h; ⟨q, a, e _ _ b⟩⟩
/-! ### names of the module -/
theorem pe_gi {X : Cx} {x : Str} {i : Int} {pos : Pos} (hg : Gl X x) (h : ∃ t, X.mg x = some (.int i t)) (hd : (x == ("__debug__" : Str)) = false := by decide) : PE X (.Name x pos) (tC (.int i)) := by
  obtain ⟨t, h⟩ := h
  exact pe_glob hg h ⟨t, rfl⟩ hd
/-- a def of the module that keeps a promise -/
def Def (P : Program) (w : World) (K : PySem.W.Frag) (mg : Str → Option Value) (base : Heap) (k : Nat) (x : Str) (ps : List Str) (sp : Sp) : Prop :=
  ∃ f fd, mg x = some (.ref f) ∧ PySem.W.keepIn K (.ref f) = true ∧ L2.Binds K fd ps [] ∧ FnOk P w K mg base CX0 k f fd ps sp
theorem Def.mono {P : Program} {w : World} {K : PySem.W.Frag} {mg : Str → Option Value} {base : Heap} {k j : Nat} {x : Str} {ps : List Str} {sp : Sp} (D : Def P w K mg base k x ps sp) (h : k ≤ j) : Def P w K mg base j x ps sp := by
  obtain ⟨f, fd, a, b, c, d⟩ := D
  exact ⟨f, fd, a, b, c, d.mono h⟩
theorem pe_def {X : Cx} {k : Nat} {ps : List Str} {sp : Sp} {x : Str} {p pos : Pos} {e : Expr} {es : List Expr} {t : TA} (D : Def X.prog X.w X.K X.mg X.base k x ps sp) (hr : Room k X.A) (hg : Gl X x) (ha : PA X (e :: es) t)
    (hdb : (x == ("__debug__" : Str)) = false := by decide) (he : starEach (e :: es) X.env = (false, eval e X.env) :: starEach es X.env := by rfl) (hpl : (backTo pos (starEach es X.env)).any (·.1) = false := by rfl) :
    PE X (.Call (.Name x p) (e :: es) [] pos) (tCall sp [] E0 t) := by
  obtain ⟨f, fd, a, b, c, d⟩ := D
  exact pe_call d hr hg a b c .nil pass0 ha hdb he hpl
/-- a built-in function, a built-in class by its name -/
theorem pe_bi {X : Cx} {id : String} {x : Str} {p pos : Pos} {e : Expr} {es : List Expr} {t : TA} {r : List V → Hp → VK → Prop} (hc : CallR X (.builtin id) r) (hg : Gl X x) (hm : X.mg x = none) (ha : PA X (e :: es) t) (hv : bootBuiltins x = some (.builtin id) := by decide +kernel)
    (hn : x ≠ "__name__" := by decide) (hdb : (x == ("__debug__" : Str)) = false := by decide) (he : starEach (e :: es) X.env = (false, eval e X.env) :: starEach es X.env := by rfl) (hpl : (backTo pos (starEach es X.env)).any (·.1) = false := by rfl) : PE X (.Call (.Name x p) (e :: es) [] pos) (tCB r t) := pe_callB hc hg hm hv ha hn hdb he hpl
/-- list(REFUSED) -/
def RefOk (K : PySem.W.Frag) (mg : Str → Option Value) : Prop := ∃ a, mg "REFUSED" = some (.ref a) ∧ ∀ H, SqL K H a [.int (-2)]
def tRefused : TE := fun _ H Q => ∀ l, H l = none → Q (.ref l) (upd H l (.lst [.int (-2)]))
theorem pe_refused {X : Cx} {p p2 pos : Pos} (hg : Gl X "list") (hg2 : Gl X "REFUSED") (hm : X.mg "list" = none) (h : RefOk X.K X.mg) : PE X (.Call (.Name "list" p) [.Name "REFUSED" p2] [] pos) tRefused := by
  obtain ⟨a, e, q⟩ := h
  have b := pe_callTy (X := X) (p := p) (pos := pos) call_list_of hg hm (by decide +kernel) (pa_cons (pe_glob (v := .ref a) (pos := p2) hg2 e rfl) pa_nil)
  exact ⟨fun pins s σ H Q I hw => b.run pins s σ H Q I ⟨a, _, rfl, .inl (q H), hw⟩⟩
/-! ### the walks of a comprehension -/
section
variable {J : It} {n : Nat} {G : Hp → Prop} {Y : Nat → Hp → V → Hp → Prop}
/-- [f i for .. if keep i], the heap growing -/
theorem lc_sel (w : Walk J n G Y) {g : TG} {tt : TT} {te : TE} {vs : List Nat} {σ : L2.St} {H1 : Hp} {D : Addr} {Qd : Hp → Prop} (f : Nat → V) (keep : Nat → Bool) (hD : H1 D = none) (hz : n ≤ sizeLine) (hG : ∀ H, Same H1 H → G H)
    (hs : ∀ i x H H' (R : V → Hp → Prop) (N : Hp → Prop), i < n → Same H1 H → Y i H x H' → (keep i = true → ∀ H4, Same H H4 → R (f i) H4) → (keep i = false → ∀ H4, Same H H4 → N H4) →
      g x (wipe σ vs) H' fun σ2 H2 => wipe σ2 vs = wipe σ vs ∧ tt σ2 H2 fun b H3 => if b = true then te σ2 H3 R else N H3)
    (hd : ∀ H, Same H1 H → H D = some (.lst (((List.range n).filter keep).map f)) → Qd H) :
    ∃ W : Nat → Nat → Hp → Prop, (∃ m, W 0 m (upd H1 D (.lst []))) ∧ ∀ i m H, W i m H →
      (J.stop i H ∧ Qd H) ∨ (J.go i H ∧ ∃ Nx : Hp → Prop, (∀ H', Nx H' → ∃ m', m' < m ∧ W (i + 1) m' H') ∧ ∀ x H', J.yld i H x H' → g x (wipe σ vs) H' fun σ2 H2 => wipe σ2 vs = wipe σ vs ∧ tt σ2 H2 fun b H3 =>
        if b = true then te σ2 H3 fun y H4 => ∃ acc, H4 D = some (.lst acc) ∧ acc.length < sizeLine ∧ Nx (upd H4 D (.lst (acc ++ [y]))) else Nx H3) := by
  have step : ∀ i, (List.range (i + 1)).filter keep = (List.range i).filter keep ++ (if keep i = true then [i] else []) := fun i => by
    rw [List.range_succ, List.filter_append]
    congr 1
    by_cases h : keep i = true
    · rw [List.filter_cons_of_pos h, if_pos h]; rfl
    · rw [List.filter_cons_of_neg h, if_neg h]; rfl
  have len : ∀ i, (((List.range i).filter keep).map f).length ≤ i := fun i => by
    rw [List.length_map]
    exact Nat.le_trans (List.length_filter_le _ _) (Nat.le_of_eq List.length_range)
  refine lc_it w (fun i H => Same H1 H ∧ H D = some (.lst (((List.range i).filter keep).map f))) ⟨same_upd hD, upd_same⟩ (fun i H _ p => hG H p.1) (fun i x H H' hi p y => ?_) fun H p => hd H p.1 p.2
  refine hs i x H H' _ _ hi p.1 y (fun hk H4 s4 => ?_) fun hk H4 s4 => ?_
  · refine ⟨_, s4 _ _ p.2, Nat.lt_of_le_of_lt (len i) (Nat.lt_of_lt_of_le hi hz), same_set (p.1.trans s4) hD, ?_⟩
    rw [upd_same, step i, if_pos hk, List.map_append]
    rfl
  · refine ⟨p.1.trans s4, ?_⟩
    rw [s4 _ _ p.2, step i, if_neg (by rw [hk]; decide), List.append_nil]
/-- [f i for ..] -/
theorem lc_map (w : Walk J n G Y) {g : TG} {te : TE} {vs : List Nat} {σ : L2.St} {H1 : Hp} {D : Addr} {Qd : Hp → Prop} (f : Nat → V) (hD : H1 D = none) (hz : n ≤ sizeLine) (hG : ∀ H, Same H1 H → G H)
    (hs : ∀ i x H H' (R : V → Hp → Prop), i < n → Same H1 H → Y i H x H' → (∀ H4, Same H H4 → R (f i) H4) → g x (wipe σ vs) H' fun σ2 H2 => wipe σ2 vs = wipe σ vs ∧ te σ2 H2 R)
    (hd : ∀ H, Same H1 H → H D = some (.lst ((List.range n).map f)) → Qd H) :
    ∃ W : Nat → Nat → Hp → Prop, (∃ m, W 0 m (upd H1 D (.lst []))) ∧ ∀ i m H, W i m H →
      (J.stop i H ∧ Qd H) ∨ (J.go i H ∧ ∃ Nx : Hp → Prop, (∀ H', Nx H' → ∃ m', m' < m ∧ W (i + 1) m' H') ∧ ∀ x H', J.yld i H x H' → g x (wipe σ vs) H' fun σ2 H2 => wipe σ2 vs = wipe σ vs ∧ tYes σ2 H2 fun b H3 =>
        if b = true then te σ2 H3 fun y H4 => ∃ acc, H4 D = some (.lst acc) ∧ acc.length < sizeLine ∧ Nx (upd H4 D (.lst (acc ++ [y]))) else Nx H3) :=
  lc_sel w f (fun _ => true) hD hz hG (fun i x H H' R N hi s y h1 _ => hs i x H H' R hi s y (h1 rfl)) fun H s e => hd H s (by rw [e, List.filter_eq_self.mpr fun _ _ => rfl])
/-- [e for ..], each item told by T -/
theorem lc_rel (w : Walk J n G Y) {g : TG} {te : TE} {vs : List Nat} {σ : L2.St} {H1 : Hp} {D : Addr} {Qd : Hp → Prop} (T : Nat → V → Hp → Prop) (hD : H1 D = none) (hz : n ≤ sizeLine) (hG : ∀ H, Same H1 H → G H)
    (mono : ∀ i v H H', T i v H → (∀ b o, b ≠ D → H b = some o → H' b = some o) → T i v H')
    (hs : ∀ i x H H' (R : V → Hp → Prop), i < n → Same H1 H → (∃ acc, H D = some (.lst acc)) → Y i H x H' → (∀ v H4, Same H H4 → T i v H4 → R v H4) → g x (wipe σ vs) H' fun σ2 H2 => wipe σ2 vs = wipe σ vs ∧ te σ2 H2 R)
    (hd : ∀ H acc, Same H1 H → H D = some (.lst acc) → acc.length = n → (∀ i v, acc[i]? = some v → T i v H) → Qd H) :
    ∃ W : Nat → Nat → Hp → Prop, (∃ m, W 0 m (upd H1 D (.lst []))) ∧ ∀ i m H, W i m H →
      (J.stop i H ∧ Qd H) ∨ (J.go i H ∧ ∃ Nx : Hp → Prop, (∀ H', Nx H' → ∃ m', m' < m ∧ W (i + 1) m' H') ∧ ∀ x H', J.yld i H x H' → g x (wipe σ vs) H' fun σ2 H2 => wipe σ2 vs = wipe σ vs ∧ tYes σ2 H2 fun b H3 =>
        if b = true then te σ2 H3 fun y H4 => ∃ acc, H4 D = some (.lst acc) ∧ acc.length < sizeLine ∧ Nx (upd H4 D (.lst (acc ++ [y]))) else Nx H3) := by
  refine lc_it w (fun i H => Same H1 H ∧ ∃ acc, H D = some (.lst acc) ∧ acc.length = i ∧ ∀ j v, acc[j]? = some v → T j v H) ⟨same_upd hD, [], upd_same, rfl, fun j v h => by simp at h⟩ (fun i H _ p => hG H p.1) (fun i x H H' hi p y => ?_) fun H p => ?_
  · obtain ⟨s1, acc, ea, la, ta⟩ := p
    refine hs i x H H' _ hi s1 ⟨acc, ea⟩ y fun v H4 s4 t4 => ⟨acc, s4 _ _ ea, by omega, same_set (s1.trans s4) hD, acc ++ [v], upd_same, by rw [List.length_append, la]; rfl, fun j u h => ?_⟩
    have keep : ∀ b o, b ≠ D → H4 b = some o → upd H4 D (.lst (acc ++ [v])) b = some o := fun b o nb e => by
      rw [upd_ne nb]
      exact e
    by_cases c : j < i
    · rw [List.getElem?_append_left (by omega)] at h
      exact mono _ _ _ _ (ta j u h) fun b o nb e => keep b o nb (s4 b o e)
    · rw [List.getElem?_append_right (by omega), la] at h
      by_cases c2 : j = i
      · subst c2
        rw [Nat.sub_self] at h
        have e : v = u := Option.some.inj h
        subst e
        exact mono _ _ _ _ t4 keep
      · rw [List.getElem?_eq_none (show [v].length ≤ j - i by simp only [List.length_singleton]; omega)] at h
        cases h
  · obtain ⟨s1, acc, ea, la, ta⟩ := p
    exact hd H acc s1 ea la ta
end
end Sky
namespace Sky
open PySem PySem.Spec PyProof.Rows L2
/-! ### zip of three lists -/
def Itz3 (K : PySem.W.Frag) (a b c : Addr) : It :=
  ⟨fun i H => ∃ xs ys zs : List V, SqL K H a xs ∧ SqL K H b ys ∧ SqL K H c zs ∧ i < min (min xs.length ys.length) zs.length,
    fun i H v H' => ∃ T x y z, v = .ref T ∧ H T = none ∧ H' = upd H T (.tup [x, y, z]) ∧ (∀ xs, SqL K H a xs → xs[i]? = some x) ∧ (∀ ys, SqL K H b ys → ys[i]? = some y) ∧ ∀ zs, SqL K H c zs → zs[i]? = some z,
    fun i H => ∃ xs ys zs : List V, SqL K H a xs ∧ SqL K H b ys ∧ SqL K H c zs ∧ i = min (min xs.length ys.length) zs.length⟩
theorem vals_at : ∀ {xs : List V} {its : List Value} {i : Nat} {u : Value}, Vals xs its → its[i]? = some u → ∃ x, xs[i]? = some x ∧ RelV x u
  | _, _, i, _, .nil, h => by simp at h
  | _, _, 0, u, .cons (a := x) r _, h => ⟨x, rfl, by
    have e := Option.some.inj h
    rw [← e]
    exact r⟩
  | _, _, i + 1, u, .cons _ rr, h => vals_at (i := i) rr h
theorem turn_zip3 {P : Program} {w : World} {K : PySem.W.Frag} {elts : List Expr} {kk : Nat} {tpos : Pos} {a b c z TI TO i1 i2 i3 : Addr} (D : ZipSep3 z TI TO i1 i2 i3 [i1, a] [i2, b] [i3, c]) (h1n : a ≠ i1) (h2n : b ≠ i2) (h3n : c ≠ i3) :
    Turn P w K (.Tuple elts kk tpos) (Itz3 K a b c) [z, TI, TO, i1, i2, i3] z (fun i h => IsZip h z TI TO .none ∧ IsTupOf3 h TI (.ref i1) (.ref i2) (.ref i3) ∧ (∃ x y u, IsTupOf3 h TO x y u) ∧ h.IsListIter i1 a i ∧ h.IsListIter i2 b i ∧ h.IsListIter i3 c i) where
  mem := by simp
  obj := fun i h st d hd => by
    obtain ⟨hz, hTI, ⟨x, y, u, hTO⟩, ⟨o1, e1, _, d1⟩, ⟨o2, e2, _, d2⟩, ⟨o3, e3, _, d3⟩⟩ := st
    have e' : d = z ∨ d = TI ∨ d = TO ∨ d = i1 ∨ d = i2 ∨ d = i3 := by simpa using hd
    rcases e' with q | q | q | q | q | q
    · rw [q]; exact ⟨_, hz, fun v q => nomatch q⟩
    · rw [q]; exact ⟨_, hTI, fun v q => nomatch q⟩
    · rw [q]; exact ⟨_, hTO, fun v q => nomatch q⟩
    · rw [q]; exact ⟨o1, e1, fun v q => by rw [d1] at q; cases q⟩
    · rw [q]; exact ⟨o2, e2, fun v q => by rw [d2] at q; cases q⟩
    · rw [q]; exact ⟨o3, e3, fun v q => by rw [d3] at q; cases q⟩
  keep := fun i h h' st k => by
    obtain ⟨hz, hTI, ⟨x, y, u, hTO⟩, h1, h2, h3⟩ := st
    exact ⟨k z (by simp) _ hz, k TI (by simp) _ hTI, ⟨x, y, u, k TO (by simp) _ hTO⟩, h1.at fun o q => k i1 (by simp) o q, h2.at fun o q => k i2 (by simp) o q, h3.at fun o q => k i3 (by simp) o q⟩
  item := by
    intro X hP hw hK hc i pins s σ H E I hf st hg
    subst hP hw hK
    obtain ⟨hz, hTI, hTO, h1, h2, h3⟩ := st
    obtain ⟨xs, ys, zs, hqx, hqy, hqz, hlt⟩ := hg
    obtain ⟨its, rv, p, _⟩ := I.list hqx
    obtain ⟨its2, rv2, p2, _⟩ := I.list hqy
    obtain ⟨its3, rv3, p3, _⟩ := I.list hqz
    have l1 := rv.length
    have l2 := rv2.length
    have l3 := rv3.length
    have hh : X.A.in1.handled = none := I.ok.hd hc
    have W := GoesN.zip3 (prog := X.prog) (w := X.w) (A := X.A) (elts := elts) (x1 := kk) (pos := tpos) D (Draws.list hh i1 a h1n its.toArray) (Draws.list hh i2 b h2n its2.toArray) (Draws.list hh i3 c h3n its3.toArray)
    refine W.goes i s _ E (by simp only [List.size_toArray]; omega) ⟨hz, hTI, hTO, ⟨h1, p.isList⟩, ⟨h2, p2.isList⟩, ⟨h3, p3.isList⟩⟩ fun v h' tk hY st' hk htk => ?_
    obtain ⟨T, x, y, u, rfl, hnew, hx, hy, hu, hT⟩ := hY
    obtain ⟨x', ex, rx⟩ := vals_at rv (show its[i]? = some x by simpa using hx)
    obtain ⟨y', ey, ry⟩ := vals_at rv2 (show its2[i]? = some y by simpa using hy)
    obtain ⟨u', eu, ru⟩ := vals_at rv3 (show its3[i]? = some u by simpa using hu)
    have new : ObjOk X.prog X.w (upd H T (.tup [x', y', u'])) h' T (.tup [x', y', u']) := ⟨by show 3 ≤ sizeLine; decide, [x, y, u], .cons rx (.cons ry (.cons ru .nil)), hT⟩
    have sub : ∀ d, d ∈ [z, TO, i1, i2, i3] → d ∈ [z, TI, TO, i1, i2, i3] := fun d hd => by
      simp only [List.mem_cons, List.not_mem_nil, or_false] at hd ⊢
      rcases hd with q | q | q | q | q
      · exact .inl q
      · exact .inr (.inr (.inl q))
      · exact .inr (.inr (.inr (.inl q)))
      · exact .inr (.inr (.inr (.inr (.inl q))))
      · exact .inr (.inr (.inr (.inr (.inr q))))
    have I1 : Inv X pins σ (upd H T (.tup [x', y', u'])) { s with heap := h', toks := tk } := I.turnedNew (t' := tk) (ch := [z, TO, i1, i2, i3]) hk (fun d hd => hf d (sub d hd)) hnew new
    obtain ⟨a1, a2, a3, a4, a5, a6⟩ := st'
    refine ⟨.ref T, _, I1, rfl, ⟨T, x', y', u', rfl, I.hok.fresh hnew, rfl, fun l hl => by rw [I.list_inj hl hqx]; exact ex, fun l hl => by rw [I.list_inj hl hqy]; exact ey, fun l hl => by rw [I.list_inj hl hqz]; exact eu⟩, ⟨a1, a2, a3, a4.1, a5.1, a6.1⟩, fun d hd => ?_⟩
    have hdlt : d < s.heap.objs.size := by
      have e' : d = z ∨ d = TI ∨ d = TO ∨ d = i1 ∨ d = i2 ∨ d = i3 := by simpa using hd
      obtain ⟨x0, y0, u0, hTO⟩ := hTO
      rcases e' with q | q | q | q | q | q
      · rw [q]; exact Heap.lt_size hz
      · rw [q]; exact Heap.lt_size hTI
      · rw [q]; exact Heap.lt_size hTO
      · rw [q]; obtain ⟨_, e1, _⟩ := h1; exact Heap.lt_size e1
      · rw [q]; obtain ⟨_, e2, _⟩ := h2; exact Heap.lt_size e2
      · rw [q]; obtain ⟨_, e3, _⟩ := h3; exact Heap.lt_size e3
    rw [upd_ne (Nat.ne_of_lt (Nat.lt_of_lt_of_le hdlt hnew))]
    exact (hf d hd).1
  done := by
    intro X hP hw hK hc i pins s σ H E I hf st hg
    subst hP hw hK
    obtain ⟨hz, hTI, hTO, h1, h2, h3⟩ := st
    obtain ⟨xs, ys, zs, hqx, hqy, hqz, hlt⟩ := hg
    obtain ⟨its, rv, p, _⟩ := I.list hqx
    obtain ⟨its2, rv2, p2, _⟩ := I.list hqy
    obtain ⟨its3, rv3, p3, _⟩ := I.list hqz
    have l1 := rv.length
    have l2 := rv2.length
    have l3 := rv3.length
    have hh : X.A.in1.handled = none := I.ok.hd hc
    have W := GoesN.zip3 (prog := X.prog) (w := X.w) (A := X.A) (elts := elts) (x1 := kk) (pos := tpos) D (Draws.list hh i1 a h1n its.toArray) (Draws.list hh i2 b h2n its2.toArray) (Draws.list hh i3 c h3n its3.toArray)
    have hi : min (min its.toArray.size its2.toArray.size) its3.toArray.size = i := by simp only [List.size_toArray]; omega
    rw [hi] at W
    refine W.stops s _ E ⟨hz, hTI, hTO, ⟨h1, p.isList⟩, ⟨h2, p2.isList⟩, ⟨h3, p3.isList⟩⟩ fun h' tk hk htk => ?_
    refine I.turnedL (t' := tk) (ch := [z, TO, i1, i2, i3]) hk fun d hd => hf d ?_
    simp only [List.mem_cons, List.not_mem_nil, or_false] at hd ⊢
    rcases hd with q | q | q | q | q
    · exact .inl q
    · exact .inr (.inr (.inl q))
    · exact .inr (.inr (.inr (.inl q)))
    · exact .inr (.inr (.inr (.inr (.inl q))))
    · exact .inr (.inr (.inr (.inr (.inr q))))
  self := fun A i s Q E st h => wpAny_pyIter_zip st.1 h
def iZip3 (K : PySem.W.Frag) (ta : TA) : TI := fun σ H R => ta σ H fun vs H1 => ∃ a b c xs ys zs, vs = [.ref a, .ref b, .ref c] ∧ SqL K H1 a xs ∧ SqL K H1 b ys ∧ SqL K H1 c zs ∧ R (Itz3 K a b c) H1
theorem pi_zip3 {X : Cx} {e e2 e3 : Expr} {ta : TA} {p pos tpos : Pos} {elts : List Expr} {kk : Nat} (hg : Gl X "zip") (hm : X.mg "zip" = none) (ha : PA X [e, e2, e3] ta)
    (hs : starEach [e, e2, e3] X.env = (false, eval e X.env) :: starEach [e2, e3] X.env := by rfl) (hpl : (backTo pos (starEach [e2, e3] X.env)).any (·.1) = false := by rfl) :
    PI X (.Tuple elts kk tpos) (.Call (.Name "zip" p) [e, e2, e3] [] pos) (iZip3 X.K ta) := by
  refine ⟨fun pins s σ H R I h => ?_⟩
  refine Call_ (ld_blt I hg hm PyProof.Rows.boot_zip (PyProof.Rows.callWith_type1 (thn (ha.run pos pins s σ H _ I h) fun us s1 ⟨vs, H1, I1, r1, q1⟩ => ?_) hs hpl))
  obtain ⟨a, b, c, xs, ys, zs, ex, hqx, hqy, hqz, q⟩ := q1
  subst ex
  cases r1 with
  | cons r rr => cases rr with
  | cons r' rr => cases rr with
  | cons r'' rr =>
    cases rr
    cases r
    cases r'
    cases r''
    obtain ⟨its, rv, p1, _⟩ := I1.list hqx
    obtain ⟨its2, rv2, p2, _⟩ := I1.list hqy
    obtain ⟨its3, rv3, p3, _⟩ := I1.list hqz
    have la : a < s1.heap.objs.size := p1.lt
    have lb : b < s1.heap.objs.size := p2.lt
    have lc : c < s1.heap.objs.size := p3.lt
    refine zip_begins3 (begins_list a its.toArray) (begins_list b its2.toArray) (begins_list c its3.toArray) p1.isList p2.isList p3.isList fun h' hz hTI hTO h1 h2 h3 hsz hk => wpAny_pyIter_zip hz ?_
    have I2 : Inv X pins σ H1 { s1 with heap := h' } := I1.kept (t' := s1.toks) hk
    refine ⟨s1.heap.objs.size + 5, [s1.heap.objs.size + 5, s1.heap.objs.size + 3, s1.heap.objs.size + 4, s1.heap.objs.size, s1.heap.objs.size + 1, s1.heap.objs.size + 2], _, _, H1, rfl, I2,
      turn_zip3 (zip_sep3 (fp1 := [a]) (fp2 := [b]) (fp3 := [c]) (fun d hd => by rw [List.mem_singleton.mp hd]; exact la) (fun d hd => by rw [List.mem_singleton.mp hd]; exact lb) (fun d hd => by rw [List.mem_singleton.mp hd]; exact lc))
        (Nat.ne_of_lt la) (Nat.ne_of_lt (Nat.lt_succ_of_lt lb)) (Nat.ne_of_lt (Nat.lt_succ_of_lt (Nat.lt_succ_of_lt lc))), ⟨hz, hTI, ⟨_, _, _, hTO⟩, ⟨_, h1, rfl, rfl⟩, ⟨_, h2, rfl, rfl⟩, ⟨_, h3, rfl, rfl⟩⟩, fun d hd => ?_, q⟩
    have e' : d = s1.heap.objs.size + 5 ∨ d = s1.heap.objs.size + 3 ∨ d = s1.heap.objs.size + 4 ∨ d = s1.heap.objs.size ∨ d = s1.heap.objs.size + 1 ∨ d = s1.heap.objs.size + 2 := by simpa using hd
    have hle : s1.heap.objs.size ≤ d := by
      rcases e' with z | z | z | z | z | z
      · rw [z]; exact Nat.le_add_right _ _
      · rw [z]; exact Nat.le_add_right _ _
      · rw [z]; exact Nat.le_add_right _ _
      · rw [z]; exact Nat.le_refl _
      · rw [z]; exact Nat.le_add_right _ _
      · rw [z]; exact Nat.le_add_right _ _
    exact I1.fpOk hle (I1.hok.fresh hle)
/-- a new triple of the i-th of each -/
def YTri (xs ys zs : Nat → Option V) : Nat → Hp → V → Hp → Prop := fun i H v H' => ∃ T x y z, v = .ref T ∧ H T = none ∧ H' = upd H T (.tup [x, y, z]) ∧ xs i = some x ∧ ys i = some y ∧ zs i = some z
theorem walk_zip3 {K : PySem.W.Frag} {a b c : Addr} {xs ys zs : List V} {n : Nat} (hn : n = min (min xs.length ys.length) zs.length) : Walk (Itz3 K a b c) n (fun H => SqL K H a xs ∧ SqL K H b ys ∧ SqL K H c zs) (YTri (fun i => xs[i]?) (fun i => ys[i]?) (fun i => zs[i]?)) := by
  subst hn
  refine ⟨fun i _ hi q => ⟨xs, ys, zs, q.1, q.2.1, q.2.2, hi⟩, fun _ q => ⟨xs, ys, zs, q.1, q.2.1, q.2.2, rfl⟩, fun i H v H' _ q y => ?_⟩
  obtain ⟨T, x, z, u, h1, h2, h3, h4, h5, h6⟩ := y
  exact ⟨T, x, z, u, h1, h2, h3, h4 xs q.1, h5 ys q.2.1, h6 zs q.2.2⟩
end Sky
namespace Sky
open PySem PySem.Spec PyProof.Rows L2
def topS (i : Nat) : Stmt := PySem.Challenge.pw_skyabove_s04_sk_out.main.body.getD i (.Pass ⟨0, 0, 0, 0⟩)
abbrev s_less : Stmt := topS 1
abbrev s_is_side : Stmt := topS 6
abbrev s_is_frame : Stmt := topS 7
abbrev s_standing_out : Stmt := topS 8
abbrev s_sk_out : Stmt := topS 9
section
variable {P : Program} {w : World} {K : PySem.W.Frag} {mg : Str → Option Value} {base : Heap}
/-! ### less(one, other) -/
def spLess : Sp := fun vs H Q _ => ∃ a b : Nat, vs = [.int a, .int b] ∧ Q (.int ((a - b : Nat) : Int)) H
theorem less_eq (a b : Nat) : (if (a : Int) - (b : Int) > 0 then (a : Int) - (b : Int) else 0) = ((a - b : Nat) : Int) := by split <;> omega
theorem sc_less : FnScope ["one", "other"] ["one", "other"] (defScope s_less) := ⟨rfl, rfl, rfl, by decide +kernel, rfl, by decide +kernel, by decide +kernel⟩
theorem ok_less {f : Addr} {fd : FuncData} (F : Fun K "less" "less" s_less f fd) (b_max : mg "max" = none) : FnOk P w K mg base CX0 1 f fd ["one", "other"] spLess := by
  refine F.ok sc_less (fun vs H Q E h => ?_) (fun cdv A outer s H vs Q E hr h => ?_)
  · obtain ⟨_, _, rfl, _⟩ := h
    rfl
  · obtain ⟨a, b, rfl, k⟩ := h
    refine ⟨_, pss_one (ps_ret (pe_bi (call_max2 rfl) rfl b_max (pa_cons pe_int (pa_cons (pe_op op_sub (pv 0) (pv 1)) pa_nil)))), ?_⟩
    refine ⟨_, rfl, _, rfl, _, _, rfl, rfl, _, _, rfl, ?_⟩
    rw [← less_eq] at k
    exact k
/-! ### is_side(number) -/
def spSide : Sp := fun vs H Q _ => ∃ i : Nat, vs = [.int i] ∧ Q (.bl (decide (1 ≤ i ∧ i ≤ 64))) H
theorem sc_is_side : FnScope ["number"] ["number"] (defScope s_is_side) := ⟨rfl, rfl, rfl, by decide +kernel, rfl, by decide +kernel, by decide +kernel⟩
theorem ok_is_side {f : Addr} {fd : FuncData} (F : Fun K "is_side" "is_side" s_is_side f fd) (c_MS : ∃ t, mg "MOST_SIDE" = some (.int 64 t)) : FnOk P w K mg base CX0 1 f fd ["number"] spSide := by
  refine F.ok sc_is_side (fun vs H Q E h => ?_) (fun cdv A outer s H vs Q E hr h => ?_)
  · obtain ⟨_, rfl, _⟩ := h
    rfl
  · obtain ⟨i, rfl, k⟩ := h
    refine ⟨_, pss_one (ps_ret (pe_chain op_le op_le pe_int (pv 0) (pe_gi rfl c_MS))), ?_⟩
    refine ⟨_, rfl, _, _, rfl, rfl, _, rfl, ite2 (fun c => ?_) (fun c => ?_)⟩
    · have c : (1 : Int) ≤ (i : Int) := of_decide_eq_true c
      refine ⟨_, _, rfl, rfl, ?_⟩
      have e : decide (1 ≤ i ∧ i ≤ 64) = decide ((i : Int) ≤ 64) := decide_eq_decide.mpr (by omega)
      rw [e] at k
      exact k
    · have c : ¬ (1 : Int) ≤ (i : Int) := fun z => c (decide_eq_true z)
      rw [decide_eq_false (show ¬ (1 ≤ i ∧ i ≤ 64) by omega)] at k
      exact k
/-! ### is_frame(w, h) -/
def spFrame : Sp := fun vs H Q _ => ∃ w h : Nat, vs = [.int w, .int h] ∧ Q (.bl (decide ((1 ≤ w ∧ w ≤ 64) ∧ 1 ≤ h ∧ h ≤ 64))) H
theorem sc_is_frame : FnScope ["w", "h"] ["w", "h"] (defScope s_is_frame) := ⟨rfl, rfl, rfl, by decide +kernel, rfl, by decide +kernel, by decide +kernel⟩
theorem ok_is_frame {f : Addr} {fd : FuncData} (F : Fun K "is_frame" "is_frame" s_is_frame f fd) (D_is_side : Def P w K mg base 1 "is_side" ["number"] spSide) : FnOk P w K mg base CX0 2 f fd ["w", "h"] spFrame := by
  refine F.ok sc_is_frame (fun vs H Q E h => ?_) (fun cdv A outer s H vs Q E hr h => ?_)
  · obtain ⟨_, _, rfl, _⟩ := h
    rfl
  · obtain ⟨i, j, rfl, k⟩ := h
    refine ⟨_, pss_one (ps_ret (pe_and (pe_def D_is_side hr rfl (pa_cons (pv 0) pa_nil)) (pe_one (pe_def D_is_side hr rfl (pa_cons (pv 1) pa_nil))))), ?_⟩
    refine ⟨_, rfl, i, rfl, _, rfl, ite2 (fun c => ?_) (fun c => ?_)⟩
    · have c := of_decide_eq_true c
      have e : decide ((1 ≤ i ∧ i ≤ 64) ∧ 1 ≤ j ∧ j ≤ 64) = decide (1 ≤ j ∧ j ≤ 64) := decide_eq_decide.mpr (by omega)
      rw [e] at k
      exact ⟨_, rfl, j, rfl, k⟩
    · have c : ¬ (1 ≤ i ∧ i ≤ 64) := fun z => c (decide_eq_true z)
      rw [decide_eq_false (show ¬ ((1 ≤ i ∧ i ≤ 64) ∧ 1 ≤ j ∧ j ≤ 64) from fun z => c z.1)] at k
      exact k
/-! ### standing_out(t, own, behind, noise): slots t, own, behind, noise, much -/
def spStanding : Sp := fun vs H Q _ => ∃ t a b m : Nat, vs = [.int t, .int a, .int b, .int m] ∧ t ≤ 65535 ∧ Q (.int ((outAt t a b m : Nat) : Int)) H
theorem sc_standing_out : FnScope ["t", "own", "behind", "noise", "much"] ["t", "own", "behind", "noise"] (defScope s_standing_out) := ⟨rfl, rfl, rfl, by decide +kernel, rfl, by decide +kernel, by decide +kernel⟩
theorem max1_eq (n : Nat) : (if (n : Int) > 1 then (n : Int) else 1) = ((max 1 n : Nat) : Int) := by split <;> omega
theorem ok_standing_out {f : Addr} {fd : FuncData} (F : Fun K "standing_out" "standing_out" s_standing_out f fd) (D_less : Def P w K mg base 1 "less" ["one", "other"] spLess) (b_max : mg "max" = none) : FnOk P w K mg base CX0 2 f fd ["t", "own", "behind", "noise"] spStanding := by
  refine F.ok sc_standing_out (fun vs H Q E h => ?_) (fun cdv A outer s H vs Q E hr h => ?_)
  · obtain ⟨_, _, _, _, rfl, _⟩ := h
    rfl
  · obtain ⟨t, a, b, m, rfl, ht, k⟩ := h
    refine ⟨_, pss_cons (ps_set (i := 4) sc_standing_out.nd rfl (.inl rfl) (pe_def D_less hr rfl (pa_cons (pv 1) (pa_cons (pv 2) pa_nil))))
      (pss_cons (ps_if (pt_cmpR op_gt (pe_op op_mul pe_int (pv 4)) (pe_op op_mul (pv 0) (pe_bi (call_max2 rfl) rfl b_max (pa_cons pe_int (pa_cons (pv 3) pa_nil)))) (nomark _)) (pss_one (ps_ret (pv 4))) pss_nil)
      (pss_one (ps_ret pe_int))), ?_⟩
    refine ⟨_, rfl, _, rfl, a, b, rfl, ?_⟩
    refine ⟨_, rfl, _, _, rfl, rfl, .inl ⟨by decide, by decide⟩, _, rfl, _, rfl, _, _, rfl, _, _, rfl, rfl, .inl ⟨by omega, by omega⟩, _, _, rfl, rfl, _, rfl, ?_⟩
    have e : decide ((t : Int) * (if (m : Int) > 1 then (m : Int) else 1) < 4 * ((a - b : Nat) : Int)) = decide (t * max 1 m < 4 * (a - b)) := by
      rw [max1_eq, ← Int.natCast_mul]
      refine decide_eq_decide.mpr ?_
      omega
    refine ite2 (fun c => ?_) (fun c => ?_)
    · have c := of_decide_eq_true (e.symm.trans c)
      have k2 : outAt t a b m = a - b := if_pos c
      rw [k2] at k
      exact ⟨_, rfl, k⟩
    · have c : ¬ t * max 1 m < 4 * (a - b) := fun z => c (e.trans (decide_eq_true z))
      have k2 : outAt t a b m = 0 := if_neg c
      rw [k2] at k
      exact k
/-! ### sk_out(t, w, h, x, sky, noise): slots t, w, h, x, sky, noise, found, one, behind, much -/
def okOut (t w h : Nat) : Prop := t ≤ 65535 ∧ (1 ≤ w ∧ w ≤ 64) ∧ 1 ≤ h ∧ h ≤ 64
instance (t w h : Nat) : Decidable (okOut t w h) := by unfold okOut; infer_instance
def outL (t w h : Nat) (x sky noise : List Nat) : List Nat := (List.range (w * h)).map fun p => outAt t (Sh66.num x p) (Sh66.num sky p) (Sh66.num noise p)
def ansOut (t w h : Nat) (x sky noise : List Nat) : List Int := if okOut t w h then ((((outL t w h x sky noise).filter fun a => a != 0).length : Nat) : Int) :: Sh66Neutral.ints (outL t w h x sky noise) else [-2]
def spTop (K : PySem.W.Frag) : Sp := fun vs H Q _ => ∃ (t w h : Nat) (a b c : Addr) (x y z : List Nat), vs = [.int t, .int w, .int h, .ref a, .ref b, .ref c] ∧ SqL K H a (nv x) ∧ SqL K H b (nv y) ∧ SqL K H c (nv z) ∧ (okOut t w h → x.length = w * h ∧ y.length = w * h ∧ z.length = w * h) ∧
  ∀ H' p, H' p = some (.lst ((ansOut t w h x y z).map V.int)) → Q (.ref p) H'
theorem sc_sk_out : FnScope ["t", "w", "h", "x", "sky", "noise", "found", "one", "behind", "much"] ["t", "w", "h", "x", "sky", "noise"] (defScope s_sk_out) := ⟨rfl, rfl, rfl, by decide +kernel, rfl, by decide +kernel, by decide +kernel⟩
theorem ok_sk_out {f : Addr} {fd : FuncData} (F : Fun K "sk_out" "sk_out" s_sk_out f fd) (D_is_frame : Def P w K mg base 2 "is_frame" ["w", "h"] spFrame) (D_standing_out : Def P w K mg base 2 "standing_out" ["t", "own", "behind", "noise"] spStanding) (c_MT : ∃ t, mg "MOST_TIMES" = some (.int 65535 t))
    (b_list : mg "list" = none) (b_zip : mg "zip" = none) (b_len : mg "len" = none) (r : RefOk K mg) : FnOk P w K mg base CX0 3 f fd ["t", "w", "h", "x", "sky", "noise"] (spTop K) := by
  refine F.ok sc_sk_out (fun vs H Q E h => ?_) (fun cdv A outer s H vs Q E hr h => ?_)
  · obtain ⟨_, _, _, _, _, _, _, _, _, rfl, _⟩ := h
    rfl
  · obtain ⟨t, w, h, a, b, d, x, y, z, rfl, hx, hy, hz, hl, k⟩ := h
    refine ⟨_, pss_cons (ps_if (PW.pt (pw_or (pt_cmpR op_gt (pv 0) (pe_gi rfl c_MT) (nomark _)) (pw_or1 (pt_not (pt_val (pe_def D_is_frame hr rfl (pa_cons (pv 1) (pa_cons (pv 2) pa_nil)))))))) (pss_one (ps_ret (pe_refused rfl rfl b_list r))) pss_nil)
      (pss_cons (ps_setLc (i := 6) (own := [("one", 7), ("behind", 8), ("much", 9)]) (g := gTup K 3 (gCons (gName 7) (gCons (gName 8) (gCons (gName 9) gNil)))) rfl sc_sk_out.nd rfl rfl (sw_true rfl rfl rfl (by decide +kernel)) (pi_zip3 (by rfl) b_zip (pa_cons (pv 3) (pa_cons (pv 4) (pa_cons (pv 5) pa_nil))))
        (blkOk_by (N := ["t", "w", "h", "x", "sky", "noise", "found", "one", "behind", "much"]) (sc := defScope s_sk_out) (by decide +kernel))
        (fun _ _ _ _ _ => pg_tup rfl (pgs_cons (pg_name (i := 7) sc_sk_out.nd rfl (.inl rfl)) (pgs_cons (pg_name (i := 8) sc_sk_out.nd rfl (.inl rfl)) (pgs_cons (pg_name (i := 9) sc_sk_out.nd rfl (.inl rfl)) pgs_nil)))) (fun _ _ _ _ _ => pts_nil)
        (fun _ _ _ _ _ => pe_def D_standing_out hr rfl (pa_cons (pv 0) (pa_cons (pv 7) (pa_cons (pv 8) (pa_cons (pv 9) pa_nil))))))
      (pss_one (ps_ret (pe_op op_cat (pe_lst (pa_cons (pe_bi call_len_seq rfl b_len (pa_cons (pe_lc (own := [("much", 9)]) (g := gName 9) rfl sc_sk_out.nd (pi_list (pv 6))
        (blkOk_by (N := ["t", "w", "h", "x", "sky", "noise", "found", "one", "behind", "much"]) (sc := defScope s_sk_out) (by decide +kernel)) (fun _ _ _ _ _ => pg_name (i := 9) sc_sk_out.nd rfl (.inl rfl))
        (fun _ _ _ _ _ => pts_one (pt_cmpR op_gt (pv 9) pe_int (nomark _))) (fun _ _ _ _ _ => pv 9)) pa_nil)) pa_nil)) (pv 6))))), ?_⟩
    have no : ¬ okOut t w h → ∀ p, H p = none → Q (.ref p) (upd H p (.lst [.int (-2)])) := fun c p np => k _ p (by
      rw [upd_same]
      unfold ansOut
      rw [if_neg c]
      rfl)
    refine ⟨_, rfl, _, _, rfl, rfl, _, rfl, ite2 (fun c => ?_) (fun c => ?_)⟩
    · have c : (65535 : Int) < (t : Int) := of_decide_eq_true c
      refine iteT (no fun z => ?_)
      have := z.1
      omega
    have ct : ¬ (65535 : Int) < (t : Int) := fun z => c (decide_eq_true z)
    have ct : t ≤ 65535 := by omega
    refine ⟨_, rfl, _, rfl, w, h, rfl, _, rfl, ?_⟩
    by_cases c2 : (1 ≤ w ∧ w ≤ 64) ∧ 1 ≤ h ∧ h ≤ 64
    · rw [decide_eq_true c2]
      have hok : okOut t w h := ⟨ct, c2⟩
      obtain ⟨lx, ly, lz⟩ := hl hok
      have hans : ansOut t w h x y z = ((((outL t w h x y z).filter fun a => a != 0).length : Nat) : Int) :: Sh66Neutral.ints (outL t w h x y z) := if_pos hok
      rw [hans] at k
      have hwh : w * h ≤ 4096 := Nat.mul_le_mul c2.1.2 c2.2.2
      -- found = [..]
      refine iteF ⟨_, rfl, _, rfl, _, rfl, a, b, d, nv x, nv y, nv z, rfl, hx, hy, hz, fun D nD => lc_map (walk_zip3 (n := w * h) (by rw [nv_length, nv_length, nv_length, lx, ly, lz]; omega)) (fun p => .int ((outAt t (Sh66.num x p) (Sh66.num y p) (Sh66.num z p) : Nat) : Int)) nD (line_of (by omega)) (fun H2 s2 => ⟨s2.seq hx, s2.seq hy, s2.seq hz⟩) ?_ ?_⟩
      · rintro i v H2 H3 R hi s2 yv q
        obtain ⟨T, u1, u2, u3, rfl, nT, rfl, g1, g2, g3⟩ := yv
        obtain ⟨_, rfl⟩ := nv_get g1
        obtain ⟨_, rfl⟩ := nv_get g2
        obtain ⟨_, rfl⟩ := nv_get g3
        refine ⟨T, _, rfl, SqT.of upd_same, rfl, _, _, rfl, _, _, rfl, _, _, rfl, rfl, rfl, ?_⟩
        exact ⟨_, rfl, _, rfl, _, rfl, _, rfl, t, _, _, _, rfl, ct, q _ (same_upd nT)⟩
      · intro H1 s1 e1
        have e1 : H1 D = some (.lst (nv (outL t w h x y z))) := by
          rw [e1]
          unfold outL
          rw [nv_map]
        have lo : (outL t w h x y z).length = w * h := by unfold outL; rw [List.length_map, List.length_range]
        generalize outL t w h x y z = l at *
        refine ⟨_, rfl, D, rfl, ⟨_, SqL.of e1⟩, fun D2 nD2 => lc_sel (walk_list (xs := nv l)) (fun i => .int ((Sh66.num l i : Nat) : Int)) (fun i => Sh66.num l i != 0) nD2 (line_of (by rw [nv_length]; omega)) (fun H2 s2 => SqL.of (s2 _ _ e1)) ?_ ?_⟩
        · rintro i v H2 H3 R N hi s2 ⟨rfl, g1⟩ q1 q2
          obtain ⟨_, rfl⟩ := nv_get g1
          refine ⟨rfl, _, rfl, _, _, rfl, rfl, _, rfl, ite2 (fun c => ?_) (fun c => ?_)⟩
          · have c : (0 : Int) < ((Sh66.num l i : Nat) : Int) := of_decide_eq_true c
            refine ⟨_, rfl, q1 ?_ _ (Same.refl _)⟩
            rw [bne_iff_ne]
            omega
          · have c : ¬ (0 : Int) < ((Sh66.num l i : Nat) : Int) := fun z => c (decide_eq_true z)
            refine q2 ?_ _ (Same.refl _)
            rw [bne_eq_false_iff_eq]
            omega
        · intro H2 s2 e2
          rw [nv_length] at e2
          have e2 : H2 D2 = some (.lst (nv (l.filter fun a => a != 0))) := by rw [e2, ← nv_filter (fun a => a != 0) l]
          refine ⟨D2, _, rfl, .inl (SqL.of e2), one_line, fun o no1 => ?_⟩
          have s3 := same_upd (o := .lst [.int ((nv (l.filter fun a => a != 0)).length : Nat)]) no1
          refine ⟨_, rfl, o, D, _, _, rfl, rfl, upd_same, s3 _ _ (s2 _ _ e1), line_of ?_, fun p np => k _ p ?_⟩
          · simp only [nv_length, List.length_cons, List.length_nil]
            omega
          · rw [upd_same, nv_length]
            rfl
    · rw [decide_eq_false c2]
      exact iteT (no fun z => c2 z.2)
end
theorem okOut_iff {t w h : Nat} : (Sh66.sized w h && decide (t ≤ 65535)) = true ↔ okOut t w h := by
  rw [Bool.and_eq_true, sized_iff, decide_eq_true_eq]
  exact ⟨fun z => ⟨z.2, z.1⟩, fun z => ⟨z.2, z.1⟩⟩
theorem spec_top (t w h : Nat) (x y z : List Nat) : PySh66.sk_out (t : Int) (w : Int) (h : Int) (Sh66Neutral.ints x) (Sh66Neutral.ints y) (Sh66Neutral.ints z) = ansOut t w h x y z := by
  show Sh66Neutral.told (Sh66.answer (if (Sh66.sized (w : Int).toNat (h : Int).toNat && decide ((t : Int).toNat ≤ 65535)) = true then .out (t : Int).toNat (w : Int).toNat (h : Int).toNat (Sh66Neutral.nats (Sh66Neutral.ints x)) (Sh66Neutral.nats (Sh66Neutral.ints y)) (Sh66Neutral.nats (Sh66Neutral.ints z)) else .bad)) = _
  rw [nats_ints, nats_ints, nats_ints, Int.toNat_natCast, Int.toNat_natCast, Int.toNat_natCast]
  unfold ansOut
  by_cases c : okOut t w h
  · rw [if_pos (okOut_iff.mpr c), if_pos c]
    show ((((Sh66.out t w h x y z).filter fun a => a != 0).length : Nat) : Int) :: Sh66Neutral.ints (Sh66.out t w h x y z) = _
    rw [out_eq c.2.1.1]
    rfl
  · rw [if_neg (fun z => c (okOut_iff.mp z)), if_neg c]
    rfl
theorem asked_if {t w h : Int} {x y z : List Int} (q : PySh66.sk_out_asked t w h x y z = true) : (if (Sh66.sized w.toNat h.toNat && decide (t.toNat ≤ 65535)) = true then x.length == (w.toNat * h.toNat) && y.length == (w.toNat * h.toNat) && z.length == (w.toNat * h.toNat)
    else (x.isEmpty && y.isEmpty && z.isEmpty) || (x.length == (w.toNat * h.toNat) && y.length == (w.toNat * h.toNat) && z.length == (w.toNat * h.toNat))) = true := by
  have q : (Sh66Neutral.asked1 [[3, t, w, h], x, y, z] && decide ((Sh66Neutral.f [[3, t, w, h], x, y, z]).length < 1000000)) = true := q
  have q := (Bool.and_eq_true_iff.mp q).1
  have q : (Sh66Neutral.natural t 32 && (Sh66Neutral.natural w 32 && (Sh66Neutral.natural h 32 && ((x.all fun z => Sh66Neutral.natural z 16) && ((y.all fun z => Sh66Neutral.natural z 16) && ((z.all fun z => Sh66Neutral.natural z 16) && (if (Sh66.sized w.toNat h.toNat && decide (t.toNat ≤ 65535)) = true then x.length == (w.toNat * h.toNat) && y.length == (w.toNat * h.toNat) && z.length == (w.toNat * h.toNat)
    else (x.isEmpty && y.isEmpty && z.isEmpty) || (x.length == (w.toNat * h.toNat) && y.length == (w.toNat * h.toNat) && z.length == (w.toNat * h.toNat))))))))) = true := q
  exact and2 (and2 (and2 (and2 (and2 (and2 q)))))
theorem asked_top {t w h : Nat} {x y z : List Nat} (q : PySh66.sk_out_asked (t : Int) (w : Int) (h : Int) (Sh66Neutral.ints x) (Sh66Neutral.ints y) (Sh66Neutral.ints z) = true) : okOut t w h → x.length = w * h ∧ y.length = w * h ∧ z.length = w * h := by
  intro c
  have q := asked_if q
  rw [Int.toNat_natCast, Int.toNat_natCast, Int.toNat_natCast, if_pos (okOut_iff.mpr c), ints_length, ints_length, ints_length, Bool.and_eq_true, Bool.and_eq_true, beq_iff_eq, beq_iff_eq, beq_iff_eq] at q
  exact ⟨q.1.1, q.1.2, q.2⟩
theorem app_top (g : Int → Int → Int → List Int → List Int → List Int → Bool) (t w h : Int) (x y z : List Int) : PySem.W.Codec.app PySem.Challenge.fa_skyabove_s04_sk_out g (t, w, h, x, y, z, ()) = g t w h x y z := rfl
theorem all_mk {P : Program} {w : World} {K : PySem.W.Frag} {h : Heap} {mg : Str → Option Value} {fa : Addr} (X : K.In h) (G : h.Ns mainGlobals mg) (hfa : mg "sk_out" = some (.ref fa))
    {f0 : Addr} {od0 an0 : Option Addr} {sl0 : Array (Option Value)} {oc0 kV0 dc0 pm0 cd0 ct0 : Value}
    (a0 : PySem.W.nsIn K mainGlobals "less" = some (some (.ref f0))) (l0 : K.lookup f0 = some ⟨oc0, od0, .func (PySem.W.fnOf "less" "less" (defArgs s_less) (defBody s_less) (defScope s_less) .none kV0 dc0 pm0 an0 cd0 ct0), sl0⟩) (c0 : PySem.W.codeIn K cd0 "less" = true) (k0 : PySem.W.keepIn K (.ref f0) = true)
    {f1 : Addr} {od1 an1 : Option Addr} {sl1 : Array (Option Value)} {oc1 kV1 dc1 pm1 cd1 ct1 : Value}
    (a1 : PySem.W.nsIn K mainGlobals "is_side" = some (some (.ref f1))) (l1 : K.lookup f1 = some ⟨oc1, od1, .func (PySem.W.fnOf "is_side" "is_side" (defArgs s_is_side) (defBody s_is_side) (defScope s_is_side) .none kV1 dc1 pm1 an1 cd1 ct1), sl1⟩) (c1 : PySem.W.codeIn K cd1 "is_side" = true) (k1 : PySem.W.keepIn K (.ref f1) = true)
    {f2 : Addr} {od2 an2 : Option Addr} {sl2 : Array (Option Value)} {oc2 kV2 dc2 pm2 cd2 ct2 : Value}
    (a2 : PySem.W.nsIn K mainGlobals "is_frame" = some (some (.ref f2))) (l2 : K.lookup f2 = some ⟨oc2, od2, .func (PySem.W.fnOf "is_frame" "is_frame" (defArgs s_is_frame) (defBody s_is_frame) (defScope s_is_frame) .none kV2 dc2 pm2 an2 cd2 ct2), sl2⟩) (c2 : PySem.W.codeIn K cd2 "is_frame" = true) (k2 : PySem.W.keepIn K (.ref f2) = true)
    {f3 : Addr} {od3 an3 : Option Addr} {sl3 : Array (Option Value)} {oc3 kV3 dc3 pm3 cd3 ct3 : Value}
    (a3 : PySem.W.nsIn K mainGlobals "standing_out" = some (some (.ref f3))) (l3 : K.lookup f3 = some ⟨oc3, od3, .func (PySem.W.fnOf "standing_out" "standing_out" (defArgs s_standing_out) (defBody s_standing_out) (defScope s_standing_out) .none kV3 dc3 pm3 an3 cd3 ct3), sl3⟩) (c3 : PySem.W.codeIn K cd3 "standing_out" = true) (k3 : PySem.W.keepIn K (.ref f3) = true)
    {f4 : Addr} {od4 an4 : Option Addr} {sl4 : Array (Option Value)} {oc4 kV4 dc4 pm4 cd4 ct4 : Value}
    (a4 : PySem.W.nsIn K mainGlobals "sk_out" = some (some (.ref f4))) (l4 : K.lookup f4 = some ⟨oc4, od4, .func (PySem.W.fnOf "sk_out" "sk_out" (defArgs s_sk_out) (defBody s_sk_out) (defScope s_sk_out) .none kV4 dc4 pm4 an4 cd4 ct4), sl4⟩) (c4 : PySem.W.codeIn K cd4 "sk_out" = true) (k4 : PySem.W.keepIn K (.ref f4) = true)
    {t_MOST_SIDE : Tok} (n_MOST_SIDE : PySem.W.nsIn K mainGlobals "MOST_SIDE" = some (some (.int (64) t_MOST_SIDE)))
    {t_MOST_TIMES : Tok} (n_MOST_TIMES : PySem.W.nsIn K mainGlobals "MOST_TIMES" = some (some (.int (65535) t_MOST_TIMES)))
    {rr : Addr} {rt : Tok} {rn : Nat} {rs : Array (Option Value)} (n_REFUSED : PySem.W.nsIn K mainGlobals "REFUSED" = some (some (.ref rr))) (l_REFUSED : K.lookup rr = some ⟨.type "list", none, .seq #[.int (-2) rt] rn, rs⟩)
    (n_max : PySem.W.nsIn K mainGlobals "max" = some none)
    (n_list : PySem.W.nsIn K mainGlobals "list" = some none)
    (n_zip : PySem.W.nsIn K mainGlobals "zip" = some none)
    (n_len : PySem.W.nsIn K mainGlobals "len" = some none)
    : ∃ fd : FuncData, (∀ (s : Shared) (us : List Value), us.length = (["t", "w", "h", "x", "sky", "noise"] : List Str).length → BindsTo s fd ⟨us, []⟩ ((["t", "w", "h", "x", "sky", "noise"] : List Str).zip us)) ∧ ∀ base : Heap, K.In base → base.Ns mainGlobals mg → FnOk P w K mg base CX0 3 fa fd ["t", "w", "h", "x", "sky", "noise"] (spTop K) := by
  have e := hfa.symm.trans (PySem.W.mg_of X G a4)
  cases e
  have F0 := fun_mk (st := s_less) l0 c0 k0
  have F1 := fun_mk (st := s_is_side) l1 c1 k1
  have F2 := fun_mk (st := s_is_frame) l2 c2 k2
  have F3 := fun_mk (st := s_standing_out) l3 c3 k3
  have F4 := fun_mk (st := s_sk_out) l4 c4 k4
  have b0 := F0.binds (ps := ["one", "other"]) fun _ _ _ _ _ _ us hl => match us, hl with | [_, _], _ => rfl
  have b1 := F1.binds (ps := ["number"]) fun _ _ _ _ _ _ us hl => match us, hl with | [_], _ => rfl
  have b2 := F2.binds (ps := ["w", "h"]) fun _ _ _ _ _ _ us hl => match us, hl with | [_, _], _ => rfl
  have b3 := F3.binds (ps := ["t", "own", "behind", "noise"]) fun _ _ _ _ _ _ us hl => match us, hl with | [_, _, _, _], _ => rfl
  refine ⟨PySem.W.fnOf "sk_out" "sk_out" (defArgs s_sk_out) (defBody s_sk_out) (defScope s_sk_out) .none kV4 dc4 pm4 an4 cd4 ct4, fun s us hu => match us, hu with | [_, _, _, _, _, _], _ => .of_eq rfl, fun base _ _ => ?_⟩
  have D_less : Def P w K mg base 1 "less" ["one", "other"] (spLess) := ⟨_, _, PySem.W.mg_of X G a0, k0, b0, ok_less F0 (PySem.W.mg_none_of X G n_max)⟩
  have D_is_side : Def P w K mg base 1 "is_side" ["number"] (spSide) := ⟨_, _, PySem.W.mg_of X G a1, k1, b1, ok_is_side F1 ⟨_, PySem.W.mg_of X G n_MOST_SIDE⟩⟩
  have D_is_frame : Def P w K mg base 2 "is_frame" ["w", "h"] (spFrame) := ⟨_, _, PySem.W.mg_of X G a2, k2, b2, ok_is_frame F2 D_is_side⟩
  have D_standing_out : Def P w K mg base 2 "standing_out" ["t", "own", "behind", "noise"] (spStanding) := ⟨_, _, PySem.W.mg_of X G a3, k3, b3, ok_standing_out F3 D_less (PySem.W.mg_none_of X G n_max)⟩
  exact ok_sk_out F4 D_is_frame D_standing_out ⟨_, PySem.W.mg_of X G n_MOST_TIMES⟩ (PySem.W.mg_none_of X G n_list) (PySem.W.mg_none_of X G n_zip) (PySem.W.mg_none_of X G n_len) ⟨rr, PySem.W.mg_of X G n_REFUSED, fun _ => .inr ⟨_, _, _, l_REFUSED, rfl, rfl, rfl, one_line, .cons ⟨_, rfl⟩ .nil⟩⟩
end Sky
open PySem PySem.W PyProof.Rows
set_option maxRecDepth 100000 in
set_option maxHeartbeats 8000000 in
theorem PySem.Challenge.cw_skyabove_s04_sk_out_holds : PySem.Challenge.rw_skyabove_s04_sk_out.Holds := by
  w_on; k_headS; (case hw => exact ⟨[.int 0, .int 0, .int 0, .list [], .list [], .list []], by decide +kernel, by decide +kernel⟩)
  k_fillS
  refine L2.walk_specK (r := PySem.Challenge.rw_skyabove_s04_sk_out) (k := 3) (CX := L2.CX0) (ps := ["t", "w", "h", "x", "sky", "noise"]) (sp := Sky.spTop) (by decide +kernel) rfl rfl ⟨rfl, by decide, by decide⟩ (fun w h Y => PySem.W.kIn_of Y) ?F ?S (fun _ _ _ _ z => z)
  case F =>
    intro w mg fa h Y KX G hmg
    refine' Sky.all_mk KX G hmg ?a0 ?l0 ?c0 ?k0 ?a1 ?l1 ?c1 ?k1 ?a2 ?l2 ?c2 ?k2 ?a3 ?l3 ?c3 ?k3 ?a4 ?l4 ?c4 ?k4 ?n_MOST_SIDE ?n_MOST_TIMES ?n_REFUSED ?l_REFUSED ?n_max ?n_list ?n_zip ?n_len
    (case a0 => k_is)
    (case l0 => k_is)
    (case c0 => k_is)
    (case k0 => k_is)
    (case a1 => k_is)
    (case l1 => k_is)
    (case c1 => k_is)
    (case k1 => k_is)
    (case a2 => k_is)
    (case l2 => k_is)
    (case c2 => k_is)
    (case k2 => k_is)
    (case a3 => k_is)
    (case l3 => k_is)
    (case c3 => k_is)
    (case k3 => k_is)
    (case a4 => k_is)
    (case l4 => k_is)
    (case c4 => k_is)
    (case k4 => k_is)
    (case n_MOST_SIDE => k_is)
    (case n_MOST_TIMES => k_is)
    (case n_REFUSED => k_is)
    (case l_REFUSED => k_is)
    (case n_max => k_is)
    (case n_list => k_is)
    (case n_zip => k_is)
    (case n_len => k_is)
  case S =>
    intro K H xs a hO hwi hask hx
    obtain ⟨t, w, h, x, y, z, u⟩ := a
    cases hx with
    | cons hs hx => cases hx with
    | cons h0 hx => cases hx with
    | cons h1 hx => cases hx with
    | cons h2 hx => cases hx with
    | cons h3 hx => cases hx with
    | cons h4 hx =>
      cases hx
      cases hs
      cases h0
      cases h1
      cases h2 with
      | lst s1 d1 => cases h3 with
      | lst s2 d2 => cases h4 with
      | lst s3 d3 =>
        have e1 := L2.ints_dw x _ d1
        have e2 := L2.ints_dw y _ d2
        have e3 := L2.ints_dw z _ d3
        subst e1 e2 e3
        have q : (Codec.inInt 0 4294967295 t && (Codec.inInt 0 4294967295 w && (Codec.inInt 0 4294967295 h && ((Codec.inLen 0 4200 x && x.all (Codec.inInt 0 65535)) && ((Codec.inLen 0 4200 y && y.all (Codec.inInt 0 65535)) && ((Codec.inLen 0 4200 z && z.all (Codec.inInt 0 65535)) && true)))))) = true := hwi
        simp only [Bool.and_eq_true] at q
        obtain ⟨t, rfl⟩ := Sky.of_int q.1
        obtain ⟨w, rfl⟩ := Sky.of_int q.2.1
        obtain ⟨h, rfl⟩ := Sky.of_int q.2.2.1
        obtain ⟨x, rfl⟩ := Sky.of_ints q.2.2.2.1.2
        obtain ⟨y, rfl⟩ := Sky.of_ints q.2.2.2.2.1.2
        obtain ⟨z, rfl⟩ := Sky.of_ints q.2.2.2.2.2.1.2
        have v : PySh66.sk_out_asked (t : Int) (w : Int) (h : Int) (Sh66Neutral.ints x) (Sh66Neutral.ints y) (Sh66Neutral.ints z) = true := (Sky.app_top PySh66.sk_out_asked (t : Int) (w : Int) (h : Int) (Sh66Neutral.ints x) (Sh66Neutral.ints y) (Sh66Neutral.ints z)).symm.trans hask
        refine ⟨t, w, h, _, _, _, x, y, z, rfl, s1, s2, s3, Sky.asked_top v, fun H' p hp => ?_⟩
        show L2.Dw K H' (.ref p) (WData.list ((PySh66.sk_out (t : Int) (w : Int) (h : Int) (Sh66Neutral.ints x) (Sh66Neutral.ints y) (Sh66Neutral.ints z)).map WData.int))
        rw [Sky.spec_top t w h x y z]
        exact Sky.dw_ans _ hp
#print axioms PySem.Challenge.cw_skyabove_s04_sk_out_holds
