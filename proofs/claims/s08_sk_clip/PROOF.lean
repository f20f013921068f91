import PyProof.Rows.All
import Wide.All
import OpenK.AllK
import Wide.FinOn
import Open.SpecLaws
import KE.OsGo
import HandS.Base
import HandS.Call
import HandS.List
import HandS.Comp
import HandS.Dict
import HandS.Iter
import HandS.Words
import HandS.Spec
import HandS.SortInts
import HandS.Walk
import PySem.Challenge.RW_skyabove_s08_sk_clip
set_option Elab.async false
set_option linter.all false
set_option maxRecDepth 100000
set_option maxHeartbeats 4000000
namespace Sky
open Sh66
/-! ### lists of naturals as lists of integers -/
theorem ints_def (l : List Nat) : Sh66Neutral.ints l = l.map fun (x : Nat) => (x : Int) := rfl
theorem ints_length (l : List Nat) : (Sh66Neutral.ints l).length = l.length := by rw [ints_def, List.length_map]
theorem ints_append (l m : List Nat) : Sh66Neutral.ints (l ++ m) = Sh66Neutral.ints l ++ Sh66Neutral.ints m := by rw [ints_def, List.map_append]; rfl
theorem nats_ints (l : List Nat) : Sh66Neutral.nats (Sh66Neutral.ints l) = l := by
  show (l.map _).map _ = l
  rw [List.map_map]
  exact (List.map_congr_left fun a _ => Int.toNat_natCast a).trans (List.map_id l)
theorem ints_nats {l : List Int} (h : ∀ z ∈ l, 0 ≤ z) : Sh66Neutral.ints (Sh66Neutral.nats l) = l := by
  show (l.map _).map _ = l
  rw [List.map_map]
  exact (List.map_congr_left fun a m => Int.toNat_of_nonneg (h a m)).trans (List.map_id l)
theorem num_at {l : List Nat} {i : Nat} (h : i < l.length) : l[i]? = some (num l i) := by
  unfold num
  rw [List.getD_eq_getElem?_getD, List.getElem?_eq_getElem h]
  rfl
theorem ints_at {l : List Nat} {i : Nat} (h : i < l.length) : (Sh66Neutral.ints l)[i]? = some ((num l i : Nat) : Int) := by
  rw [ints_def, List.getElem?_map, num_at h]
  rfl
/-! ### the middle one -/
theorem sorted_perm (l : List Nat) : (sorted l).Perm l := List.mergeSort_perm l _
theorem sorted_length (l : List Nat) : (sorted l).length = l.length := (sorted_perm l).length_eq
theorem sorted_le (l : List Nat) : (sorted l).Pairwise (fun a b => a ≤ b) := by
  have h := List.pairwise_mergeSort (le := fun (a b : Nat) => decide (a ≤ b)) (fun a b c h1 h2 => by
    have := of_decide_eq_true h1
    have := of_decide_eq_true h2
    exact decide_eq_true (by omega)) (fun a b => by
    rcases Nat.le_total a b with h | h
    · rw [decide_eq_true h]; rfl
    · rw [decide_eq_true h, Bool.or_true]) l
  exact h.imp fun {a b} q => of_decide_eq_true q
theorem sorted_ints {l : List Nat} {ns : List Int} (hp : ns.Perm (Sh66Neutral.ints l)) (hs : ns.Pairwise (· ≤ ·)) : ns = Sh66Neutral.ints (sorted l) := by
  refine List.Perm.eq_of_pairwise (le := fun (a b : Int) => a ≤ b) (fun a b _ _ h1 h2 => Int.le_antisymm h1 h2) hs ?_ (hp.trans ((sorted_perm l).symm.map _))
  exact List.pairwise_map.mpr ((sorted_le l).imp fun {a b} h => Int.ofNat_le.mpr h)
theorem median_nil : median [] = 0 := by simp [median, sorted, num]
theorem mid_lt {l : List Nat} (h : l ≠ []) : (l.length - 1) / 2 < (sorted l).length := by
  rw [sorted_length]
  have : 0 < l.length := List.length_pos_iff.mpr h
  omega
theorem median_at {l : List Nat} (h : l ≠ []) : (Sh66Neutral.ints (sorted l))[(l.length - 1) / 2]? = some ((median l : Nat) : Int) := ints_at (mid_lt h)
theorem apart_abs (a b : Nat) : (if (b : Int) - (a : Int) < 0 then -((b : Int) - (a : Int)) else (b : Int) - (a : Int)) = ((apart a b : Nat) : Int) := by
  unfold apart
  split <;> omega
theorem median_mem {l : List Nat} (h : l ≠ []) : median l ∈ l := by
  have e := num_at (mid_lt h)
  exact (sorted_perm l).mem_iff.mp (List.mem_of_getElem? e)
theorem median_lt {l : List Nat} {B : Nat} (hB : 0 < B) (h : ∀ x ∈ l, x < B) : median l < B := by
  by_cases e : l = []
  · rw [e, median_nil]; exact hB
  · exact h _ (median_mem e)
theorem spread_lt {l : List Nat} {B : Nat} (hB : 0 < B) (h : ∀ x ∈ l, x < B) : spread l < B := by
  unfold spread
  refine median_lt hB fun x hx => ?_
  obtain ⟨a, ha, rfl⟩ := List.mem_map.mp hx
  have h1 := median_lt hB h
  have h2 := h a ha
  unfold apart
  omega
/-! ### clipped -/
def once (k : Nat) (l : List Nat) : List Nat := l.filter fun a => decide (4 * apart (median l) a ≤ k * spread l)
def iter (k : Nat) : Nat → List Nat → List Nat
  | 0, l => l
  | n + 1, l => once k (iter k n l)
theorem iter_once (k : Nat) : ∀ (n : Nat) (l : List Nat), iter k (n + 1) l = iter k n (once k l)
  | 0, _ => rfl
  | n + 1, l => by
    show once k (iter k (n + 1) l) = once k (iter k n (once k l))
    rw [iter_once k n l]
theorem iter_fix {k : Nat} {l : List Nat} (h : once k l = l) : ∀ n, iter k n l = l
  | 0 => rfl
  | n + 1 => by
    show once k (iter k n l) = l
    rw [iter_fix h n, h]
theorem clipped_iter (k : Nat) : ∀ (n : Nat) (l : List Nat), clipped k n l = iter k n l
  | 0, _ => rfl
  | n + 1, l => by
    rw [iter_once]
    show (if (once k l).length = l.length then l else clipped k n (once k l)) = _
    by_cases h : (once k l).length = l.length
    · rw [if_pos h]
      have e : once k l = l := List.filter_eq_self.mpr (List.length_filter_eq_length_iff.mp h)
      rw [e, iter_fix e]
    · rw [if_neg h]
      exact clipped_iter k n _
theorem once_sub (k : Nat) (l : List Nat) : ∀ x ∈ once k l, x ∈ l := fun x h => (List.mem_filter.mp h).1
theorem iter_sub (k : Nat) (l : List Nat) : ∀ n, ∀ x ∈ iter k n l, x ∈ l
  | 0, _, h => h
  | n + 1, x, h => iter_sub k l n x (once_sub k _ x h)
theorem once_len (k : Nat) (l : List Nat) : (once k l).length ≤ l.length := List.length_filter_le _ _
theorem iter_len (k : Nat) (l : List Nat) : ∀ n, (iter k n l).length ≤ l.length
  | 0 => Nat.le_refl _
  | n + 1 => Nat.le_trans (once_len k _) (iter_len k l n)
end Sky
namespace Sky
open Sh66
/-! ### places of a frame -/
theorem flatMap_congr {α β : Type} {f g : α → List β} : ∀ {l : List α}, (∀ a ∈ l, f a = g a) → l.flatMap f = l.flatMap g
  | [], _ => rfl
  | a :: l, h => by
    rw [List.flatMap_cons, List.flatMap_cons, h a List.mem_cons_self, flatMap_congr fun b m => h b (List.mem_cons_of_mem _ m)]
theorem range_add (a b : Nat) : List.range (a + b) = List.range a ++ (List.range b).map (fun x => a + x) := List.range_add
theorem range_mul (w : Nat) : ∀ h : Nat, List.range (w * h) = (List.range h).flatMap fun r => (List.range w).map fun c => r * w + c
  | 0 => by simp
  | h + 1 => by
    rw [Nat.mul_succ, range_add, range_mul w h, List.range_succ, List.flatMap_append]
    congr 1
    simp [Nat.mul_comm]
/-- row by row is place by place -/
theorem each_range {α : Type} {w : Nat} (hw : 0 < w) (h : Nat) (f : Nat → Nat → α) : each w h f = (List.range (w * h)).map fun p => f (p % w) (p / w) := by
  rw [range_mul, List.map_flatMap]
  unfold each
  refine flatMap_congr fun r _ => ?_
  rw [List.map_map]
  refine List.map_congr_left fun c hc => ?_
  have hc := List.mem_range.mp hc
  show f c r = f ((r * w + c) % w) ((r * w + c) / w)
  rw [Nat.mul_comm r w, Nat.mul_add_mod, Nat.mod_eq_of_lt hc, Nat.mul_add_div hw, Nat.div_eq_of_lt hc, Nat.add_zero]
/-- the up to three at m along a side of n -/
def near (m n : Nat) : List Nat := List.range' (m - 1) (min n (m + 2) - (m - 1))
theorem near_span {m n : Nat} (h : m < n) : near m n = span m n := by
  unfold near span
  by_cases h0 : 0 < m
  · rw [if_pos h0]
    by_cases h1 : m + 1 < n
    · rw [if_pos h1, show min n (m + 2) - (m - 1) = 3 by omega]
      show [m - 1, m - 1 + 1, m - 1 + 1 + 1] = [m - 1] ++ [m] ++ [m + 1]
      rw [show m - 1 + 1 = m by omega]
      rfl
    · rw [if_neg h1, show min n (m + 2) - (m - 1) = 2 by omega]
      show [m - 1, m - 1 + 1] = [m - 1] ++ [m] ++ []
      rw [show m - 1 + 1 = m by omega]
      rfl
  · rw [if_neg h0]
    have e : m = 0 := by omega
    subst e
    by_cases h1 : 0 + 1 < n
    · rw [if_pos h1, show min n (0 + 2) - (0 - 1) = 2 by omega]
      rfl
    · rw [if_neg h1, show min n (0 + 2) - (0 - 1) = 1 by omega]
      rfl
theorem near_mem {m n x : Nat} (h : x ∈ near m n) : x < n ∧ m - 1 ≤ x ∧ x ≤ m + 1 := by
  unfold near at h
  rw [List.mem_range'_1] at h
  omega
theorem near_len (m n : Nat) : (near m n).length ≤ 3 := by
  unfold near
  rw [List.length_range']
  omega
/-- a place and those beside it, row by row -/
def around (w h p : Nat) : List Nat := (near (p / w) h).flatMap fun r => (near (p % w) w).map fun c => r * w + c
theorem place_lt {w h r c : Nat} (hr : r < h) (hc : c < w) : r * w + c < w * h := by
  have : (r + 1) * w ≤ h * w := Nat.mul_le_mul_right w hr
  rw [Nat.succ_mul, Nat.mul_comm h w] at this
  omega
theorem around_lt {w h p x : Nat} (hx : x ∈ around w h p) : x < w * h := by
  obtain ⟨r, hr, hx⟩ := List.mem_flatMap.mp hx
  obtain ⟨c, hc, rfl⟩ := List.mem_map.mp hx
  exact place_lt (near_mem hr).1 (near_mem hc).1
theorem around_len (w h p : Nat) : (around w h p).length ≤ 9 := by
  unfold around
  rw [List.length_flatMap]
  have h1 := near_len (p / w) h
  have h2 := near_len (p % w) w
  have : ∀ l : List Nat, (l.map fun r => ((near (p % w) w).map fun c => r * w + c).length).sum ≤ l.length * 3 := by
    intro l
    induction l with
    | nil => simp
    | cons a l ih =>
      rw [List.map_cons, List.sum_cons, List.length_cons, List.length_map]
      omega
  have := this (near (p / w) h)
  omega
theorem calmed_eq {w h : Nat} (hw : 0 < w) (x : List Nat) : calmed w h x = (List.range (w * h)).map fun p => median ((around w h p).map (num x)) := by
  unfold calmed
  rw [each_range hw]
  refine List.map_congr_left fun p hp => ?_
  have hp := List.mem_range.mp hp
  have h1 : p % w < w := Nat.mod_lt _ hw
  have h2 : p / w < h := Nat.div_lt_of_lt_mul hp
  show median ((span (p / w) h).flatMap fun q => (span (p % w) w).map fun c => at_ w x c q) = _
  unfold around
  rw [near_span h1, near_span h2, List.map_flatMap]
  congr 1
  refine flatMap_congr fun r _ => ?_
  rw [List.map_map]
  rfl
/-! ### what stands out -/
def outAt (t a b m : Nat) : Nat := if t * max 1 m < 4 * (a - b) then a - b else 0
theorem out_eq {t w h : Nat} (hw : 0 < w) (x sky noise : List Nat) : Sh66.out t w h x sky noise = (List.range (w * h)).map fun p => outAt t (num x p) (num sky p) (num noise p) := by
  unfold Sh66.out
  rw [each_range hw]
  refine List.map_congr_left fun p _ => ?_
  show (if t * max 1 (at_ w noise (p % w) (p / w)) < 4 * (at_ w x (p % w) (p / w) - at_ w sky (p % w) (p / w)) then at_ w x (p % w) (p / w) - at_ w sky (p % w) (p / w) else 0) = _
  have e : p / w * w + p % w = p := by rw [Nat.mul_comm]; exact Nat.div_add_mod p w
  unfold at_
  rw [e]
  rfl
/-! ### a list by its places -/
theorem map_num (l : List Nat) : (List.range l.length).map (num l) = l := by
  apply List.ext_getElem?
  intro i
  rw [List.getElem?_map]
  by_cases h : i < l.length
  · rw [List.getElem?_range h, num_at h]; rfl
  · rw [List.getElem?_eq_none (by rw [List.length_range]; omega), List.getElem?_eq_none (by omega)]; rfl
theorem zip_num {x y : List Nat} (h : y.length = x.length) (f : Nat → Nat → Nat) : (x.zip y).map (fun p => f p.1 p.2) = (List.range x.length).map fun i => f (num x i) (num y i) := by
  apply List.ext_getElem?
  intro i
  rw [List.getElem?_map, List.getElem?_map]
  by_cases hi : i < x.length
  · rw [List.getElem?_range hi, (List.getElem?_zip_eq_some (z := (num x i, num y i))).mpr ⟨num_at hi, num_at (by omega)⟩]; rfl
  · rw [List.getElem?_eq_none (by rw [List.length_zip]; omega), List.getElem?_eq_none (by rw [List.length_range]; omega)]; rfl
end Sky
namespace Sky
open PySem PySem.Spec PyProof.Rows L2
/-! ### values and heaps -/
/-- a list of naturals, as values -/
def nv (l : List Nat) : List V := (Sh66Neutral.ints l).map V.int
theorem nv_length (l : List Nat) : (nv l).length = l.length := by unfold nv; rw [List.length_map, ints_length]
theorem nv_at {l : List Nat} {i : Nat} (h : i < l.length) : (nv l)[i]? = some (.int ((Sh66.num l i : Nat) : Int)) := by
  unfold nv
  rw [List.getElem?_map, ints_at h]
  rfl
theorem nv_get {l : List Nat} {i : Nat} {x : V} (h : (nv l)[i]? = some x) : i < l.length ∧ x = .int ((Sh66.num l i : Nat) : Int) := by
  have hi : i < l.length := by
    have := (List.getElem?_eq_some_iff.mp h).1
    rw [nv_length] at this
    exact this
  rw [nv_at hi] at h
  exact ⟨hi, (Option.some.inj h).symm⟩
theorem nv_append (l m : List Nat) : nv (l ++ m) = nv l ++ nv m := by unfold nv; rw [ints_append, List.map_append]
theorem nv_map {α : Type} (f : α → Nat) (l : List α) : nv (l.map f) = l.map fun a => V.int ((f a : Nat) : Int) := by
  show ((l.map f).map _).map _ = _
  rw [List.map_map, List.map_map]
  rfl
theorem nv_cons (n : Nat) (l : List Nat) : nv (n :: l) = V.int (n : Int) :: nv l := rfl
theorem at_n {xs : List V} {i : Nat} {v : V} (h : xs[i]? = some v) : atI xs ((i : Nat) : Int) = some v := atI_nat h
theorem same_upd {H : Hp} {p : Addr} {o : HO} (h : H p = none) : Same H (upd H p o) := fun b x e => by
  rw [upd_ne (ne_of_none e h)]
  exact e
/-- an object that was made since is written: what was there before stands -/
theorem same_set {H H1 : Hp} {p : Addr} {o : HO} (s : Same H H1) (h : H p = none) : Same H (upd H1 p o) := fun b x e => by
  rw [upd_ne (ne_of_none e h)]
  exact s b x e
theorem Same.none {H H1 : Hp} {p : Addr} (s : Same H H1) (h : H1 p = none) : H p = none := s.free h
theorem seqT {K : PySem.W.Frag} {H H' : Hp} {a : Addr} {xs : List V} (e : Same H H') (h : SqT K H a xs) : SqT K H' a xs := by
  rcases h with (h | ⟨o, h⟩) | h
  · exact .inl (.inl (e _ _ h))
  · exact .inl (.inr ⟨o, e _ _ h⟩)
  · exact .inr h
theorem line_of {n : Nat} (h : n ≤ 1048576) : n ≤ sizeLine := Nat.le_trans h (by decide)
theorem line_lt {n : Nat} (h : n < 1048576) : n < sizeLine := Nat.lt_of_lt_of_le h (by decide)
theorem one_line : 1 ≤ sizeLine := by decide
theorem two_line : 2 ≤ sizeLine := by decide
/-- the answer's end: a list of whole numbers -/
theorem dw_ans {K : PySem.W.Frag} {H : Hp} {p : Addr} (l : List Int) (hp : H p = some (.lst (l.map V.int))) : Dw K H (.ref p) (PySem.W.WData.list (l.map PySem.W.WData.int)) := .lst (SqL.of hp) (dw_ints l)
theorem of_ints {l : List Int} (h : l.all (PySem.W.Codec.inInt 0 65535) = true) : ∃ m : List Nat, l = Sh66Neutral.ints m :=
  ⟨Sh66Neutral.nats l, (ints_nats fun z hz => by
    have q := List.all_eq_true.mp h z hz
    simp only [PySem.W.Codec.inInt, Bool.and_eq_true, decide_eq_true_eq] at q
    exact q.1).symm⟩
theorem dp_ints {K : PySem.W.Frag} {H : Hp} : ∀ l : List Int, DpAll K H (l.map V.int) (l.map PyData.int)
  | [] => .nil
  | i :: l => .cons (.int i) (dp_ints l)
theorem at_of {xs : List V} {z : Int} {j : Nat} {v : V} (e : z = (j : Int)) (h : xs[j]? = some v) : atI xs z = some v := by
  rw [e]
  exact atI_nat h
theorem nv_filter (p : Nat → Bool) (l : List Nat) : ((List.range l.length).filter fun i => p (Sh66.num l i)).map (fun i => V.int ((Sh66.num l i : Nat) : Int)) = nv (l.filter p) := by
  conv => rhs; rw [← map_num l]
  rw [List.filter_map, nv_map]
  rfl
theorem of_int {i hi : Int} (h : PySem.W.Codec.inInt 0 hi i = true) : ∃ n : Nat, i = (n : Int) := by
  simp only [PySem.W.Codec.inInt, Bool.and_eq_true, decide_eq_true_eq] at h
  exact Int.eq_ofNat_of_zero_le h.1
/-! ### names of the module -/
theorem pe_gi {X : Cx} {x : Str} {i : Int} {pos : Pos} (hg : Gl X x) (h : ∃ t, X.mg x = some (.int i t)) (hd : (x == ("__debug__" : Str)) = false := by decide) : PE X (.Name x pos) (tC (.int i)) := by
  obtain ⟨t, h⟩ := h
  exact pe_glob hg h ⟨t, rfl⟩ hd
/-- a def of the module that keeps a promise -/
def Def (P : Program) (w : World) (K : PySem.W.Frag) (mg : Str → Option Value) (base : Heap) (k : Nat) (x : Str) (ps : List Str) (sp : Sp) : Prop :=
  ∃ f fd, mg x = some (.ref f) ∧ PySem.W.keepIn K (.ref f) = true ∧ L2.Binds K fd ps [] ∧ FnOk P w K mg base CX0 k f fd ps sp
theorem Def.mono {P : Program} {w : World} {K : PySem.W.Frag} {mg : Str → Option Value} {base : Heap} {k j : Nat} {x : Str} {ps : List Str} {sp : Sp} (D : Def P w K mg base k x ps sp) (h : k ≤ j) : Def P w K mg base j x ps sp := by
  obtain ⟨f, fd, a, b, c, d⟩ := D
  exact ⟨f, fd, a, b, c, d.mono h⟩
theorem pe_def {X : Cx} {k : Nat} {ps : List Str} {sp : Sp} {x : Str} {p pos : Pos} {e : Expr} {es : List Expr} {t : TA} (D : Def X.prog X.w X.K X.mg X.base k x ps sp) (hr : Room k X.A) (hg : Gl X x) (ha : PA X (e :: es) t)
    (hdb : (x == ("__debug__" : Str)) = false := by decide) (he : starEach (e :: es) X.env = (false, eval e X.env) :: starEach es X.env := by rfl) (hpl : (backTo pos (starEach es X.env)).any (·.1) = false := by rfl) :
    PE X (.Call (.Name x p) (e :: es) [] pos) (tCall sp [] E0 t) := by
  obtain ⟨f, fd, a, b, c, d⟩ := D
  exact pe_call d hr hg a b c .nil pass0 ha hdb he hpl
/-- a built-in function, a built-in class by its name -/
theorem pe_bi {X : Cx} {id : String} {x : Str} {p pos : Pos} {e : Expr} {es : List Expr} {t : TA} {r : List V → Hp → VK → Prop} (hc : CallR X (.builtin id) r) (hg : Gl X x) (hm : X.mg x = none) (ha : PA X (e :: es) t) (hv : bootBuiltins x = some (.builtin id) := by decide +kernel)
    (hn : x ≠ "__name__" := by decide) (hdb : (x == ("__debug__" : Str)) = false := by decide) (he : starEach (e :: es) X.env = (false, eval e X.env) :: starEach es X.env := by rfl) (hpl : (backTo pos (starEach es X.env)).any (·.1) = false := by rfl) : PE X (.Call (.Name x p) (e :: es) [] pos) (tCB r t) := pe_callB hc hg hm hv ha hn hdb he hpl
/-- list(REFUSED) -/
def RefOk (K : PySem.W.Frag) (mg : Str → Option Value) : Prop := ∃ a, mg "REFUSED" = some (.ref a) ∧ ∀ H, SqL K H a [.int (-2)]
def tRefused : TE := fun _ H Q => ∀ l, H l = none → Q (.ref l) (upd H l (.lst [.int (-2)]))
theorem pe_refused {X : Cx} {p p2 pos : Pos} (hg : Gl X "list") (hg2 : Gl X "REFUSED") (hm : X.mg "list" = none) (h : RefOk X.K X.mg) : PE X (.Call (.Name "list" p) [.Name "REFUSED" p2] [] pos) tRefused := by
  obtain ⟨a, e, q⟩ := h
  have b := pe_callTy (X := X) (p := p) (pos := pos) call_list_of hg hm (by decide +kernel) (pa_cons (pe_glob (v := .ref a) (pos := p2) hg2 e rfl) pa_nil)
  exact ⟨fun pins s σ H Q I hw => b.run pins s σ H Q I ⟨a, _, rfl, .inl (q H), hw⟩⟩
/-! ### the walks of a comprehension -/
section
variable {J : It} {n : Nat} {G : Hp → Prop} {Y : Nat → Hp → V → Hp → Prop}
/-- [f i for .. if keep i], the heap growing -/
theorem lc_sel (w : Walk J n G Y) {g : TG} {tt : TT} {te : TE} {vs : List Nat} {σ : L2.St} {H1 : Hp} {D : Addr} {Qd : Hp → Prop} (f : Nat → V) (keep : Nat → Bool) (hD : H1 D = none) (hz : n ≤ sizeLine) (hG : ∀ H, Same H1 H → G H)
    (hs : ∀ i x H H' (R : V → Hp → Prop) (N : Hp → Prop), i < n → Same H1 H → Y i H x H' → (keep i = true → ∀ H4, Same H H4 → R (f i) H4) → (keep i = false → ∀ H4, Same H H4 → N H4) →
      g x (wipe σ vs) H' fun σ2 H2 => wipe σ2 vs = wipe σ vs ∧ tt σ2 H2 fun b H3 => if b = true then te σ2 H3 R else N H3)
    (hd : ∀ H, Same H1 H → H D = some (.lst (((List.range n).filter keep).map f)) → Qd H) :
    ∃ W : Nat → Nat → Hp → Prop, (∃ m, W 0 m (upd H1 D (.lst []))) ∧ ∀ i m H, W i m H →
      (J.stop i H ∧ Qd H) ∨ (J.go i H ∧ ∃ Nx : Hp → Prop, (∀ H', Nx H' → ∃ m', m' < m ∧ W (i + 1) m' H') ∧ ∀ x H', J.yld i H x H' → g x (wipe σ vs) H' fun σ2 H2 => wipe σ2 vs = wipe σ vs ∧ tt σ2 H2 fun b H3 =>
        if b = true then te σ2 H3 fun y H4 => ∃ acc, H4 D = some (.lst acc) ∧ acc.length < sizeLine ∧ Nx (upd H4 D (.lst (acc ++ [y]))) else Nx H3) := by
  have step : ∀ i, (List.range (i + 1)).filter keep = (List.range i).filter keep ++ (if keep i = true then [i] else []) := fun i => by
    rw [List.range_succ, List.filter_append]
    congr 1
    by_cases h : keep i = true
    · rw [List.filter_cons_of_pos h, if_pos h]; rfl
    · rw [List.filter_cons_of_neg h, if_neg h]; rfl
  have len : ∀ i, (((List.range i).filter keep).map f).length ≤ i := fun i => by
    rw [List.length_map]
    exact Nat.le_trans (List.length_filter_le _ _) (Nat.le_of_eq List.length_range)
  refine lc_it w (fun i H => Same H1 H ∧ H D = some (.lst (((List.range i).filter keep).map f))) ⟨same_upd hD, upd_same⟩ (fun i H _ p => hG H p.1) (fun i x H H' hi p y => ?_) fun H p => hd H p.1 p.2
  refine hs i x H H' _ _ hi p.1 y (fun hk H4 s4 => ?_) fun hk H4 s4 => ?_
  · refine ⟨_, s4 _ _ p.2, Nat.lt_of_le_of_lt (len i) (Nat.lt_of_lt_of_le hi hz), same_set (p.1.trans s4) hD, ?_⟩
    rw [upd_same, step i, if_pos hk, List.map_append]
    rfl
  · refine ⟨p.1.trans s4, ?_⟩
    rw [s4 _ _ p.2, step i, if_neg (by rw [hk]; decide), List.append_nil]
/-- [f i for ..] -/
theorem lc_map (w : Walk J n G Y) {g : TG} {te : TE} {vs : List Nat} {σ : L2.St} {H1 : Hp} {D : Addr} {Qd : Hp → Prop} (f : Nat → V) (hD : H1 D = none) (hz : n ≤ sizeLine) (hG : ∀ H, Same H1 H → G H)
    (hs : ∀ i x H H' (R : V → Hp → Prop), i < n → Same H1 H → Y i H x H' → (∀ H4, Same H H4 → R (f i) H4) → g x (wipe σ vs) H' fun σ2 H2 => wipe σ2 vs = wipe σ vs ∧ te σ2 H2 R)
    (hd : ∀ H, Same H1 H → H D = some (.lst ((List.range n).map f)) → Qd H) :
    ∃ W : Nat → Nat → Hp → Prop, (∃ m, W 0 m (upd H1 D (.lst []))) ∧ ∀ i m H, W i m H →
      (J.stop i H ∧ Qd H) ∨ (J.go i H ∧ ∃ Nx : Hp → Prop, (∀ H', Nx H' → ∃ m', m' < m ∧ W (i + 1) m' H') ∧ ∀ x H', J.yld i H x H' → g x (wipe σ vs) H' fun σ2 H2 => wipe σ2 vs = wipe σ vs ∧ tYes σ2 H2 fun b H3 =>
        if b = true then te σ2 H3 fun y H4 => ∃ acc, H4 D = some (.lst acc) ∧ acc.length < sizeLine ∧ Nx (upd H4 D (.lst (acc ++ [y]))) else Nx H3) :=
  lc_sel w f (fun _ => true) hD hz hG (fun i x H H' R N hi s y h1 _ => hs i x H H' R hi s y (h1 rfl)) fun H s e => hd H s (by rw [e, List.filter_eq_self.mpr fun _ _ => rfl])
end
end Sky
namespace Sky
open PySem PySem.Spec PyProof.Rows L2
def topS (i : Nat) : Stmt := PySem.Challenge.pw_skyabove_s08_sk_clip.main.body.getD i (.Pass ⟨0, 0, 0, 0⟩)
abbrev s_middle : Stmt := topS 2
abbrev s_far_off : Stmt := topS 3
abbrev s_clipped_once : Stmt := topS 4
abbrev s_clipped : Stmt := topS 5
abbrev s_counted : Stmt := topS 10
abbrev s_sk_clip : Stmt := topS 11
section
variable {P : Program} {w : World} {K : PySem.W.Frag} {mg : Str → Option Value} {base : Heap}
/-! ### middle(some) -/
def spMiddle (K : PySem.W.Frag) : Sp := fun vs H Q _ => ∃ (a : Addr) (l : List Nat), vs = [.ref a] ∧ SqL K H a (nv l) ∧ ∀ H', Same H H' → Q (.int ((Sh66.median l : Nat) : Int)) H'
theorem sc_middle : FnScope ["some"] ["some"] (defScope s_middle) := ⟨rfl, rfl, rfl, by decide +kernel, rfl, by decide +kernel, by decide +kernel⟩
theorem ok_middle {f : Addr} {fd : FuncData} (F : Fun K "middle" "middle" s_middle f fd) (b_sorted : mg "sorted" = none) (b_len : mg "len" = none) : FnOk P w K mg base CX0 1 f fd ["some"] (spMiddle K) := by
  refine F.ok sc_middle (fun vs H Q E h => ?_) (fun cdv A outer s H vs Q E hr h => ?_)
  · obtain ⟨_, _, rfl, _⟩ := h
    rfl
  · obtain ⟨a, l, rfl, hs, k⟩ := h
    refine ⟨_, pss_cons (ps_if (pt_cmpR (op_eqD hr.units) (pv 0) (pe_lst pa_nil) (nomark _)) (pss_one (ps_ret pe_int)) pss_nil)
      (pss_one (ps_ret (pe_ix ix_list (pe_bi cr_sortedI rfl b_sorted (pa_cons (pv 0) pa_nil)) (pe_op op_fdiv (pe_op op_sub (pe_bi call_len_seq rfl b_len (pa_cons (pv 0) pa_nil)) pe_int) pe_int) (fun _ _ => rfl)))), ?_⟩
    refine ⟨_, rfl, Nat.zero_le _, fun o no => ?_⟩
    have s1 : Same H (upd H o (.lst [])) := same_upd no
    refine ⟨.list ((Sh66Neutral.ints l).map PyData.int), .list [], .lst (s1.seq hs) (dp_ints _), .lst (SqL.of upd_same) .nil, PySem.W.shaped_ints _, PySem.W.shaped_ints [], _, rfl, ?_⟩
    cases l with
    | nil =>
      have q := k _ s1
      rw [median_nil] at q
      exact iteT q
    | cons n r =>
      refine iteF ?_
      generalize hl : n :: r = l at *
      have hne : l ≠ [] := by rw [← hl]; exact List.cons_ne_nil _ _
      refine ⟨_, rfl, a, Sh66Neutral.ints l, rfl, s1.seq hs, fun ns' p hp hq np => ?_⟩
      have s2 := same_upd (o := .lst (ns'.map V.int)) np
      refine ⟨_, rfl, a, nv l, rfl, .inl (s2.seq (s1.seq hs)), _, _, rfl, rfl, _, _, rfl, rfl, ⟨by decide, by decide⟩, p, _, _, .int ((Sh66.median l : Nat) : Int), rfl, rfl, SqL.of upd_same, ?_, k _ (s1.trans s2)⟩
      have e := sorted_ints hp hq
      subst e
      have hlen : 0 < l.length := List.length_pos_iff.mpr hne
      refine at_of (j := (l.length - 1) / 2) ?_ ?_
      · rw [nv_length]
        omega
      · rw [List.getElem?_map, median_at hne]
        rfl
/-! ### far_off(some): slots some, own, number -/
def spFarOff (K : PySem.W.Frag) : Sp := fun vs H Q _ => ∃ (a : Addr) (l : List Nat), vs = [.ref a] ∧ SqL K H a (nv l) ∧ l.length ≤ 5000 ∧ ∀ H', Same H H' → Q (.int ((Sh66.spread l : Nat) : Int)) H'
theorem sc_far_off : FnScope ["some", "own", "number"] ["some"] (defScope s_far_off) := ⟨rfl, rfl, rfl, by decide +kernel, rfl, by decide +kernel, by decide +kernel⟩
theorem ok_far_off {f : Addr} {fd : FuncData} (F : Fun K "far_off" "far_off" s_far_off f fd) (D_middle : Def P w K mg base 1 "middle" ["some"] (spMiddle K)) (b_abs : mg "abs" = none) : FnOk P w K mg base CX0 2 f fd ["some"] (spFarOff K) := by
  refine F.ok sc_far_off (fun vs H Q E h => ?_) (fun cdv A outer s H vs Q E hr h => ?_)
  · obtain ⟨_, _, rfl, _⟩ := h
    rfl
  · obtain ⟨a, l, rfl, hs, hl, k⟩ := h
    refine ⟨_, pss_cons (ps_set (i := 1) sc_far_off.nd rfl (.inr rfl) (pe_def D_middle hr rfl (pa_cons (pv 0) pa_nil)))
      (pss_one (ps_ret (pe_def D_middle hr rfl (pa_cons (pe_lc (own := [("number", 2)]) (g := gName 2) rfl sc_far_off.nd (pi_list (pv 0)) (blkOk_by (N := ["some", "own", "number"]) (sc := defScope s_far_off) (by decide +kernel))
        (fun _ _ _ _ _ => pg_name (i := 2) sc_far_off.nd rfl (.inl rfl)) (fun _ _ _ _ _ => pts_nil) (fun _ _ _ _ _ => pe_bi call_abs rfl b_abs (pa_cons (pe_op op_sub (pv 2) (pv 1)) pa_nil))) pa_nil)))), ?_⟩
    refine ⟨_, rfl, a, l, rfl, hs, fun H1 s1 => ?_⟩
    refine ⟨_, rfl, a, rfl, ⟨_, s1.seq hs⟩, fun D nD => lc_map (walk_list (xs := nv l)) (fun i => .int ((Sh66.apart (Sh66.median l) (Sh66.num l i) : Nat) : Int)) nD (line_of (by rw [nv_length]; omega)) (fun H2 s2 => (s1.trans s2).seq hs) ?_ ?_⟩
    · intro i v H2 H3 R hi s2 yv r
      obtain ⟨rfl, g1⟩ := yv
      obtain ⟨_, rfl⟩ := nv_get g1
      refine ⟨rfl, _, rfl, _, rfl, _, _, rfl, rfl, _, rfl, ?_⟩
      have q := r _ (Same.refl _)
      rw [← apart_abs] at q
      exact q
    · intro H4 s4 e4
      rw [nv_length] at e4
      refine ⟨D, l.map (Sh66.apart (Sh66.median l)), rfl, SqL.of (e4.trans (congrArg (fun z => some (HO.lst z)) ?_)), fun H5 s5 => k _ ((s1.trans s4).trans s5)⟩
      conv => rhs; rw [← map_num l]
      rw [List.map_map, nv_map]
      rw [map_num l]
      rfl
/-! ### clipped_once(some, k): slots some, k, own, far, number -/
def spOnce (K : PySem.W.Frag) : Sp := fun vs H Q _ => ∃ (a : Addr) (k : Nat) (l : List Nat), vs = [.ref a, .int k] ∧ SqL K H a (nv l) ∧ l.length ≤ 5000 ∧ k ≤ 256 ∧ ∀ H' p, Same H H' → H p = none → H' p = some (.lst (nv (once k l))) → Q (.ref p) H'
theorem sc_clipped_once : FnScope ["some", "k", "own", "far", "number"] ["some", "k"] (defScope s_clipped_once) := ⟨rfl, rfl, rfl, by decide +kernel, rfl, by decide +kernel, by decide +kernel⟩
theorem ok_clipped_once {f : Addr} {fd : FuncData} (F : Fun K "clipped_once" "clipped_once" s_clipped_once f fd) (D_middle : Def P w K mg base 1 "middle" ["some"] (spMiddle K)) (D_far_off : Def P w K mg base 2 "far_off" ["some"] (spFarOff K)) (b_abs : mg "abs" = none) :
    FnOk P w K mg base CX0 3 f fd ["some", "k"] (spOnce K) := by
  refine F.ok sc_clipped_once (fun vs H Q E h => ?_) (fun cdv A outer s H vs Q E hr h => ?_)
  · obtain ⟨_, _, _, rfl, _⟩ := h
    rfl
  · obtain ⟨a, kk, l, rfl, hs, hl, hk, k⟩ := h
    refine ⟨_, pss_cons (ps_asg (pe_tup (pa_cons (pe_def D_middle (hr.mono (by decide)) rfl (pa_cons (pv 0) pa_nil)) (pa_cons (pe_def D_far_off hr rfl (pa_cons (pv 0) pa_nil)) pa_nil)))
        (pg_tup rfl (pgs_cons (pg_name (i := 2) sc_clipped_once.nd rfl (.inr rfl)) (pgs_cons (pg_name (i := 3) sc_clipped_once.nd rfl (.inr rfl)) pgs_nil))))
      (pss_one (ps_ret (pe_lc (own := [("number", 4)]) (g := gName 4) rfl sc_clipped_once.nd (pi_list (pv 0)) (blkOk_by (N := ["some", "k", "own", "far", "number"]) (sc := defScope s_clipped_once) (by decide +kernel))
        (fun _ _ _ _ _ => pg_name (i := 4) sc_clipped_once.nd rfl (.inl rfl))
        (fun _ _ _ _ _ => pts_one (pt_cmpR op_le (pe_op op_mul pe_int (pe_bi call_abs rfl b_abs (pa_cons (pe_op op_sub (pv 4) (pv 2)) pa_nil))) (pe_op op_mul (pv 1) (pv 3)) (nomark _))) (fun _ _ _ _ _ => pv 4)))), ?_⟩
    refine ⟨_, rfl, a, l, rfl, hs, fun H1 s1 => ⟨_, rfl, a, l, rfl, s1.seq hs, hl, fun H2 s2 => ⟨two_line, fun t nt => ⟨t, _, rfl, SqT.of upd_same, rfl, _, _, rfl, _, _, rfl, rfl, ?_⟩⟩⟩⟩
    have s3 := (s1.trans s2).trans (same_upd (o := .tup [.int ((Sh66.median l : Nat) : Int), .int ((Sh66.spread l : Nat) : Int)]) nt)
    refine ⟨_, rfl, a, rfl, ⟨_, s3.seq hs⟩, fun D nD => lc_sel (walk_list (xs := nv l)) (fun i => .int ((Sh66.num l i : Nat) : Int)) (fun i => decide (4 * Sh66.apart (Sh66.median l) (Sh66.num l i) ≤ kk * Sh66.spread l)) nD (line_of (by rw [nv_length]; omega)) (fun H4 s4 => (s3.trans s4).seq hs) ?_ ?_⟩
    · intro i v H4 H5 R N hi s4 yv h1 h2
      obtain ⟨rfl, g1⟩ := yv
      obtain ⟨_, rfl⟩ := nv_get g1
      refine ⟨rfl, _, rfl, _, rfl, _, _, rfl, rfl, _, rfl, _, _, rfl, rfl, .inl ⟨by decide, by decide⟩, _, rfl, _, rfl, _, _, rfl, rfl, .inl ⟨by omega, by omega⟩, _, _, rfl, rfl, _, rfl, ?_⟩
      have e : decide ((4 : Int) * (if ((Sh66.num l i : Nat) : Int) - ((Sh66.median l : Nat) : Int) < 0 then -(((Sh66.num l i : Nat) : Int) - ((Sh66.median l : Nat) : Int)) else ((Sh66.num l i : Nat) : Int) - ((Sh66.median l : Nat) : Int)) ≤ (kk : Int) * ((Sh66.spread l : Nat) : Int)) =
          decide (4 * Sh66.apart (Sh66.median l) (Sh66.num l i) ≤ kk * Sh66.spread l) := by
        rw [apart_abs, ← Int.natCast_mul]
        refine decide_eq_decide.mpr ?_
        omega
      refine ite2 (fun c => ?_) (fun c => ?_)
      · exact ⟨_, rfl, h1 (e.symm.trans c) _ (Same.refl _)⟩
      · exact h2 (e.symm.trans (Bool.not_eq_true _ ▸ c)) _ (Same.refl _)
    · intro H4 s4 e4
      rw [nv_length] at e4
      refine k _ D (s3.trans s4) (s3.free nD) (e4.trans (congrArg (fun z => some (HO.lst z)) ?_))
      exact nv_filter (fun z => decide (4 * Sh66.apart (Sh66.median l) z ≤ kk * Sh66.spread l)) l
/-! ### clipped(some, k): slots some, k, found, turn -/
def spClipped (K : PySem.W.Frag) : Sp := fun vs H Q _ => ∃ (a : Addr) (k : Nat) (l : List Nat), vs = [.ref a, .int k] ∧ SqL K H a (nv l) ∧ l.length ≤ 5000 ∧ k ≤ 256 ∧ ∀ H' p, Same H H' → H p = none → H' p = some (.lst (nv (Sh66.clipped k 8 l))) → Q (.ref p) H'
theorem sc_clipped : FnScope ["some", "k", "found", "turn"] ["some", "k"] (defScope s_clipped) := ⟨rfl, rfl, rfl, by decide +kernel, rfl, by decide +kernel, by decide +kernel⟩
theorem ok_clipped {f : Addr} {fd : FuncData} (F : Fun K "clipped" "clipped" s_clipped f fd) (D_clipped_once : Def P w K mg base 3 "clipped_once" ["some", "k"] (spOnce K)) (c_MT : ∃ t, mg "MOST_TIMES" = some (.int 8 t)) (b_list : mg "list" = none) (b_range : mg "range" = none) :
    FnOk P w K mg base CX0 4 f fd ["some", "k"] (spClipped K) := by
  refine F.ok sc_clipped (fun vs H Q E h => ?_) (fun cdv A outer s H vs Q E hr h => ?_)
  · obtain ⟨_, _, _, rfl, _⟩ := h
    rfl
  · obtain ⟨a, kk, l, rfl, hs, hl, hk, k⟩ := h
    refine ⟨_, pss_cons (ps_set (i := 2) sc_clipped.nd rfl (.inl rfl) (pe_callTy call_list_of rfl b_list (by decide +kernel) (pa_cons (pv 0) pa_nil)))
      (pss_cons (ps_for PassesOwn.never rfl (pi_range1 rfl b_range (pa_cons (pe_gi rfl c_MT) pa_nil)) (pg_name (i := 3) sc_clipped.nd rfl (.inl rfl))
        (pss_one (ps_set (i := 2) sc_clipped.nd rfl (.inl rfl) (pe_def D_clipped_once hr rfl (pa_cons (pv 2) (pa_cons (pv 1) pa_nil))))))
      (pss_one (ps_ret (pv 2)))), ?_⟩
    refine ⟨_, rfl, a, _, rfl, .inl hs, fun o no => ?_⟩
    refine ⟨8, rfl, by decide, by decide, for_it (walk_range (lo := 0) (n := 8)) (fun i σ H' => ∃ p v, σ = [some (.ref a), some (.int kk), some (.ref p), v] ∧ Same H H' ∧ H p = none ∧ H' p = some (.lst (nv (iter kk i l))))
      ⟨o, none, rfl, same_upd no, no, upd_same⟩ (fun _ _ _ _ _ => trivial) ?_ ?_⟩
    · rintro i x σ H1 H2 hi ⟨p, v, rfl, s1, np, ep⟩ ⟨rfl, rfl⟩
      refine ⟨_, rfl, _, rfl, p, kk, _, rfl, SqL.of ep, Nat.le_trans (iter_len kk l i) hl, hk, fun H3 q s3 nq eq => ?_⟩
      exact ⟨q, _, rfl, s1.trans s3, s1.free nq, eq⟩
    · rintro σ H1 ⟨p, v, rfl, s1, np, ep⟩
      refine ⟨_, rfl, k _ p s1 np ?_⟩
      rw [clipped_iter]
      exact ep
/-! ### counted(some) -/
def spCounted : Sp := fun vs H Q _ => ∃ (a : Addr) (l : List Nat), vs = [.ref a] ∧ H a = some (.lst (nv l)) ∧ l.length ≤ 5000 ∧ ∀ H' p, Same H H' → H p = none → H' p = some (.lst (nv (l.length :: l))) → Q (.ref p) H'
theorem sc_counted : FnScope ["some"] ["some"] (defScope s_counted) := ⟨rfl, rfl, rfl, by decide +kernel, rfl, by decide +kernel, by decide +kernel⟩
theorem ok_counted {f : Addr} {fd : FuncData} (F : Fun K "counted" "counted" s_counted f fd) (b_len : mg "len" = none) : FnOk P w K mg base CX0 1 f fd ["some"] spCounted := by
  refine F.ok sc_counted (fun vs H Q E h => ?_) (fun cdv A outer s H vs Q E hr h => ?_)
  · obtain ⟨_, _, rfl, _⟩ := h
    rfl
  · obtain ⟨a, l, rfl, ha, hl, k⟩ := h
    refine ⟨_, pss_one (ps_ret (pe_op op_cat (pe_lst (pa_cons (pe_bi call_len_seq rfl b_len (pa_cons (pv 0) pa_nil)) pa_nil)) (pv 0))), ?_⟩
    refine ⟨_, rfl, a, _, rfl, .inl (SqL.of ha), one_line, fun o no => ?_⟩
    have s1 : Same H (upd H o (.lst [.int ((nv l).length : Nat)])) := same_upd no
    refine ⟨_, rfl, o, a, _, _, rfl, rfl, upd_same, s1 _ _ ha, line_of ?_, fun p np => k _ p (s1.trans (same_upd np)) (s1.free np) ?_⟩
    · rw [nv_length]
      show 1 + l.length ≤ _
      omega
    · rw [upd_same, nv_length]
      rfl
/-! ### sk_clip(k, l) -/
def ansClip (k : Nat) (l : List Nat) : List Int := if k ≤ 256 ∧ l.length ≤ 4096 then Sh66Neutral.ints ((Sh66.clipped k 8 l).length :: Sh66.clipped k 8 l) else [-2]
def spTop (K : PySem.W.Frag) : Sp := fun vs H Q _ => ∃ (kk : Nat) (a : Addr) (l : List Nat), vs = [.int kk, .ref a] ∧ SqL K H a (nv l) ∧ ∀ H' p, H' p = some (.lst ((ansClip kk l).map V.int)) → Q (.ref p) H'
theorem sc_sk_clip : FnScope ["k", "l"] ["k", "l"] (defScope s_sk_clip) := ⟨rfl, rfl, rfl, by decide +kernel, rfl, by decide +kernel, by decide +kernel⟩
theorem ok_sk_clip {f : Addr} {fd : FuncData} (F : Fun K "sk_clip" "sk_clip" s_sk_clip f fd) (D_clipped : Def P w K mg base 4 "clipped" ["some", "k"] (spClipped K)) (D_counted : Def P w K mg base 1 "counted" ["some"] spCounted) (c_MC : ∃ t, mg "MOST_CLIP" = some (.int 256 t)) (c_MN : ∃ t, mg "MOST_NUMBERS" = some (.int 4096 t)) (b_len : mg "len" = none) (b_list : mg "list" = none)
    (r : RefOk K mg) : FnOk P w K mg base CX0 5 f fd ["k", "l"] (spTop K) := by
  refine F.ok sc_sk_clip (fun vs H Q E h => ?_) (fun cdv A outer s H vs Q E hr h => ?_)
  · obtain ⟨_, _, _, rfl, _⟩ := h
    rfl
  · obtain ⟨kk, a, l, rfl, hs, k⟩ := h
    refine ⟨_, pss_cons (ps_if (PW.pt (pw_or (pt_cmpR op_gt (pv 0) (pe_gi rfl c_MC) (nomark _)) (pw_or1 (pt_cmpR op_gt (pe_bi call_len_seq rfl b_len (pa_cons (pv 1) pa_nil)) (pe_gi rfl c_MN) (nomark _))))) (pss_one (ps_ret (pe_refused rfl rfl b_list r))) pss_nil)
      (pss_one (ps_ret (pe_def D_counted (hr.mono (by decide)) rfl (pa_cons (pe_def D_clipped hr rfl (pa_cons (pv 1) (pa_cons (pv 0) pa_nil))) pa_nil)))), ?_⟩
    have no : ¬ (kk ≤ 256 ∧ l.length ≤ 4096) → ∀ p, H p = none → Q (.ref p) (upd H p (.lst [.int (-2)])) := fun c p np => k _ p (by
      rw [upd_same]
      unfold ansClip
      rw [if_neg c]
      rfl)
    refine ⟨_, rfl, _, _, rfl, rfl, _, rfl, ite2 (fun c => ?_) (fun c => ?_)⟩
    · have c : (256 : Int) < (kk : Int) := of_decide_eq_true c
      exact iteT (no (by omega))
    · have c : ¬ (256 : Int) < (kk : Int) := fun z => c (decide_eq_true z)
      refine ⟨_, rfl, a, _, rfl, .inl hs, _, _, rfl, rfl, _, rfl, ite2 (fun c2 => ?_) (fun c2 => ?_)⟩
      · have c2 : (4096 : Int) < ((nv l).length : Nat) := of_decide_eq_true c2
        rw [nv_length] at c2
        exact no (by omega)
      · have c2 : ¬ (4096 : Int) < ((nv l).length : Nat) := fun z => c2 (decide_eq_true z)
        rw [nv_length] at c2
        refine ⟨_, rfl, _, rfl, a, kk, l, rfl, hs, by omega, by omega, fun H1 o s1 no eo => ⟨o, _, rfl, eo, ?_, fun H2 p s2 np ep => k _ p ?_⟩⟩
        · rw [clipped_iter]
          exact Nat.le_trans (iter_len kk l 8) (by omega)
        · rw [ep]
          unfold ansClip
          rw [if_pos ⟨by omega, by omega⟩]
          rfl
end
theorem spec_top (k : Nat) (l : List Nat) : PySh66.sk_clip (k : Int) (Sh66Neutral.ints l) = ansClip k l := by
  show Sh66Neutral.told (Sh66.answer (if (Sh66.few ((Sh66Neutral.nats (Sh66Neutral.ints l)).length) && decide ((k : Int).toNat ≤ 256)) = true then .clip (k : Int).toNat (Sh66Neutral.nats (Sh66Neutral.ints l)) else .bad)) = _
  rw [nats_ints, Int.toNat_natCast]
  unfold ansClip Sh66.few
  by_cases c : k ≤ 256 ∧ l.length ≤ 4096
  · rw [decide_eq_true c.1, decide_eq_true c.2, if_pos (show (true && true) = true from rfl), if_pos c]
    rfl
  · rw [if_neg c, if_neg (fun z => c (by
      rw [Bool.and_eq_true, decide_eq_true_eq, decide_eq_true_eq] at z
      exact ⟨z.2, z.1⟩))]
    rfl
theorem all_mk {P : Program} {w : World} {K : PySem.W.Frag} {h : Heap} {mg : Str → Option Value} {fa : Addr} (X : K.In h) (G : h.Ns mainGlobals mg) (hfa : mg "sk_clip" = some (.ref fa))
    {f0 : Addr} {od0 an0 : Option Addr} {sl0 : Array (Option Value)} {oc0 kV0 dc0 pm0 cd0 ct0 : Value}
    (a0 : PySem.W.nsIn K mainGlobals "middle" = some (some (.ref f0))) (l0 : K.lookup f0 = some ⟨oc0, od0, .func (PySem.W.fnOf "middle" "middle" (defArgs s_middle) (defBody s_middle) (defScope s_middle) .none kV0 dc0 pm0 an0 cd0 ct0), sl0⟩) (c0 : PySem.W.codeIn K cd0 "middle" = true) (k0 : PySem.W.keepIn K (.ref f0) = true)
    {f1 : Addr} {od1 an1 : Option Addr} {sl1 : Array (Option Value)} {oc1 kV1 dc1 pm1 cd1 ct1 : Value}
    (a1 : PySem.W.nsIn K mainGlobals "far_off" = some (some (.ref f1))) (l1 : K.lookup f1 = some ⟨oc1, od1, .func (PySem.W.fnOf "far_off" "far_off" (defArgs s_far_off) (defBody s_far_off) (defScope s_far_off) .none kV1 dc1 pm1 an1 cd1 ct1), sl1⟩) (c1 : PySem.W.codeIn K cd1 "far_off" = true) (k1 : PySem.W.keepIn K (.ref f1) = true)
    {f2 : Addr} {od2 an2 : Option Addr} {sl2 : Array (Option Value)} {oc2 kV2 dc2 pm2 cd2 ct2 : Value}
    (a2 : PySem.W.nsIn K mainGlobals "clipped_once" = some (some (.ref f2))) (l2 : K.lookup f2 = some ⟨oc2, od2, .func (PySem.W.fnOf "clipped_once" "clipped_once" (defArgs s_clipped_once) (defBody s_clipped_once) (defScope s_clipped_once) .none kV2 dc2 pm2 an2 cd2 ct2), sl2⟩) (c2 : PySem.W.codeIn K cd2 "clipped_once" = true) (k2 : PySem.W.keepIn K (.ref f2) = true)
    {f3 : Addr} {od3 an3 : Option Addr} {sl3 : Array (Option Value)} {oc3 kV3 dc3 pm3 cd3 ct3 : Value}
    (a3 : PySem.W.nsIn K mainGlobals "clipped" = some (some (.ref f3))) (l3 : K.lookup f3 = some ⟨oc3, od3, .func (PySem.W.fnOf "clipped" "clipped" (defArgs s_clipped) (defBody s_clipped) (defScope s_clipped) .none kV3 dc3 pm3 an3 cd3 ct3), sl3⟩) (c3 : PySem.W.codeIn K cd3 "clipped" = true) (k3 : PySem.W.keepIn K (.ref f3) = true)
    {f4 : Addr} {od4 an4 : Option Addr} {sl4 : Array (Option Value)} {oc4 kV4 dc4 pm4 cd4 ct4 : Value}
    (a4 : PySem.W.nsIn K mainGlobals "counted" = some (some (.ref f4))) (l4 : K.lookup f4 = some ⟨oc4, od4, .func (PySem.W.fnOf "counted" "counted" (defArgs s_counted) (defBody s_counted) (defScope s_counted) .none kV4 dc4 pm4 an4 cd4 ct4), sl4⟩) (c4 : PySem.W.codeIn K cd4 "counted" = true) (k4 : PySem.W.keepIn K (.ref f4) = true)
    {f5 : Addr} {od5 an5 : Option Addr} {sl5 : Array (Option Value)} {oc5 kV5 dc5 pm5 cd5 ct5 : Value}
    (a5 : PySem.W.nsIn K mainGlobals "sk_clip" = some (some (.ref f5))) (l5 : K.lookup f5 = some ⟨oc5, od5, .func (PySem.W.fnOf "sk_clip" "sk_clip" (defArgs s_sk_clip) (defBody s_sk_clip) (defScope s_sk_clip) .none kV5 dc5 pm5 an5 cd5 ct5), sl5⟩) (c5 : PySem.W.codeIn K cd5 "sk_clip" = true) (k5 : PySem.W.keepIn K (.ref f5) = true)
    {t_MOST_TIMES : Tok} (n_MOST_TIMES : PySem.W.nsIn K mainGlobals "MOST_TIMES" = some (some (.int (8) t_MOST_TIMES)))
    {t_MOST_CLIP : Tok} (n_MOST_CLIP : PySem.W.nsIn K mainGlobals "MOST_CLIP" = some (some (.int (256) t_MOST_CLIP)))
    {t_MOST_NUMBERS : Tok} (n_MOST_NUMBERS : PySem.W.nsIn K mainGlobals "MOST_NUMBERS" = some (some (.int (4096) t_MOST_NUMBERS)))
    {rr : Addr} {rt : Tok} {rn : Nat} {rs : Array (Option Value)} (n_REFUSED : PySem.W.nsIn K mainGlobals "REFUSED" = some (some (.ref rr))) (l_REFUSED : K.lookup rr = some ⟨.type "list", none, .seq #[.int (-2) rt] rn, rs⟩)
    (n_sorted : PySem.W.nsIn K mainGlobals "sorted" = some none)
    (n_len : PySem.W.nsIn K mainGlobals "len" = some none)
    (n_abs : PySem.W.nsIn K mainGlobals "abs" = some none)
    (n_list : PySem.W.nsIn K mainGlobals "list" = some none)
    (n_range : PySem.W.nsIn K mainGlobals "range" = some none)
    : ∃ fd : FuncData, (∀ (s : Shared) (us : List Value), us.length = (["k", "l"] : List Str).length → BindsTo s fd ⟨us, []⟩ ((["k", "l"] : List Str).zip us)) ∧ ∀ base : Heap, K.In base → base.Ns mainGlobals mg → FnOk P w K mg base CX0 5 fa fd ["k", "l"] (spTop K) := by
  have e := hfa.symm.trans (PySem.W.mg_of X G a5)
  cases e
  have F0 := fun_mk (st := s_middle) l0 c0 k0
  have F1 := fun_mk (st := s_far_off) l1 c1 k1
  have F2 := fun_mk (st := s_clipped_once) l2 c2 k2
  have F3 := fun_mk (st := s_clipped) l3 c3 k3
  have F4 := fun_mk (st := s_counted) l4 c4 k4
  have F5 := fun_mk (st := s_sk_clip) l5 c5 k5
  have b0 := F0.binds (ps := ["some"]) fun _ _ _ _ _ _ us hl => match us, hl with | [_], _ => rfl
  have b1 := F1.binds (ps := ["some"]) fun _ _ _ _ _ _ us hl => match us, hl with | [_], _ => rfl
  have b2 := F2.binds (ps := ["some", "k"]) fun _ _ _ _ _ _ us hl => match us, hl with | [_, _], _ => rfl
  have b3 := F3.binds (ps := ["some", "k"]) fun _ _ _ _ _ _ us hl => match us, hl with | [_, _], _ => rfl
  have b4 := F4.binds (ps := ["some"]) fun _ _ _ _ _ _ us hl => match us, hl with | [_], _ => rfl
  refine ⟨PySem.W.fnOf "sk_clip" "sk_clip" (defArgs s_sk_clip) (defBody s_sk_clip) (defScope s_sk_clip) .none kV5 dc5 pm5 an5 cd5 ct5, fun s us hu => match us, hu with | [_, _], _ => .of_eq rfl, fun base _ _ => ?_⟩
  have D_middle : Def P w K mg base 1 "middle" ["some"] (spMiddle K) := ⟨_, _, PySem.W.mg_of X G a0, k0, b0, ok_middle F0 (PySem.W.mg_none_of X G n_sorted) (PySem.W.mg_none_of X G n_len)⟩
  have D_far_off : Def P w K mg base 2 "far_off" ["some"] (spFarOff K) := ⟨_, _, PySem.W.mg_of X G a1, k1, b1, ok_far_off F1 D_middle (PySem.W.mg_none_of X G n_abs)⟩
  have D_clipped_once : Def P w K mg base 3 "clipped_once" ["some", "k"] (spOnce K) := ⟨_, _, PySem.W.mg_of X G a2, k2, b2, ok_clipped_once F2 D_middle D_far_off (PySem.W.mg_none_of X G n_abs)⟩
  have D_clipped : Def P w K mg base 4 "clipped" ["some", "k"] (spClipped K) := ⟨_, _, PySem.W.mg_of X G a3, k3, b3, ok_clipped F3 D_clipped_once ⟨_, PySem.W.mg_of X G n_MOST_TIMES⟩ (PySem.W.mg_none_of X G n_list) (PySem.W.mg_none_of X G n_range)⟩
  have D_counted : Def P w K mg base 1 "counted" ["some"] (spCounted) := ⟨_, _, PySem.W.mg_of X G a4, k4, b4, ok_counted F4 (PySem.W.mg_none_of X G n_len)⟩
  exact ok_sk_clip F5 D_clipped D_counted ⟨_, PySem.W.mg_of X G n_MOST_CLIP⟩ ⟨_, PySem.W.mg_of X G n_MOST_NUMBERS⟩ (PySem.W.mg_none_of X G n_len) (PySem.W.mg_none_of X G n_list) ⟨rr, PySem.W.mg_of X G n_REFUSED, fun _ => .inr ⟨_, _, _, l_REFUSED, rfl, rfl, rfl, one_line, .cons ⟨_, rfl⟩ .nil⟩⟩
end Sky
open PySem PySem.W PyProof.Rows
set_option maxRecDepth 100000 in
set_option maxHeartbeats 8000000 in
theorem PySem.Challenge.cw_skyabove_s08_sk_clip_holds : PySem.Challenge.rw_skyabove_s08_sk_clip.Holds := by
  w_on; k_headS; (case hw => exact ⟨[.int 0, .list []], by decide +kernel, by decide +kernel⟩)
  k_fillS
  refine L2.walk_specK (r := PySem.Challenge.rw_skyabove_s08_sk_clip) (k := 5) (CX := L2.CX0) (ps := ["k", "l"]) (sp := Sky.spTop) (by decide +kernel) rfl rfl ⟨rfl, by decide, by decide⟩ (fun w h Y => PySem.W.kIn_of Y) ?F ?S (fun _ _ _ _ z => z)
  case F =>
    intro w mg fa h Y KX G hmg
    refine' Sky.all_mk KX G hmg ?a0 ?l0 ?c0 ?k0 ?a1 ?l1 ?c1 ?k1 ?a2 ?l2 ?c2 ?k2 ?a3 ?l3 ?c3 ?k3 ?a4 ?l4 ?c4 ?k4 ?a5 ?l5 ?c5 ?k5 ?n_MOST_TIMES ?n_MOST_CLIP ?n_MOST_NUMBERS ?n_REFUSED ?l_REFUSED ?n_sorted ?n_len ?n_abs ?n_list ?n_range
    (case a0 => k_is)
    (case l0 => k_is)
    (case c0 => k_is)
    (case k0 => k_is)
    (case a1 => k_is)
    (case l1 => k_is)
    (case c1 => k_is)
    (case k1 => k_is)
    (case a2 => k_is)
    (case l2 => k_is)
    (case c2 => k_is)
    (case k2 => k_is)
    (case a3 => k_is)
    (case l3 => k_is)
    (case c3 => k_is)
    (case k3 => k_is)
    (case a4 => k_is)
    (case l4 => k_is)
    (case c4 => k_is)
    (case k4 => k_is)
    (case a5 => k_is)
    (case l5 => k_is)
    (case c5 => k_is)
    (case k5 => k_is)
    (case n_MOST_TIMES => k_is)
    (case n_MOST_CLIP => k_is)
    (case n_MOST_NUMBERS => k_is)
    (case n_REFUSED => k_is)
    (case l_REFUSED => k_is)
    (case n_sorted => k_is)
    (case n_len => k_is)
    (case n_abs => k_is)
    (case n_list => k_is)
    (case n_range => k_is)
  case S =>
    intro K H xs a hO hwi hask hx
    obtain ⟨k, x, u⟩ := a
    cases hx with
    | cons h0 hx => cases hx with
    | cons h1 hx =>
      cases hx
      cases h0
      cases h1 with
      | lst s1 d1 =>
        have e1 := L2.ints_dw x _ d1
        subst e1
        have q : (Codec.inInt 0 4294967295 k && ((Codec.inLen 0 4200 x && x.all (Codec.inInt 0 65535)) && true)) = true := hwi
        simp only [Bool.and_eq_true] at q
        obtain ⟨k, rfl⟩ := Sky.of_int q.1
        obtain ⟨x, rfl⟩ := Sky.of_ints q.2.1.2
        refine ⟨k, _, x, rfl, s1, fun H' p hp => ?_⟩
        show L2.Dw K H' (.ref p) (WData.list ((PySh66.sk_clip (k : Int) (Sh66Neutral.ints x)).map WData.int))
        rw [Sky.spec_top k x]
        exact Sky.dw_ans _ hp
#print axioms PySem.Challenge.cw_skyabove_s08_sk_clip_holds
