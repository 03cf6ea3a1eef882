/- A verified symbolic run of functions, part 13: lemmas, no claim of their own. -/
import Derived.Test.YtjbfcdgbjgjliaaGreatDoorS12
namespace Go.Sx.U
def tab {α : Type} (n : Nat) (f : Nat → α) : List α := (List.range n).map f
theorem tab_len {α : Type} (n : Nat) (f : Nat → α) : (tab n f).length = n := by simp [tab]
theorem tab_getElem {α : Type} {n i : Nat} {f : Nat → α} (h : i < (tab n f).length) : (tab n f)[i] = f i := by simp [tab]
theorem tab_get {α : Type} {n i : Nat} {f : Nat → α} {d : α} (h : i < n) : List.getD (tab n f) i d = f i := by
  rw [List.getD_eq_getElem?_getD, List.getElem?_eq_getElem (by rw [tab_len]; exact h)]
  simp [tab]
theorem tab_ext {α : Type} {n : Nat} {f g : Nat → α} (h : ∀ i, i < n → f i = g i) : tab n f = tab n g := by
  unfold tab
  exact List.map_congr_left fun i hi => h i (List.mem_range.1 hi)
theorem list_tab {α : Type} (l : List α) (d : α) : l = tab l.length fun i => List.getD l i d := by
  refine List.ext_getElem (by rw [tab_len]) fun i h1 h2 => ?_
  rw [tab_getElem, List.getD_eq_getElem?_getD, List.getElem?_eq_getElem h1]; rfl
theorem tab_succ {α : Type} (n : Nat) (f : Nat → α) : tab (n + 1) f = tab n f ++ [f n] := by
  unfold tab
  rw [List.range_succ, List.map_append]; rfl
theorem tab_map {α β : Type} (n : Nat) (f : Nat → α) (g : α → β) : (tab n f).map g = tab n fun i => g (f i) := by
  simp [tab]
theorem tab_set {α : Type} (n : Nat) (f : Nat → α) (i : Nat) (v : α) : (tab n f).set i v = tab n fun j => if j = i then v else f j := by
  refine List.ext_getElem (by simp [tab]) fun j h1 h2 => ?_
  rw [List.getElem_set, tab_getElem, tab_getElem]
  by_cases h : i = j
  · rw [if_pos h, if_pos h.symm]
  · rw [if_neg h, if_neg fun e => h e.symm]
theorem map_tab {α β : Type} (l : List α) (d : α) (g : α → β) : l.map g = tab l.length fun i => g (List.getD l i d) := by
  conv => lhs; rw [list_tab l d]
  rw [tab_map]
theorem mem_tab {α : Type} {n : Nat} {f : Nat → α} {x : α} (h : x ∈ tab n f) : ∃ i, i < n ∧ f i = x := by
  unfold tab at h
  obtain ⟨i, hi, e⟩ := List.mem_map.1 h
  exact ⟨i, List.mem_range.1 hi, e⟩
def fillTo {α : Type} (d : α) (n : Nat) (f : Nat → α) (i : Nat) : List α := tab n fun j => if j < i then f j else d
theorem fillTo_zero {α : Type} (d : α) (n : Nat) (f : Nat → α) : fillTo d n f 0 = List.replicate n d := by
  unfold fillTo
  refine List.ext_getElem (by simp [tab]) fun j h1 h2 => ?_
  rw [tab_getElem, List.getElem_replicate, if_neg (by omega)]
theorem fillTo_len {α : Type} (d : α) (n : Nat) (f : Nat → α) (i : Nat) : (fillTo d n f i).length = n := by unfold fillTo; rw [tab_len]
theorem fillTo_all {α : Type} (d : α) (n : Nat) (f : Nat → α) (i : Nat) (h : n ≤ i) : fillTo d n f i = tab n f := by
  unfold fillTo
  exact tab_ext fun j hj => if_pos (by omega)
theorem fillTo_set {α : Type} (d : α) (n : Nat) (f : Nat → α) (i : Nat) : (fillTo d n f i).set i (f i) = fillTo d n f (i + 1) := by
  unfold fillTo
  rw [tab_set]
  refine tab_ext fun j _ => ?_
  by_cases h : j = i
  · subst h; rw [if_pos rfl, if_pos (by omega)]
  · rw [if_neg h]
    by_cases h2 : j < i
    · rw [if_pos h2, if_pos (by omega)]
    · rw [if_neg h2, if_neg (by omega)]
def putTo {α : Type} (d : α) (l : List α) (f : Nat → α) (i : Nat) : List α := tab l.length fun j => if j < i then f j else List.getD l j d
theorem getD_mem' {α : Type} {l : List α} {i : Nat} {d : α} (h : i < l.length) : List.getD l i d ∈ l := by
  rw [List.getD_eq_getElem?_getD, List.getElem?_eq_getElem h]
  exact List.getElem_mem h
def OkS (l : List Nat) : Prop := ∀ b ∈ l, chkS b = 0
def Bd (B : Int) (l : List Int) : Prop := ∀ n ∈ l, -B ≤ n ∧ n ≤ B
def sixs (l : List Nat) : List Int := l.map six
def chkSs (l : List Nat) : Int := first (l.map chkS)
def lgI (n : Int) : Bool := decide (n < -16384) || decide (16384 < n)
def lgE (l : List Int) : Int := if l.any lgI then 4 else 0
def smpsN (l : List Int) : List Nat := if l.any lgI then [] else l.map smp
theorem bd_get {B : Int} {l : List Int} (h : Bd B l) {i : Nat} (hB : 0 ≤ B) : -B ≤ List.getD l i 0 ∧ List.getD l i 0 ≤ B := by
  by_cases hi : i < l.length
  · exact h _ (getD_mem' hi)
  · rw [List.getD_eq_getElem?_getD, List.getElem?_eq_none (by omega), Option.getD_none]
    omega
theorem bd_le {A B : Int} {l : List Int} (h : Bd A l) (hl : A ≤ B) : Bd B l := fun n hn => by
  have := h n hn
  omega
theorem bd_tab {B : Int} {n : Nat} {f : Nat → Int} (h : ∀ i, i < n → -B ≤ f i ∧ f i ≤ B) : Bd B (tab n f) := fun x hx => by
  obtain ⟨i, hi, e⟩ := mem_tab hx
  rw [← e]
  exact h i hi
theorem sixs_len (l : List Nat) : (sixs l).length = l.length := by simp [sixs]
theorem chk_six {b : Nat} (h : chkS b = 0) : -16384 ≤ six b ∧ six b ≤ 16384 := (chkS_zero.1 h).2.2
theorem bd_sixs {l : List Nat} (h : OkS l) : Bd 16384 (sixs l) := fun n hn => by
  obtain ⟨b, hb, e⟩ := List.mem_map.1 hn
  rw [← e]
  exact chk_six (h b hb)
theorem six_zero : six 0 = 0 := by
  unfold six vW
  rw [read_0]
  rfl
theorem sixs_get (l : List Nat) (i : Nat) : List.getD (sixs l) i 0 = six (List.getD l i 0) := by
  unfold sixs
  by_cases hi : i < l.length
  · rw [List.getD_eq_getElem?_getD, List.getD_eq_getElem?_getD, List.getElem?_map, List.getElem?_eq_getElem hi]; rfl
  · rw [List.getD_eq_getElem?_getD, List.getD_eq_getElem?_getD, List.getElem?_map, List.getElem?_eq_none (by omega), Option.map_none, Option.getD_none, Option.getD_none, six_zero]
theorem first_zero : ∀ {l : List Int}, first l = 0 ↔ ∀ n ∈ l, n = 0
  | [] => by simp [first]
  | x :: r => by
    unfold first
    by_cases h : x = 0
    · rw [if_pos h, first_zero]; simp [h]
    · rw [if_neg h]; simp [h]
theorem chkSs_zero {l : List Nat} : chkSs l = 0 ↔ OkS l := by
  unfold chkSs OkS
  rw [first_zero]
  simp
theorem lgI_false {n : Int} : lgI n = false ↔ -16384 ≤ n ∧ n ≤ 16384 := by
  unfold lgI
  simp only [Bool.or_eq_false_iff, decide_eq_false_iff_not]
  omega
theorem any_lg {l : List Int} : l.any lgI = false ↔ Bd 16384 l := by
  rw [List.any_eq_false]
  constructor
  · intro h n hn
    exact lgI_false.1 (by simpa using h n hn)
  · intro h n hn
    rw [lgI_false.2 (h n hn)]; decide
theorem lgE_zero {l : List Int} : lgE l = 0 ↔ Bd 16384 l := by
  unfold lgE
  rw [← any_lg]
  cases l.any lgI <;> simp
theorem smpsN_of {l : List Int} (h : Bd 16384 l) : smpsN l = l.map smp := by
  unfold smpsN
  rw [any_lg.2 h]; simp
theorem lgE_of {l : List Int} (h : Bd 16384 l) : lgE l = 0 := lgE_zero.2 h
theorem six_smps {l : List Int} (h : Bd 16384 l) : sixs (l.map smp) = l := by
  unfold sixs
  rw [List.map_map]
  conv => rhs; rw [← List.map_id l]
  refine List.map_congr_left fun n hn => ?_
  have := h n hn
  exact six_smp (by omega)
theorem within_zero {n lo hi : Int} : within n lo hi = 0 ↔ lo ≤ n ∧ n ≤ hi := by
  unfold within
  split <;> constructor <;> intro h <;> omega
theorem within_lo {n hi : Int} (h : within n 0 hi = 0) : 0 ≤ n := (within_zero.1 h).1
def chkSig (l : List Nat) : Int := if 256 < l.length then 5 else if l.length % 4 = 0 then chkSs l else 2
def chkPt (y u v : List Nat) : Int :=
  if chkSig y = 0 then (if u.length = y.length / 4 ∧ v.length = y.length / 4 then first [chkSs u, chkSs v] else 2) else chkSig y
theorem chkSig_zero {l : List Nat} : chkSig l = 0 ↔ l.length ≤ 256 ∧ l.length % 4 = 0 ∧ OkS l := by
  unfold chkSig
  rw [← chkSs_zero]
  by_cases h1 : 256 < l.length
  · simp [h1]; omega
  · by_cases h2 : l.length % 4 = 0
    · simp [h1, h2]; omega
    · simp [h1, h2]
theorem chkPt_zero {y u v : List Nat} : chkPt y u v = 0 ↔ chkSig y = 0 ∧ u.length = y.length / 4 ∧ v.length = y.length / 4 ∧ OkS u ∧ OkS v := by
  unfold chkPt
  rw [← chkSs_zero, ← chkSs_zero]
  by_cases h1 : chkSig y = 0
  · by_cases h2 : u.length = y.length / 4
    · by_cases h3 : v.length = y.length / 4
      · by_cases h4 : chkSs u = 0
        · by_cases h5 : chkSs v = 0 <;> simp [first, h1, h2, h3, h4, h5]
        · simp [first, h1, h2, h3, h4]
      · simp [h1, h2, h3]
    · simp [h1, h2]
  · simp [h1]
def plusI (x y : Int) : Int := x + y
def minusI (x y : Int) : Int := x - y
def midI (x y : Int) : Int := roundI (x + y) 2
def lessI (x y : Int) : Int := 2 * x - y
def farI (x y : Int) : Int := max (x - y) (y - x)
def combI (f : Int → Int → Int) (a b : List Int) : List Int := tab a.length fun i => f (List.getD a i 0) (List.getD b i 0)
theorem combI_len (f : Int → Int → Int) (a b : List Int) : (combI f a b).length = a.length := by unfold combI; rw [tab_len]
def carN (u v : Int) (k : Nat) (g : Int) : Int := match k with
  | 0 => g * u
  | 1 => g * v
  | 2 => -g * u
  | _ => -g * v
def carI (u v : List Int) (g : Int) : List Int := tab (4 * u.length) fun n => carN (List.getD u (n / 4) 0) (List.getD v (n / 4) 0) (n % 4) g
theorem carI_len (u v : List Int) (g : Int) : (carI u v g).length = 4 * u.length := by unfold carI; rw [tab_len]
def encI (y u v : List Nat) (line : Int) : List Int := combI plusI (sixs y) (carI (sixs u) (sixs v) (signI line))
def diffAt (j : Nat) (l : List Int) (c : Nat) (line den : Int) : Int := roundI (signI line * (List.getD l (4 * c + j) 0 - List.getD l (4 * c + j + 2) 0)) den
def diffN (j : Nat) (l : List Int) (line den : Int) : List Int := tab (l.length / 4) fun c => diffAt j l c line den
abbrev It := List Int × List Int × List Int
def apartI (l c : List Int) (line den : Int) : It := (combI minusI l (carI (diffN 0 c line den) (diffN 1 c line den) (signI line)), diffN 0 c line den, diffN 1 c line den)
def bandI (l : List Int) (line : Int) : It := apartI l l line 2
def partsE (x : It) : Int := first [lgE x.1, lgE x.2.1, lgE x.2.2]
def partsP (x : It) : List Nat × List Nat × List Nat := if partsE x = 0 then (smpsN x.1, smpsN x.2.1, smpsN x.2.2) else ([], [], [])
theorem signI_cases (line : Int) : signI line = 1 ∨ signI line = -1 := by
  unfold signI
  split
  · exact .inr rfl
  · exact .inl rfl
theorem carN_bd {u v : Int} {k : Nat} {g B : Int} (hg : g = 1 ∨ g = -1) (hu : -B ≤ u ∧ u ≤ B) (hv : -B ≤ v ∧ v ≤ B) : -B ≤ carN u v k g ∧ carN u v k g ≤ B := by
  unfold carN
  split <;> rcases hg with rfl | rfl <;> omega
theorem roundI_bd {a d B : Int} (hd : 0 < d) (h : -B ≤ a ∧ a ≤ B) : -B ≤ roundI a d ∧ roundI a d ≤ B := by
  unfold roundI
  have h0 : 0 ≤ B := by omega
  have hB : B ≤ d * B := by
    have := Int.mul_le_mul_of_nonneg_right (show 1 ≤ d by omega) h0
    omega
  constructor
  · refine Int.le_ediv_of_mul_le (by omega) ?_
    have e : -B * (2 * d) = -(2 * (d * B)) := by
      rw [Int.neg_mul, ← Int.mul_assoc, Int.mul_comm B 2, Int.mul_assoc, Int.mul_comm B d]
    rw [e]; omega
  · refine Int.le_of_lt_add_one (Int.ediv_lt_of_lt_mul (by omega) ?_)
    have e : (B + 1) * (2 * d) = 2 * (d * B) + 2 * d := by
      rw [Int.add_mul, Int.one_mul, ← Int.mul_assoc, Int.mul_comm B 2, Int.mul_assoc, Int.mul_comm B d]
    rw [e]; omega
theorem bd_comb {f : Int → Int → Int} {a b : List Int} {A B C : Int} (ha : Bd A a) (hb : Bd B b) (hA : 0 ≤ A) (hB : 0 ≤ B) (h : ∀ x y, -A ≤ x ∧ x ≤ A → -B ≤ y ∧ y ≤ B → -C ≤ f x y ∧ f x y ≤ C) : Bd C (combI f a b) := by
  unfold combI
  exact bd_tab fun i _ => h _ _ (bd_get ha hA) (bd_get hb hB)
theorem bd_car {u v : List Int} {B g : Int} (hg : g = 1 ∨ g = -1) (hB : 0 ≤ B) (hu : Bd B u) (hv : Bd B v) : Bd B (carI u v g) := by
  unfold carI
  exact bd_tab fun i _ => carN_bd hg (bd_get hu hB) (bd_get hv hB)
theorem diffAt_bd {j : Nat} {l : List Int} {c : Nat} {line den B : Int} (hd : 0 < den) (hB : 0 ≤ B) (hl : Bd B l) : -(2 * B) ≤ diffAt j l c line den ∧ diffAt j l c line den ≤ 2 * B := by
  unfold diffAt
  refine roundI_bd hd ?_
  have h1 := bd_get hl (i := 4 * c + j) hB
  have h2 := bd_get hl (i := 4 * c + j + 2) hB
  rcases signI_cases line with e | e <;> rw [e] <;> omega
theorem bd_diff {j : Nat} {l : List Int} {line den B : Int} (hd : 0 < den) (hB : 0 ≤ B) (hl : Bd B l) : Bd (2 * B) (diffN j l line den) := by
  unfold diffN
  exact bd_tab fun i _ => diffAt_bd hd hB hl
theorem bd_of_lg {l : List Int} (h : ∀ j, j < l.length → lgI (List.getD l j 0) = false) : Bd 16384 l := fun n hn => by
  obtain ⟨j, hj, e⟩ := List.mem_iff_getElem.1 hn
  have := h j hj
  rw [getD_of hj, e] at this
  exact lgI_false.1 this
theorem tab_four {α : Type} (g : Nat) (f : Nat → α) : tab (4 * g) f ++ [f (4 * g), f (4 * g + 1), f (4 * g + 2), f (4 * g + 3)] = tab (4 * (g + 1)) f := by
  rw [show 4 * (g + 1) = 4 * g + 1 + 1 + 1 + 1 by omega, tab_succ, tab_succ, tab_succ, tab_succ]
  simp
theorem car_step (u v : List Int) (s : Int) (g : Nat) : tab (4 * g) (fun n => carN (List.getD u (n / 4) 0) (List.getD v (n / 4) 0) (n % 4) s) ++ [s * List.getD u g 0, s * List.getD v g 0, -s * List.getD u g 0, -s * List.getD v g 0] = tab (4 * (g + 1)) fun n => carN (List.getD u (n / 4) 0) (List.getD v (n / 4) 0) (n % 4) s := by
  rw [← tab_four]
  have e0 : 4 * g / 4 = g := by omega
  have e1 : (4 * g + 1) / 4 = g := by omega
  have e2 : (4 * g + 2) / 4 = g := by omega
  have e3 : (4 * g + 3) / 4 = g := by omega
  have f0 : 4 * g % 4 = 0 := by omega
  have f1 : (4 * g + 1) % 4 = 1 := by omega
  have f2 : (4 * g + 2) % 4 = 2 := by omega
  have f3 : (4 * g + 3) % 4 = 3 := by omega
  rw [e0, e1, e2, e3, f0, f1, f2, f3]
  rfl
theorem diffN_len (j : Nat) (l : List Int) (line den : Int) : (diffN j l line den).length = l.length / 4 := by unfold diffN; rw [tab_len]
theorem cyc_len {l : List Int} {g : Nat} (h : 4 * g + 4 ≤ l.length) : (List.take (Int.toNat (4 * (g : Int) + 4) - Int.toNat (4 * (g : Int))) (List.drop (Int.toNat (4 * (g : Int))) l)).length = 4 := by
  have e1 : Int.toNat (4 * (g : Int) + 4) = 4 * g + 4 := by omega
  have e2 : Int.toNat (4 * (g : Int)) = 4 * g := by omega
  rw [e1, e2, List.length_take, List.length_drop]
  omega
theorem cyc_eq (l : List Int) (g : Nat) : List.take 4 (List.take (Int.toNat (4 * (g : Int) + 4) - Int.toNat (4 * (g : Int))) (List.drop (Int.toNat (4 * (g : Int))) l)) = List.take 4 (List.drop (4 * g) l) := by
  have e1 : Int.toNat (4 * (g : Int) + 4) = 4 * g + 4 := by omega
  have e2 : Int.toNat (4 * (g : Int)) = 4 * g := by omega
  rw [e1, e2, List.take_take]
  congr 1
  omega
theorem cyc_get (l : List Int) (g j : Nat) (hj : j < 4) : List.getD (List.take 4 (List.drop (4 * g) l)) j 0 = List.getD l (4 * g + j) 0 := by
  rw [List.getD_eq_getElem?_getD, List.getD_eq_getElem?_getD, List.getElem?_take_of_lt hj, List.getElem?_drop]
def sameS (a b : List Nat) : Bool := decide ((a.length : Int) = b.length) && (List.range a.length).all fun i => Op.floatEq .f32 (List.getD a i 0) (List.getD b i 0)
theorem floatEq_self {b : Nat} (h : chkS b = 0) : Op.floatEq .f32 b b = true := by
  rw [eq_six h h]; simp
theorem sameS_self {l : List Nat} (h : OkS l) : sameS l l = true := by
  unfold sameS
  simp only [decide_true, Bool.true_and, List.all_eq_true, List.mem_range]
  exact fun i hi => floatEq_self (h _ (getD_mem' hi))
theorem sameS_six {a b : List Nat} (ha : OkS a) (hb : OkS b) : sameS a b = decide (sixs a = sixs b) := by
  rw [Bool.eq_iff_iff]
  unfold sameS
  simp only [Bool.and_eq_true, decide_eq_true_eq, List.all_eq_true, List.mem_range]
  constructor
  · rintro ⟨h1, h2⟩
    have hl : a.length = b.length := by omega
    unfold sixs
    rw [map_tab a 0, map_tab b 0, hl]
    refine tab_ext fun i hi => ?_
    have := h2 i (by omega)
    rw [eq_six (ha _ (getD_mem' (by omega))) (hb _ (getD_mem' hi))] at this
    exact of_decide_eq_true this
  · intro h
    have hl : a.length = b.length := by
      have := congrArg List.length h
      rwa [sixs_len, sixs_len] at this
    refine ⟨by omega, fun i hi => ?_⟩
    rw [eq_six (ha _ (getD_mem' hi)) (hb _ (getD_mem' (by omega))), ← sixs_get, ← sixs_get, h]
    simp
end Go.Sx.U

namespace Go.Sx.U
abbrev Pt := List Nat × List Nat × List Nat
def fnI : Nat → Option (Int → Int → Int)
  | 164 => some plusI
  | 118 => some minusI
  | 119 => some midI
  | 171 => some lessI
  | 173 => some farI
  | _ => none
def shortS (l : List Nat) : Bool := decide ((l.length : Int) ≤ 24) || decide ((l.length : Int) = 260)
def shortP (y u v : List Nat) : Bool := shortS y && (decide ((u.length : Int) ≤ 24) && decide ((v.length : Int) ≤ 24))
def encE (y u v : List Nat) (line : Int) : Int := if first [chkPt y u v, within line 0 10000000] ≠ 0 then first [chkPt y u v, within line 0 10000000] else lgE (encI y u v line)
def encL (y u v : List Nat) (line : Int) : List Nat := if first [chkPt y u v, within line 0 10000000] ≠ 0 then [] else smpsN (encI y u v line)
end Go.Sx.U
namespace Go.Sx
open U
@[reducible] def ptV (y u v : List Nat) : V := .agg [.one (.sl (.flt .f32) y), .one (.sl (.flt .f32) u), .one (.sl (.flt .f32) v)]
def hMapG (u w : Ty) (g : u.T → w.T) (tl ti to : Nat) (keep : List Nat) (s : St) : Option LInv := match listAs s tl u with
  | some xs => some ⟨Nat, fun i => ⟨[tI ti i, (to, .val (.one (.own s.nx)))] ++ keepT (tl :: keep) s.tm, (s.nx, some (.row w ((List.take i xs).map g))) :: lessO s [to], s.nx + 1, s.lr⟩, fun i => i ≤ List.length xs, fun i => List.length xs - i⟩
  | _ => none
def ownM (s : St) (t : Nat) : Option Nat := match lookT s.tm t with
  | some (.val (.one (.own id))) => some id
  | _ => none
def fnAt (s : St) (t : Nat) : Option (Int → Int → Int) := match lookT s.tm t with
  | some (.val (.one (.fn g [] []))) => fnI g
  | _ => none
def h139 : Hints := ⟨fun f k s => match f, k with
  | 139, 3 => hMapG (.flt .f32) (.int .i64) six 8 10 5 [1, 9] s
  | 166, 3 => hMapG (.flt .f32) (.int .i64) chkS 8 10 5 [1, 9] s
  | 159, 3 => hMapG (.int .i64) (.flt .f32) smp 8 10 5 [1, 9] s
  | 100, 3 => hMapG (.flt .f32) (.int .i64) six 0 4 3 [] s
  | _, _ => none, 0⟩
def h117 : Hints := ⟨fun f k s => match f, k with
  | 117, 3 => match listAs s 0 (.int .i64), listAs s 1 (.int .i64), fnAt s 2, ownM s 7 with
    | some a, some b, some g, some id => some ⟨Nat, fun i => ⟨tI 14 i :: keepT [0, 1, 2, 7, 13] s.tm, (id, some (.row (.int .i64) (fillTo 0 a.length (fun i => g (a.getD i 0) (b.getD i 0)) i))) :: (liveO [] s.ob).filter (fun x => x.1 != id), s.nx, s.lr⟩, fun i => i ≤ List.length a, fun i => List.length a - i⟩
    | _, _, _, _ => none
  | _, _ => none, 0⟩
def h163 : Hints := ⟨fun f k s => match f, k with
  | 163, 4 => match listAs s 0 (.int .i64), listAs s 1 (.int .i64), intOfT s 8 with
    | some u, some v, some g => some ⟨Nat, fun i => ⟨[tI 14 i, (7, .val (.one (.own s.nx)))] ++ keepT [0, 1, 8, 13] s.tm, (s.nx, some (.row (.int .i64) (tab (4 * i) fun n => carN (u.getD (n / 4) 0) (v.getD (n / 4) 0) (n % 4) g))) :: lessO s [7], s.nx + 1, s.lr⟩, fun i => i ≤ List.length u, fun i => List.length u - i⟩
    | _, _, _ => none
  | _, _ => none, 0⟩
def h138 : Hints := ⟨fun f k s => match f, k with
  | 194, 2 => match listAs s 0 (.int .i64) with
    | some xs => some ⟨Nat, fun i => s.at [0, 1, 7] [tI 8 i], fun i => i ≤ List.length xs ∧ ∀ j, j < i → lgI (List.getD xs j 0) = false, fun i => List.length xs - i⟩
    | _ => none
  | 102, 3 => match listAs s 0 (.int .i64) with
    | some xs => some ⟨Nat, fun i => ⟨[tI 5 i, (4, .val (.one (.own s.nx)))] ++ keepT [0] s.tm, (s.nx, some (.row (.flt .f32) ((List.take i xs).map smp))) :: lessO s [4], s.nx + 1, s.lr⟩, fun i => i ≤ List.length xs ∧ ∀ j, j < i → lgI (List.getD xs j 0) = false, fun i => List.length xs - i⟩
    | _ => none
  | 98, 2 => match listAs s 0 (.flt .f32) with
    | some xs => some ⟨Nat, fun i => s.at [0] [tI 3 i], fun i => i ≤ List.length xs ∧ chkSs xs = first (List.drop i (List.map chkS xs)), fun i => List.length xs - i⟩
    | _ => none
  | 27, 4 => match listAs s 0 (.flt .f32), listAs s 1 (.flt .f32) with
    | some xs, some ys => some ⟨Nat, fun i => s.at [0, 1] [tI 5 i], fun i => i ≤ List.length xs ∧ ∀ j, j < i → Op.floatEq .f32 (List.getD xs j 0) (List.getD ys j 0) = true, fun i => List.length xs - i⟩
    | _, _ => none
  | 25, 3 => match ownM s 6, listAs s 6 (.int .i64), listAs s 7 (.int .i64), listAs s 8 (.int .i64), intOfT s 1 with
    | some id, some y, some u, some v, some line => some ⟨Nat, fun i => ⟨tI 9 i :: keepT [1, 6, 7, 8] s.tm, (id, some (.row (.int .i64) (putTo 0 y (fun n => y.getD n 0 + carN (u.getD (n / 4) 0) (v.getD (n / 4) 0) (n % 4) (signI line)) i))) :: (liveO [] s.ob).filter (fun x => x.1 != id), s.nx, s.lr⟩, fun i => i ≤ List.length y, fun i => List.length y - i⟩
    | _, _, _, _, _ => none
  | _, _ => none, 0⟩
@[reducible] noncomputable def fb157 : Nat × Func := (157, Proofs.Tryz.f157)
@[reducible] noncomputable def fb194 : Nat × Func := (194, Proofs.Tryz.f194)
def sp117 : FSpec := ⟨fun vs => match vs with
  | [.one (.sl (.int .i64) a), .one (.sl (.int .i64) b), .one (.fn g [] [])] => match fnI g with
    | some f => some ([List.length a ≤ 100000, List.length b = List.length a, Bd 1000000 a, Bd 1000000 b], .val (.one (.frs (.int .i64) (combI f a b))))
    | none => none
  | _ => none, true⟩
end Go.Sx
namespace Go.Sx
open U
def sp139 : FSpec := ⟨fun vs => match vs with
  | [.one (.sl (.flt .f32) l), .one (.fn 137 [] [])] => some ([List.length l ≤ 1000000, OkS l], .val (.one (.frs (.int .i64) (sixs l))))
  | _ => none, true⟩
def sp166 : FSpec := ⟨fun vs => match vs with
  | [.one (.sl (.flt .f32) l), .one (.fn 136 [] [])] => some ([List.length l ≤ 1000000], .val (.one (.frs (.int .i64) (List.map chkS l))))
  | _ => none, true⟩
def sp159 : FSpec := ⟨fun vs => match vs with
  | [.one (.sl (.int .i64) l), .one (.fn 110 [] [])] => some ([List.length l ≤ 1000000, Bd 8388608 l], .val (.one (.frs (.flt .f32) (List.map smp l))))
  | _ => none, true⟩
def sp108 : FSpec := ⟨fun vs => match vs with
  | [.one (.sl (.flt .f32) l)] => some ([List.length l ≤ 1000000, OkS l], .val (.one (.frs (.int .i64) (sixs l))))
  | _ => none, true⟩
def sp105 : FSpec := ⟨fun vs => match vs with
  | [.one (.sl (.flt .f32) l)] => some ([List.length l ≤ 1000000], .val (iV (chkSs l)))
  | _ => none, true⟩
def sp41 : FSpec := ⟨fun vs => match vs with
  | [.one (.sl (.flt .f32) l)] => some ([], .val (iV (chkSig l)))
  | _ => none, true⟩
def sp103 : FSpec := ⟨fun vs => match vs with
  | [.agg [.one (.sl (.flt .f32) y), .one (.sl (.flt .f32) _u), .one (.sl (.flt .f32) _v)]] => some ([], .val (iV ((List.length y : Nat) : Int)))
  | _ => none, true⟩
def sp26 : FSpec := ⟨fun vs => match vs with
  | [.agg [.one (.sl (.flt .f32) y), .one (.sl (.flt .f32) u), .one (.sl (.flt .f32) v)]] => some ([List.length y ≤ 1000000000], .val (iV (chkPt y u v)))
  | _ => none, true⟩
def sp130 : FSpec := ⟨fun vs => match vs with
  | [.one (.int .i64 n)] => some ([], .val (bV (lgI n)))
  | _ => none, true⟩
def sp138 : FSpec := ⟨fun vs => match vs with
  | [.one (.sl (.int .i64) l)] => some ([List.length l ≤ 1000000], .tup [.one (.frs (.flt .f32) (smpsN l)), iV (lgE l)])
  | _ => none, true⟩
def sp164 : FSpec := ⟨fun vs => match vs with
  | [.one (.int .i64 x), .one (.int .i64 y)] => some ([-2000000000 ≤ x ∧ x ≤ 2000000000, -2000000000 ≤ y ∧ y ≤ 2000000000], .val (iV (plusI x y)))
  | _ => none, true⟩
def sp118 : FSpec := ⟨fun vs => match vs with
  | [.one (.int .i64 x), .one (.int .i64 y)] => some ([-2000000000 ≤ x ∧ x ≤ 2000000000, -2000000000 ≤ y ∧ y ≤ 2000000000], .val (iV (minusI x y)))
  | _ => none, true⟩
def sp119 : FSpec := ⟨fun vs => match vs with
  | [.one (.int .i64 x), .one (.int .i64 y)] => some ([-100000000 ≤ x ∧ x ≤ 100000000, -100000000 ≤ y ∧ y ≤ 100000000], .val (iV (midI x y)))
  | _ => none, true⟩
def sp171 : FSpec := ⟨fun vs => match vs with
  | [.one (.int .i64 x), .one (.int .i64 y)] => some ([-100000000 ≤ x ∧ x ≤ 100000000, -100000000 ≤ y ∧ y ≤ 100000000], .val (iV (lessI x y)))
  | _ => none, true⟩
def sp173 : FSpec := ⟨fun vs => match vs with
  | [.one (.int .i64 x), .one (.int .i64 y)] => some ([-100000000 ≤ x ∧ x ≤ 100000000, -100000000 ≤ y ∧ y ≤ 100000000], .val (iV (farI x y)))
  | _ => none, true⟩
def sp163 : FSpec := ⟨fun vs => match vs with
  | [.one (.sl (.int .i64) u), .one (.sl (.int .i64) v), .one (.int .i64 line)] => some ([List.length u ≤ 100000, List.length v = List.length u, Bd 1000000 u, Bd 1000000 v, 0 ≤ line], .val (.one (.frs (.int .i64) (carI u v (signI line)))))
  | _ => none, true⟩
def sp97 : FSpec := ⟨fun vs => match vs with
  | [.agg [.one (.sl (.flt .f32) y), .one (.sl (.flt .f32) u), .one (.sl (.flt .f32) v)], .one (.int .i64 line)] => some ([chkPt y u v = 0, 0 ≤ line], .tup [.one (.frs (.flt .f32) (smpsN (encI y u v line))), iV (lgE (encI y u v line))])
  | _ => none, true⟩
def sp98 : FSpec := ⟨fun vs => match vs with
  | [.one (.sl (.flt .f32) l)] => some ([List.length l ≤ 1000000], .val (iV (chkSs l)))
  | _ => none, true⟩
def sp36 : FSpec := ⟨fun vs => match vs with
  | [.one (.sl (.flt .f32) l)] => some ([], .val (iV (chkSig l)))
  | _ => none, true⟩
def sp23 : FSpec := ⟨fun vs => match vs with
  | [.agg [.one (.sl (.flt .f32) y), .one (.sl (.flt .f32) u), .one (.sl (.flt .f32) v)]] => some ([List.length y ≤ 1000000000], .val (iV (chkPt y u v)))
  | _ => none, true⟩
def sp30 : FSpec := ⟨fun vs => match vs with
  | [.one (.sl (.flt .f32) l)] => some ([], .val (bV (shortS l)))
  | _ => none, true⟩
def sp18 : FSpec := ⟨fun vs => match vs with
  | [.agg [.one (.sl (.flt .f32) y), .one (.sl (.flt .f32) u), .one (.sl (.flt .f32) v)]] => some ([], .val (bV (shortP y u v)))
  | _ => none, true⟩
def sp34 : FSpec := ⟨fun vs => match vs with
  | [.one (.sl (.flt .f32) l)] => some ([List.length l ≤ 1000000], .val (.one (.frs (.flt .f32) l)))
  | _ => none, true⟩
def sp21 : FSpec := ⟨fun vs => match vs with
  | [.agg [.one (.sl (.flt .f32) y), .one (.sl (.flt .f32) u), .one (.sl (.flt .f32) v)]] => some ([List.length y ≤ 1000000, List.length u ≤ 1000000, List.length v ≤ 1000000], .val (ptV y u v))
  | _ => none, true⟩
def sp27 : FSpec := ⟨fun vs => match vs with
  | [.one (.sl (.flt .f32) a), .one (.sl (.flt .f32) b)] => some ([List.length a ≤ 1000000000], .val (bV (sameS a b)))
  | _ => none, true⟩
end Go.Sx

namespace Go.Sx
open U
theorem vc139 (l : List Nat) : exF (env false [(137, sp137)] []) h139 0 139 Proofs.Tryz.f139 [.one (.sl (.flt .f32) l), .one (.fn 137 [] [])] (.val (.one (.frs (.int .i64) (sixs l)))) = (let q0 := (↑(List.length l) : Int); (∃ (g : Nat), Nat.le g (List.length l) ∧ (0 : Int) = (↑g : Int) ∧ q0 = q0 ∧ l = l ∧ List.map six (List.take g l) = [] ∧ True) ∧ ∀ (g : Nat), Nat.le g (List.length l) → splitB (decide ((↑g : Int) < q0)) (((0 : Int) ≤ (↑g : Int) ∧ (↑g : Int) < q0) ∧ chkS (List.getD l g (0 : Nat)) = (0 : Int) ∧ room (List.length (List.map six (List.take g l)) + (1 : Nat)) (8 : Nat) ∧ fits IntKind.i64 ((↑g : Int) + (1 : Int)) ∧ ∃ (g' : Nat), Nat.le g' (List.length l) ∧ List.length l - g' < List.length l - g ∧ (↑g : Int) + (1 : Int) = (↑g' : Int) ∧ q0 = q0 ∧ l = l ∧ List.map six (List.take g l) ++ [six (List.getD l g (0 : Nat))] = List.map six (List.take g' l) ∧ True) (List.map six (List.take g l) = sixs l ∧ True)) := by
  kernel_rfl
theorem vc166 (l : List Nat) : exF (env false [(136, sp136)] []) h139 0 166 Proofs.Tryz.f166 [.one (.sl (.flt .f32) l), .one (.fn 136 [] [])] (.val (.one (.frs (.int .i64) (l.map chkS)))) = (let q0 := (↑(List.length l) : Int); (∃ (g : Nat), Nat.le g (List.length l) ∧ (0 : Int) = (↑g : Int) ∧ q0 = q0 ∧ l = l ∧ List.map chkS (List.take g l) = [] ∧ True) ∧ ∀ (g : Nat), Nat.le g (List.length l) → splitB (decide ((↑g : Int) < q0)) (((0 : Int) ≤ (↑g : Int) ∧ (↑g : Int) < q0) ∧ room (List.length (List.map chkS (List.take g l)) + (1 : Nat)) (8 : Nat) ∧ fits IntKind.i64 ((↑g : Int) + (1 : Int)) ∧ ∃ (g' : Nat), Nat.le g' (List.length l) ∧ List.length l - g' < List.length l - g ∧ (↑g : Int) + (1 : Int) = (↑g' : Int) ∧ q0 = q0 ∧ l = l ∧ List.map chkS (List.take g l) ++ [chkS (List.getD l g (0 : Nat))] = List.map chkS (List.take g' l) ∧ True) (List.map chkS (List.take g l) = List.map chkS l ∧ True)) := by
  kernel_rfl
theorem vc159 (l : List Int) : exF (env false [(110, sp110)] []) h139 0 159 Proofs.Tryz.f159 [.one (.sl (.int .i64) l), .one (.fn 110 [] [])] (.val (.one (.frs (.flt .f32) (l.map smp)))) = (let q0 := (↑(List.length l) : Int); (∃ (g : Nat), Nat.le g (List.length l) ∧ (0 : Int) = (↑g : Int) ∧ q0 = q0 ∧ l = l ∧ List.map smp (List.take g l) = [] ∧ True) ∧ ∀ (g : Nat), Nat.le g (List.length l) → splitB (decide ((↑g : Int) < q0)) (((0 : Int) ≤ (↑g : Int) ∧ (↑g : Int) < q0) ∧ ((-8388608 : Int) ≤ List.getD l g (0 : Int) ∧ List.getD l g (0 : Int) ≤ (8388608 : Int)) ∧ room (List.length (List.map smp (List.take g l)) + (1 : Nat)) (4 : Nat) ∧ fits IntKind.i64 ((↑g : Int) + (1 : Int)) ∧ ∃ (g' : Nat), Nat.le g' (List.length l) ∧ List.length l - g' < List.length l - g ∧ (↑g : Int) + (1 : Int) = (↑g' : Int) ∧ q0 = q0 ∧ l = l ∧ List.map smp (List.take g l) ++ [smp (List.getD l g (0 : Int))] = List.map smp (List.take g' l) ∧ True) (List.map smp (List.take g l) = List.map smp l ∧ True)) := by
  kernel_rfl
theorem vc108 (l : List Nat) : exF (env false [(139, sp139)] []) h0 0 108 Proofs.Tryz.f108 [.one (.sl (.flt .f32) l)] (.val (.one (.frs (.int .i64) (sixs l)))) = (List.length l ≤ (1000000 : Nat) ∧ OkS l ∧ sixs l = sixs l ∧ True) := by
  kernel_rfl
theorem vc105 (l : List Nat) : exF (env false [(166, sp166), (95, sp95)] []) h0 0 105 Proofs.Tryz.f105 [.one (.sl (.flt .f32) l)] (.val (iV (chkSs l))) = (List.length l ≤ (1000000 : Nat) ∧ List.length (List.map chkS l) ≤ (1000000000 : Nat) ∧ first (List.map chkS l) = chkSs l ∧ True) := by
  kernel_rfl
theorem vc41 (l : List Nat) : exF (env false [(104, sp104), (95, sp95), (105, sp105)] []) h0 0 41 Proofs.Tryz.f41 [.one (.sl (.flt .f32) l)] (.val (iV (chkSig l))) = (let q0 := (↑(List.length l) : Int); ((0 : Int) ≤ q0 ∧ (0 : Int) < (4 : Int)) ∧ (2 : Nat) ≤ (1000000000 : Nat) ∧ splitB (first [whenE (decide ((256 : Int) < q0)) (5 : Int), whenE (q0 % (4 : Int) != (0 : Int)) (2 : Int)] != (0 : Int)) (first [whenE (decide ((256 : Int) < q0)) (5 : Int), whenE (q0 % (4 : Int) != (0 : Int)) (2 : Int)] = chkSig l ∧ True) (List.length l ≤ (1000000 : Nat) ∧ chkSs l = chkSig l ∧ True)) := by
  kernel_rfl
theorem vc103 (y u v : List Nat) : exF (env false [] []) h0 0 103 Proofs.Tryz.f103 [ptV y u v] (.val (iV (y.length : Int))) = ((↑(List.length y) : Int) = (↑(List.length y) : Int) ∧ True) := by
  kernel_rfl
theorem vc26 (y u v : List Nat) : exF (env false [(103, sp103), (41, sp41), (104, sp104), (95, sp95), (105, sp105)] []) h0 0 26 Proofs.Tryz.f26 [ptV y u v] (.val (iV (chkPt y u v))) = (let q0 := (↑(List.length y) : Int); ((0 : Int) ≤ q0 ∧ (0 : Int) < (4 : Int) ∧ fits IntKind.i64 (q0 / (4 : Int))) ∧ (3 : Nat) ≤ (1000000000 : Nat) ∧ splitB (first [chkSig y, whenE ((↑(List.length u) : Int) != q0 / (4 : Int)) (2 : Int), whenE ((↑(List.length v) : Int) != q0 / (4 : Int)) (2 : Int)] != (0 : Int)) (first [chkSig y, whenE ((↑(List.length u) : Int) != q0 / (4 : Int)) (2 : Int), whenE ((↑(List.length v) : Int) != q0 / (4 : Int)) (2 : Int)] = chkPt y u v ∧ True) (List.length u ≤ (1000000 : Nat) ∧ List.length v ≤ (1000000 : Nat) ∧ (2 : Nat) ≤ (1000000000 : Nat) ∧ first [chkSs u, chkSs v] = chkPt y u v ∧ True)) := by
  kernel_rfl
theorem vc130 (n : Int) : exF (env false [] []) h0 0 130 Proofs.Tryz.f130 [iV n] (.val (bV (lgI n))) = ((bif decide (n < (-16384 : Int)) then true else decide ((16384 : Int) < n)) = lgI n ∧ True) := by
  kernel_rfl
theorem vc138 (l : List Int) : exF (env false [(130, sp130), (159, sp159)] [fb157, fb194]) h138 3 138 Proofs.Tryz.f138 [.one (.sl (.int .i64) l)] (.tup [.one (.frs (.flt .f32) (smpsN l)), iV (lgE l)]) = (let q0 := (↑(List.length l) : Int); (∃ (g : Nat), (g ≤ List.length l ∧ ∀ (j : Nat), j < g → lgI (List.getD l j (0 : Int)) = false) ∧ (0 : Int) = (↑g : Int) ∧ q0 = q0 ∧ l = l ∧ True) ∧ ∀ (g : Nat), (g ≤ List.length l ∧ ∀ (j : Nat), j < g → lgI (List.getD l j (0 : Int)) = false) → splitB (decide ((↑g : Int) < q0)) (((0 : Int) ≤ (↑g : Int) ∧ (↑g : Int) < q0) ∧ splitB (lgI (List.getD l g (0 : Int))) (smpsN l = [] ∧ (4 : Int) = lgE l ∧ True) (fits IntKind.i64 ((↑g : Int) + (1 : Int)) ∧ ∃ (g' : Nat), (g' ≤ List.length l ∧ ∀ (j : Nat), j < g' → lgI (List.getD l j (0 : Int)) = false) ∧ List.length l - g' < List.length l - g ∧ (↑g : Int) + (1 : Int) = (↑g' : Int) ∧ q0 = q0 ∧ l = l ∧ True)) (List.length l ≤ (1000000 : Nat) ∧ Bd (8388608 : Int) l ∧ List.map smp l = smpsN l ∧ (0 : Int) = lgE l ∧ True)) := by
  kernel_rfl
theorem vc164 (x y : Int) : exF (env false [] []) h0 0 164 Proofs.Tryz.f164 [iV x, iV y] (.val (iV (plusI x y))) = (fits IntKind.i64 (x + y) ∧ x + y = plusI x y ∧ True) := by
  kernel_rfl
theorem vc118 (x y : Int) : exF (env false [] []) h0 0 118 Proofs.Tryz.f118 [iV x, iV y] (.val (iV (minusI x y))) = (fits IntKind.i64 (x - y) ∧ x - y = minusI x y ∧ True) := by
  kernel_rfl
theorem vc119 (x y : Int) : exF (env false [(120, sp120)] []) h0 0 119 Proofs.Tryz.f119 [iV x, iV y] (.val (iV (midI x y))) = (fits IntKind.i64 (x + y) ∧ ((-1000000000 : Int) ≤ x + y ∧ x + y ≤ (1000000000 : Int)) ∧ ((0 : Int) < (2 : Int) ∧ (2 : Int) ≤ (1000000000 : Int)) ∧ roundI (x + y) (2 : Int) = midI x y ∧ True) := by
  kernel_rfl
theorem vc171 (x y : Int) : exF (env false [] []) h0 0 171 Proofs.Tryz.f171 [iV x, iV y] (.val (iV (lessI x y))) = (fits IntKind.i64 ((2 : Int) * x) ∧ fits IntKind.i64 ((2 : Int) * x - y) ∧ (2 : Int) * x - y = lessI x y ∧ True) := by
  kernel_rfl
theorem vc173 (x y : Int) : exF (env false [] []) h0 0 173 Proofs.Tryz.f173 [iV x, iV y] (.val (iV (farI x y))) = (fits IntKind.i64 (x - y) ∧ fits IntKind.i64 (y - x) ∧ max (x - y) (y - x) = farI x y ∧ True) := by
  kernel_rfl
theorem vc117a (a b : List Int) : exF (env false [(164, sp164)] []) h117 0 117 Proofs.Tryz.f117 [.one (.sl (.int .i64) a), .one (.sl (.int .i64) b), .one (.fn 164 [] [])] (.val (.one (.frs (.int .i64) (combI plusI a b)))) = (let q1 := (List.length a); let q0 := (↑(List.length (List.replicate q1 (0 : Int))) : Int); (0 : Int) ≤ (↑q1 : Int) ∧ room q1 (8 : Nat) ∧ (∃ (g : Nat), Nat.le g q1 ∧ (0 : Int) = (↑g : Int) ∧ q0 = q0 ∧ a = a ∧ b = b ∧ List.replicate q1 (0 : Int) = fillTo (0 : Int) q1 (fun (i : Nat) => plusI (List.getD a i (0 : Int)) (List.getD b i (0 : Int))) g ∧ True) ∧ ∀ (g : Nat), Nat.le g q1 → splitB (decide ((↑g : Int) < q0)) (((0 : Int) ≤ (↑g : Int) ∧ (↑g : Int) < (↑q1 : Int)) ∧ ((0 : Int) ≤ (↑g : Int) ∧ (↑g : Int) < (↑(List.length b) : Int)) ∧ ((-2000000000 : Int) ≤ List.getD a g (0 : Int) ∧ List.getD a g (0 : Int) ≤ (2000000000 : Int)) ∧ ((-2000000000 : Int) ≤ List.getD b g (0 : Int) ∧ List.getD b g (0 : Int) ≤ (2000000000 : Int)) ∧ ((0 : Int) ≤ (↑g : Int) ∧ (↑g : Int) < (↑(List.length (fillTo (0 : Int) q1 (fun (i : Nat) => plusI (List.getD a i (0 : Int)) (List.getD b i (0 : Int))) g)) : Int)) ∧ g < List.length (fillTo (0 : Int) q1 (fun (i : Nat) => plusI (List.getD a i (0 : Int)) (List.getD b i (0 : Int))) g) ∧ fits IntKind.i64 ((↑g : Int) + (1 : Int)) ∧ ∃ (g' : Nat), Nat.le g' q1 ∧ List.length a - g' < List.length a - g ∧ (↑g : Int) + (1 : Int) = (↑g' : Int) ∧ q0 = q0 ∧ a = a ∧ b = b ∧ List.set (fillTo (0 : Int) q1 (fun (i : Nat) => plusI (List.getD a i (0 : Int)) (List.getD b i (0 : Int))) g) g (plusI (List.getD a g (0 : Int)) (List.getD b g (0 : Int))) = fillTo (0 : Int) q1 (fun (i : Nat) => plusI (List.getD a i (0 : Int)) (List.getD b i (0 : Int))) g' ∧ True) (fillTo (0 : Int) q1 (fun (i : Nat) => plusI (List.getD a i (0 : Int)) (List.getD b i (0 : Int))) g = combI plusI a b ∧ True)) := by
  kernel_rfl
theorem vc117b (a b : List Int) : exF (env false [(118, sp118)] []) h117 0 117 Proofs.Tryz.f117 [.one (.sl (.int .i64) a), .one (.sl (.int .i64) b), .one (.fn 118 [] [])] (.val (.one (.frs (.int .i64) (combI minusI a b)))) = (let q1 := (List.length a); let q0 := (↑(List.length (List.replicate q1 (0 : Int))) : Int); (0 : Int) ≤ (↑q1 : Int) ∧ room q1 (8 : Nat) ∧ (∃ (g : Nat), Nat.le g q1 ∧ (0 : Int) = (↑g : Int) ∧ q0 = q0 ∧ a = a ∧ b = b ∧ List.replicate q1 (0 : Int) = fillTo (0 : Int) q1 (fun (i : Nat) => minusI (List.getD a i (0 : Int)) (List.getD b i (0 : Int))) g ∧ True) ∧ ∀ (g : Nat), Nat.le g q1 → splitB (decide ((↑g : Int) < q0)) (((0 : Int) ≤ (↑g : Int) ∧ (↑g : Int) < (↑q1 : Int)) ∧ ((0 : Int) ≤ (↑g : Int) ∧ (↑g : Int) < (↑(List.length b) : Int)) ∧ ((-2000000000 : Int) ≤ List.getD a g (0 : Int) ∧ List.getD a g (0 : Int) ≤ (2000000000 : Int)) ∧ ((-2000000000 : Int) ≤ List.getD b g (0 : Int) ∧ List.getD b g (0 : Int) ≤ (2000000000 : Int)) ∧ ((0 : Int) ≤ (↑g : Int) ∧ (↑g : Int) < (↑(List.length (fillTo (0 : Int) q1 (fun (i : Nat) => minusI (List.getD a i (0 : Int)) (List.getD b i (0 : Int))) g)) : Int)) ∧ g < List.length (fillTo (0 : Int) q1 (fun (i : Nat) => minusI (List.getD a i (0 : Int)) (List.getD b i (0 : Int))) g) ∧ fits IntKind.i64 ((↑g : Int) + (1 : Int)) ∧ ∃ (g' : Nat), Nat.le g' q1 ∧ List.length a - g' < List.length a - g ∧ (↑g : Int) + (1 : Int) = (↑g' : Int) ∧ q0 = q0 ∧ a = a ∧ b = b ∧ List.set (fillTo (0 : Int) q1 (fun (i : Nat) => minusI (List.getD a i (0 : Int)) (List.getD b i (0 : Int))) g) g (minusI (List.getD a g (0 : Int)) (List.getD b g (0 : Int))) = fillTo (0 : Int) q1 (fun (i : Nat) => minusI (List.getD a i (0 : Int)) (List.getD b i (0 : Int))) g' ∧ True) (fillTo (0 : Int) q1 (fun (i : Nat) => minusI (List.getD a i (0 : Int)) (List.getD b i (0 : Int))) g = combI minusI a b ∧ True)) := by
  kernel_rfl
theorem vc117c (a b : List Int) : exF (env false [(119, sp119)] []) h117 0 117 Proofs.Tryz.f117 [.one (.sl (.int .i64) a), .one (.sl (.int .i64) b), .one (.fn 119 [] [])] (.val (.one (.frs (.int .i64) (combI midI a b)))) = (let q1 := (List.length a); let q0 := (↑(List.length (List.replicate q1 (0 : Int))) : Int); (0 : Int) ≤ (↑q1 : Int) ∧ room q1 (8 : Nat) ∧ (∃ (g : Nat), Nat.le g q1 ∧ (0 : Int) = (↑g : Int) ∧ q0 = q0 ∧ a = a ∧ b = b ∧ List.replicate q1 (0 : Int) = fillTo (0 : Int) q1 (fun (i : Nat) => midI (List.getD a i (0 : Int)) (List.getD b i (0 : Int))) g ∧ True) ∧ ∀ (g : Nat), Nat.le g q1 → splitB (decide ((↑g : Int) < q0)) (((0 : Int) ≤ (↑g : Int) ∧ (↑g : Int) < (↑q1 : Int)) ∧ ((0 : Int) ≤ (↑g : Int) ∧ (↑g : Int) < (↑(List.length b) : Int)) ∧ ((-100000000 : Int) ≤ List.getD a g (0 : Int) ∧ List.getD a g (0 : Int) ≤ (100000000 : Int)) ∧ ((-100000000 : Int) ≤ List.getD b g (0 : Int) ∧ List.getD b g (0 : Int) ≤ (100000000 : Int)) ∧ ((0 : Int) ≤ (↑g : Int) ∧ (↑g : Int) < (↑(List.length (fillTo (0 : Int) q1 (fun (i : Nat) => midI (List.getD a i (0 : Int)) (List.getD b i (0 : Int))) g)) : Int)) ∧ g < List.length (fillTo (0 : Int) q1 (fun (i : Nat) => midI (List.getD a i (0 : Int)) (List.getD b i (0 : Int))) g) ∧ fits IntKind.i64 ((↑g : Int) + (1 : Int)) ∧ ∃ (g' : Nat), Nat.le g' q1 ∧ List.length a - g' < List.length a - g ∧ (↑g : Int) + (1 : Int) = (↑g' : Int) ∧ q0 = q0 ∧ a = a ∧ b = b ∧ List.set (fillTo (0 : Int) q1 (fun (i : Nat) => midI (List.getD a i (0 : Int)) (List.getD b i (0 : Int))) g) g (midI (List.getD a g (0 : Int)) (List.getD b g (0 : Int))) = fillTo (0 : Int) q1 (fun (i : Nat) => midI (List.getD a i (0 : Int)) (List.getD b i (0 : Int))) g' ∧ True) (fillTo (0 : Int) q1 (fun (i : Nat) => midI (List.getD a i (0 : Int)) (List.getD b i (0 : Int))) g = combI midI a b ∧ True)) := by
  kernel_rfl
theorem vc117d (a b : List Int) : exF (env false [(171, sp171)] []) h117 0 117 Proofs.Tryz.f117 [.one (.sl (.int .i64) a), .one (.sl (.int .i64) b), .one (.fn 171 [] [])] (.val (.one (.frs (.int .i64) (combI lessI a b)))) = (let q1 := (List.length a); let q0 := (↑(List.length (List.replicate q1 (0 : Int))) : Int); (0 : Int) ≤ (↑q1 : Int) ∧ room q1 (8 : Nat) ∧ (∃ (g : Nat), Nat.le g q1 ∧ (0 : Int) = (↑g : Int) ∧ q0 = q0 ∧ a = a ∧ b = b ∧ List.replicate q1 (0 : Int) = fillTo (0 : Int) q1 (fun (i : Nat) => lessI (List.getD a i (0 : Int)) (List.getD b i (0 : Int))) g ∧ True) ∧ ∀ (g : Nat), Nat.le g q1 → splitB (decide ((↑g : Int) < q0)) (((0 : Int) ≤ (↑g : Int) ∧ (↑g : Int) < (↑q1 : Int)) ∧ ((0 : Int) ≤ (↑g : Int) ∧ (↑g : Int) < (↑(List.length b) : Int)) ∧ ((-100000000 : Int) ≤ List.getD a g (0 : Int) ∧ List.getD a g (0 : Int) ≤ (100000000 : Int)) ∧ ((-100000000 : Int) ≤ List.getD b g (0 : Int) ∧ List.getD b g (0 : Int) ≤ (100000000 : Int)) ∧ ((0 : Int) ≤ (↑g : Int) ∧ (↑g : Int) < (↑(List.length (fillTo (0 : Int) q1 (fun (i : Nat) => lessI (List.getD a i (0 : Int)) (List.getD b i (0 : Int))) g)) : Int)) ∧ g < List.length (fillTo (0 : Int) q1 (fun (i : Nat) => lessI (List.getD a i (0 : Int)) (List.getD b i (0 : Int))) g) ∧ fits IntKind.i64 ((↑g : Int) + (1 : Int)) ∧ ∃ (g' : Nat), Nat.le g' q1 ∧ List.length a - g' < List.length a - g ∧ (↑g : Int) + (1 : Int) = (↑g' : Int) ∧ q0 = q0 ∧ a = a ∧ b = b ∧ List.set (fillTo (0 : Int) q1 (fun (i : Nat) => lessI (List.getD a i (0 : Int)) (List.getD b i (0 : Int))) g) g (lessI (List.getD a g (0 : Int)) (List.getD b g (0 : Int))) = fillTo (0 : Int) q1 (fun (i : Nat) => lessI (List.getD a i (0 : Int)) (List.getD b i (0 : Int))) g' ∧ True) (fillTo (0 : Int) q1 (fun (i : Nat) => lessI (List.getD a i (0 : Int)) (List.getD b i (0 : Int))) g = combI lessI a b ∧ True)) := by
  kernel_rfl
theorem vc117e (a b : List Int) : exF (env false [(173, sp173)] []) h117 0 117 Proofs.Tryz.f117 [.one (.sl (.int .i64) a), .one (.sl (.int .i64) b), .one (.fn 173 [] [])] (.val (.one (.frs (.int .i64) (combI farI a b)))) = (let q1 := (List.length a); let q0 := (↑(List.length (List.replicate q1 (0 : Int))) : Int); (0 : Int) ≤ (↑q1 : Int) ∧ room q1 (8 : Nat) ∧ (∃ (g : Nat), Nat.le g q1 ∧ (0 : Int) = (↑g : Int) ∧ q0 = q0 ∧ a = a ∧ b = b ∧ List.replicate q1 (0 : Int) = fillTo (0 : Int) q1 (fun (i : Nat) => farI (List.getD a i (0 : Int)) (List.getD b i (0 : Int))) g ∧ True) ∧ ∀ (g : Nat), Nat.le g q1 → splitB (decide ((↑g : Int) < q0)) (((0 : Int) ≤ (↑g : Int) ∧ (↑g : Int) < (↑q1 : Int)) ∧ ((0 : Int) ≤ (↑g : Int) ∧ (↑g : Int) < (↑(List.length b) : Int)) ∧ ((-100000000 : Int) ≤ List.getD a g (0 : Int) ∧ List.getD a g (0 : Int) ≤ (100000000 : Int)) ∧ ((-100000000 : Int) ≤ List.getD b g (0 : Int) ∧ List.getD b g (0 : Int) ≤ (100000000 : Int)) ∧ ((0 : Int) ≤ (↑g : Int) ∧ (↑g : Int) < (↑(List.length (fillTo (0 : Int) q1 (fun (i : Nat) => farI (List.getD a i (0 : Int)) (List.getD b i (0 : Int))) g)) : Int)) ∧ g < List.length (fillTo (0 : Int) q1 (fun (i : Nat) => farI (List.getD a i (0 : Int)) (List.getD b i (0 : Int))) g) ∧ fits IntKind.i64 ((↑g : Int) + (1 : Int)) ∧ ∃ (g' : Nat), Nat.le g' q1 ∧ List.length a - g' < List.length a - g ∧ (↑g : Int) + (1 : Int) = (↑g' : Int) ∧ q0 = q0 ∧ a = a ∧ b = b ∧ List.set (fillTo (0 : Int) q1 (fun (i : Nat) => farI (List.getD a i (0 : Int)) (List.getD b i (0 : Int))) g) g (farI (List.getD a g (0 : Int)) (List.getD b g (0 : Int))) = fillTo (0 : Int) q1 (fun (i : Nat) => farI (List.getD a i (0 : Int)) (List.getD b i (0 : Int))) g' ∧ True) (fillTo (0 : Int) q1 (fun (i : Nat) => farI (List.getD a i (0 : Int)) (List.getD b i (0 : Int))) g = combI farI a b ∧ True)) := by
  kernel_rfl
theorem vc163 (u v : List Int) (line : Int) : exF (env false [(170, sp170)] []) h163 0 163 Proofs.Tryz.f163 [.one (.sl (.int .i64) u), .one (.sl (.int .i64) v), iV line] (.val (.one (.frs (.int .i64) (carI u v (signI line))))) = (let q0 := (↑(List.length u) : Int); (0 : Int) ≤ line ∧ (∃ (g : Nat), Nat.le g (List.length u) ∧ (0 : Int) = (↑g : Int) ∧ q0 = q0 ∧ signI line = signI line ∧ u = u ∧ v = v ∧ (tab ((4 : Nat) * g) fun (n : Nat) => carN (List.getD u (n / (4 : Nat)) (0 : Int)) (List.getD v (n / (4 : Nat)) (0 : Int)) (n % (4 : Nat)) (signI line)) = [] ∧ True) ∧ ∀ (g : Nat), let q1 := ((0 : Int) ≤ (↑g : Int) ∧ (↑g : Int) < (↑(List.length v) : Int)); Nat.le g (List.length u) → splitB (decide ((↑g : Int) < q0)) (((0 : Int) ≤ (↑g : Int) ∧ (↑g : Int) < q0) ∧ fits IntKind.i64 (signI line * List.getD u g (0 : Int)) ∧ q1 ∧ fits IntKind.i64 (signI line * List.getD v g (0 : Int)) ∧ fits IntKind.i64 (-signI line) ∧ ((0 : Int) ≤ (↑g : Int) ∧ (↑g : Int) < q0) ∧ fits IntKind.i64 (-signI line * List.getD u g (0 : Int)) ∧ fits IntKind.i64 (-signI line) ∧ q1 ∧ fits IntKind.i64 (-signI line * List.getD v g (0 : Int)) ∧ room (List.length (tab ((4 : Nat) * g) fun (n : Nat) => carN (List.getD u (n / (4 : Nat)) (0 : Int)) (List.getD v (n / (4 : Nat)) (0 : Int)) (n % (4 : Nat)) (signI line)) + (4 : Nat)) (8 : Nat) ∧ fits IntKind.i64 ((↑g : Int) + (1 : Int)) ∧ ∃ (g' : Nat), Nat.le g' (List.length u) ∧ List.length u - g' < List.length u - g ∧ (↑g : Int) + (1 : Int) = (↑g' : Int) ∧ q0 = q0 ∧ signI line = signI line ∧ u = u ∧ v = v ∧ ((tab ((4 : Nat) * g) fun (n : Nat) => carN (List.getD u (n / (4 : Nat)) (0 : Int)) (List.getD v (n / (4 : Nat)) (0 : Int)) (n % (4 : Nat)) (signI line)) ++ [signI line * List.getD u g (0 : Int), signI line * List.getD v g (0 : Int), -signI line * List.getD u g (0 : Int), -signI line * List.getD v g (0 : Int)] = tab ((4 : Nat) * g') fun (n : Nat) => carN (List.getD u (n / (4 : Nat)) (0 : Int)) (List.getD v (n / (4 : Nat)) (0 : Int)) (n % (4 : Nat)) (signI line)) ∧ True) ((tab ((4 : Nat) * g) fun (n : Nat) => carN (List.getD u (n / (4 : Nat)) (0 : Int)) (List.getD v (n / (4 : Nat)) (0 : Int)) (n % (4 : Nat)) (signI line)) = carI u v (signI line) ∧ True)) := by
  kernel_rfl
theorem vc97 (y u v : List Nat) (line : Int) : exF (env false [(108, sp108), (163, sp163), (117, sp117), (138, sp138), (164, sp164)] []) h0 0 97 Proofs.Tryz.f97 [ptV y u v, iV line] (.tup [.one (.frs (.flt .f32) (smpsN (encI y u v line))), iV (lgE (encI y u v line))]) = (List.length y ≤ (1000000 : Nat) ∧ OkS y ∧ List.length u ≤ (1000000 : Nat) ∧ OkS u ∧ List.length v ≤ (1000000 : Nat) ∧ OkS v ∧ List.length (sixs u) ≤ (100000 : Nat) ∧ List.length (sixs v) = List.length (sixs u) ∧ Bd (1000000 : Int) (sixs u) ∧ Bd (1000000 : Int) (sixs v) ∧ (0 : Int) ≤ line ∧ List.length (sixs y) ≤ (100000 : Nat) ∧ List.length (carI (sixs u) (sixs v) (signI line)) = List.length (sixs y) ∧ Bd (1000000 : Int) (sixs y) ∧ Bd (1000000 : Int) (carI (sixs u) (sixs v) (signI line)) ∧ List.length (combI plusI (sixs y) (carI (sixs u) (sixs v) (signI line))) ≤ (1000000 : Nat) ∧ smpsN (combI plusI (sixs y) (carI (sixs u) (sixs v) (signI line))) = smpsN (encI y u v line) ∧ lgE (combI plusI (sixs y) (carI (sixs u) (sixs v) (signI line))) = lgE (encI y u v line) ∧ True) := by
  kernel_rfl
theorem vc20 (y u v : List Nat) (line : Int) : exF (env false [(26, sp26), (96, sp96), (95, sp95), (97, sp97)] []) h0 0 20 Proofs.Tryz.f20 [ptV y u v, iV line] (.tup [.one (.frs (.flt .f32) (encL y u v line)), iV (encE y u v line)]) = (List.length y ≤ (1000000000 : Nat) ∧ (2 : Nat) ≤ (1000000000 : Nat) ∧ splitB (first [chkPt y u v, within line (0 : Int) (10000000 : Int)] != (0 : Int)) (encL y u v line = [] ∧ first [chkPt y u v, within line (0 : Int) (10000000 : Int)] = encE y u v line ∧ True) (chkPt y u v = (0 : Int) ∧ (0 : Int) ≤ line ∧ smpsN (encI y u v line) = encL y u v line ∧ lgE (encI y u v line) = encE y u v line ∧ True)) := by
  kernel_rfl
theorem vc98 (l : List Nat) : exF (env false [(69, sp69)] []) h138 0 98 Proofs.Tryz.f98 [.one (.sl (.flt .f32) l)] (.val (iV (chkSs l))) = ((∃ (g : Nat), (g ≤ List.length l ∧ chkSs l = first (List.drop g (List.map chkS l))) ∧ (0 : Int) = (↑g : Int) ∧ l = l ∧ True) ∧ ∀ (g : Nat), g ≤ List.length l ∧ chkSs l = first (List.drop g (List.map chkS l)) → splitB (decide ((↑g : Int) < (↑(List.length l) : Int))) (((0 : Int) ≤ (↑g : Int) ∧ (↑g : Int) < (↑(List.length l) : Int)) ∧ splitB (chkS (List.getD l g (0 : Nat)) != (0 : Int)) (chkS (List.getD l g (0 : Nat)) = chkSs l ∧ True) (fits IntKind.i64 ((↑g : Int) + (1 : Int)) ∧ ∃ (g' : Nat), (g' ≤ List.length l ∧ chkSs l = first (List.drop g' (List.map chkS l))) ∧ List.length l - g' < List.length l - g ∧ (↑g : Int) + (1 : Int) = (↑g' : Int) ∧ l = l ∧ True)) ((0 : Int) = chkSs l ∧ True)) := by
  kernel_rfl
theorem vc36 (l : List Nat) : exF (env false [(98, sp98)] []) h0 0 36 Proofs.Tryz.f36 [.one (.sl (.flt .f32) l)] (.val (iV (chkSig l))) = (splitB (decide ((256 : Int) < (↑(List.length l) : Int))) ((5 : Int) = chkSig l ∧ True) (((0 : Int) ≤ (↑(List.length l) : Int) ∧ (0 : Int) < (4 : Int)) ∧ splitB ((↑(List.length l) : Int) % (4 : Int) != (0 : Int)) ((2 : Int) = chkSig l ∧ True) (List.length l ≤ (1000000 : Nat) ∧ chkSs l = chkSig l ∧ True))) := by
  kernel_rfl
theorem vc23 (y u v : List Nat) : exF (env false [(36, sp36), (98, sp98), (22, sp22)] []) h0 0 23 Proofs.Tryz.f23 [ptV y u v] (.val (iV (chkPt y u v))) = (let q0 := (↑(List.length y) : Int); splitB (chkSig y != (0 : Int)) (chkSig y = chkPt y u v ∧ True) (((0 : Int) ≤ q0 ∧ (0 : Int) < (4 : Int) ∧ fits IntKind.i64 (q0 / (4 : Int))) ∧ (((↑(List.length u) : Int) != q0 / (4 : Int)) = false → (0 : Int) ≤ q0 ∧ (0 : Int) < (4 : Int) ∧ fits IntKind.i64 (q0 / (4 : Int))) ∧ splitB (bif (↑(List.length u) : Int) != q0 / (4 : Int) then true else (↑(List.length v) : Int) != q0 / (4 : Int)) ((2 : Int) = chkPt y u v ∧ True) (List.length u ≤ (1000000 : Nat) ∧ List.length v ≤ (1000000 : Nat) ∧ (2 : Nat) ≤ (1000000000 : Nat) ∧ first [chkSs u, chkSs v] = chkPt y u v ∧ True))) := by
  kernel_rfl
theorem vc30 (l : List Nat) : exF (env false [] []) h0 0 30 Proofs.Tryz.f30 [.one (.sl (.flt .f32) l)] (.val (bV (shortS l))) = ((bif decide ((↑(List.length l) : Int) ≤ (24 : Int)) then true else (↑(List.length l) : Int) == (260 : Int)) = shortS l ∧ True) := by
  kernel_rfl
theorem vc18 (y u v : List Nat) : exF (env false [(30, sp30)] []) h0 0 18 Proofs.Tryz.f18 [ptV y u v] (.val (bV (shortP y u v))) = ((bif bif shortS y then decide ((↑(List.length u) : Int) ≤ (24 : Int)) else false then decide ((↑(List.length v) : Int) ≤ (24 : Int)) else false) = shortP y u v ∧ True) := by
  kernel_rfl
theorem vc34 (l : List Nat) : exF (env false [] []) h0 0 34 Proofs.Tryz.f34 [.one (.sl (.flt .f32) l)] (.val (.one (.frs (.flt .f32) l))) = (room ((0 : Nat) + List.length l) (4 : Nat) ∧ l = l ∧ True) := by
  kernel_rfl
theorem vc21 (y u v : List Nat) : exFr (env false [(34, sp34)] []) h0 0 21 Proofs.Tryz.f21 [ptV y u v] (.val (ptV y u v)) = (List.length y ≤ (1000000 : Nat) ∧ List.length u ≤ (1000000 : Nat) ∧ List.length v ≤ (1000000 : Nat) ∧ y = y ∧ u = u ∧ v = v ∧ True) := by
  kernel_rfl
theorem vc27 (a b : List Nat) : exF (env false [] []) h138 0 27 Proofs.Tryz.f27 [.one (.sl (.flt .f32) a), .one (.sl (.flt .f32) b)] (.val (bV (sameS a b))) = (splitB ((↑(List.length a) : Int) != (↑(List.length b) : Int)) (false = sameS a b ∧ True) ((∃ (g : Nat), (g ≤ List.length a ∧ ∀ (j : Nat), j < g → Op.floatEq FloatKind.f32 (List.getD a j (0 : Nat)) (List.getD b j (0 : Nat)) = true) ∧ (0 : Int) = (↑g : Int) ∧ a = a ∧ b = b ∧ True) ∧ ∀ (g : Nat), (g ≤ List.length a ∧ ∀ (j : Nat), j < g → Op.floatEq FloatKind.f32 (List.getD a j (0 : Nat)) (List.getD b j (0 : Nat)) = true) → splitB (decide ((↑g : Int) < (↑(List.length a) : Int))) (((0 : Int) ≤ (↑g : Int) ∧ (↑g : Int) < (↑(List.length a) : Int)) ∧ ((0 : Int) ≤ (↑g : Int) ∧ (↑g : Int) < (↑(List.length b) : Int)) ∧ splitB (Ieee.Format.order (FloatKind.format FloatKind.f32) (List.getD a g (0 : Nat)) (List.getD b g (0 : Nat)) != some Ordering.eq) (false = sameS a b ∧ True) (fits IntKind.i64 ((↑g : Int) + (1 : Int)) ∧ ∃ (g' : Nat), (g' ≤ List.length a ∧ ∀ (j : Nat), j < g' → Op.floatEq FloatKind.f32 (List.getD a j (0 : Nat)) (List.getD b j (0 : Nat)) = true) ∧ List.length a - g' < List.length a - g ∧ (↑g : Int) + (1 : Int) = (↑g' : Int) ∧ a = a ∧ b = b ∧ True)) (true = sameS a b ∧ True))) := by
  kernel_rfl
end Go.Sx

namespace Go.Sx
open U
theorem fn139 (l : List Nat) (hl : l.length ≤ 1000000) (hs : OkS l) : Fn P1 gl1 139 [.one (.sl (.flt .f32) l), .one (.fn 137 [] [])] (.val (.one (.frs (.int .i64) (sixs l)))) true := by
  refine Fn.flat ?_ rfl
  refine fn_of false [(137, sp137)] [] h139 0 Proofs.Tryz.f139 ⟨so137, trivial⟩ trivial (by kernel_rfl) rfl (by kernel_rfl) rfl rfl rfl ?_
  rw [vc139]
  try simp only [splitB_iff, -eq_self]
  refine ⟨⟨0, Nat.zero_le _, rfl, rfl, rfl, by simp⟩, fun g hg => ⟨fun hlt => ?_, fun hge => ?_⟩⟩
  · have hlt' : g < l.length := by simpa using hlt
    refine ⟨by omega, hs _ (getD_mem' hlt'), by simp only [room, List.length_map, List.length_take]; omega, by simp only [fits]; omega, g + 1, hlt', by omega, by simp, rfl, rfl, ?_, trivial⟩
    rw [getD_of hlt', List.take_succ_eq_append_getElem hlt', List.map_append]
    rfl
  · have hge' : ¬ g < l.length := by simpa using hge
    rw [List.take_of_length_le (by omega)]
    exact ⟨rfl, trivial⟩
theorem so139_ : SpecOk P1 gl1 139 sp139 := by
  intro vs ps r h hp
  simp only [sp139] at h
  split at h
  · cases h; exact fn139 _ (hp _ (.head _)) (hp _ (.tail _ (.head _)))
  · cases h
theorem so139 : Sp1 139 sp139 := ⟨so139_, Proofs.Tryz.f139, _, by kernel_rfl, rfl, by kernel_rfl⟩
theorem fn166 (l : List Nat) (hl : l.length ≤ 1000000) : Fn P1 gl1 166 [.one (.sl (.flt .f32) l), .one (.fn 136 [] [])] (.val (.one (.frs (.int .i64) (l.map chkS)))) true := by
  refine Fn.flat ?_ rfl
  refine fn_of false [(136, sp136)] [] h139 0 Proofs.Tryz.f166 ⟨so136, trivial⟩ trivial (by kernel_rfl) rfl (by kernel_rfl) rfl rfl rfl ?_
  rw [vc166]
  try simp only [splitB_iff, -eq_self]
  refine ⟨⟨0, Nat.zero_le _, rfl, rfl, rfl, by simp⟩, fun g hg => ⟨fun hlt => ?_, fun hge => ?_⟩⟩
  · have hlt' : g < l.length := by simpa using hlt
    refine ⟨by omega, by simp only [room, List.length_map, List.length_take]; omega, by simp only [fits]; omega, g + 1, hlt', by omega, by simp, rfl, rfl, ?_, trivial⟩
    rw [getD_of hlt', List.take_succ_eq_append_getElem hlt', List.map_append]
    rfl
  · have hge' : ¬ g < l.length := by simpa using hge
    rw [List.take_of_length_le (by omega)]
    exact ⟨rfl, trivial⟩
theorem so166_ : SpecOk P1 gl1 166 sp166 := by
  intro vs ps r h hp
  simp only [sp166] at h
  split at h
  · cases h; exact fn166 _ (hp _ (.head _))
  · cases h
theorem so166 : Sp1 166 sp166 := ⟨so166_, Proofs.Tryz.f166, _, by kernel_rfl, rfl, by kernel_rfl⟩
theorem fn159 (l : List Int) (hl : l.length ≤ 1000000) (hs : Bd 8388608 l) : Fn P1 gl1 159 [.one (.sl (.int .i64) l), .one (.fn 110 [] [])] (.val (.one (.frs (.flt .f32) (l.map smp)))) true := by
  refine Fn.flat ?_ rfl
  refine fn_of false [(110, sp110)] [] h139 0 Proofs.Tryz.f159 ⟨so110, trivial⟩ trivial (by kernel_rfl) rfl (by kernel_rfl) rfl rfl rfl ?_
  rw [vc159]
  try simp only [splitB_iff, -eq_self]
  refine ⟨⟨0, Nat.zero_le _, rfl, rfl, rfl, by simp⟩, fun g hg => ⟨fun hlt => ?_, fun hge => ?_⟩⟩
  · have hlt' : g < l.length := by simpa using hlt
    refine ⟨by omega, hs _ (getD_mem' hlt'), by simp only [room, List.length_map, List.length_take]; omega, by simp only [fits]; omega, g + 1, hlt', by omega, by simp, rfl, rfl, ?_, trivial⟩
    rw [getD_of hlt', List.take_succ_eq_append_getElem hlt', List.map_append]
    rfl
  · have hge' : ¬ g < l.length := by simpa using hge
    rw [List.take_of_length_le (by omega)]
    exact ⟨rfl, trivial⟩
theorem so159_ : SpecOk P1 gl1 159 sp159 := by
  intro vs ps r h hp
  simp only [sp159] at h
  split at h
  · cases h; exact fn159 _ (hp _ (.head _)) (hp _ (.tail _ (.head _)))
  · cases h
theorem so159 : Sp1 159 sp159 := ⟨so159_, Proofs.Tryz.f159, _, by kernel_rfl, rfl, by kernel_rfl⟩
theorem fn108 (l : List Nat) (hl : l.length ≤ 1000000) (hs : OkS l) : Fn P1 gl1 108 [.one (.sl (.flt .f32) l)] (.val (.one (.frs (.int .i64) (sixs l)))) true := by
  refine Fn.flat ?_ rfl
  refine fn_of false [(139, sp139)] [] h0 0 Proofs.Tryz.f108 ⟨so139, trivial⟩ trivial (by kernel_rfl) rfl (by kernel_rfl) rfl rfl rfl ?_
  rw [vc108]
  try simp only [splitB_iff, -eq_self]
  exact ⟨hl, hs, rfl, trivial⟩
theorem so108_ : SpecOk P1 gl1 108 sp108 := by
  intro vs ps r h hp
  simp only [sp108] at h
  split at h
  · cases h; exact fn108 _ (hp _ (.head _)) (hp _ (.tail _ (.head _)))
  · cases h
theorem so108 : Sp1 108 sp108 := ⟨so108_, Proofs.Tryz.f108, _, by kernel_rfl, rfl, by kernel_rfl⟩
theorem fn105 (l : List Nat) (hl : l.length ≤ 1000000) : Fn P1 gl1 105 [.one (.sl (.flt .f32) l)] (.val (iV (chkSs l))) true := by
  refine Fn.flat ?_ rfl
  refine fn_of false [(166, sp166), (95, sp95)] [] h0 0 Proofs.Tryz.f105 ⟨so166, so95, trivial⟩ trivial (by kernel_rfl) rfl (by kernel_rfl) rfl rfl rfl ?_
  rw [vc105]
  try simp only [splitB_iff, -eq_self]
  refine ⟨hl, by rw [List.length_map]; omega, rfl, trivial⟩
theorem so105_ : SpecOk P1 gl1 105 sp105 := by
  intro vs ps r h hp
  simp only [sp105] at h
  split at h
  · cases h; exact fn105 _ (hp _ (.head _))
  · cases h
theorem so105 : Sp1 105 sp105 := ⟨so105_, Proofs.Tryz.f105, _, by kernel_rfl, rfl, by kernel_rfl⟩
theorem fn41 (l : List Nat)  : Fn P1 gl1 41 [.one (.sl (.flt .f32) l)] (.val (iV (chkSig l))) true := by
  refine Fn.flat ?_ rfl
  refine fn_of false [(104, sp104), (95, sp95), (105, sp105)] [] h0 0 Proofs.Tryz.f41 ⟨so104, so95, so105, trivial⟩ trivial (by kernel_rfl) rfl (by kernel_rfl) rfl rfl rfl ?_
  rw [vc41]
  try simp only [splitB_iff, -eq_self]
  unfold chkSig
  by_cases h1 : 256 < l.length
  · have e : (256 : Int) < (l.length : Int) := by omega
    simp [h1, e, whenE, first]
  · have e : ¬ (256 : Int) < (l.length : Int) := by omega
    by_cases h2 : l.length % 4 = 0
    · have e2 : (l.length : Int) % 4 = 0 := by omega
      simp [h1, h2, e, e2, whenE, first]; omega
    · have e2 : ¬ (l.length : Int) % 4 = 0 := by omega
      simp [h1, h2, e, e2, whenE, first]
theorem so41_ : SpecOk P1 gl1 41 sp41 := by
  intro vs ps r h _
  simp only [sp41] at h
  split at h
  · cases h; exact fn41 _ 
  · cases h
theorem so41 : Sp1 41 sp41 := ⟨so41_, Proofs.Tryz.f41, _, by kernel_rfl, rfl, by kernel_rfl⟩
theorem fn103 (y u v : List Nat)  : Fn P1 gl1 103 [ptV y u v] (.val (iV (y.length : Int))) true := by
  refine Fn.flat ?_ rfl
  refine fn_of false [] [] h0 0 Proofs.Tryz.f103 trivial trivial (by kernel_rfl) rfl (by kernel_rfl) rfl rfl rfl ?_
  rw [vc103]
  try simp only [splitB_iff, -eq_self]
  exact ⟨rfl, trivial⟩
theorem so103_ : SpecOk P1 gl1 103 sp103 := by
  intro vs ps r h _
  simp only [sp103] at h
  split at h
  · cases h; exact fn103 _ _ _ 
  · cases h
theorem so103 : Sp1 103 sp103 := ⟨so103_, Proofs.Tryz.f103, _, by kernel_rfl, rfl, by kernel_rfl⟩
theorem fn26 (y u v : List Nat) (hl : y.length ≤ 1000000000) : Fn P1 gl1 26 [ptV y u v] (.val (iV (chkPt y u v))) true := by
  refine Fn.flat ?_ rfl
  refine fn_of false [(103, sp103), (41, sp41), (104, sp104), (95, sp95), (105, sp105)] [] h0 0 Proofs.Tryz.f26 ⟨so103, so41, so104, so95, so105, trivial⟩ trivial (by kernel_rfl) rfl (by kernel_rfl) rfl rfl rfl ?_
  rw [vc26]
  try simp only [splitB_iff, -eq_self]
  unfold chkPt
  refine ⟨⟨by omega, by decide, by simp only [fits]; omega⟩, by decide, fun h => ?_, fun h => ?_⟩
  · have h : ¬ first [chkSig y, whenE ((u.length : Int) != (y.length : Int) / 4) 2, whenE ((v.length : Int) != (y.length : Int) / 4) 2] = 0 := by simpa using h
    by_cases h1 : chkSig y = 0
    · by_cases h2 : u.length = y.length / 4 ∧ v.length = y.length / 4
      · have e1 : (u.length : Int) = (y.length : Int) / 4 := by omega
        have e2 : (v.length : Int) = (y.length : Int) / 4 := by omega
        simp [first, whenE, h1, e1, e2] at h
      · rw [if_pos h1, if_neg h2]
        by_cases h3 : u.length = y.length / 4
        · have e1 : (u.length : Int) = (y.length : Int) / 4 := by omega
          have e2 : ¬ (v.length : Int) = (y.length : Int) / 4 := by omega
          simp [first, whenE, h1, e1, e2]
        · have e1 : ¬ (u.length : Int) = (y.length : Int) / 4 := by omega
          simp [first, whenE, h1, e1]
    · simp [first, h1]
  · have h : first [chkSig y, whenE ((u.length : Int) != (y.length : Int) / 4) 2, whenE ((v.length : Int) != (y.length : Int) / 4) 2] = 0 := by simpa using h
    by_cases h1 : chkSig y = 0
    · by_cases h2 : (u.length : Int) = (y.length : Int) / 4
      · by_cases h3 : (v.length : Int) = (y.length : Int) / 4
        · obtain ⟨k1, _, _⟩ := chkSig_zero.1 h1
          rw [if_pos h1, if_pos (by omega)]
          exact ⟨by omega, by omega, by decide, rfl, trivial⟩
        · simp [first, whenE, h1, h2, h3] at h
      · simp [first, whenE, h1, h2] at h
    · simp [first, h1] at h
theorem so26_ : SpecOk P1 gl1 26 sp26 := by
  intro vs ps r h hp
  simp only [sp26] at h
  split at h
  · cases h; exact fn26 _ _ _ (hp _ (.head _))
  · cases h
theorem so26 : Sp1 26 sp26 := ⟨so26_, Proofs.Tryz.f26, _, by kernel_rfl, rfl, by kernel_rfl⟩
theorem fn130 (n : Int)  : Fn P1 gl1 130 [iV n] (.val (bV (lgI n))) true := by
  refine Fn.flat ?_ rfl
  refine fn_of false [] [] h0 0 Proofs.Tryz.f130 trivial trivial (by kernel_rfl) rfl (by kernel_rfl) rfl rfl rfl ?_
  rw [vc130]
  try simp only [splitB_iff, -eq_self]
  unfold lgI
  rw [bcond_l]
  exact ⟨rfl, trivial⟩
theorem so130_ : SpecOk P1 gl1 130 sp130 := by
  intro vs ps r h _
  simp only [sp130] at h
  split at h
  · cases h; exact fn130 _ 
  · cases h
theorem so130 : Sp1 130 sp130 := ⟨so130_, Proofs.Tryz.f130, _, by kernel_rfl, rfl, by kernel_rfl⟩
theorem fn138 (l : List Int) (hl : l.length ≤ 1000000) : Fn P1 gl1 138 [.one (.sl (.int .i64) l)] (.tup [.one (.frs (.flt .f32) (smpsN l)), iV (lgE l)]) true := by
  refine Fn.flat ?_ rfl
  refine fn_of false [(130, sp130), (159, sp159)] [fb157, fb194] h138 3 Proofs.Tryz.f138 ⟨so130, so159, trivial⟩ ⟨⟨by kernel_rfl, by kernel_rfl, _, rfl, by kernel_rfl⟩, ⟨by kernel_rfl, by kernel_rfl, _, rfl, by kernel_rfl⟩, trivial⟩ (by kernel_rfl) rfl (by kernel_rfl) rfl rfl rfl ?_
  rw [vc138]
  try simp only [splitB_iff, -eq_self]
  refine ⟨⟨0, ⟨by omega, fun j hj => absurd hj (by omega)⟩, rfl, rfl, rfl, trivial⟩, fun g hg => ⟨fun hlt => ?_, fun hge => ?_⟩⟩
  · have hlt : g < l.length := by simpa using hlt
    refine ⟨by omega, fun h => ?_, fun h => ?_⟩
    · have hn : l.any lgI = true := List.any_eq_true.2 ⟨_, getD_mem' hlt, h⟩
      unfold smpsN lgE
      rw [hn]
      exact ⟨rfl, rfl, trivial⟩
    · refine ⟨by simp only [fits]; omega, g + 1, ⟨by omega, fun j hj => ?_⟩, by omega, by simp, rfl, rfl, trivial⟩
      by_cases e : j = g
      · subst e; exact h
      · exact hg.2 j (by omega)
  · have hge : ¬ g < l.length := by simpa using hge
    have hn : Bd 16384 l := bd_of_lg fun j hj => hg.2 j (by omega)
    rw [smpsN_of hn, lgE_of hn]
    exact ⟨hl, bd_le hn (by omega), rfl, rfl, trivial⟩
theorem so138_ : SpecOk P1 gl1 138 sp138 := by
  intro vs ps r h hp
  simp only [sp138] at h
  split at h
  · cases h; exact fn138 _ (hp _ (.head _))
  · cases h
theorem so138 : Sp1 138 sp138 := ⟨so138_, Proofs.Tryz.f138, _, by kernel_rfl, rfl, by kernel_rfl⟩
theorem fn164 (x y : Int) (hx : -2000000000 ≤ x ∧ x ≤ 2000000000) (hy : -2000000000 ≤ y ∧ y ≤ 2000000000) : Fn P1 gl1 164 [iV x, iV y] (.val (iV (plusI x y))) true := by
  refine Fn.flat ?_ rfl
  refine fn_of false [] [] h0 0 Proofs.Tryz.f164 trivial trivial (by kernel_rfl) rfl (by kernel_rfl) rfl rfl rfl ?_
  rw [vc164]
  try simp only [splitB_iff, -eq_self]
  unfold plusI
  exact ⟨by simp only [fits]; omega, rfl, trivial⟩
theorem so164_ : SpecOk P1 gl1 164 sp164 := by
  intro vs ps r h hp
  simp only [sp164] at h
  split at h
  · cases h; exact fn164 _ _ (hp _ (.head _)) (hp _ (.tail _ (.head _)))
  · cases h
theorem so164 : Sp1 164 sp164 := ⟨so164_, Proofs.Tryz.f164, _, by kernel_rfl, rfl, by kernel_rfl⟩
theorem fn118 (x y : Int) (hx : -2000000000 ≤ x ∧ x ≤ 2000000000) (hy : -2000000000 ≤ y ∧ y ≤ 2000000000) : Fn P1 gl1 118 [iV x, iV y] (.val (iV (minusI x y))) true := by
  refine Fn.flat ?_ rfl
  refine fn_of false [] [] h0 0 Proofs.Tryz.f118 trivial trivial (by kernel_rfl) rfl (by kernel_rfl) rfl rfl rfl ?_
  rw [vc118]
  try simp only [splitB_iff, -eq_self]
  unfold minusI
  exact ⟨by simp only [fits]; omega, rfl, trivial⟩
theorem so118_ : SpecOk P1 gl1 118 sp118 := by
  intro vs ps r h hp
  simp only [sp118] at h
  split at h
  · cases h; exact fn118 _ _ (hp _ (.head _)) (hp _ (.tail _ (.head _)))
  · cases h
theorem so118 : Sp1 118 sp118 := ⟨so118_, Proofs.Tryz.f118, _, by kernel_rfl, rfl, by kernel_rfl⟩
theorem fn119 (x y : Int) (hx : -100000000 ≤ x ∧ x ≤ 100000000) (hy : -100000000 ≤ y ∧ y ≤ 100000000) : Fn P1 gl1 119 [iV x, iV y] (.val (iV (midI x y))) true := by
  refine Fn.flat ?_ rfl
  refine fn_of false [(120, sp120)] [] h0 0 Proofs.Tryz.f119 ⟨so120, trivial⟩ trivial (by kernel_rfl) rfl (by kernel_rfl) rfl rfl rfl ?_
  rw [vc119]
  try simp only [splitB_iff, -eq_self]
  unfold midI
  exact ⟨by simp only [fits]; omega, by omega, by omega, rfl, trivial⟩
theorem so119_ : SpecOk P1 gl1 119 sp119 := by
  intro vs ps r h hp
  simp only [sp119] at h
  split at h
  · cases h; exact fn119 _ _ (hp _ (.head _)) (hp _ (.tail _ (.head _)))
  · cases h
theorem so119 : Sp1 119 sp119 := ⟨so119_, Proofs.Tryz.f119, _, by kernel_rfl, rfl, by kernel_rfl⟩
theorem fn171 (x y : Int) (hx : -100000000 ≤ x ∧ x ≤ 100000000) (hy : -100000000 ≤ y ∧ y ≤ 100000000) : Fn P1 gl1 171 [iV x, iV y] (.val (iV (lessI x y))) true := by
  refine Fn.flat ?_ rfl
  refine fn_of false [] [] h0 0 Proofs.Tryz.f171 trivial trivial (by kernel_rfl) rfl (by kernel_rfl) rfl rfl rfl ?_
  rw [vc171]
  try simp only [splitB_iff, -eq_self]
  unfold lessI
  exact ⟨by simp only [fits]; omega, by simp only [fits]; omega, rfl, trivial⟩
theorem so171_ : SpecOk P1 gl1 171 sp171 := by
  intro vs ps r h hp
  simp only [sp171] at h
  split at h
  · cases h; exact fn171 _ _ (hp _ (.head _)) (hp _ (.tail _ (.head _)))
  · cases h
theorem so171 : Sp1 171 sp171 := ⟨so171_, Proofs.Tryz.f171, _, by kernel_rfl, rfl, by kernel_rfl⟩
theorem fn173 (x y : Int) (hx : -100000000 ≤ x ∧ x ≤ 100000000) (hy : -100000000 ≤ y ∧ y ≤ 100000000) : Fn P1 gl1 173 [iV x, iV y] (.val (iV (farI x y))) true := by
  refine Fn.flat ?_ rfl
  refine fn_of false [] [] h0 0 Proofs.Tryz.f173 trivial trivial (by kernel_rfl) rfl (by kernel_rfl) rfl rfl rfl ?_
  rw [vc173]
  try simp only [splitB_iff, -eq_self]
  unfold farI
  exact ⟨by simp only [fits]; omega, by simp only [fits]; omega, rfl, trivial⟩
theorem so173_ : SpecOk P1 gl1 173 sp173 := by
  intro vs ps r h hp
  simp only [sp173] at h
  split at h
  · cases h; exact fn173 _ _ (hp _ (.head _)) (hp _ (.tail _ (.head _)))
  · cases h
theorem so173 : Sp1 173 sp173 := ⟨so173_, Proofs.Tryz.f173, _, by kernel_rfl, rfl, by kernel_rfl⟩
theorem fn117a (a b : List Int) (hl : a.length ≤ 100000) (hb : b.length = a.length) (h1 : Bd 1000000 a) (h2 : Bd 1000000 b) : Fn P1 gl1 117 [.one (.sl (.int .i64) a), .one (.sl (.int .i64) b), .one (.fn 164 [] [])] (.val (.one (.frs (.int .i64) (combI plusI a b)))) true := by
  refine Fn.flat ?_ rfl
  refine fn_of false [(164, sp164)] [] h117 0 Proofs.Tryz.f117 ⟨so164, trivial⟩ trivial (by kernel_rfl) rfl (by kernel_rfl) rfl rfl rfl ?_
  rw [vc117a]
  try simp only [splitB_iff, -eq_self]
  simp only [List.length_replicate, fillTo_len, -eq_self]
  refine ⟨by omega, by simp only [room]; omega, ⟨0, Nat.zero_le _, rfl, rfl, rfl, rfl, (fillTo_zero _ _ _).symm, trivial⟩, fun g hg => ⟨fun hlt => ?_, fun hge => ?_⟩⟩
  · have hlt : g < a.length := by simpa using hlt
    have k1 := bd_get h1 (i := g) (by omega)
    have k2 := bd_get h2 (i := g) (by omega)
    exact ⟨by omega, by omega, by omega, by omega, by omega, hlt, by simp only [fits]; omega, g + 1, hlt, by omega, by simp, rfl, rfl, rfl, fillTo_set _ _ _ _, trivial⟩
  · have hge : ¬ g < a.length := by simpa using hge
    rw [fillTo_all _ _ _ _ (by omega)]
    exact ⟨rfl, trivial⟩
theorem fn117b (a b : List Int) (hl : a.length ≤ 100000) (hb : b.length = a.length) (h1 : Bd 1000000 a) (h2 : Bd 1000000 b) : Fn P1 gl1 117 [.one (.sl (.int .i64) a), .one (.sl (.int .i64) b), .one (.fn 118 [] [])] (.val (.one (.frs (.int .i64) (combI minusI a b)))) true := by
  refine Fn.flat ?_ rfl
  refine fn_of false [(118, sp118)] [] h117 0 Proofs.Tryz.f117 ⟨so118, trivial⟩ trivial (by kernel_rfl) rfl (by kernel_rfl) rfl rfl rfl ?_
  rw [vc117b]
  try simp only [splitB_iff, -eq_self]
  simp only [List.length_replicate, fillTo_len, -eq_self]
  refine ⟨by omega, by simp only [room]; omega, ⟨0, Nat.zero_le _, rfl, rfl, rfl, rfl, (fillTo_zero _ _ _).symm, trivial⟩, fun g hg => ⟨fun hlt => ?_, fun hge => ?_⟩⟩
  · have hlt : g < a.length := by simpa using hlt
    have k1 := bd_get h1 (i := g) (by omega)
    have k2 := bd_get h2 (i := g) (by omega)
    exact ⟨by omega, by omega, by omega, by omega, by omega, hlt, by simp only [fits]; omega, g + 1, hlt, by omega, by simp, rfl, rfl, rfl, fillTo_set _ _ _ _, trivial⟩
  · have hge : ¬ g < a.length := by simpa using hge
    rw [fillTo_all _ _ _ _ (by omega)]
    exact ⟨rfl, trivial⟩
theorem fn117c (a b : List Int) (hl : a.length ≤ 100000) (hb : b.length = a.length) (h1 : Bd 1000000 a) (h2 : Bd 1000000 b) : Fn P1 gl1 117 [.one (.sl (.int .i64) a), .one (.sl (.int .i64) b), .one (.fn 119 [] [])] (.val (.one (.frs (.int .i64) (combI midI a b)))) true := by
  refine Fn.flat ?_ rfl
  refine fn_of false [(119, sp119)] [] h117 0 Proofs.Tryz.f117 ⟨so119, trivial⟩ trivial (by kernel_rfl) rfl (by kernel_rfl) rfl rfl rfl ?_
  rw [vc117c]
  try simp only [splitB_iff, -eq_self]
  simp only [List.length_replicate, fillTo_len, -eq_self]
  refine ⟨by omega, by simp only [room]; omega, ⟨0, Nat.zero_le _, rfl, rfl, rfl, rfl, (fillTo_zero _ _ _).symm, trivial⟩, fun g hg => ⟨fun hlt => ?_, fun hge => ?_⟩⟩
  · have hlt : g < a.length := by simpa using hlt
    have k1 := bd_get h1 (i := g) (by omega)
    have k2 := bd_get h2 (i := g) (by omega)
    exact ⟨by omega, by omega, by omega, by omega, by omega, hlt, by simp only [fits]; omega, g + 1, hlt, by omega, by simp, rfl, rfl, rfl, fillTo_set _ _ _ _, trivial⟩
  · have hge : ¬ g < a.length := by simpa using hge
    rw [fillTo_all _ _ _ _ (by omega)]
    exact ⟨rfl, trivial⟩
theorem fn117d (a b : List Int) (hl : a.length ≤ 100000) (hb : b.length = a.length) (h1 : Bd 1000000 a) (h2 : Bd 1000000 b) : Fn P1 gl1 117 [.one (.sl (.int .i64) a), .one (.sl (.int .i64) b), .one (.fn 171 [] [])] (.val (.one (.frs (.int .i64) (combI lessI a b)))) true := by
  refine Fn.flat ?_ rfl
  refine fn_of false [(171, sp171)] [] h117 0 Proofs.Tryz.f117 ⟨so171, trivial⟩ trivial (by kernel_rfl) rfl (by kernel_rfl) rfl rfl rfl ?_
  rw [vc117d]
  try simp only [splitB_iff, -eq_self]
  simp only [List.length_replicate, fillTo_len, -eq_self]
  refine ⟨by omega, by simp only [room]; omega, ⟨0, Nat.zero_le _, rfl, rfl, rfl, rfl, (fillTo_zero _ _ _).symm, trivial⟩, fun g hg => ⟨fun hlt => ?_, fun hge => ?_⟩⟩
  · have hlt : g < a.length := by simpa using hlt
    have k1 := bd_get h1 (i := g) (by omega)
    have k2 := bd_get h2 (i := g) (by omega)
    exact ⟨by omega, by omega, by omega, by omega, by omega, hlt, by simp only [fits]; omega, g + 1, hlt, by omega, by simp, rfl, rfl, rfl, fillTo_set _ _ _ _, trivial⟩
  · have hge : ¬ g < a.length := by simpa using hge
    rw [fillTo_all _ _ _ _ (by omega)]
    exact ⟨rfl, trivial⟩
theorem fn117e (a b : List Int) (hl : a.length ≤ 100000) (hb : b.length = a.length) (h1 : Bd 1000000 a) (h2 : Bd 1000000 b) : Fn P1 gl1 117 [.one (.sl (.int .i64) a), .one (.sl (.int .i64) b), .one (.fn 173 [] [])] (.val (.one (.frs (.int .i64) (combI farI a b)))) true := by
  refine Fn.flat ?_ rfl
  refine fn_of false [(173, sp173)] [] h117 0 Proofs.Tryz.f117 ⟨so173, trivial⟩ trivial (by kernel_rfl) rfl (by kernel_rfl) rfl rfl rfl ?_
  rw [vc117e]
  try simp only [splitB_iff, -eq_self]
  simp only [List.length_replicate, fillTo_len, -eq_self]
  refine ⟨by omega, by simp only [room]; omega, ⟨0, Nat.zero_le _, rfl, rfl, rfl, rfl, (fillTo_zero _ _ _).symm, trivial⟩, fun g hg => ⟨fun hlt => ?_, fun hge => ?_⟩⟩
  · have hlt : g < a.length := by simpa using hlt
    have k1 := bd_get h1 (i := g) (by omega)
    have k2 := bd_get h2 (i := g) (by omega)
    exact ⟨by omega, by omega, by omega, by omega, by omega, hlt, by simp only [fits]; omega, g + 1, hlt, by omega, by simp, rfl, rfl, rfl, fillTo_set _ _ _ _, trivial⟩
  · have hge : ¬ g < a.length := by simpa using hge
    rw [fillTo_all _ _ _ _ (by omega)]
    exact ⟨rfl, trivial⟩
theorem so117_ : SpecOk P1 gl1 117 sp117 := by
  intro vs ps r h hp
  simp only [sp117] at h
  split at h
  · rename_i a b g
    split at h
    · rename_i f hf
      cases h
      have p1 := hp _ (.head _)
      have p2 := hp _ (.tail _ (.head _))
      have p3 := hp _ (.tail _ (.tail _ (.head _)))
      have p4 := hp _ (.tail _ (.tail _ (.tail _ (.head _))))
      unfold fnI at hf
      split at hf
      · cases hf; exact fn117a a b p1 p2 p3 p4
      · cases hf; exact fn117b a b p1 p2 p3 p4
      · cases hf; exact fn117c a b p1 p2 p3 p4
      · cases hf; exact fn117d a b p1 p2 p3 p4
      · cases hf; exact fn117e a b p1 p2 p3 p4
      · cases hf
    · cases h
  · cases h
theorem so117 : Sp1 117 sp117 := ⟨so117_, Proofs.Tryz.f117, _, by kernel_rfl, rfl, by kernel_rfl⟩
theorem fn163 (u v : List Int) (line : Int) (hl : u.length ≤ 100000) (hv : v.length = u.length) (h1 : Bd 1000000 u) (h2 : Bd 1000000 v) (hn : 0 ≤ line) : Fn P1 gl1 163 [.one (.sl (.int .i64) u), .one (.sl (.int .i64) v), iV line] (.val (.one (.frs (.int .i64) (carI u v (signI line))))) true := by
  refine Fn.flat ?_ rfl
  refine fn_of false [(170, sp170)] [] h163 0 Proofs.Tryz.f163 ⟨so170, trivial⟩ trivial (by kernel_rfl) rfl (by kernel_rfl) rfl rfl rfl ?_
  rw [vc163]
  try simp only [splitB_iff, -eq_self]
  have hs := signI_cases line
  generalize signI line = s at *
  refine ⟨hn, ⟨0, Nat.zero_le _, rfl, rfl, rfl, rfl, rfl, rfl, trivial⟩, fun g hg => ⟨fun hlt => ?_, fun hge => ?_⟩⟩
  · have hlt : g < u.length := by simpa using hlt
    have k1 := bd_get h1 (i := g) (by omega)
    have k2 := bd_get h2 (i := g) (by omega)
    refine ⟨by omega, ?_, by omega, ?_, ?_, by omega, ?_, ?_, by omega, ?_, by simp only [room, tab_len]; omega, by simp only [fits]; omega, g + 1, hlt, by omega, by simp, rfl, rfl, rfl, rfl, car_step _ _ _ _, trivial⟩ <;> simp only [fits] <;> rcases hs with rfl | rfl <;> omega
  · have hge : ¬ g < u.length := by simpa using hge
    have hg : g ≤ u.length := hg
    have e : g = u.length := by omega
    subst e
    exact ⟨rfl, trivial⟩
theorem so163_ : SpecOk P1 gl1 163 sp163 := by
  intro vs ps r h hp
  simp only [sp163] at h
  split at h
  · cases h; exact fn163 _ _ _ (hp _ (.head _)) (hp _ (.tail _ (.head _))) (hp _ (.tail _ (.tail _ (.head _)))) (hp _ (.tail _ (.tail _ (.tail _ (.head _))))) (hp _ (.tail _ (.tail _ (.tail _ (.tail _ (.head _))))))
  · cases h
theorem so163 : Sp1 163 sp163 := ⟨so163_, Proofs.Tryz.f163, _, by kernel_rfl, rfl, by kernel_rfl⟩
theorem fn97 (y u v : List Nat) (line : Int) (hp : chkPt y u v = 0) (hn : 0 ≤ line) : Fn P1 gl1 97 [ptV y u v, iV line] (.tup [.one (.frs (.flt .f32) (smpsN (encI y u v line))), iV (lgE (encI y u v line))]) true := by
  refine Fn.flat ?_ rfl
  refine fn_of false [(108, sp108), (163, sp163), (117, sp117), (138, sp138), (164, sp164)] [] h0 0 Proofs.Tryz.f97 ⟨so108, so163, so117, so138, so164, trivial⟩ trivial (by kernel_rfl) rfl (by kernel_rfl) rfl rfl rfl ?_
  rw [vc97]
  try simp only [splitB_iff, -eq_self]
  obtain ⟨h1, h2, h3, h4, h5⟩ := chkPt_zero.1 hp
  obtain ⟨k1, k2, k3⟩ := chkSig_zero.1 h1
  simp only [sixs_len, carI_len, combI_len, -eq_self]
  have b1 : Bd 1000000 (sixs u) := bd_le (bd_sixs h4) (by omega)
  have b2 : Bd 1000000 (sixs v) := bd_le (bd_sixs h5) (by omega)
  exact ⟨by omega, k3, by omega, h4, by omega, h5, by omega, by omega, b1, b2, hn, by omega, by omega, bd_le (bd_sixs k3) (by omega), bd_car (signI_cases _) (by omega) b1 b2, by omega, rfl, rfl, trivial⟩
theorem so97_ : SpecOk P1 gl1 97 sp97 := by
  intro vs ps r h hp
  simp only [sp97] at h
  split at h
  · cases h; exact fn97 _ _ _ _ (hp _ (.head _)) (hp _ (.tail _ (.head _)))
  · cases h
theorem so97 : Sp1 97 sp97 := ⟨so97_, Proofs.Tryz.f97, _, by kernel_rfl, rfl, by kernel_rfl⟩
theorem fn20 (y u v : List Nat) (line : Int) (hl : y.length ≤ 1000000000) : Fn P1 gl1 20 [ptV y u v, iV line] (.tup [.one (.frs (.flt .f32) (encL y u v line)), iV (encE y u v line)]) true := by
  refine Fn.flat ?_ rfl
  refine fn_of false [(26, sp26), (96, sp96), (95, sp95), (97, sp97)] [] h0 0 Proofs.Tryz.f20 ⟨so26, so96, so95, so97, trivial⟩ trivial (by kernel_rfl) rfl (by kernel_rfl) rfl rfl rfl ?_
  rw [vc20]
  try simp only [splitB_iff, -eq_self]
  unfold encL encE
  refine ⟨hl, by decide, fun h => ?_, fun h => ?_⟩
  · have h : ¬ first [chkPt y u v, within line 0 10000000] = 0 := by simpa using h
    rw [if_pos h, if_pos h]
    exact ⟨rfl, rfl, trivial⟩
  · have h : first [chkPt y u v, within line 0 10000000] = 0 := by simpa using h
    rw [if_neg (fun e => e h), if_neg (fun e => e h)]
    have h2 := first_zero.1 h
    have hl : 0 ≤ line := by
      have := h2 _ (.tail _ (.head _))
      unfold within at this
      split at this <;> omega
    exact ⟨h2 _ (.head _), hl, rfl, rfl, trivial⟩
theorem fn98 (l : List Nat) (hl : l.length ≤ 1000000) : Fn P1 gl1 98 [.one (.sl (.flt .f32) l)] (.val (iV (chkSs l))) true := by
  refine Fn.flat ?_ rfl
  refine fn_of false [(69, sp69)] [] h138 0 Proofs.Tryz.f98 ⟨so69, trivial⟩ trivial (by kernel_rfl) rfl (by kernel_rfl) rfl rfl rfl ?_
  rw [vc98]
  try simp only [splitB_iff, -eq_self]
  refine ⟨⟨0, ⟨by omega, rfl⟩, rfl, rfl, trivial⟩, fun g hg => ⟨fun hlt => ?_, fun hge => ?_⟩⟩
  · have hlt : g < l.length := by simpa using hlt
    have e : first (List.drop g (l.map chkS)) = if chkS (List.getD l g 0) = 0 then first (List.drop (g + 1) (l.map chkS)) else chkS (List.getD l g 0) := by
      rw [first_drop _ _ (by simpa using hlt), List.getElem_map, getD_of hlt]
    refine ⟨by omega, fun h => ⟨?_, trivial⟩, fun h => ⟨by simp only [fits]; omega, g + 1, ⟨by omega, ?_⟩, by omega, by simp, rfl, trivial⟩⟩
    · rw [hg.2, e, if_neg (by simpa using h)]
    · rw [hg.2, e, if_pos (by simpa using h)]
  · have hge : ¬ g < l.length := by simpa using hge
    rw [hg.2, List.drop_of_length_le (by rw [List.length_map]; omega)]
    exact ⟨rfl, trivial⟩
theorem so98_ : SpecOk P1 gl1 98 sp98 := by
  intro vs ps r h hp
  simp only [sp98] at h
  split at h
  · cases h; exact fn98 _ (hp _ (.head _))
  · cases h
theorem so98 : Sp1 98 sp98 := ⟨so98_, Proofs.Tryz.f98, _, by kernel_rfl, rfl, by kernel_rfl⟩
theorem fn36 (l : List Nat)  : Fn P1 gl1 36 [.one (.sl (.flt .f32) l)] (.val (iV (chkSig l))) true := by
  refine Fn.flat ?_ rfl
  refine fn_of false [(98, sp98)] [] h0 0 Proofs.Tryz.f36 ⟨so98, trivial⟩ trivial (by kernel_rfl) rfl (by kernel_rfl) rfl rfl rfl ?_
  rw [vc36]
  try simp only [splitB_iff, -eq_self]
  unfold chkSig
  refine ⟨fun h => ?_, fun h => ⟨by omega, fun k => ?_, fun k => ?_⟩⟩
  · have h : (256 : Int) < (l.length : Int) := of_decide_eq_true h
    rw [if_pos (by omega)]; exact ⟨rfl, trivial⟩
  · have h : ¬ (256 : Int) < (l.length : Int) := of_decide_eq_false h
    have k : ¬ (l.length : Int) % 4 = 0 := by simpa using k
    rw [if_neg (by omega), if_neg (by omega)]; exact ⟨rfl, trivial⟩
  · have h : ¬ (256 : Int) < (l.length : Int) := of_decide_eq_false h
    have k : (l.length : Int) % 4 = 0 := by simpa using k
    rw [if_neg (by omega), if_pos (by omega)]; exact ⟨by omega, rfl, trivial⟩
theorem so36_ : SpecOk P1 gl1 36 sp36 := by
  intro vs ps r h _
  simp only [sp36] at h
  split at h
  · cases h; exact fn36 _ 
  · cases h
theorem so36 : Sp1 36 sp36 := ⟨so36_, Proofs.Tryz.f36, _, by kernel_rfl, rfl, by kernel_rfl⟩
theorem fn23 (y u v : List Nat) (hl : y.length ≤ 1000000000) : Fn P1 gl1 23 [ptV y u v] (.val (iV (chkPt y u v))) true := by
  refine Fn.flat ?_ rfl
  refine fn_of false [(36, sp36), (98, sp98), (22, sp22)] [] h0 0 Proofs.Tryz.f23 ⟨so36, so98, so22, trivial⟩ trivial (by kernel_rfl) rfl (by kernel_rfl) rfl rfl rfl ?_
  rw [vc23]
  try simp only [splitB_iff, -eq_self]
  unfold chkPt
  simp only [bcond_l, Bool.or_eq_true, Bool.or_eq_false_iff, bne_iff_ne, bne_eq_false_iff_eq]
  refine ⟨fun h => ?_, fun h => ⟨⟨by omega, by decide, by simp only [fits]; omega⟩, fun _ => ⟨by omega, by decide, by simp only [fits]; omega⟩, fun k => ?_, fun k => ?_⟩⟩
  · rw [if_neg h]; exact ⟨rfl, trivial⟩
  · rw [if_pos h, if_neg (by omega)]; exact ⟨rfl, trivial⟩
  · obtain ⟨k1, _, _⟩ := chkSig_zero.1 h
    rw [if_pos h, if_pos (by omega)]
    exact ⟨by omega, by omega, by decide, rfl, trivial⟩
theorem so23_ : SpecOk P1 gl1 23 sp23 := by
  intro vs ps r h hp
  simp only [sp23] at h
  split at h
  · cases h; exact fn23 _ _ _ (hp _ (.head _))
  · cases h
theorem so23 : Sp1 23 sp23 := ⟨so23_, Proofs.Tryz.f23, _, by kernel_rfl, rfl, by kernel_rfl⟩
theorem fn30 (l : List Nat)  : Fn P1 gl1 30 [.one (.sl (.flt .f32) l)] (.val (bV (shortS l))) true := by
  refine Fn.flat ?_ rfl
  refine fn_of false [] [] h0 0 Proofs.Tryz.f30 trivial trivial (by kernel_rfl) rfl (by kernel_rfl) rfl rfl rfl ?_
  rw [vc30]
  try simp only [splitB_iff, -eq_self]
  unfold shortS
  rw [bcond_l]
  refine ⟨?_, trivial⟩
  rw [Bool.eq_iff_iff]
  simp
theorem so30_ : SpecOk P1 gl1 30 sp30 := by
  intro vs ps r h _
  simp only [sp30] at h
  split at h
  · cases h; exact fn30 _ 
  · cases h
theorem so30 : Sp1 30 sp30 := ⟨so30_, Proofs.Tryz.f30, _, by kernel_rfl, rfl, by kernel_rfl⟩
theorem fn18 (y u v : List Nat)  : Fn P1 gl1 18 [ptV y u v] (.val (bV (shortP y u v))) true := by
  refine Fn.flat ?_ rfl
  refine fn_of false [(30, sp30)] [] h0 0 Proofs.Tryz.f18 ⟨so30, trivial⟩ trivial (by kernel_rfl) rfl (by kernel_rfl) rfl rfl rfl ?_
  rw [vc18]
  try simp only [splitB_iff, -eq_self]
  unfold shortP
  cases shortS y <;> simp
theorem so18_ : SpecOk P1 gl1 18 sp18 := by
  intro vs ps r h _
  simp only [sp18] at h
  split at h
  · cases h; exact fn18 _ _ _ 
  · cases h
theorem so18 : Sp1 18 sp18 := ⟨so18_, Proofs.Tryz.f18, _, by kernel_rfl, rfl, by kernel_rfl⟩
theorem fn34 (l : List Nat) (hl : l.length ≤ 1000000) : Fn P1 gl1 34 [.one (.sl (.flt .f32) l)] (.val (.one (.frs (.flt .f32) l))) true := by
  refine Fn.flat ?_ rfl
  refine fn_of false [] [] h0 0 Proofs.Tryz.f34 trivial trivial (by kernel_rfl) rfl (by kernel_rfl) rfl rfl rfl ?_
  rw [vc34]
  try simp only [splitB_iff, -eq_self]
  exact ⟨by simp only [room]; omega, rfl, trivial⟩
theorem so34_ : SpecOk P1 gl1 34 sp34 := by
  intro vs ps r h hp
  simp only [sp34] at h
  split at h
  · cases h; exact fn34 _ (hp _ (.head _))
  · cases h
theorem so34 : Sp1 34 sp34 := ⟨so34_, Proofs.Tryz.f34, _, by kernel_rfl, rfl, by kernel_rfl⟩
theorem fn21 (y u v : List Nat) (h1 : y.length ≤ 1000000) (h2 : u.length ≤ 1000000) (h3 : v.length ≤ 1000000) : Fn P1 gl1 21 [ptV y u v] (.val (ptV y u v)) true := by
  refine fn_ofr false [(34, sp34)] [] h0 0 Proofs.Tryz.f21 ⟨so34, trivial⟩ trivial (by kernel_rfl) rfl (by kernel_rfl) rfl rfl rfl ?_
  rw [vc21]
  try simp only [splitB_iff, -eq_self]
  exact ⟨h1, h2, h3, rfl, rfl, rfl, trivial⟩
theorem so21_ : SpecOk P1 gl1 21 sp21 := by
  intro vs ps r h hp
  simp only [sp21] at h
  split at h
  · cases h; exact fn21 _ _ _ (hp _ (.head _)) (hp _ (.tail _ (.head _))) (hp _ (.tail _ (.tail _ (.head _))))
  · cases h
theorem so21 : Sp1 21 sp21 := ⟨so21_, Proofs.Tryz.f21, _, by kernel_rfl, rfl, by kernel_rfl⟩
theorem fn27 (a b : List Nat) (hl : a.length ≤ 1000000000) : Fn P1 gl1 27 [.one (.sl (.flt .f32) a), .one (.sl (.flt .f32) b)] (.val (bV (sameS a b))) true := by
  refine Fn.flat ?_ rfl
  refine fn_of false [] [] h138 0 Proofs.Tryz.f27 trivial trivial (by kernel_rfl) rfl (by kernel_rfl) rfl rfl rfl ?_
  rw [vc27]
  try simp only [splitB_iff, -eq_self]
  have key : ∀ i, (Ieee.Format.order (FloatKind.format FloatKind.f32) (List.getD a i 0) (List.getD b i 0) != some Ordering.eq) = !Op.floatEq .f32 (List.getD a i 0) (List.getD b i 0) := fun _ => rfl
  simp only [key, Bool.not_eq_true', Bool.not_eq_false', -eq_self]
  refine ⟨fun h => ?_, fun h => ⟨⟨0, ⟨by omega, fun j hj => absurd hj (by omega)⟩, rfl, rfl, rfl, trivial⟩, fun g hg => ⟨fun hlt => ⟨?_, ?_, fun k => ?_, fun k => ?_⟩, fun hge => ?_⟩⟩⟩
  · have h : ¬ (a.length : Int) = b.length := by simpa using h
    unfold sameS
    rw [decide_eq_false h]
    exact ⟨rfl, trivial⟩
  · have hlt : g < a.length := by simpa using hlt
    omega
  · have h : (a.length : Int) = b.length := by simpa using h
    have hlt : g < a.length := by simpa using hlt
    omega
  · have hlt : g < a.length := by simpa using hlt
    have : sameS a b = false := by
      unfold sameS
      rw [Bool.and_eq_false_iff]
      refine .inr ?_
      rw [List.all_eq_false]
      exact ⟨g, List.mem_range.2 hlt, by rw [k]; decide⟩
    rw [this]
    exact ⟨rfl, trivial⟩
  · have hlt : g < a.length := by simpa using hlt
    refine ⟨by simp only [fits]; omega, g + 1, ⟨by omega, fun j hj => ?_⟩, by omega, by simp, rfl, rfl, trivial⟩
    by_cases e : j = g
    · subst e; exact k
    · exact hg.2 j (by omega)
  · have h : (a.length : Int) = b.length := by simpa using h
    have hge : ¬ g < a.length := by simpa using hge
    have : sameS a b = true := by
      unfold sameS
      simp only [Bool.and_eq_true, decide_eq_true_eq, List.all_eq_true, List.mem_range]
      exact ⟨h, fun i hi => hg.2 i (by omega)⟩
    rw [this]
    exact ⟨rfl, trivial⟩
theorem so27_ : SpecOk P1 gl1 27 sp27 := by
  intro vs ps r h hp
  simp only [sp27] at h
  split at h
  · cases h; exact fn27 _ _ (hp _ (.head _))
  · cases h
theorem so27 : Sp1 27 sp27 := ⟨so27_, Proofs.Tryz.f27, _, by kernel_rfl, rfl, by kernel_rfl⟩
end Go.Sx
