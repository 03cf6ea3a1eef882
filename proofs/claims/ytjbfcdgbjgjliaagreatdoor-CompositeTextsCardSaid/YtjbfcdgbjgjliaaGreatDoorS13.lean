/- A verified symbolic run of functions, part 13: lemmas, no claim of their own. -/
import Derived.Test.YtjbfcdgbjgjliaaGreatDoorS12
namespace Go.Sx.U
def tab {α : Type} (n : Nat) (f : Nat → α) : List α := (List.range n).map f
theorem tab_len {α : Type} (n : Nat) (f : Nat → α) : (tab n f).length = n := by simp [tab]
theorem tab_getElem {α : Type} {n i : Nat} {f : Nat → α} (h : i < (tab n f).length) : (tab n f)[i] = f i := by simp [tab]
theorem tab_get {α : Type} {n i : Nat} {f : Nat → α} {d : α} (h : i < n) : List.getD (tab n f) i d = f i := by
  rw [List.getD_eq_getElem?_getD, List.getElem?_eq_getElem (by rw [tab_len]; exact h)]
  simp [tab]
theorem tab_ext {α : Type} {n : Nat} {f g : Nat → α} (h : ∀ i, i < n → f i = g i) : tab n f = tab n g := by
  unfold tab
  exact List.map_congr_left fun i hi => h i (List.mem_range.1 hi)
theorem tab_succ {α : Type} (n : Nat) (f : Nat → α) : tab (n + 1) f = tab n f ++ [f n] := by
  unfold tab
  rw [List.range_succ, List.map_append]; rfl
theorem tab_set {α : Type} (n : Nat) (f : Nat → α) (i : Nat) (v : α) : (tab n f).set i v = tab n fun j => if j = i then v else f j := by
  refine List.ext_getElem (by simp [tab]) fun j h1 h2 => ?_
  rw [List.getElem_set, tab_getElem, tab_getElem]
  by_cases h : i = j
  · rw [if_pos h, if_pos h.symm]
  · rw [if_neg h, if_neg fun e => h e.symm]
theorem mem_tab {α : Type} {n : Nat} {f : Nat → α} {x : α} (h : x ∈ tab n f) : ∃ i, i < n ∧ f i = x := by
  unfold tab at h
  obtain ⟨i, hi, e⟩ := List.mem_map.1 h
  exact ⟨i, List.mem_range.1 hi, e⟩
def fillTo {α : Type} (d : α) (n : Nat) (f : Nat → α) (i : Nat) : List α := tab n fun j => if j < i then f j else d
theorem fillTo_zero {α : Type} (d : α) (n : Nat) (f : Nat → α) : fillTo d n f 0 = List.replicate n d := by
  unfold fillTo
  refine List.ext_getElem (by simp [tab]) fun j h1 h2 => ?_
  rw [tab_getElem, List.getElem_replicate, if_neg (by omega)]
theorem fillTo_len {α : Type} (d : α) (n : Nat) (f : Nat → α) (i : Nat) : (fillTo d n f i).length = n := by unfold fillTo; rw [tab_len]
theorem fillTo_all {α : Type} (d : α) (n : Nat) (f : Nat → α) (i : Nat) (h : n ≤ i) : fillTo d n f i = tab n f := by
  unfold fillTo
  exact tab_ext fun j hj => if_pos (by omega)
theorem fillTo_set {α : Type} (d : α) (n : Nat) (f : Nat → α) (i : Nat) : (fillTo d n f i).set i (f i) = fillTo d n f (i + 1) := by
  unfold fillTo
  rw [tab_set]
  refine tab_ext fun j _ => ?_
  by_cases h : j = i
  · subst h; rw [if_pos rfl, if_pos (by omega)]
  · rw [if_neg h]
    by_cases h2 : j < i
    · rw [if_pos h2, if_pos (by omega)]
    · rw [if_neg h2, if_neg (by omega)]
def putTo {α : Type} (d : α) (l : List α) (f : Nat → α) (i : Nat) : List α := tab l.length fun j => if j < i then f j else List.getD l j d
theorem getD_mem' {α : Type} {l : List α} {i : Nat} {d : α} (h : i < l.length) : List.getD l i d ∈ l := by
  rw [List.getD_eq_getElem?_getD, List.getElem?_eq_getElem h]
  exact List.getElem_mem h
def OkS (l : List Nat) : Prop := ∀ b ∈ l, chkS b = 0
def Bd (B : Int) (l : List Int) : Prop := ∀ n ∈ l, -B ≤ n ∧ n ≤ B
def sixs (l : List Nat) : List Int := l.map six
def chkSs (l : List Nat) : Int := first (l.map chkS)
def lgI (n : Int) : Bool := decide (n < -16384) || decide (16384 < n)
def lgE (l : List Int) : Int := if l.any lgI then 4 else 0
def smpsN (l : List Int) : List Nat := if l.any lgI then [] else l.map smp
theorem bd_get {B : Int} {l : List Int} (h : Bd B l) {i : Nat} (hB : 0 ≤ B) : -B ≤ List.getD l i 0 ∧ List.getD l i 0 ≤ B := by
  by_cases hi : i < l.length
  · exact h _ (getD_mem' hi)
  · rw [List.getD_eq_getElem?_getD, List.getElem?_eq_none (by omega), Option.getD_none]
    omega
theorem bd_le {A B : Int} {l : List Int} (h : Bd A l) (hl : A ≤ B) : Bd B l := fun n hn => by
  have := h n hn
  omega
theorem bd_tab {B : Int} {n : Nat} {f : Nat → Int} (h : ∀ i, i < n → -B ≤ f i ∧ f i ≤ B) : Bd B (tab n f) := fun x hx => by
  obtain ⟨i, hi, e⟩ := mem_tab hx
  rw [← e]
  exact h i hi
theorem sixs_len (l : List Nat) : (sixs l).length = l.length := by simp [sixs]
theorem chk_six {b : Nat} (h : chkS b = 0) : -16384 ≤ six b ∧ six b ≤ 16384 := (chkS_zero.1 h).2.2
theorem bd_sixs {l : List Nat} (h : OkS l) : Bd 16384 (sixs l) := fun n hn => by
  obtain ⟨b, hb, e⟩ := List.mem_map.1 hn
  rw [← e]
  exact chk_six (h b hb)
theorem six_zero : six 0 = 0 := by
  unfold six vW
  rw [read_0]
  rfl
theorem sixs_get (l : List Nat) (i : Nat) : List.getD (sixs l) i 0 = six (List.getD l i 0) := by
  unfold sixs
  by_cases hi : i < l.length
  · rw [List.getD_eq_getElem?_getD, List.getD_eq_getElem?_getD, List.getElem?_map, List.getElem?_eq_getElem hi]; rfl
  · rw [List.getD_eq_getElem?_getD, List.getD_eq_getElem?_getD, List.getElem?_map, List.getElem?_eq_none (by omega), Option.map_none, Option.getD_none, Option.getD_none, six_zero]
theorem first_zero : ∀ {l : List Int}, first l = 0 ↔ ∀ n ∈ l, n = 0
  | [] => by simp [first]
  | x :: r => by
    unfold first
    by_cases h : x = 0
    · rw [if_pos h, first_zero]; simp [h]
    · rw [if_neg h]; simp [h]
theorem chkSs_zero {l : List Nat} : chkSs l = 0 ↔ OkS l := by
  unfold chkSs OkS
  rw [first_zero]
  simp
theorem lgI_false {n : Int} : lgI n = false ↔ -16384 ≤ n ∧ n ≤ 16384 := by
  unfold lgI
  simp only [Bool.or_eq_false_iff, decide_eq_false_iff_not]
  omega
theorem any_lg {l : List Int} : l.any lgI = false ↔ Bd 16384 l := by
  rw [List.any_eq_false]
  constructor
  · intro h n hn
    exact lgI_false.1 (by simpa using h n hn)
  · intro h n hn
    rw [lgI_false.2 (h n hn)]; decide
theorem lgE_zero {l : List Int} : lgE l = 0 ↔ Bd 16384 l := by
  unfold lgE
  rw [← any_lg]
  cases l.any lgI <;> simp
theorem smpsN_of {l : List Int} (h : Bd 16384 l) : smpsN l = l.map smp := by
  unfold smpsN
  rw [any_lg.2 h]; simp
theorem lgE_of {l : List Int} (h : Bd 16384 l) : lgE l = 0 := lgE_zero.2 h
theorem within_zero {n lo hi : Int} : within n lo hi = 0 ↔ lo ≤ n ∧ n ≤ hi := by
  unfold within
  split <;> constructor <;> intro h <;> omega
theorem within_lo {n hi : Int} (h : within n 0 hi = 0) : 0 ≤ n := (within_zero.1 h).1
def chkSig (l : List Nat) : Int := if 256 < l.length then 5 else if l.length % 4 = 0 then chkSs l else 2
def chkPt (y u v : List Nat) : Int :=
  if chkSig y = 0 then (if u.length = y.length / 4 ∧ v.length = y.length / 4 then first [chkSs u, chkSs v] else 2) else chkSig y
theorem chkSig_zero {l : List Nat} : chkSig l = 0 ↔ l.length ≤ 256 ∧ l.length % 4 = 0 ∧ OkS l := by
  unfold chkSig
  rw [← chkSs_zero]
  by_cases h1 : 256 < l.length
  · simp [h1]; omega
  · by_cases h2 : l.length % 4 = 0
    · simp [h1, h2]; omega
    · simp [h1, h2]
theorem chkPt_zero {y u v : List Nat} : chkPt y u v = 0 ↔ chkSig y = 0 ∧ u.length = y.length / 4 ∧ v.length = y.length / 4 ∧ OkS u ∧ OkS v := by
  unfold chkPt
  rw [← chkSs_zero, ← chkSs_zero]
  by_cases h1 : chkSig y = 0
  · by_cases h2 : u.length = y.length / 4
    · by_cases h3 : v.length = y.length / 4
      · by_cases h4 : chkSs u = 0
        · by_cases h5 : chkSs v = 0 <;> simp [first, h1, h2, h3, h4, h5]
        · simp [first, h1, h2, h3, h4]
      · simp [h1, h2, h3]
    · simp [h1, h2]
  · simp [h1]
def plusI (x y : Int) : Int := x + y
def minusI (x y : Int) : Int := x - y
def midI (x y : Int) : Int := roundI (x + y) 2
def lessI (x y : Int) : Int := 2 * x - y
def farI (x y : Int) : Int := max (x - y) (y - x)
def combI (f : Int → Int → Int) (a b : List Int) : List Int := tab a.length fun i => f (List.getD a i 0) (List.getD b i 0)
theorem combI_len (f : Int → Int → Int) (a b : List Int) : (combI f a b).length = a.length := by unfold combI; rw [tab_len]
def carN (u v : Int) (k : Nat) (g : Int) : Int := match k with
  | 0 => g * u
  | 1 => g * v
  | 2 => -g * u
  | _ => -g * v
def carI (u v : List Int) (g : Int) : List Int := tab (4 * u.length) fun n => carN (List.getD u (n / 4) 0) (List.getD v (n / 4) 0) (n % 4) g
theorem carI_len (u v : List Int) (g : Int) : (carI u v g).length = 4 * u.length := by unfold carI; rw [tab_len]
def encI (y u v : List Nat) (line : Int) : List Int := combI plusI (sixs y) (carI (sixs u) (sixs v) (signI line))
def diffAt (j : Nat) (l : List Int) (c : Nat) (line den : Int) : Int := roundI (signI line * (List.getD l (4 * c + j) 0 - List.getD l (4 * c + j + 2) 0)) den
def diffN (j : Nat) (l : List Int) (line den : Int) : List Int := tab (l.length / 4) fun c => diffAt j l c line den
abbrev It := List Int × List Int × List Int
def apartI (l c : List Int) (line den : Int) : It := (combI minusI l (carI (diffN 0 c line den) (diffN 1 c line den) (signI line)), diffN 0 c line den, diffN 1 c line den)
def bandI (l : List Int) (line : Int) : It := apartI l l line 2
def partsE (x : It) : Int := first [lgE x.1, lgE x.2.1, lgE x.2.2]
def partsP (x : It) : List Nat × List Nat × List Nat := if partsE x = 0 then (smpsN x.1, smpsN x.2.1, smpsN x.2.2) else ([], [], [])
theorem signI_cases (line : Int) : signI line = 1 ∨ signI line = -1 := by
  unfold signI
  split
  · exact .inr rfl
  · exact .inl rfl
theorem carN_bd {u v : Int} {k : Nat} {g B : Int} (hg : g = 1 ∨ g = -1) (hu : -B ≤ u ∧ u ≤ B) (hv : -B ≤ v ∧ v ≤ B) : -B ≤ carN u v k g ∧ carN u v k g ≤ B := by
  unfold carN
  split <;> rcases hg with rfl | rfl <;> omega
theorem roundI_bd {a d B : Int} (hd : 0 < d) (h : -B ≤ a ∧ a ≤ B) : -B ≤ roundI a d ∧ roundI a d ≤ B := by
  unfold roundI
  have h0 : 0 ≤ B := by omega
  have hB : B ≤ d * B := by
    have := Int.mul_le_mul_of_nonneg_right (show 1 ≤ d by omega) h0
    omega
  constructor
  · refine Int.le_ediv_of_mul_le (by omega) ?_
    have e : -B * (2 * d) = -(2 * (d * B)) := by
      rw [Int.neg_mul, ← Int.mul_assoc, Int.mul_comm B 2, Int.mul_assoc, Int.mul_comm B d]
    rw [e]; omega
  · refine Int.le_of_lt_add_one (Int.ediv_lt_of_lt_mul (by omega) ?_)
    have e : (B + 1) * (2 * d) = 2 * (d * B) + 2 * d := by
      rw [Int.add_mul, Int.one_mul, ← Int.mul_assoc, Int.mul_comm B 2, Int.mul_assoc, Int.mul_comm B d]
    rw [e]; omega
theorem bd_comb {f : Int → Int → Int} {a b : List Int} {A B C : Int} (ha : Bd A a) (hb : Bd B b) (hA : 0 ≤ A) (hB : 0 ≤ B) (h : ∀ x y, -A ≤ x ∧ x ≤ A → -B ≤ y ∧ y ≤ B → -C ≤ f x y ∧ f x y ≤ C) : Bd C (combI f a b) := by
  unfold combI
  exact bd_tab fun i _ => h _ _ (bd_get ha hA) (bd_get hb hB)
theorem bd_car {u v : List Int} {B g : Int} (hg : g = 1 ∨ g = -1) (hB : 0 ≤ B) (hu : Bd B u) (hv : Bd B v) : Bd B (carI u v g) := by
  unfold carI
  exact bd_tab fun i _ => carN_bd hg (bd_get hu hB) (bd_get hv hB)
theorem diffAt_bd {j : Nat} {l : List Int} {c : Nat} {line den B : Int} (hd : 0 < den) (hB : 0 ≤ B) (hl : Bd B l) : -(2 * B) ≤ diffAt j l c line den ∧ diffAt j l c line den ≤ 2 * B := by
  unfold diffAt
  refine roundI_bd hd ?_
  have h1 := bd_get hl (i := 4 * c + j) hB
  have h2 := bd_get hl (i := 4 * c + j + 2) hB
  rcases signI_cases line with e | e <;> rw [e] <;> omega
theorem bd_diff {j : Nat} {l : List Int} {line den B : Int} (hd : 0 < den) (hB : 0 ≤ B) (hl : Bd B l) : Bd (2 * B) (diffN j l line den) := by
  unfold diffN
  exact bd_tab fun i _ => diffAt_bd hd hB hl
theorem bd_of_lg {l : List Int} (h : ∀ j, j < l.length → lgI (List.getD l j 0) = false) : Bd 16384 l := fun n hn => by
  obtain ⟨j, hj, e⟩ := List.mem_iff_getElem.1 hn
  have := h j hj
  rw [getD_of hj, e] at this
  exact lgI_false.1 this
theorem tab_four {α : Type} (g : Nat) (f : Nat → α) : tab (4 * g) f ++ [f (4 * g), f (4 * g + 1), f (4 * g + 2), f (4 * g + 3)] = tab (4 * (g + 1)) f := by
  rw [show 4 * (g + 1) = 4 * g + 1 + 1 + 1 + 1 by omega, tab_succ, tab_succ, tab_succ, tab_succ]
  simp
theorem car_step (u v : List Int) (s : Int) (g : Nat) : tab (4 * g) (fun n => carN (List.getD u (n / 4) 0) (List.getD v (n / 4) 0) (n % 4) s) ++ [s * List.getD u g 0, s * List.getD v g 0, -s * List.getD u g 0, -s * List.getD v g 0] = tab (4 * (g + 1)) fun n => carN (List.getD u (n / 4) 0) (List.getD v (n / 4) 0) (n % 4) s := by
  rw [← tab_four]
  have e0 : 4 * g / 4 = g := by omega
  have e1 : (4 * g + 1) / 4 = g := by omega
  have e2 : (4 * g + 2) / 4 = g := by omega
  have e3 : (4 * g + 3) / 4 = g := by omega
  have f0 : 4 * g % 4 = 0 := by omega
  have f1 : (4 * g + 1) % 4 = 1 := by omega
  have f2 : (4 * g + 2) % 4 = 2 := by omega
  have f3 : (4 * g + 3) % 4 = 3 := by omega
  rw [e0, e1, e2, e3, f0, f1, f2, f3]
  rfl
theorem diffN_len (j : Nat) (l : List Int) (line den : Int) : (diffN j l line den).length = l.length / 4 := by unfold diffN; rw [tab_len]
theorem cyc_len {l : List Int} {g : Nat} (h : 4 * g + 4 ≤ l.length) : (List.take (Int.toNat (4 * (g : Int) + 4) - Int.toNat (4 * (g : Int))) (List.drop (Int.toNat (4 * (g : Int))) l)).length = 4 := by
  have e1 : Int.toNat (4 * (g : Int) + 4) = 4 * g + 4 := by omega
  have e2 : Int.toNat (4 * (g : Int)) = 4 * g := by omega
  rw [e1, e2, List.length_take, List.length_drop]
  omega
theorem cyc_eq (l : List Int) (g : Nat) : List.take 4 (List.take (Int.toNat (4 * (g : Int) + 4) - Int.toNat (4 * (g : Int))) (List.drop (Int.toNat (4 * (g : Int))) l)) = List.take 4 (List.drop (4 * g) l) := by
  have e1 : Int.toNat (4 * (g : Int) + 4) = 4 * g + 4 := by omega
  have e2 : Int.toNat (4 * (g : Int)) = 4 * g := by omega
  rw [e1, e2, List.take_take]
  congr 1
  omega
theorem cyc_get (l : List Int) (g j : Nat) (hj : j < 4) : List.getD (List.take 4 (List.drop (4 * g) l)) j 0 = List.getD l (4 * g + j) 0 := by
  rw [List.getD_eq_getElem?_getD, List.getD_eq_getElem?_getD, List.getElem?_take_of_lt hj, List.getElem?_drop]
def sameS (a b : List Nat) : Bool := decide ((a.length : Int) = b.length) && (List.range a.length).all fun i => Op.floatEq .f32 (List.getD a i 0) (List.getD b i 0)
theorem floatEq_self {b : Nat} (h : chkS b = 0) : Op.floatEq .f32 b b = true := by
  rw [eq_six h h]; simp
theorem sameS_self {l : List Nat} (h : OkS l) : sameS l l = true := by
  unfold sameS
  simp only [decide_true, Bool.true_and, List.all_eq_true, List.mem_range]
  exact fun i hi => floatEq_self (h _ (getD_mem' hi))
end Go.Sx.U

namespace Go.Sx.U
abbrev Pt := List Nat × List Nat × List Nat
def fnI : Nat → Option (Int → Int → Int)
  | 164 => some plusI
  | 118 => some minusI
  | 119 => some midI
  | 171 => some lessI
  | 173 => some farI
  | _ => none
def shortS (l : List Nat) : Bool := decide ((l.length : Int) ≤ 24) || decide ((l.length : Int) = 260)
def shortP (y u v : List Nat) : Bool := shortS y && (decide ((u.length : Int) ≤ 24) && decide ((v.length : Int) ≤ 24))
def encE (y u v : List Nat) (line : Int) : Int := if first [chkPt y u v, within line 0 10000000] ≠ 0 then first [chkPt y u v, within line 0 10000000] else lgE (encI y u v line)
def encL (y u v : List Nat) (line : Int) : List Nat := if first [chkPt y u v, within line 0 10000000] ≠ 0 then [] else smpsN (encI y u v line)
end Go.Sx.U
namespace Go.Sx
open U
@[reducible] def ptV (y u v : List Nat) : V := .agg [.one (.sl (.flt .f32) y), .one (.sl (.flt .f32) u), .one (.sl (.flt .f32) v)]
def hMapG (u w : Ty) (g : u.T → w.T) (tl ti to : Nat) (keep : List Nat) (s : St) : Option LInv := match listAs s tl u with
  | some xs => some ⟨Nat, fun i => ⟨[tI ti i, (to, .val (.one (.own s.nx)))] ++ keepT (tl :: keep) s.tm, (s.nx, some (.row w ((List.take i xs).map g))) :: lessO s [to], s.nx + 1, s.lr⟩, fun i => i ≤ List.length xs, fun i => List.length xs - i⟩
  | _ => none
def ownM (s : St) (t : Nat) : Option Nat := match lookT s.tm t with
  | some (.val (.one (.own id))) => some id
  | _ => none
def fnAt (s : St) (t : Nat) : Option (Int → Int → Int) := match lookT s.tm t with
  | some (.val (.one (.fn g [] []))) => fnI g
  | _ => none
def h139 : Hints := ⟨fun f k s => match f, k with
  | 139, 3 => hMapG (.flt .f32) (.int .i64) six 8 10 5 [1, 9] s
  | 166, 3 => hMapG (.flt .f32) (.int .i64) chkS 8 10 5 [1, 9] s
  | 159, 3 => hMapG (.int .i64) (.flt .f32) smp 8 10 5 [1, 9] s
  | 100, 3 => hMapG (.flt .f32) (.int .i64) six 0 4 3 [] s
  | _, _ => none, 0⟩
def h117 : Hints := ⟨fun f k s => match f, k with
  | 117, 3 => match listAs s 0 (.int .i64), listAs s 1 (.int .i64), fnAt s 2, ownM s 7 with
    | some a, some b, some g, some id => some ⟨Nat, fun i => ⟨tI 14 i :: keepT [0, 1, 2, 7, 13] s.tm, (id, some (.row (.int .i64) (fillTo 0 a.length (fun i => g (a.getD i 0) (b.getD i 0)) i))) :: (liveO [] s.ob).filter (fun x => x.1 != id), s.nx, s.lr⟩, fun i => i ≤ List.length a, fun i => List.length a - i⟩
    | _, _, _, _ => none
  | _, _ => none, 0⟩
def h163 : Hints := ⟨fun f k s => match f, k with
  | 163, 4 => match listAs s 0 (.int .i64), listAs s 1 (.int .i64), intOfT s 8 with
    | some u, some v, some g => some ⟨Nat, fun i => ⟨[tI 14 i, (7, .val (.one (.own s.nx)))] ++ keepT [0, 1, 8, 13] s.tm, (s.nx, some (.row (.int .i64) (tab (4 * i) fun n => carN (u.getD (n / 4) 0) (v.getD (n / 4) 0) (n % 4) g))) :: lessO s [7], s.nx + 1, s.lr⟩, fun i => i ≤ List.length u, fun i => List.length u - i⟩
    | _, _, _ => none
  | _, _ => none, 0⟩
def h138 : Hints := ⟨fun f k s => match f, k with
  | 194, 2 => match listAs s 0 (.int .i64) with
    | some xs => some ⟨Nat, fun i => s.at [0, 1, 7] [tI 8 i], fun i => i ≤ List.length xs ∧ ∀ j, j < i → lgI (List.getD xs j 0) = false, fun i => List.length xs - i⟩
    | _ => none
  | 102, 3 => match listAs s 0 (.int .i64) with
    | some xs => some ⟨Nat, fun i => ⟨[tI 5 i, (4, .val (.one (.own s.nx)))] ++ keepT [0] s.tm, (s.nx, some (.row (.flt .f32) ((List.take i xs).map smp))) :: lessO s [4], s.nx + 1, s.lr⟩, fun i => i ≤ List.length xs ∧ ∀ j, j < i → lgI (List.getD xs j 0) = false, fun i => List.length xs - i⟩
    | _ => none
  | 98, 2 => match listAs s 0 (.flt .f32) with
    | some xs => some ⟨Nat, fun i => s.at [0] [tI 3 i], fun i => i ≤ List.length xs ∧ chkSs xs = first (List.drop i (List.map chkS xs)), fun i => List.length xs - i⟩
    | _ => none
  | 27, 4 => match listAs s 0 (.flt .f32), listAs s 1 (.flt .f32) with
    | some xs, some ys => some ⟨Nat, fun i => s.at [0, 1] [tI 5 i], fun i => i ≤ List.length xs ∧ ∀ j, j < i → Op.floatEq .f32 (List.getD xs j 0) (List.getD ys j 0) = true, fun i => List.length xs - i⟩
    | _, _ => none
  | 25, 3 => match ownM s 6, listAs s 6 (.int .i64), listAs s 7 (.int .i64), listAs s 8 (.int .i64), intOfT s 1 with
    | some id, some y, some u, some v, some line => some ⟨Nat, fun i => ⟨tI 9 i :: keepT [1, 6, 7, 8] s.tm, (id, some (.row (.int .i64) (putTo 0 y (fun n => y.getD n 0 + carN (u.getD (n / 4) 0) (v.getD (n / 4) 0) (n % 4) (signI line)) i))) :: (liveO [] s.ob).filter (fun x => x.1 != id), s.nx, s.lr⟩, fun i => i ≤ List.length y, fun i => List.length y - i⟩
    | _, _, _, _, _ => none
  | _, _ => none, 0⟩
@[reducible] noncomputable def fb157 : Nat × Func := (157, Proofs.Tryz.f157)
@[reducible] noncomputable def fb194 : Nat × Func := (194, Proofs.Tryz.f194)
def sp117 : FSpec := ⟨fun vs => match vs with
  | [.one (.sl (.int .i64) a), .one (.sl (.int .i64) b), .one (.fn g [] [])] => match fnI g with
    | some f => some ([List.length a ≤ 100000, List.length b = List.length a, Bd 1000000 a, Bd 1000000 b], .val (.one (.frs (.int .i64) (combI f a b))))
    | none => none
  | _ => none, true⟩
end Go.Sx
namespace Go.Sx
open U
def sp139 : FSpec := ⟨fun vs => match vs with
  | [.one (.sl (.flt .f32) l), .one (.fn 137 [] [])] => some ([List.length l ≤ 1000000, OkS l], .val (.one (.frs (.int .i64) (sixs l))))
  | _ => none, true⟩
def sp166 : FSpec := ⟨fun vs => match vs with
  | [.one (.sl (.flt .f32) l), .one (.fn 136 [] [])] => some ([List.length l ≤ 1000000], .val (.one (.frs (.int .i64) (List.map chkS l))))
  | _ => none, true⟩
def sp159 : FSpec := ⟨fun vs => match vs with
  | [.one (.sl (.int .i64) l), .one (.fn 110 [] [])] => some ([List.length l ≤ 1000000, Bd 8388608 l], .val (.one (.frs (.flt .f32) (List.map smp l))))
  | _ => none, true⟩
def sp100 : FSpec := ⟨fun vs => match vs with
  | [.one (.sl (.flt .f32) l)] => some ([List.length l ≤ 1000000, OkS l], .val (.one (.frs (.int .i64) (sixs l))))
  | _ => none, true⟩
def sp108 : FSpec := ⟨fun vs => match vs with
  | [.one (.sl (.flt .f32) l)] => some ([List.length l ≤ 1000000, OkS l], .val (.one (.frs (.int .i64) (sixs l))))
  | _ => none, true⟩
def sp105 : FSpec := ⟨fun vs => match vs with
  | [.one (.sl (.flt .f32) l)] => some ([List.length l ≤ 1000000], .val (iV (chkSs l)))
  | _ => none, true⟩
def sp41 : FSpec := ⟨fun vs => match vs with
  | [.one (.sl (.flt .f32) l)] => some ([], .val (iV (chkSig l)))
  | _ => none, true⟩
def sp103 : FSpec := ⟨fun vs => match vs with
  | [.agg [.one (.sl (.flt .f32) y), .one (.sl (.flt .f32) _u), .one (.sl (.flt .f32) _v)]] => some ([], .val (iV ((List.length y : Nat) : Int)))
  | _ => none, true⟩
def sp26 : FSpec := ⟨fun vs => match vs with
  | [.agg [.one (.sl (.flt .f32) y), .one (.sl (.flt .f32) u), .one (.sl (.flt .f32) v)]] => some ([List.length y ≤ 1000000000], .val (iV (chkPt y u v)))
  | _ => none, true⟩
def sp130 : FSpec := ⟨fun vs => match vs with
  | [.one (.int .i64 n)] => some ([], .val (bV (lgI n)))
  | _ => none, true⟩
def sp138 : FSpec := ⟨fun vs => match vs with
  | [.one (.sl (.int .i64) l)] => some ([List.length l ≤ 1000000], .tup [.one (.frs (.flt .f32) (smpsN l)), iV (lgE l)])
  | _ => none, true⟩
def sp164 : FSpec := ⟨fun vs => match vs with
  | [.one (.int .i64 x), .one (.int .i64 y)] => some ([-2000000000 ≤ x ∧ x ≤ 2000000000, -2000000000 ≤ y ∧ y ≤ 2000000000], .val (iV (plusI x y)))
  | _ => none, true⟩
def sp118 : FSpec := ⟨fun vs => match vs with
  | [.one (.int .i64 x), .one (.int .i64 y)] => some ([-2000000000 ≤ x ∧ x ≤ 2000000000, -2000000000 ≤ y ∧ y ≤ 2000000000], .val (iV (minusI x y)))
  | _ => none, true⟩
def sp119 : FSpec := ⟨fun vs => match vs with
  | [.one (.int .i64 x), .one (.int .i64 y)] => some ([-100000000 ≤ x ∧ x ≤ 100000000, -100000000 ≤ y ∧ y ≤ 100000000], .val (iV (midI x y)))
  | _ => none, true⟩
def sp171 : FSpec := ⟨fun vs => match vs with
  | [.one (.int .i64 x), .one (.int .i64 y)] => some ([-100000000 ≤ x ∧ x ≤ 100000000, -100000000 ≤ y ∧ y ≤ 100000000], .val (iV (lessI x y)))
  | _ => none, true⟩
def sp173 : FSpec := ⟨fun vs => match vs with
  | [.one (.int .i64 x), .one (.int .i64 y)] => some ([-100000000 ≤ x ∧ x ≤ 100000000, -100000000 ≤ y ∧ y ≤ 100000000], .val (iV (farI x y)))
  | _ => none, true⟩
def sp163 : FSpec := ⟨fun vs => match vs with
  | [.one (.sl (.int .i64) u), .one (.sl (.int .i64) v), .one (.int .i64 line)] => some ([List.length u ≤ 100000, List.length v = List.length u, Bd 1000000 u, Bd 1000000 v, 0 ≤ line], .val (.one (.frs (.int .i64) (carI u v (signI line)))))
  | _ => none, true⟩
def sp97 : FSpec := ⟨fun vs => match vs with
  | [.agg [.one (.sl (.flt .f32) y), .one (.sl (.flt .f32) u), .one (.sl (.flt .f32) v)], .one (.int .i64 line)] => some ([chkPt y u v = 0, 0 ≤ line], .tup [.one (.frs (.flt .f32) (smpsN (encI y u v line))), iV (lgE (encI y u v line))])
  | _ => none, true⟩
def sp98 : FSpec := ⟨fun vs => match vs with
  | [.one (.sl (.flt .f32) l)] => some ([List.length l ≤ 1000000], .val (iV (chkSs l)))
  | _ => none, true⟩
def sp36 : FSpec := ⟨fun vs => match vs with
  | [.one (.sl (.flt .f32) l)] => some ([], .val (iV (chkSig l)))
  | _ => none, true⟩
def sp23 : FSpec := ⟨fun vs => match vs with
  | [.agg [.one (.sl (.flt .f32) y), .one (.sl (.flt .f32) u), .one (.sl (.flt .f32) v)]] => some ([List.length y ≤ 1000000000], .val (iV (chkPt y u v)))
  | _ => none, true⟩
def sp102 : FSpec := ⟨fun vs => match vs with
  | [.one (.sl (.int .i64) l)] => some ([List.length l ≤ 1000000], .tup [.one (.frs (.flt .f32) (smpsN l)), iV (lgE l)])
  | _ => none, true⟩
def sp30 : FSpec := ⟨fun vs => match vs with
  | [.one (.sl (.flt .f32) l)] => some ([], .val (bV (shortS l)))
  | _ => none, true⟩
def sp18 : FSpec := ⟨fun vs => match vs with
  | [.agg [.one (.sl (.flt .f32) y), .one (.sl (.flt .f32) u), .one (.sl (.flt .f32) v)]] => some ([], .val (bV (shortP y u v)))
  | _ => none, true⟩
def sp34 : FSpec := ⟨fun vs => match vs with
  | [.one (.sl (.flt .f32) l)] => some ([List.length l ≤ 1000000], .val (.one (.frs (.flt .f32) l)))
  | _ => none, true⟩
def sp21 : FSpec := ⟨fun vs => match vs with
  | [.agg [.one (.sl (.flt .f32) y), .one (.sl (.flt .f32) u), .one (.sl (.flt .f32) v)]] => some ([List.length y ≤ 1000000, List.length u ≤ 1000000, List.length v ≤ 1000000], .val (ptV y u v))
  | _ => none, true⟩
def sp27 : FSpec := ⟨fun vs => match vs with
  | [.one (.sl (.flt .f32) a), .one (.sl (.flt .f32) b)] => some ([List.length a ≤ 1000000000], .val (bV (sameS a b)))
  | _ => none, true⟩
end Go.Sx

namespace Go.Sx
open U
theorem vc139 (l : List Nat) : exF (env false [(137, sp137)] []) h139 0 139 Proofs.Tryz.f139 [.one (.sl (.flt .f32) l), .one (.fn 137 [] [])] (.val (.one (.frs (.int .i64) (sixs l)))) = (let q0 := (↑(List.length l) : Int); (∃ (g : Nat), Nat.le g (List.length l) ∧ (0 : Int) = (↑g : Int) ∧ q0 = q0 ∧ l = l ∧ List.map six (List.take g l) = [] ∧ True) ∧ ∀ (g : Nat), Nat.le g (List.length l) → splitB (decide ((↑g : Int) < q0)) (((0 : Int) ≤ (↑g : Int) ∧ (↑g : Int) < q0) ∧ chkS (List.getD l g (0 : Nat)) = (0 : Int) ∧ room (List.length (List.map six (List.take g l)) + (1 : Nat)) (8 : Nat) ∧ fits IntKind.i64 ((↑g : Int) + (1 : Int)) ∧ ∃ (g' : Nat), Nat.le g' (List.length l) ∧ List.length l - g' < List.length l - g ∧ (↑g : Int) + (1 : Int) = (↑g' : Int) ∧ q0 = q0 ∧ l = l ∧ List.map six (List.take g l) ++ [six (List.getD l g (0 : Nat))] = List.map six (List.take g' l) ∧ True) (List.map six (List.take g l) = sixs l ∧ True)) := by
  kernel_rfl
theorem vc166 (l : List Nat) : exF (env false [(136, sp136)] []) h139 0 166 Proofs.Tryz.f166 [.one (.sl (.flt .f32) l), .one (.fn 136 [] [])] (.val (.one (.frs (.int .i64) (l.map chkS)))) = (let q0 := (↑(List.length l) : Int); (∃ (g : Nat), Nat.le g (List.length l) ∧ (0 : Int) = (↑g : Int) ∧ q0 = q0 ∧ l = l ∧ List.map chkS (List.take g l) = [] ∧ True) ∧ ∀ (g : Nat), Nat.le g (List.length l) → splitB (decide ((↑g : Int) < q0)) (((0 : Int) ≤ (↑g : Int) ∧ (↑g : Int) < q0) ∧ room (List.length (List.map chkS (List.take g l)) + (1 : Nat)) (8 : Nat) ∧ fits IntKind.i64 ((↑g : Int) + (1 : Int)) ∧ ∃ (g' : Nat), Nat.le g' (List.length l) ∧ List.length l - g' < List.length l - g ∧ (↑g : Int) + (1 : Int) = (↑g' : Int) ∧ q0 = q0 ∧ l = l ∧ List.map chkS (List.take g l) ++ [chkS (List.getD l g (0 : Nat))] = List.map chkS (List.take g' l) ∧ True) (List.map chkS (List.take g l) = List.map chkS l ∧ True)) := by
  kernel_rfl
theorem vc159 (l : List Int) : exF (env false [(110, sp110)] []) h139 0 159 Proofs.Tryz.f159 [.one (.sl (.int .i64) l), .one (.fn 110 [] [])] (.val (.one (.frs (.flt .f32) (l.map smp)))) = (let q0 := (↑(List.length l) : Int); (∃ (g : Nat), Nat.le g (List.length l) ∧ (0 : Int) = (↑g : Int) ∧ q0 = q0 ∧ l = l ∧ List.map smp (List.take g l) = [] ∧ True) ∧ ∀ (g : Nat), Nat.le g (List.length l) → splitB (decide ((↑g : Int) < q0)) (((0 : Int) ≤ (↑g : Int) ∧ (↑g : Int) < q0) ∧ ((-8388608 : Int) ≤ List.getD l g (0 : Int) ∧ List.getD l g (0 : Int) ≤ (8388608 : Int)) ∧ room (List.length (List.map smp (List.take g l)) + (1 : Nat)) (4 : Nat) ∧ fits IntKind.i64 ((↑g : Int) + (1 : Int)) ∧ ∃ (g' : Nat), Nat.le g' (List.length l) ∧ List.length l - g' < List.length l - g ∧ (↑g : Int) + (1 : Int) = (↑g' : Int) ∧ q0 = q0 ∧ l = l ∧ List.map smp (List.take g l) ++ [smp (List.getD l g (0 : Int))] = List.map smp (List.take g' l) ∧ True) (List.map smp (List.take g l) = List.map smp l ∧ True)) := by
  kernel_rfl
theorem vc100 (l : List Nat) : exF (env false [(86, sp86)] []) h139 0 100 Proofs.Tryz.f100 [.one (.sl (.flt .f32) l)] (.val (.one (.frs (.int .i64) (sixs l)))) = (let q0 := (List.length l); (∃ (g : Nat), Nat.le g q0 ∧ (0 : Int) = (↑g : Int) ∧ l = l ∧ List.map six (List.take g l) = [] ∧ True) ∧ ∀ (g : Nat), Nat.le g q0 → splitB (decide ((↑g : Int) < (↑q0 : Int))) (((0 : Int) ≤ (↑g : Int) ∧ (↑g : Int) < (↑q0 : Int)) ∧ chkS (List.getD l g (0 : Nat)) = (0 : Int) ∧ room (List.length (List.map six (List.take g l)) + (1 : Nat)) (8 : Nat) ∧ fits IntKind.i64 ((↑g : Int) + (1 : Int)) ∧ ∃ (g' : Nat), Nat.le g' q0 ∧ List.length l - g' < List.length l - g ∧ (↑g : Int) + (1 : Int) = (↑g' : Int) ∧ l = l ∧ List.map six (List.take g l) ++ [six (List.getD l g (0 : Nat))] = List.map six (List.take g' l) ∧ True) (List.map six (List.take g l) = sixs l ∧ True)) := by
  kernel_rfl
theorem vc108 (l : List Nat) : exF (env false [(139, sp139)] []) h0 0 108 Proofs.Tryz.f108 [.one (.sl (.flt .f32) l)] (.val (.one (.frs (.int .i64) (sixs l)))) = (List.length l ≤ (1000000 : Nat) ∧ OkS l ∧ sixs l = sixs l ∧ True) := by
  kernel_rfl
theorem vc105 (l : List Nat) : exF (env false [(166, sp166), (95, sp95)] []) h0 0 105 Proofs.Tryz.f105 [.one (.sl (.flt .f32) l)] (.val (iV (chkSs l))) = (List.length l ≤ (1000000 : Nat) ∧ List.length (List.map chkS l) ≤ (1000000000 : Nat) ∧ first (List.map chkS l) = chkSs l ∧ True) := by
  kernel_rfl
theorem vc41 (l : List Nat) : exF (env false [(104, sp104), (95, sp95), (105, sp105)] []) h0 0 41 Proofs.Tryz.f41 [.one (.sl (.flt .f32) l)] (.val (iV (chkSig l))) = (let q0 := (↑(List.length l) : Int); ((0 : Int) ≤ q0 ∧ (0 : Int) < (4 : Int)) ∧ (2 : Nat) ≤ (1000000000 : Nat) ∧ splitB (first [whenE (decide ((256 : Int) < q0)) (5 : Int), whenE (q0 % (4 : Int) != (0 : Int)) (2 : Int)] != (0 : Int)) (first [whenE (decide ((256 : Int) < q0)) (5 : Int), whenE (q0 % (4 : Int) != (0 : Int)) (2 : Int)] = chkSig l ∧ True) (List.length l ≤ (1000000 : Nat) ∧ chkSs l = chkSig l ∧ True)) := by
  kernel_rfl
theorem vc103 (y u v : List Nat) : exF (env false [] []) h0 0 103 Proofs.Tryz.f103 [ptV y u v] (.val (iV (y.length : Int))) = ((↑(List.length y) : Int) = (↑(List.length y) : Int) ∧ True) := by
  kernel_rfl
theorem vc26 (y u v : List Nat) : exF (env false [(103, sp103), (41, sp41), (104, sp104), (95, sp95), (105, sp105)] []) h0 0 26 Proofs.Tryz.f26 [ptV y u v] (.val (iV (chkPt y u v))) = (let q0 := (↑(List.length y) : Int); ((0 : Int) ≤ q0 ∧ (0 : Int) < (4 : Int) ∧ fits IntKind.i64 (q0 / (4 : Int))) ∧ (3 : Nat) ≤ (1000000000 : Nat) ∧ splitB (first [chkSig y, whenE ((↑(List.length u) : Int) != q0 / (4 : Int)) (2 : Int), whenE ((↑(List.length v) : Int) != q0 / (4 : Int)) (2 : Int)] != (0 : Int)) (first [chkSig y, whenE ((↑(List.length u) : Int) != q0 / (4 : Int)) (2 : Int), whenE ((↑(List.length v) : Int) != q0 / (4 : Int)) (2 : Int)] = chkPt y u v ∧ True) (List.length u ≤ (1000000 : Nat) ∧ List.length v ≤ (1000000 : Nat) ∧ (2 : Nat) ≤ (1000000000 : Nat) ∧ first [chkSs u, chkSs v] = chkPt y u v ∧ True)) := by
  kernel_rfl
theorem vc130 (n : Int) : exF (env false [] []) h0 0 130 Proofs.Tryz.f130 [iV n] (.val (bV (lgI n))) = ((bif decide (n < (-16384 : Int)) then true else decide ((16384 : Int) < n)) = lgI n ∧ True) := by
  kernel_rfl
theorem vc138 (l : List Int) : exF (env false [(130, sp130), (159, sp159)] [fb157, fb194]) h138 3 138 Proofs.Tryz.f138 [.one (.sl (.int .i64) l)] (.tup [.one (.frs (.flt .f32) (smpsN l)), iV (lgE l)]) = (let q0 := (↑(List.length l) : Int); (∃ (g : Nat), (g ≤ List.length l ∧ ∀ (j : Nat), j < g → lgI (List.getD l j (0 : Int)) = false) ∧ (0 : Int) = (↑g : Int) ∧ q0 = q0 ∧ l = l ∧ True) ∧ ∀ (g : Nat), (g ≤ List.length l ∧ ∀ (j : Nat), j < g → lgI (List.getD l j (0 : Int)) = false) → splitB (decide ((↑g : Int) < q0)) (((0 : Int) ≤ (↑g : Int) ∧ (↑g : Int) < q0) ∧ splitB (lgI (List.getD l g (0 : Int))) (smpsN l = [] ∧ (4 : Int) = lgE l ∧ True) (fits IntKind.i64 ((↑g : Int) + (1 : Int)) ∧ ∃ (g' : Nat), (g' ≤ List.length l ∧ ∀ (j : Nat), j < g' → lgI (List.getD l j (0 : Int)) = false) ∧ List.length l - g' < List.length l - g ∧ (↑g : Int) + (1 : Int) = (↑g' : Int) ∧ q0 = q0 ∧ l = l ∧ True)) (List.length l ≤ (1000000 : Nat) ∧ Bd (8388608 : Int) l ∧ List.map smp l = smpsN l ∧ (0 : Int) = lgE l ∧ True)) := by
  kernel_rfl
theorem vc164 (x y : Int) : exF (env false [] []) h0 0 164 Proofs.Tryz.f164 [iV x, iV y] (.val (iV (plusI x y))) = (fits IntKind.i64 (x + y) ∧ x + y = plusI x y ∧ True) := by
  kernel_rfl
theorem vc118 (x y : Int) : exF (env false [] []) h0 0 118 Proofs.Tryz.f118 [iV x, iV y] (.val (iV (minusI x y))) = (fits IntKind.i64 (x - y) ∧ x - y = minusI x y ∧ True) := by
  kernel_rfl
theorem vc119 (x y : Int) : exF (env false [(120, sp120)] []) h0 0 119 Proofs.Tryz.f119 [iV x, iV y] (.val (iV (midI x y))) = (fits IntKind.i64 (x + y) ∧ ((-1000000000 : Int) ≤ x + y ∧ x + y ≤ (1000000000 : Int)) ∧ ((0 : Int) < (2 : Int) ∧ (2 : Int) ≤ (1000000000 : Int)) ∧ roundI (x + y) (2 : Int) = midI x y ∧ True) := by
  kernel_rfl
theorem vc171 (x y : Int) : exF (env false [] []) h0 0 171 Proofs.Tryz.f171 [iV x, iV y] (.val (iV (lessI x y))) = (fits IntKind.i64 ((2 : Int) * x) ∧ fits IntKind.i64 ((2 : Int) * x - y) ∧ (2 : Int) * x - y = lessI x y ∧ True) := by
  kernel_rfl
theorem vc173 (x y : Int) : exF (env false [] []) h0 0 173 Proofs.Tryz.f173 [iV x, iV y] (.val (iV (farI x y))) = (fits IntKind.i64 (x - y) ∧ fits IntKind.i64 (y - x) ∧ max (x - y) (y - x) = farI x y ∧ True) := by
  kernel_rfl
theorem vc117a (a b : List Int) : exF (env false [(164, sp164)] []) h117 0 117 Proofs.Tryz.f117 [.one (.sl (.int .i64) a), .one (.sl (.int .i64) b), .one (.fn 164 [] [])] (.val (.one (.frs (.int .i64) (combI plusI a b)))) = (let q1 := (List.length a); let q0 := (↑(List.length (List.replicate q1 (0 : Int))) : Int); (0 : Int) ≤ (↑q1 : Int) ∧ room q1 (8 : Nat) ∧ (∃ (g : Nat), Nat.le g q1 ∧ (0 : Int) = (↑g : Int) ∧ q0 = q0 ∧ a = a ∧ b = b ∧ List.replicate q1 (0 : Int) = fillTo (0 : Int) q1 (fun (i : Nat) => plusI (List.getD a i (0 : Int)) (List.getD b i (0 : Int))) g ∧ True) ∧ ∀ (g : Nat), Nat.le g q1 → splitB (decide ((↑g : Int) < q0)) (((0 : Int) ≤ (↑g : Int) ∧ (↑g : Int) < (↑q1 : Int)) ∧ ((0 : Int) ≤ (↑g : Int) ∧ (↑g : Int) < (↑(List.length b) : Int)) ∧ ((-2000000000 : Int) ≤ List.getD a g (0 : Int) ∧ List.getD a g (0 : Int) ≤ (2000000000 : Int)) ∧ ((-2000000000 : Int) ≤ List.getD b g (0 : Int) ∧ List.getD b g (0 : Int) ≤ (2000000000 : Int)) ∧ ((0 : Int) ≤ (↑g : Int) ∧ (↑g : Int) < (↑(List.length (fillTo (0 : Int) q1 (fun (i : Nat) => plusI (List.getD a i (0 : Int)) (List.getD b i (0 : Int))) g)) : Int)) ∧ g < List.length (fillTo (0 : Int) q1 (fun (i : Nat) => plusI (List.getD a i (0 : Int)) (List.getD b i (0 : Int))) g) ∧ fits IntKind.i64 ((↑g : Int) + (1 : Int)) ∧ ∃ (g' : Nat), Nat.le g' q1 ∧ List.length a - g' < List.length a - g ∧ (↑g : Int) + (1 : Int) = (↑g' : Int) ∧ q0 = q0 ∧ a = a ∧ b = b ∧ List.set (fillTo (0 : Int) q1 (fun (i : Nat) => plusI (List.getD a i (0 : Int)) (List.getD b i (0 : Int))) g) g (plusI (List.getD a g (0 : Int)) (List.getD b g (0 : Int))) = fillTo (0 : Int) q1 (fun (i : Nat) => plusI (List.getD a i (0 : Int)) (List.getD b i (0 : Int))) g' ∧ True) (fillTo (0 : Int) q1 (fun (i : Nat) => plusI (List.getD a i (0 : Int)) (List.getD b i (0 : Int))) g = combI plusI a b ∧ True)) := by
  kernel_rfl
theorem vc117b (a b : List Int) : exF (env false [(118, sp118)] []) h117 0 117 Proofs.Tryz.f117 [.one (.sl (.int .i64) a), .one (.sl (.int .i64) b), .one (.fn 118 [] [])] (.val (.one (.frs (.int .i64) (combI minusI a b)))) = (let q1 := (List.length a); let q0 := (↑(List.length (List.replicate q1 (0 : Int))) : Int); (0 : Int) ≤ (↑q1 : Int) ∧ room q1 (8 : Nat) ∧ (∃ (g : Nat), Nat.le g q1 ∧ (0 : Int) = (↑g : Int) ∧ q0 = q0 ∧ a = a ∧ b = b ∧ List.replicate q1 (0 : Int) = fillTo (0 : Int) q1 (fun (i : Nat) => minusI (List.getD a i (0 : Int)) (List.getD b i (0 : Int))) g ∧ True) ∧ ∀ (g : Nat), Nat.le g q1 → splitB (decide ((↑g : Int) < q0)) (((0 : Int) ≤ (↑g : Int) ∧ (↑g : Int) < (↑q1 : Int)) ∧ ((0 : Int) ≤ (↑g : Int) ∧ (↑g : Int) < (↑(List.length b) : Int)) ∧ ((-2000000000 : Int) ≤ List.getD a g (0 : Int) ∧ List.getD a g (0 : Int) ≤ (2000000000 : Int)) ∧ ((-2000000000 : Int) ≤ List.getD b g (0 : Int) ∧ List.getD b g (0 : Int) ≤ (2000000000 : Int)) ∧ ((0 : Int) ≤ (↑g : Int) ∧ (↑g : Int) < (↑(List.length (fillTo (0 : Int) q1 (fun (i : Nat) => minusI (List.getD a i (0 : Int)) (List.getD b i (0 : Int))) g)) : Int)) ∧ g < List.length (fillTo (0 : Int) q1 (fun (i : Nat) => minusI (List.getD a i (0 : Int)) (List.getD b i (0 : Int))) g) ∧ fits IntKind.i64 ((↑g : Int) + (1 : Int)) ∧ ∃ (g' : Nat), Nat.le g' q1 ∧ List.length a - g' < List.length a - g ∧ (↑g : Int) + (1 : Int) = (↑g' : Int) ∧ q0 = q0 ∧ a = a ∧ b = b ∧ List.set (fillTo (0 : Int) q1 (fun (i : Nat) => minusI (List.getD a i (0 : Int)) (List.getD b i (0 : Int))) g) g (minusI (List.getD a g (0 : Int)) (List.getD b g (0 : Int))) = fillTo (0 : Int) q1 (fun (i : Nat) => minusI (List.getD a i (0 : Int)) (List.getD b i (0 : Int))) g' ∧ True) (fillTo (0 : Int) q1 (fun (i : Nat) => minusI (List.getD a i (0 : Int)) (List.getD b i (0 : Int))) g = combI minusI a b ∧ True)) := by
  kernel_rfl
theorem vc117c (a b : List Int) : exF (env false [(119, sp119)] []) h117 0 117 Proofs.Tryz.f117 [.one (.sl (.int .i64) a), .one (.sl (.int .i64) b), .one (.fn 119 [] [])] (.val (.one (.frs (.int .i64) (combI midI a b)))) = (let q1 := (List.length a); let q0 := (↑(List.length (List.replicate q1 (0 : Int))) : Int); (0 : Int) ≤ (↑q1 : Int) ∧ room q1 (8 : Nat) ∧ (∃ (g : Nat), Nat.le g q1 ∧ (0 : Int) = (↑g : Int) ∧ q0 = q0 ∧ a = a ∧ b = b ∧ List.replicate q1 (0 : Int) = fillTo (0 : Int) q1 (fun (i : Nat) => midI (List.getD a i (0 : Int)) (List.getD b i (0 : Int))) g ∧ True) ∧ ∀ (g : Nat), Nat.le g q1 → splitB (decide ((↑g : Int) < q0)) (((0 : Int) ≤ (↑g : Int) ∧ (↑g : Int) < (↑q1 : Int)) ∧ ((0 : Int) ≤ (↑g : Int) ∧ (↑g : Int) < (↑(List.length b) : Int)) ∧ ((-100000000 : Int) ≤ List.getD a g (0 : Int) ∧ List.getD a g (0 : Int) ≤ (100000000 : Int)) ∧ ((-100000000 : Int) ≤ List.getD b g (0 : Int) ∧ List.getD b g (0 : Int) ≤ (100000000 : Int)) ∧ ((0 : Int) ≤ (↑g : Int) ∧ (↑g : Int) < (↑(List.length (fillTo (0 : Int) q1 (fun (i : Nat) => midI (List.getD a i (0 : Int)) (List.getD b i (0 : Int))) g)) : Int)) ∧ g < List.length (fillTo (0 : Int) q1 (fun (i : Nat) => midI (List.getD a i (0 : Int)) (List.getD b i (0 : Int))) g) ∧ fits IntKind.i64 ((↑g : Int) + (1 : Int)) ∧ ∃ (g' : Nat), Nat.le g' q1 ∧ List.length a - g' < List.length a - g ∧ (↑g : Int) + (1 : Int) = (↑g' : Int) ∧ q0 = q0 ∧ a = a ∧ b = b ∧ List.set (fillTo (0 : Int) q1 (fun (i : Nat) => midI (List.getD a i (0 : Int)) (List.getD b i (0 : Int))) g) g (midI (List.getD a g (0 : Int)) (List.getD b g (0 : Int))) = fillTo (0 : Int) q1 (fun (i : Nat) => midI (List.getD a i (0 : Int)) (List.getD b i (0 : Int))) g' ∧ True) (fillTo (0 : Int) q1 (fun (i : Nat) => midI (List.getD a i (0 : Int)) (List.getD b i (0 : Int))) g = combI midI a b ∧ True)) := by
  kernel_rfl
theorem vc117d (a b : List Int) : exF (env false [(171, sp171)] []) h117 0 117 Proofs.Tryz.f117 [.one (.sl (.int .i64) a), .one (.sl (.int .i64) b), .one (.fn 171 [] [])] (.val (.one (.frs (.int .i64) (combI lessI a b)))) = (let q1 := (List.length a); let q0 := (↑(List.length (List.replicate q1 (0 : Int))) : Int); (0 : Int) ≤ (↑q1 : Int) ∧ room q1 (8 : Nat) ∧ (∃ (g : Nat), Nat.le g q1 ∧ (0 : Int) = (↑g : Int) ∧ q0 = q0 ∧ a = a ∧ b = b ∧ List.replicate q1 (0 : Int) = fillTo (0 : Int) q1 (fun (i : Nat) => lessI (List.getD a i (0 : Int)) (List.getD b i (0 : Int))) g ∧ True) ∧ ∀ (g : Nat), Nat.le g q1 → splitB (decide ((↑g : Int) < q0)) (((0 : Int) ≤ (↑g : Int) ∧ (↑g : Int) < (↑q1 : Int)) ∧ ((0 : Int) ≤ (↑g : Int) ∧ (↑g : Int) < (↑(List.length b) : Int)) ∧ ((-100000000 : Int) ≤ List.getD a g (0 : Int) ∧ List.getD a g (0 : Int) ≤ (100000000 : Int)) ∧ ((-100000000 : Int) ≤ List.getD b g (0 : Int) ∧ List.getD b g (0 : Int) ≤ (100000000 : Int)) ∧ ((0 : Int) ≤ (↑g : Int) ∧ (↑g : Int) < (↑(List.length (fillTo (0 : Int) q1 (fun (i : Nat) => lessI (List.getD a i (0 : Int)) (List.getD b i (0 : Int))) g)) : Int)) ∧ g < List.length (fillTo (0 : Int) q1 (fun (i : Nat) => lessI (List.getD a i (0 : Int)) (List.getD b i (0 : Int))) g) ∧ fits IntKind.i64 ((↑g : Int) + (1 : Int)) ∧ ∃ (g' : Nat), Nat.le g' q1 ∧ List.length a - g' < List.length a - g ∧ (↑g : Int) + (1 : Int) = (↑g' : Int) ∧ q0 = q0 ∧ a = a ∧ b = b ∧ List.set (fillTo (0 : Int) q1 (fun (i : Nat) => lessI (List.getD a i (0 : Int)) (List.getD b i (0 : Int))) g) g (lessI (List.getD a g (0 : Int)) (List.getD b g (0 : Int))) = fillTo (0 : Int) q1 (fun (i : Nat) => lessI (List.getD a i (0 : Int)) (List.getD b i (0 : Int))) g' ∧ True) (fillTo (0 : Int) q1 (fun (i : Nat) => lessI (List.getD a i (0 : Int)) (List.getD b i (0 : Int))) g = combI lessI a b ∧ True)) := by
  kernel_rfl
theorem vc117e (a b : List Int) : exF (env false [(173, sp173)] []) h117 0 117 Proofs.Tryz.f117 [.one (.sl (.int .i64) a), .one (.sl (.int .i64) b), .one (.fn 173 [] [])] (.val (.one (.frs (.int .i64) (combI farI a b)))) = (let q1 := (List.length a); let q0 := (↑(List.length (List.replicate q1 (0 : Int))) : Int); (0 : Int) ≤ (↑q1 : Int) ∧ room q1 (8 : Nat) ∧ (∃ (g : Nat), Nat.le g q1 ∧ (0 : Int) = (↑g : Int) ∧ q0 = q0 ∧ a = a ∧ b = b ∧ List.replicate q1 (0 : Int) = fillTo (0 : Int) q1 (fun (i : Nat) => farI (List.getD a i (0 : Int)) (List.getD b i (0 : Int))) g ∧ True) ∧ ∀ (g : Nat), Nat.le g q1 → splitB (decide ((↑g : Int) < q0)) (((0 : Int) ≤ (↑g : Int) ∧ (↑g : Int) < (↑q1 : Int)) ∧ ((0 : Int) ≤ (↑g : Int) ∧ (↑g : Int) < (↑(List.length b) : Int)) ∧ ((-100000000 : Int) ≤ List.getD a g (0 : Int) ∧ List.getD a g (0 : Int) ≤ (100000000 : Int)) ∧ ((-100000000 : Int) ≤ List.getD b g (0 : Int) ∧ List.getD b g (0 : Int) ≤ (100000000 : Int)) ∧ ((0 : Int) ≤ (↑g : Int) ∧ (↑g : Int) < (↑(List.length (fillTo (0 : Int) q1 (fun (i : Nat) => farI (List.getD a i (0 : Int)) (List.getD b i (0 : Int))) g)) : Int)) ∧ g < List.length (fillTo (0 : Int) q1 (fun (i : Nat) => farI (List.getD a i (0 : Int)) (List.getD b i (0 : Int))) g) ∧ fits IntKind.i64 ((↑g : Int) + (1 : Int)) ∧ ∃ (g' : Nat), Nat.le g' q1 ∧ List.length a - g' < List.length a - g ∧ (↑g : Int) + (1 : Int) = (↑g' : Int) ∧ q0 = q0 ∧ a = a ∧ b = b ∧ List.set (fillTo (0 : Int) q1 (fun (i : Nat) => farI (List.getD a i (0 : Int)) (List.getD b i (0 : Int))) g) g (farI (List.getD a g (0 : Int)) (List.getD b g (0 : Int))) = fillTo (0 : Int) q1 (fun (i : Nat) => farI (List.getD a i (0 : Int)) (List.getD b i (0 : Int))) g' ∧ True) (fillTo (0 : Int) q1 (fun (i : Nat) => farI (List.getD a i (0 : Int)) (List.getD b i (0 : Int))) g = combI farI a b ∧ True)) := by
  kernel_rfl
theorem vc163 (u v : List Int) (line : Int) : exF (env false [(170, sp170)] []) h163 0 163 Proofs.Tryz.f163 [.one (.sl (.int .i64) u), .one (.sl (.int .i64) v), iV line] (.val (.one (.frs (.int .i64) (carI u v (signI line))))) = (let q0 := (↑(List.length u) : Int); (0 : Int) ≤ line ∧ (∃ (g : Nat), Nat.le g (List.length u) ∧ (0 : Int) = (↑g : Int) ∧ q0 = q0 ∧ signI line = signI line ∧ u = u ∧ v = v ∧ (tab ((4 : Nat) * g) fun (n : Nat) => carN (List.getD u (n / (4 : Nat)) (0 : Int)) (List.getD v (n / (4 : Nat)) (0 : Int)) (n % (4 : Nat)) (signI line)) = [] ∧ True) ∧ ∀ (g : Nat), let q1 := ((0 : Int) ≤ (↑g : Int) ∧ (↑g : Int) < (↑(List.length v) : Int)); Nat.le g (List.length u) → splitB (decide ((↑g : Int) < q0)) (((0 : Int) ≤ (↑g : Int) ∧ (↑g : Int) < q0) ∧ fits IntKind.i64 (signI line * List.getD u g (0 : Int)) ∧ q1 ∧ fits IntKind.i64 (signI line * List.getD v g (0 : Int)) ∧ fits IntKind.i64 (-signI line) ∧ ((0 : Int) ≤ (↑g : Int) ∧ (↑g : Int) < q0) ∧ fits IntKind.i64 (-signI line * List.getD u g (0 : Int)) ∧ fits IntKind.i64 (-signI line) ∧ q1 ∧ fits IntKind.i64 (-signI line * List.getD v g (0 : Int)) ∧ room (List.length (tab ((4 : Nat) * g) fun (n : Nat) => carN (List.getD u (n / (4 : Nat)) (0 : Int)) (List.getD v (n / (4 : Nat)) (0 : Int)) (n % (4 : Nat)) (signI line)) + (4 : Nat)) (8 : Nat) ∧ fits IntKind.i64 ((↑g : Int) + (1 : Int)) ∧ ∃ (g' : Nat), Nat.le g' (List.length u) ∧ List.length u - g' < List.length u - g ∧ (↑g : Int) + (1 : Int) = (↑g' : Int) ∧ q0 = q0 ∧ signI line = signI line ∧ u = u ∧ v = v ∧ ((tab ((4 : Nat) * g) fun (n : Nat) => carN (List.getD u (n / (4 : Nat)) (0 : Int)) (List.getD v (n / (4 : Nat)) (0 : Int)) (n % (4 : Nat)) (signI line)) ++ [signI line * List.getD u g (0 : Int), signI line * List.getD v g (0 : Int), -signI line * List.getD u g (0 : Int), -signI line * List.getD v g (0 : Int)] = tab ((4 : Nat) * g') fun (n : Nat) => carN (List.getD u (n / (4 : Nat)) (0 : Int)) (List.getD v (n / (4 : Nat)) (0 : Int)) (n % (4 : Nat)) (signI line)) ∧ True) ((tab ((4 : Nat) * g) fun (n : Nat) => carN (List.getD u (n / (4 : Nat)) (0 : Int)) (List.getD v (n / (4 : Nat)) (0 : Int)) (n % (4 : Nat)) (signI line)) = carI u v (signI line) ∧ True)) := by
  kernel_rfl
theorem vc97 (y u v : List Nat) (line : Int) : exF (env false [(108, sp108), (163, sp163), (117, sp117), (138, sp138), (164, sp164)] []) h0 0 97 Proofs.Tryz.f97 [ptV y u v, iV line] (.tup [.one (.frs (.flt .f32) (smpsN (encI y u v line))), iV (lgE (encI y u v line))]) = (List.length y ≤ (1000000 : Nat) ∧ OkS y ∧ List.length u ≤ (1000000 : Nat) ∧ OkS u ∧ List.length v ≤ (1000000 : Nat) ∧ OkS v ∧ List.length (sixs u) ≤ (100000 : Nat) ∧ List.length (sixs v) = List.length (sixs u) ∧ Bd (1000000 : Int) (sixs u) ∧ Bd (1000000 : Int) (sixs v) ∧ (0 : Int) ≤ line ∧ List.length (sixs y) ≤ (100000 : Nat) ∧ List.length (carI (sixs u) (sixs v) (signI line)) = List.length (sixs y) ∧ Bd (1000000 : Int) (sixs y) ∧ Bd (1000000 : Int) (carI (sixs u) (sixs v) (signI line)) ∧ List.length (combI plusI (sixs y) (carI (sixs u) (sixs v) (signI line))) ≤ (1000000 : Nat) ∧ smpsN (combI plusI (sixs y) (carI (sixs u) (sixs v) (signI line))) = smpsN (encI y u v line) ∧ lgE (combI plusI (sixs y) (carI (sixs u) (sixs v) (signI line))) = lgE (encI y u v line) ∧ True) := by
  kernel_rfl
theorem vc20 (y u v : List Nat) (line : Int) : exF (env false [(26, sp26), (96, sp96), (95, sp95), (97, sp97)] []) h0 0 20 Proofs.Tryz.f20 [ptV y u v, iV line] (.tup [.one (.frs (.flt .f32) (encL y u v line)), iV (encE y u v line)]) = (List.length y ≤ (1000000000 : Nat) ∧ (2 : Nat) ≤ (1000000000 : Nat) ∧ splitB (first [chkPt y u v, within line (0 : Int) (10000000 : Int)] != (0 : Int)) (encL y u v line = [] ∧ first [chkPt y u v, within line (0 : Int) (10000000 : Int)] = encE y u v line ∧ True) (chkPt y u v = (0 : Int) ∧ (0 : Int) ≤ line ∧ smpsN (encI y u v line) = encL y u v line ∧ lgE (encI y u v line) = encE y u v line ∧ True)) := by
  kernel_rfl
theorem vc98 (l : List Nat) : exF (env false [(69, sp69)] []) h138 0 98 Proofs.Tryz.f98 [.one (.sl (.flt .f32) l)] (.val (iV (chkSs l))) = ((∃ (g : Nat), (g ≤ List.length l ∧ chkSs l = first (List.drop g (List.map chkS l))) ∧ (0 : Int) = (↑g : Int) ∧ l = l ∧ True) ∧ ∀ (g : Nat), g ≤ List.length l ∧ chkSs l = first (List.drop g (List.map chkS l)) → splitB (decide ((↑g : Int) < (↑(List.length l) : Int))) (((0 : Int) ≤ (↑g : Int) ∧ (↑g : Int) < (↑(List.length l) : Int)) ∧ splitB (chkS (List.getD l g (0 : Nat)) != (0 : Int)) (chkS (List.getD l g (0 : Nat)) = chkSs l ∧ True) (fits IntKind.i64 ((↑g : Int) + (1 : Int)) ∧ ∃ (g' : Nat), (g' ≤ List.length l ∧ chkSs l = first (List.drop g' (List.map chkS l))) ∧ List.length l - g' < List.length l - g ∧ (↑g : Int) + (1 : Int) = (↑g' : Int) ∧ l = l ∧ True)) ((0 : Int) = chkSs l ∧ True)) := by
  kernel_rfl
theorem vc36 (l : List Nat) : exF (env false [(98, sp98)] []) h0 0 36 Proofs.Tryz.f36 [.one (.sl (.flt .f32) l)] (.val (iV (chkSig l))) = (splitB (decide ((256 : Int) < (↑(List.length l) : Int))) ((5 : Int) = chkSig l ∧ True) (((0 : Int) ≤ (↑(List.length l) : Int) ∧ (0 : Int) < (4 : Int)) ∧ splitB ((↑(List.length l) : Int) % (4 : Int) != (0 : Int)) ((2 : Int) = chkSig l ∧ True) (List.length l ≤ (1000000 : Nat) ∧ chkSs l = chkSig l ∧ True))) := by
  kernel_rfl
theorem vc23 (y u v : List Nat) : exF (env false [(36, sp36), (98, sp98), (22, sp22)] []) h0 0 23 Proofs.Tryz.f23 [ptV y u v] (.val (iV (chkPt y u v))) = (let q0 := (↑(List.length y) : Int); splitB (chkSig y != (0 : Int)) (chkSig y = chkPt y u v ∧ True) (((0 : Int) ≤ q0 ∧ (0 : Int) < (4 : Int) ∧ fits IntKind.i64 (q0 / (4 : Int))) ∧ (((↑(List.length u) : Int) != q0 / (4 : Int)) = false → (0 : Int) ≤ q0 ∧ (0 : Int) < (4 : Int) ∧ fits IntKind.i64 (q0 / (4 : Int))) ∧ splitB (bif (↑(List.length u) : Int) != q0 / (4 : Int) then true else (↑(List.length v) : Int) != q0 / (4 : Int)) ((2 : Int) = chkPt y u v ∧ True) (List.length u ≤ (1000000 : Nat) ∧ List.length v ≤ (1000000 : Nat) ∧ (2 : Nat) ≤ (1000000000 : Nat) ∧ first [chkSs u, chkSs v] = chkPt y u v ∧ True))) := by
  kernel_rfl
theorem vc102 (l : List Int) : exF (env false [(131, sp131)] []) h138 0 102 Proofs.Tryz.f102 [.one (.sl (.int .i64) l)] (.tup [.one (.frs (.flt .f32) (smpsN l)), iV (lgE l)]) = (let q0 := (↑(List.length l) : Int); (∃ (g : Nat), (g ≤ List.length l ∧ ∀ (j : Nat), j < g → lgI (List.getD l j (0 : Int)) = false) ∧ (0 : Int) = (↑g : Int) ∧ l = l ∧ List.map smp (List.take g l) = [] ∧ True) ∧ ∀ (g : Nat), (g ≤ List.length l ∧ ∀ (j : Nat), j < g → lgI (List.getD l j (0 : Int)) = false) → splitB (decide ((↑g : Int) < q0)) (((0 : Int) ≤ (↑g : Int) ∧ (↑g : Int) < q0) ∧ (decide (List.getD l g (0 : Int) < (-16384 : Int)) = false → (0 : Int) ≤ (↑g : Int) ∧ (↑g : Int) < q0) ∧ splitB (bif decide (List.getD l g (0 : Int) < (-16384 : Int)) then true else decide ((16384 : Int) < List.getD l g (0 : Int))) (smpsN l = [] ∧ (4 : Int) = lgE l ∧ True) (((0 : Int) ≤ (↑g : Int) ∧ (↑g : Int) < q0) ∧ ((-8388608 : Int) ≤ List.getD l g (0 : Int) ∧ List.getD l g (0 : Int) ≤ (8388608 : Int)) ∧ room (List.length (List.map smp (List.take g l)) + (1 : Nat)) (4 : Nat) ∧ fits IntKind.i64 ((↑g : Int) + (1 : Int)) ∧ ∃ (g' : Nat), (g' ≤ List.length l ∧ ∀ (j : Nat), j < g' → lgI (List.getD l j (0 : Int)) = false) ∧ List.length l - g' < List.length l - g ∧ (↑g : Int) + (1 : Int) = (↑g' : Int) ∧ l = l ∧ List.map smp (List.take g l) ++ [smp (List.getD l g (0 : Int))] = List.map smp (List.take g' l) ∧ True)) (List.map smp (List.take g l) = smpsN l ∧ (0 : Int) = lgE l ∧ True)) := by
  kernel_rfl
theorem vc30 (l : List Nat) : exF (env false [] []) h0 0 30 Proofs.Tryz.f30 [.one (.sl (.flt .f32) l)] (.val (bV (shortS l))) = ((bif decide ((↑(List.length l) : Int) ≤ (24 : Int)) then true else (↑(List.length l) : Int) == (260 : Int)) = shortS l ∧ True) := by
  kernel_rfl
theorem vc18 (y u v : List Nat) : exF (env false [(30, sp30)] []) h0 0 18 Proofs.Tryz.f18 [ptV y u v] (.val (bV (shortP y u v))) = ((bif bif shortS y then decide ((↑(List.length u) : Int) ≤ (24 : Int)) else false then decide ((↑(List.length v) : Int) ≤ (24 : Int)) else false) = shortP y u v ∧ True) := by
  kernel_rfl
theorem vc34 (l : List Nat) : exF (env false [] []) h0 0 34 Proofs.Tryz.f34 [.one (.sl (.flt .f32) l)] (.val (.one (.frs (.flt .f32) l))) = (room ((0 : Nat) + List.length l) (4 : Nat) ∧ l = l ∧ True) := by
  kernel_rfl
theorem vc21 (y u v : List Nat) : exFr (env false [(34, sp34)] []) h0 0 21 Proofs.Tryz.f21 [ptV y u v] (.val (ptV y u v)) = (List.length y ≤ (1000000 : Nat) ∧ List.length u ≤ (1000000 : Nat) ∧ List.length v ≤ (1000000 : Nat) ∧ y = y ∧ u = u ∧ v = v ∧ True) := by
  kernel_rfl
theorem vc27 (a b : List Nat) : exF (env false [] []) h138 0 27 Proofs.Tryz.f27 [.one (.sl (.flt .f32) a), .one (.sl (.flt .f32) b)] (.val (bV (sameS a b))) = (splitB ((↑(List.length a) : Int) != (↑(List.length b) : Int)) (false = sameS a b ∧ True) ((∃ (g : Nat), (g ≤ List.length a ∧ ∀ (j : Nat), j < g → Op.floatEq FloatKind.f32 (List.getD a j (0 : Nat)) (List.getD b j (0 : Nat)) = true) ∧ (0 : Int) = (↑g : Int) ∧ a = a ∧ b = b ∧ True) ∧ ∀ (g : Nat), (g ≤ List.length a ∧ ∀ (j : Nat), j < g → Op.floatEq FloatKind.f32 (List.getD a j (0 : Nat)) (List.getD b j (0 : Nat)) = true) → splitB (decide ((↑g : Int) < (↑(List.length a) : Int))) (((0 : Int) ≤ (↑g : Int) ∧ (↑g : Int) < (↑(List.length a) : Int)) ∧ ((0 : Int) ≤ (↑g : Int) ∧ (↑g : Int) < (↑(List.length b) : Int)) ∧ splitB (Ieee.Format.order (FloatKind.format FloatKind.f32) (List.getD a g (0 : Nat)) (List.getD b g (0 : Nat)) != some Ordering.eq) (false = sameS a b ∧ True) (fits IntKind.i64 ((↑g : Int) + (1 : Int)) ∧ ∃ (g' : Nat), (g' ≤ List.length a ∧ ∀ (j : Nat), j < g' → Op.floatEq FloatKind.f32 (List.getD a j (0 : Nat)) (List.getD b j (0 : Nat)) = true) ∧ List.length a - g' < List.length a - g ∧ (↑g : Int) + (1 : Int) = (↑g' : Int) ∧ a = a ∧ b = b ∧ True)) (true = sameS a b ∧ True))) := by
  kernel_rfl
end Go.Sx
