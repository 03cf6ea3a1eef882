/- A verified symbolic run of functions, part 10: lemmas, no claim of their own. -/
import Derived.Test.YtlgimjcnnndbhaaS9
namespace Go.Sx
open Go.RowKit
section
variable {E : Env} {w0 : Base} {B n : Nat} {w : World} {a : Act} {ops : Array Oper} {Q : Exit → Act → World → Prop} {rd : Option Nat} {m : Nat}
def Phase (E : Env) (inl : Inl) (yt : YT) (w0 : Base) (B n : Nat) (ops : Array Oper) (s : St) (hd : List (Nat × Nat)) (rs : List Rec) (N : Nat) (k : St → Prop) (D : Nat → Bool) (a : Act) (w : World) : Prop :=
  ((∀ j, D j = true → j < N) ∧ Sat E w0 B n ⟨recTm D rs s.tm, obAt D s.nx hd (recOb D rs) s.ob, s.nx + W * N, s.lr⟩ (recGs D rs) a w) ∨
  ∃ i s' gs', N ≤ i ∧ i ≤ ops.size ∧ (∀ j, D j = true ↔ j < i) ∧ runSeq E inl yt ops (ops.toList.drop i) s' gs' k ∧ Sat E w0 B n s' gs' a w
theorem getD_set {listed : Array Bool} {i j : Nat} (hi : i < listed.size) : (listed.setIfInBounds i true).getD j false = (listed.getD j false || j == i) := by
  simp only [Array.getD_eq_getD_getElem?, Array.getElem?_setIfInBounds]
  by_cases e : i = j
  · subst e; simp [hi]
  · simp [e, Ne.symm e]
theorem getD_ft {listed : Array Bool} {j : Nat} (h : listed.getD j true = false) : listed.getD j false = false ∧ j < listed.size := by
  simp only [Array.getD_eq_getD_getElem?] at h ⊢
  cases hj : listed[j]? with
  | none => rw [hj] at h; simp at h
  | some b => rw [hj] at h; simp only [Option.getD_some] at h ⊢; exact ⟨h, (Array.getElem?_eq_some_iff.1 hj).1⟩
theorem getD_tf {listed : Array Bool} {j : Nat} (h : listed.getD j false = false) (hj : j < listed.size) : listed.getD j true = false := by
  simp only [Array.getD_eq_getD_getElem?] at h ⊢
  rw [Array.getElem?_eq_getElem hj] at h ⊢
  exact h
theorem Sat.obs {tm : List (Nat × SV)} {ob ob' : List (Nat × Option AObj)} {nx : Nat} {lr : LR} {gs : List GV} (h : Sat E w0 B n ⟨tm, ob, nx, lr⟩ gs a w) (hl : ∀ id p, lookO ob' id = some p → lookO ob id = some p) : Sat E w0 B n ⟨tm, ob', nx, lr⟩ gs a w := by
  obtain ⟨ρ, H, b, ds, I, G, hT, hG, hdf, hsz⟩ := h
  exact ⟨ρ, H, b, ds, I.congr hl, G, hT, hG, hdf, hsz⟩
theorem draw_sound0 {inl : Inl} {yt : YT} (hE : EnvOk E) (hI : InlOk E inl) (hY : YtOk E w0 B yt) (hd : ∀ o ∈ ops.toList, ∀ d, o.dst = some d → d < n) {k : St → Prop} (hk : ∀ s' a' w', k s' → Sat E w0 B n s' [] a' w' → Q .normal a' w') (hQ : ∀ c a w, ¬ Q (.panic c) a w) {s : St} {hd0 : List (Nat × Nat)}
    (hap : apartAll ops ((zipAnc 0 ops.toList (ancs ops.toList [])).take (headLen (fmOf ops (zipAnc 0 ops.toList (ancs ops.toList []))) (zipAnc 0 ops.toList (ancs ops.toList [])))) = true) (hnd : (ops.toList.filterMap (·.dst)).Nodup)
    (hdu : (hd0.map (·.2)).Nodup) (h : runDraw E ops s hd0 (((zipAnc 0 ops.toList (ancs ops.toList [])).take (headLen (fmOf ops (zipAnc 0 ops.toList (ancs ops.toList []))) (zipAnc 0 ops.toList (ancs ops.toList [])))).map fun x => (x.1, x.2.2)) 0 [] fun rs => if stoAll s.nx ((zipAnc 0 ops.toList (ancs ops.toList [])).take (headLen (fmOf ops (zipAnc 0 ops.toList (ancs ops.toList []))) (zipAnc 0 ops.toList (ancs ops.toList [])))) rs then
        runSeq E inl yt ops (ops.toList.drop (headLen (fmOf ops (zipAnc 0 ops.toList (ancs ops.toList []))) (zipAnc 0 ops.toList (ancs ops.toList [])))) ⟨recTm (fun _ => true) rs s.tm, obAt (fun _ => true) s.nx hd0 (recOb (fun _ => true) rs) s.ob, s.nx + W * headLen (fmOf ops (zipAnc 0 ops.toList (ancs ops.toList []))) (zipAnc 0 ops.toList (ancs ops.toList [])), s.lr⟩ (recGs (fun _ => true) rs) k else False)
    (hs : Sat E w0 B n s [] a w) : wpAnyIn (Fw rd) m E.P .any ops Q ops.size (Array.replicate ops.size false) a w := by
  have hst : (∀ id p, lookO s.ob id = some p → id < s.nx ∧ p.lt s.nx) ∧ (∀ t sv, lookT s.tm t = some sv → sv.lt s.nx) ∧ w0.fl ≤ s.nx := by
    have hs' := hs
    obtain ⟨ρ, H, b, ds, I, G, hT, _⟩ := hs'
    exact ⟨fun id p h => ⟨(I.objs id p h).1, (I.objs id p h).2.1⟩, fun t sv h => (hT t sv h).2.1, G.fl⟩
  obtain ⟨hob0, htm0, hfl0⟩ := hst
  obtain ⟨rs, hcont, hidx, hhead⟩ := draw_facts _ _ _ h
  rw [List.append_nil] at hcont hhead
  obtain ⟨mks, hm0, hmlen⟩ := ancs_pre ops.toList []
  rw [List.nil_append] at hm0
  rw [hm0] at hap hcont hhead hidx
  have hmlen' : mks.length = ops.size := by simpa using hmlen
  have hfl := fun b h => fmOf_bit (ops := ops) (l := zipAnc 0 ops.toList mks) (b := b) h
  generalize hfm : fmOf ops (zipAnc 0 ops.toList mks) = fm at hap hcont hhead hidx hfl
  generalize hN : headLen fm (zipAnc 0 ops.toList mks) = N at hap hcont hhead hidx hfl
  split at hcont
  rotate_left
  · exact hcont.elim
  rename_i hsto
  have hat : ∀ (i : Nat) (o : Oper), ops[i]? = some o → ∃ mk, mks[i]? = some mk ∧ (zipAnc 0 ops.toList mks)[i]? = some (o, i, mk) ∧
      (∀ b, Nat.testBit mk b = true → ∃ e ∈ o.after, Region.binds .any e = true ∧ (e.on = b ∨ ∃ mk', mks[e.on]? = some mk' ∧ Nat.testBit mk' b = true)) ∧ (∀ e ∈ o.after, Region.binds .any e = true → Nat.testBit mk e.on = true) := by
    intro i o ho
    have ho' : ops.toList[i]? = some o := by simpa using ho
    obtain ⟨pre, h1, ⟨t, h2⟩, h3⟩ := ancs_at ops.toList [] i o ho'
    simp only [List.length_nil, Nat.zero_add] at h1 h3
    rw [hm0] at h2 h3
    refine ⟨_, h3, (zip_at _ _ _ _ _).2 ⟨ho', by simp, h3⟩, ?_, ?_⟩
    · intro b hb
      rcases (fold_bit pre b _ 0).1 hb with h0 | ⟨e, he, hb1, hb2⟩
      · simp at h0
      · refine ⟨e, by simpa using he, hb1, ?_⟩
        rcases hb2 with hb2 | hb2
        · exact .inl hb2
        · by_cases hlt : e.on < pre.length
          · refine .inr ⟨pre.getD e.on 0, ?_, hb2⟩
            rw [h2, List.getElem?_append_left hlt, List.getD_eq_getElem?_getD, List.getElem?_eq_getElem hlt]
            rfl
          · rw [List.getD_eq_getElem?_getD, List.getElem?_eq_none (by omega)] at hb2
            simp at hb2
    · intro e he hb
      exact (fold_bit pre e.on _ 0).2 (.inr ⟨e, by simpa using he, hb, .inl rfl⟩)
  obtain ⟨hh1, hh2⟩ := head_at fm ops.toList mks 0
  rw [hN] at hh1 hh2
  have hzl : (zipAnc 0 ops.toList mks).length ≤ ops.size := by
    rcases Nat.lt_or_ge ops.size (zipAnc 0 ops.toList mks).length with hlt | hge
    · have := (zip_at ops.toList mks 0 ops.size _).1 (List.getElem?_eq_getElem hlt)
      have h1 := this.1
      rw [List.getElem?_eq_none (by simp)] at h1
      cases h1
    · exact hge
  have hNle : N ≤ ops.size := by rcases hh1 with h | h <;> omega
  have hHead : ∀ (i : Nat) (o : Oper) (mk : Nat), i < N → ops[i]? = some o → mks[i]? = some mk → HeadOk E ops s hd0 rs ((((zipAnc 0 ops.toList mks).take N).map fun x => (x.1, x.2.2)).drop (i + 1)) o i mk := by
    intro i o mk hi ho hmk
    have hz : (zipAnc 0 ops.toList mks)[i]? = some (o, i, mk) := (zip_at _ _ _ _ _).2 ⟨by simpa using ho, by simp, hmk⟩
    have := hhead i o mk (by rw [List.getElem?_map, List.getElem?_take, if_pos hi, hz]; rfl)
    rw [Nat.zero_add] at this
    exact this
  have hTail : ∀ (i mk : Nat), N ≤ i → i < ops.size → mks[i]? = some mk → ∀ b, b < i → Nat.testBit mk b = true ∨ Nat.testBit fm b = true := by
    intro i mk hi hi2 hmk b hb
    obtain ⟨o, ho⟩ : ∃ o, ops[i]? = some o := ⟨_, Array.getElem?_eq_getElem hi2⟩
    have hz : (zipAnc 0 ops.toList mks)[i]? = some (o, i, mk) := (zip_at _ _ _ _ _).2 ⟨by simpa using ho, by simp, hmk⟩
    have := hh2 i _ hz (by omega)
    simp only [] at this
    have e : mk ||| (fm % 2 ^ i) = 2 ^ i - 1 := by
      have h1 : Nat.lor mk (fm % 2 ^ i) = mk ||| (fm % 2 ^ i) := rfl
      omega
    have e2 : Nat.testBit (mk ||| (fm % 2 ^ i)) b = true := by
      rw [e, Nat.testBit_two_pow_sub_one]
      simpa using hb
    rw [Nat.testBit_or, Bool.or_eq_true] at e2
    rcases e2 with e2 | e2
    · exact .inl e2
    · rw [Nat.testBit_mod_two_pow, Bool.and_eq_true] at e2
      exact .inr e2.2
  have hlow : ∀ (i : Nat) (o : Oper) (mk : Nat), ops[i]? = some o → mks[i]? = some mk → mk < 2 ^ i := by
    intro i o mk ho hmk
    by_cases hi : i < N
    · exact (hHead i o mk hi ho hmk).1
    · have hz : (zipAnc 0 ops.toList mks)[i]? = some (o, i, mk) := (zip_at _ _ _ _ _).2 ⟨by simpa using ho, by simp, hmk⟩
      have := hh2 i _ hz (by omega)
      simp only [] at this
      have h1 : Nat.lor mk (fm % 2 ^ i) = mk ||| (fm % 2 ^ i) := rfl
      have h2 : mk ≤ mk ||| (fm % 2 ^ i) := Nat.left_le_or
      have : 0 < 2 ^ i := Nat.pos_of_ne_zero (by simp)
      omega
  have hrsN : ∀ x ∈ rs, x.i < N := by
    intro x hx
    have : x.i ∈ rs.map (·.i) := List.mem_map.2 ⟨x, hx, rfl⟩
    rw [hidx] at this
    simp only [List.mem_reverse, List.mem_range'_1, List.length_map, List.length_take] at this
    omega
  have hrsU : ∀ x ∈ rs, ∀ y ∈ rs, x.i = y.i → x = y := by
    have hn : (rs.map (·.i)).Nodup := by rw [hidx]; exact (List.reverse_perm _).nodup_iff.2 List.nodup_range'
    intro x hx y hy e
    obtain ⟨p, hp, rfl⟩ := List.mem_iff_getElem.1 hx
    obtain ⟨q, hq, rfl⟩ := List.mem_iff_getElem.1 hy
    have := (List.getElem_inj (xs := rs.map (·.i)) (i := p) (j := q) (h₀ := by simpa using hp) (h₁ := by simpa using hq) hn).1 (by simpa using e)
    subst this
    rfl
  have hkeys : ∀ (α : Nat → Bool) (l : List Rec) (id : Nat), id ∈ (recOb α l).map (·.1) → ∃ y ∈ l, α y.i = true ∧ ∃ z ∈ y.up, z.1 = id := by
    intro α l id
    induction l with
    | nil => simp [recOb]
    | cons y l ih =>
      intro h
      simp only [recOb] at h
      cases hy : α y.i with
      | false =>
        rw [hy] at h
        obtain ⟨z, z1, z2⟩ := ih h
        exact ⟨z, by simp [z1], z2⟩
      | true =>
        rw [hy] at h
        simp only [cond_true, List.map_append, List.mem_append] at h
        rcases h with h | h
        · obtain ⟨z, z1, z2⟩ := List.mem_map.1 h
          exact ⟨y, by simp, hy, z, z1, z2⟩
        · obtain ⟨z, z1, z2⟩ := ih h
          exact ⟨z, by simp [z1], z2⟩
  have hrec2 : ∀ x ∈ rs, ∃ mk, mks[x.i]? = some mk ∧ (∀ y ∈ x.up, ((s.nx + W * x.sl s.nx ≤ y.1 ∧ y.1 < s.nx + W * x.sl s.nx + W) ∨ (y.1 < s.nx ∧ (x.i, y.1) ∈ hd0)) ∧ y.2.isSome = true) ∧ (x.sl s.nx = x.i ∨ Nat.testBit mk (x.sl s.nx) = true) ∧ ∀ id ∈ x.v.ids ++ x.up.flatMap (fun y => objIds y.2), id < s.nx + W * x.i + W ∧ (id < s.nx ∨ ∃ y ∈ rs, (y = x ∨ Nat.testBit mk y.i = true) ∧ ∃ z ∈ y.up, z.1 = id) := by
    intro x hx
    have hxN := hrsN x hx
    obtain ⟨o, ho⟩ : ∃ o, ops[x.i]? = some o := ⟨_, Array.getElem?_eq_getElem (by omega)⟩
    obtain ⟨mk, hmk, _⟩ := hat x.i o ho
    refine ⟨mk, hmk, ?_⟩
    obtain ⟨_, hH⟩ := hHead x.i o mk hxN ho hmk
    have key : ∀ (v : SV) (up : List (Nat × Option AObj)) (keys : List Nat), x.v = v → x.up = up → recOk hd0 s.nx x.i (slotOf s.nx x.i up) keys v up = true → (slotOf s.nx x.i up = x.i ∨ Nat.testBit mk (slotOf s.nx x.i up) = true) → (∀ id ∈ keys, (∃ z ∈ up, z.1 = id) ∨ id ∈ (recOb (Nat.testBit mk) rs).map (·.1)) →
        (∀ y ∈ x.up, ((s.nx + W * x.sl s.nx ≤ y.1 ∧ y.1 < s.nx + W * x.sl s.nx + W) ∨ (y.1 < s.nx ∧ (x.i, y.1) ∈ hd0)) ∧ y.2.isSome = true) ∧ (x.sl s.nx = x.i ∨ Nat.testBit mk (x.sl s.nx) = true) ∧ ∀ id ∈ x.v.ids ++ x.up.flatMap (fun y => objIds y.2), id < s.nx + W * x.i + W ∧ (id < s.nx ∨ ∃ y ∈ rs, (y = x ∨ Nat.testBit mk y.i = true) ∧ ∃ z ∈ y.up, z.1 = id) := by
      intro v up keys e1 e2 hok hslot hkey
      subst e1 e2
      simp only [recOk, Bool.and_eq_true, List.all_eq_true, Bool.or_eq_true, decide_eq_true_eq, List.contains_iff_mem, List.any_eq_true, beq_iff_eq] at hok
      refine ⟨fun y hy => ⟨(hok.2 y hy).1.imp id fun ⟨h1, z, h2, h3, h4⟩ => ⟨h1, by rw [← h3, ← h4]; exact h2⟩, (hok.2 y hy).2⟩, hslot, fun id hid => ⟨(hok.1 id hid).2, ?_⟩⟩
      rcases (hok.1 id hid).1 with h | h
      · exact .inl h
      · rcases hkey id h with h | h
        · exact .inr ⟨x, hx, .inl rfl, h⟩
        · obtain ⟨y, y1, y2, y3⟩ := hkeys _ _ _ h
          exact .inr ⟨y, y1, .inr y2, y3⟩
    rcases hH with ⟨hg, res, sv, _, _, _, _, hok, hslot, _, hmem⟩ | ⟨j, want, g, d, res, sv, hg, hgd, hdst, hbit, _, _, _, hok, hmem⟩
    · have hxx := hrsU x hx _ hmem rfl
      refine key sv (keepU res.up) _ (by rw [hxx]) (by rw [hxx]) hok hslot fun id hid => ?_
      rw [List.map_append, List.mem_append] at hid
      rcases hid with hid | hid
      · obtain ⟨z, z1, z2⟩ := List.mem_map.1 hid
        exact .inl ⟨z, z1, z2⟩
      · exact .inr hid
    · have hxx := hrsU x hx _ hmem rfl
      exact key sv [] _ (by rw [hxx]) (by rw [hxx]) hok (.inl rfl) fun id hid => .inr hid
  have hslt : ∀ x ∈ rs, x.sl s.nx ≤ x.i := by
    intro x hx
    obtain ⟨mk, hmk, _, hsl, _⟩ := hrec2 x hx
    rcases hsl with hsl | hsl
    · omega
    · obtain ⟨o, ho⟩ : ∃ o, ops[x.i]? = some o := ⟨_, Array.getElem?_eq_getElem (by have := hrsN x hx; omega)⟩
      have hlt := hlow x.i o mk ho hmk
      rcases Nat.lt_or_ge (x.sl s.nx) x.i with h | h
      · omega
      · have := Nat.testBit_lt_two_pow (Nat.lt_of_lt_of_le hlt (Nat.pow_le_pow_right (by omega) h))
        rw [this] at hsl; cases hsl
  have hord : rs.Pairwise fun x y => y.i < x.i := by
    have : (rs.map (·.i)).Pairwise fun a b => b < a := by
      rw [hidx, List.pairwise_reverse]
      exact List.pairwise_lt_range'
    exact List.pairwise_map.1 this
  simp only [stoAll, List.all_eq_true, Bool.or_eq_true, Bool.and_eq_true, beq_iff_eq, bne_iff_ne, Bool.not_eq_true'] at hsto
  have hwf : RecWf s.nx hd0 rs := by
    refine ⟨hrsU, fun x hx => let ⟨_, _, h, _⟩ := hrec2 x hx; h, hdu, fun x hx id hid => let ⟨_, _, _, _, h⟩ := hrec2 x hx; (h id hid).1, hord, hslt, fun x hx hne y hy e => ?_⟩
    rcases hsto x hx with h | ⟨h, _⟩
    · exact absurd h hne
    · rcases h y hy with (h | h) | h
      · exact absurd e h
      · exact .inl h
      · exact .inr (hrsU y hy x hx h)
  have full : ∀ {D : Nat → Bool} {id : Nat} {p : AObj}, lookO (obAt (fun _ => true) s.nx hd0 (recOb (fun _ => true) rs) s.ob) id = some p → lookO (obAt D s.nx hd0 (recOb (fun _ => true) rs) s.ob) id = some p := by
    intro D id p hp
    obtain ⟨hng, hp⟩ := eat_iff.1 hp
    refine eat_iff.2 ⟨fun j hj => (by have := hng j hj; cases this), ?_⟩
    rcases recOb_look1 hwf hp with ⟨x, x1, x2, x3, x4⟩ | ⟨h1, h4⟩
    · exact recOb_look2 hwf x1 x2 x3 x4
    · rw [recOb_look3 hwf (hob0 id p (eat_le h1)).1 (fun y hy hyD _ => h4 y hy hyD)]
      exact eat_mono (fun _ _ => rfl) h1
  have hrec : ∀ x ∈ rs, ∃ o mk, ops[x.i]? = some o ∧ mks[x.i]? = some mk ∧ x.d = o.dst ∧ ∀ g b, x.g = some (g, b) → ∃ j, (ops[j]?).bind (·.dst) = some g ∧ Nat.testBit mk j = true := by
    intro x hx
    have hxN := hrsN x hx
    obtain ⟨o, ho⟩ : ∃ o, ops[x.i]? = some o := ⟨_, Array.getElem?_eq_getElem (by omega)⟩
    obtain ⟨mk, hmk, _⟩ := hat x.i o ho
    refine ⟨o, mk, ho, hmk, ?_⟩
    obtain ⟨_, hH⟩ := hHead x.i o mk hxN ho hmk
    rcases hH with ⟨hg, res, sv, _, _, _, _, _, _, _, hmem⟩ | ⟨j, want, g, d, res, sv, hg, hgd, hdst, hbit, _, _, _, _, hmem⟩
    · have := hrsU x hx _ hmem rfl
      rw [this]
      exact ⟨rfl, fun g b h => by cases h⟩
    · have := hrsU x hx _ hmem rfl
      rw [this]
      refine ⟨hdst.symm, fun g' b h => ?_⟩
      cases h
      exact ⟨j, hgd, hbit⟩
  have hndI : ∀ (i j d : Nat), (ops[i]?).bind (·.dst) = some d → (ops[j]?).bind (·.dst) = some d → i = j := by
    intro i j d h1 h2
    obtain ⟨x, hx, hxd⟩ := Option.bind_eq_some_iff.1 h1
    obtain ⟨y, hy, hyd⟩ := Option.bind_eq_some_iff.1 h2
    exact nodup_at hnd (by simpa using hx) (by simpa using hy) hxd hyd
  have hmemO : ∀ {i : Nat} {o : Oper}, ops[i]? = some o → o ∈ ops.toList := by
    intro i o ho
    obtain ⟨h1, h2⟩ := Array.getElem?_eq_some_iff.1 ho
    rw [← h2]; simp
  have headStep : ∀ (i : Nat) (o : Oper) (mk : Nat) (listed : Array Bool) (a : Act) (w : World) {K : Act → World → Prop}, i < N → ops[i]? = some o → mks[i]? = some mk → listed.getD i false = false → (∀ b, Nat.testBit mk b = true → listed.getD b false = true) →
      (∀ j mk, listed.getD j false = true → mks[j]? = some mk → ∀ b, Nat.testBit mk b = true → listed.getD b false = true) → (∀ j, (fun j => listed.getD j false) j = true → j < N) →
      Sat E w0 B n ⟨recTm (fun j => listed.getD j false) rs s.tm, obAt (fun j => listed.getD j false) s.nx hd0 (recOb (fun j => listed.getD j false) rs) s.ob, s.nx + W * N, s.lr⟩ (recGs (fun j => listed.getD j false) rs) a w →
      (∀ a' w', Phase E inl yt w0 B n ops s hd0 rs N k (fun j => listed.getD j false || j == i) a' w' → K a' w') → wpOpIn (Fw rd) m E.P ops Q i K a w := by
    intro i o mk listed a w K hiN ho hmk hDi hanc hcl p1 p2 next
    have hDs : ∀ x ∈ rs, listed.getD x.i false = true → listed.getD (x.sl s.nx) false = true := by
      intro x hx hD
      obtain ⟨mk', q2, _, q3, _⟩ := hrec2 x hx
      rcases q3 with q3 | q3
      · rw [q3]; exact hD
      · exact hcl x.i mk' hD q2 _ q3
    have hcmp : ∀ x ∈ rs, x.sl s.nx ≠ x.i → listed.getD x.i false = true → Nat.testBit mk (x.sl s.nx) = true → Nat.testBit mk x.i = true := by
      intro x hx hne hD hbit
      obtain ⟨mk', q2, _⟩ := hrec2 x hx
      have hxN := hrsN x hx
      obtain ⟨o', ho'⟩ : ∃ o, ops[x.i]? = some o := ⟨_, Array.getElem?_eq_getElem (by omega)⟩
      have hz1 : (o', x.i, mk') ∈ (zipAnc 0 ops.toList mks).take N := List.mem_of_getElem? (i := x.i) (by rw [List.getElem?_take, if_pos hxN]; exact (zip_at _ _ _ _ _).2 ⟨by simpa using ho', by simp, q2⟩)
      have hz2 : (o, i, mk) ∈ (zipAnc 0 ops.toList mks).take N := List.mem_of_getElem? (i := i) (by rw [List.getElem?_take, if_pos hiN]; exact (zip_at _ _ _ _ _).2 ⟨by simpa using ho, by simp, hmk⟩)
      rcases hsto x hx with h | ⟨_, h⟩
      · exact absurd h hne
      · rcases h _ hz1 with h | h
        · exact absurd rfl h
        · rcases h _ hz2 with ((h | h) | h) | h
          · rw [hbit] at h; cases h
          · exact h
          · rw [← h, hDi] at hD; cases hD
          · have := hcl x.i mk' hD q2 i h
            rw [hDi] at this; cases this
    have hse : ∀ j, (fun j => listed.getD j false) j = true → hidAt ((((zipAnc 0 ops.toList mks).take N).map fun x => (x.1, x.2.2)).drop (i + 1)) i j = true := by
      intro j hj
      unfold hidAt
      rw [Bool.and_eq_true, bne_iff_ne, Bool.not_eq_true']
      simp only [] at hj
      refine ⟨fun e => (by rw [e, hDi] at hj; cases hj), ?_⟩
      cases hso : seesOld ((((zipAnc 0 ops.toList mks).take N).map fun x => (x.1, x.2.2)).drop (i + 1)) i j with
      | false => rfl
      | true =>
        exfalso
        unfold seesOld at hso
        rw [Bool.and_eq_true, Nat.blt_eq] at hso
        obtain ⟨hij, hso⟩ := hso
        split at hso
        · rename_i x hx
          rw [List.getElem?_drop, show i + 1 + (j - i - 1) = j by omega, List.getElem?_map, List.getElem?_take, if_pos (p1 j hj)] at hx
          obtain ⟨z, hz, rfl⟩ := Option.map_eq_some_iff.1 hx
          have hz2 := (zip_at _ _ _ _ _).1 hz
          have := hcl j z.2.2 hj hz2.2.2 i hso
          rw [hDi] at this; cases this
        · cases hso
    refine head_step hE (hHead i o mk hiN ho hmk) hse ho (hd o (hmemO ho)) hDi hiN hrsN hwf hob0 htm0 hfl0 ?_ hanc hDs hcmp ?_ ?_ ?_ hndI p2 ?_
    · intro x hx hD id hid
      obtain ⟨mk', q2, _, _, q4⟩ := hrec2 x hx
      rcases (q4 id hid).2 with h | ⟨y, y1, y2, y3⟩
      · exact .inl h
      · refine .inr ⟨y, y1, ?_, y3⟩
        rcases y2 with rfl | y2
        · exact hD
        · exact hcl x.i mk' hD q2 y.i y2
    · intro x hx
      obtain ⟨o', mk', q1, _, q3, _⟩ := hrec x hx
      rw [q1]; exact q3
    · intro x hx g b hg
      obtain ⟨o', mk', _, q2, _, q4⟩ := hrec x hx
      obtain ⟨j, r1, r2⟩ := q4 g b hg
      exact ⟨j, r1, fun hD => hcl x.i mk' hD q2 j r2⟩
    · intro x hx hD hbit t ht
      obtain ⟨o', mk', q1, q2, q3, _⟩ := hrec x hx
      have hxN := hrsN x hx
      have hz1 : ((zipAnc 0 ops.toList mks).take N)[i]? = some (o, i, mk) := by rw [List.getElem?_take, if_pos hiN]; exact (zip_at _ _ _ _ _).2 ⟨by simpa using ho, by simp, hmk⟩
      have hz2 : ((zipAnc 0 ops.toList mks).take N)[x.i]? = some (o', x.i, mk') := by rw [List.getElem?_take, if_pos hxN]; exact (zip_at _ _ _ _ _).2 ⟨by simpa using q1, by simp, q2⟩
      have hback : Nat.testBit mk' i = false := by
        cases hb : Nat.testBit mk' i with
        | false => rfl
        | true => have := hcl x.i mk' hD q2 i hb; rw [hDi] at this; cases this
      have hne : x.i ≠ i := fun e => by simp only [e] at hD; rw [hDi] at hD; cases hD
      rw [q3] at ht
      rcases Nat.lt_or_gt_of_ne hne with hlt | hlt
      · have := apartAll_at _ x.i i _ _ hap hlt hz2 hz1
        simp only [apart, hbit, hback, Bool.false_or, ht, Bool.and_eq_true, Bool.not_eq_true'] at this
        simpa using this.1
      · have := apartAll_at _ i x.i _ _ hap hlt hz1 hz2
        simp only [apart, hbit, hback, Bool.false_or, ht, Bool.and_eq_true, Bool.not_eq_true'] at this
        simpa using this.2
    · intro a' w' hs'
      refine next a' w' (.inl ⟨fun j hj => ?_, hs'⟩)
      simp only [Bool.or_eq_true, beq_iff_eq] at hj
      rcases hj with hj | rfl
      · exact p1 j hj
      · exact hiN
  have below_i : ∀ (listed : Array Bool) (i : Nat) (mk : Nat), listed.size = ops.size → i < ops.size → (∀ i, Nat.testBit fm i = true → i ∉ Region.ready .any ops listed) → (∀ b, b < i → Nat.testBit mk b = true ∨ Nat.testBit fm b = true) → (∀ b, Nat.testBit mk b = true → listed.getD b false = true) → ∀ b, b < i → listed.getD b false = true := by
    intro listed i mk hsz hi hnf hbits hanc b
    induction b using Nat.strongRecOn with
    | _ b ihb =>
      intro hb
      rcases hbits b hb with h | h
      · exact hanc b h
      · cases hbb : listed.getD b false with
        | true => rfl
        | false =>
          exfalso
          obtain ⟨o, ho⟩ : ∃ o, ops[b]? = some o := ⟨_, Array.getElem?_eq_getElem (by omega)⟩
          obtain ⟨mk', hmk', _, _, h4⟩ := hat b o ho
          have hlt := hlow b o mk' ho hmk'
          refine hnf b h (mem_ready.2 ⟨getD_tf hbb (by omega), o, ho, fun e he hbe => ?_⟩)
          have hbit := h4 e he hbe
          have hej : e.on < b := by
            rcases Nat.lt_or_ge e.on b with h | h
            · exact h
            · have := Nat.testBit_lt_two_pow (Nat.lt_of_lt_of_le hlt (Nat.pow_le_pow_right (by omega) h))
              rw [this] at hbit; cases hbit
          exact ihb e.on hej (by omega)
  have main : ∀ (fuel : Nat) (listed : Array Bool) (a : Act) (w : World) (U : List Nat), listed.size = ops.size → U.length ≤ fuel → (∀ j, j < ops.size → listed.getD j false = false → j ∈ U) →
      (∀ j mk, listed.getD j false = true → mks[j]? = some mk → ∀ b, Nat.testBit mk b = true → listed.getD b false = true) →
      Phase E inl yt w0 B n ops s hd0 rs N k (fun j => listed.getD j false) a w → wpAnyIn (Fw rd) m E.P .any ops Q fuel listed a w := by
    have done : ∀ (listed : Array Bool) (a : Act) (w : World), (∀ j, j < ops.size → listed.getD j false = true) → Phase E inl yt w0 B n ops s hd0 rs N k (fun j => listed.getD j false) a w → Q .normal a w := by
      intro listed a w hall hph
      have fin : ∀ s' gs', runSeq E inl yt ops (ops.toList.drop ops.size) s' gs' k → Sat E w0 B n s' gs' a w → Q .normal a w := by
        intro s' gs' h1 h2
        rw [List.drop_of_length_le (by simp)] at h1
        exact hk s' a w h1 h2.less
      rcases hph with ⟨h1, h2⟩ | ⟨i, s', gs', h1, h2, h3, h4, h5⟩
      · have hNs : N = ops.size := by
          rcases Nat.lt_or_ge N ops.size with hlt | hge
          · have := h1 N (hall N hlt); omega
          · omega
        have e1 : recTm (fun j => listed.getD j false) rs s.tm = recTm (fun _ => true) rs s.tm := recTm_congr fun x hx => hall x.i (by have := hrsN x hx; omega)
        have e2 : recGs (fun j => listed.getD j false) rs = recGs (fun _ => true) rs := recGs_congr fun x hx => hall x.i (by have := hrsN x hx; omega)
        have e3 : recOb (fun j => listed.getD j false) rs = recOb (fun _ => true) rs := recOb_congr fun x hx => hall x.i (by have := hrsN x hx; omega)
        rw [e1, e2, e3] at h2
        have h2 := h2.obs (ob' := obAt (fun _ => true) s.nx hd0 (recOb (fun _ => true) rs) s.ob) fun id p hp => full hp
        rw [hNs] at hcont h2
        exact fin _ _ hcont h2
      · have : i = ops.size := by
          rcases Nat.lt_or_ge i ops.size with hlt | hge
          · have := (h3 i).1 (hall i hlt); omega
          · omega
        subst this
        exact fin _ _ h4 h5
    intro fuel
    induction fuel with
    | zero =>
      intro listed a w U hsz hU hUm hcl hph
      have hU0 : U = [] := List.length_eq_zero_iff.1 (by omega)
      subst hU0
      have hall : ∀ j, j < ops.size → listed.getD j false = true := by
        intro j hj
        cases hb : listed.getD j false with
        | true => rfl
        | false => exact absurd (hUm j hj hb) (by simp)
      refine ⟨?_, done listed a w hall hph⟩
      cases hr : Region.ready .any ops listed with
      | nil => rfl
      | cons x xs =>
        have hx : x ∈ Region.ready .any ops listed := by rw [hr]; simp
        obtain ⟨h1, _⟩ := mem_ready.1 hx
        obtain ⟨h2, h3⟩ := getD_ft h1
        have := hall x (by omega)
        rw [h2] at this; cases this
    | succ fuel ih =>
      intro listed a w U hsz hU hUm hcl hph
      by_cases hex : ∃ i, Nat.testBit fm i = true ∧ i ∈ Region.ready .any ops listed
      · -- a part of a tuple is taken first
        obtain ⟨i, hfi, hi⟩ := hex
        obtain ⟨hiN, x, hxl, hxi, hxf⟩ := hfl i hfi
        obtain ⟨hi1, o, ho, hedge⟩ := mem_ready.1 hi
        obtain ⟨hDi, hisz⟩ := getD_ft hi1
        obtain ⟨mk, hmk, hzi, h3, _⟩ := hat i o ho
        have hiops : i < ops.size := by omega
        have hanc : ∀ b, Nat.testBit mk b = true → listed.getD b false = true := by
          intro b hb
          obtain ⟨e, he, hb1, hb2⟩ := h3 b hb
          have hon := hedge e he hb1
          rcases hb2 with rfl | ⟨mk', hmk', hb2⟩
          · exact hon
          · exact hcl e.on mk' hon hmk' b hb2
        have hset : ∀ j, (listed.setIfInBounds i true).getD j false = (listed.getD j false || j == i) := fun j => getD_set hisz
        obtain ⟨p, hp, hpx⟩ := List.mem_iff_getElem.1 hxl
        have hxe : x = (o, i, mk) := by
          have h1 : (zipAnc 0 ops.toList mks)[p]? = some x := by rw [List.getElem?_eq_getElem hp, hpx]
          obtain ⟨xo, xi, xm⟩ := x
          have h2 := (zip_at _ _ _ _ _).1 h1
          simp only [] at h2 hxi
          have : p = i := by omega
          subst this
          rw [hzi] at h1
          cases h1
          rfl
        subst hxe
        unfold isFloat at hxf
        split at hxf
        · rename_i y k9 d hop hgu hds
          simp only [List.all_eq_true, Bool.and_eq_true, Bool.or_eq_true, beq_iff_eq] at hxf
          have hflat : ∀ (j : Nat) (oj : Oper), ops[j]? = some oj → ∃ mk', (oj, j, mk') ∈ zipAnc 0 ops.toList mks := by
            intro j oj hj
            obtain ⟨mk', _, hz, _⟩ := hat j oj hj
            exact ⟨mk', List.mem_of_getElem? hz⟩
          have hsel : ∀ (j : Nat) (o : Oper) cs b, ops[j]? = some o → o.op ≠ .select cs b := by
            intro j oj cs b hj hh
            obtain ⟨mk', hm⟩ := hflat j oj hj
            have := (hxf _ hm).1
            simp [hh] at this
          have hdef : ∀ (j : Nat) (o : Oper) c, ops[j]? = some o → o.op ≠ .defer c := by
            intro j oj c hj hh
            obtain ⟨mk', hm⟩ := hflat j oj hj
            have := (hxf _ hm).1
            simp [hh] at this
          have next : ∀ a' w', Phase E inl yt w0 B n ops s hd0 rs N k (fun j => listed.getD j false || j == i) a' w' → wpAnyIn (Fw rd) m E.P .any ops Q fuel (listed.setIfInBounds i true) a' w' := by
            intro a' w' hph'
            refine ih _ a' w' (U.filter (· != i)) (by simp [hsz]) ?_ ?_ ?_ (by simpa only [hset] using hph')
            · have hiU := hUm i hiops hDi
              have : (U.filter (· != i)).length < U.length := by
                refine List.length_filter_lt_length_iff_exists.2 ⟨i, hiU, by simp⟩
              omega
            · intro j hj hb
              rw [hset] at hb
              simp only [Bool.or_eq_false_iff, beq_eq_false_iff_ne] at hb
              exact List.mem_filter.2 ⟨hUm j hj hb.1, by simpa using hb.2⟩
            · intro j mk' hj hmk' b hb
              rw [hset] at hj ⊢
              simp only [Bool.or_eq_true, beq_iff_eq] at hj ⊢
              rcases hj with hj | rfl
              · exact .inl (hcl j mk' hj hmk' b hb)
              · rw [hmk] at hmk'; cases hmk'
                exact .inl (hanc b hb)
          rcases hph with ⟨p1, p2⟩ | ⟨i0, s', gs', p1, p2, p3, p4, p5⟩
          · obtain ⟨v, hy, hK⟩ := yf_extract (rd := rd) (m := m) (P := E.P) (Q := Q) ho hop hgu (headStep i o mk listed a w hiN ho hmk hDi hanc hcl p1 p2 (K := wpAnyIn (Fw rd) m E.P .any ops Q fuel (listed.setIfInBounds i true)) next)
            refine yf_first ho hsel hdef hQ fuel listed a w ?_ hi hy hK
            intro j oj hj hji hun hno
            obtain ⟨mk', hm⟩ := hflat j oj hj
            rcases (hxf _ hm).2 with ((h | h) | h) | h
            · exact absurd h hji
            · obtain ⟨hun', _⟩ := getD_ft hun
              have := hanc j h
              rw [hun'] at this; cases this
            · simp only [Array.any_eq_true', Bool.and_eq_true, beq_iff_eq] at h
              obtain ⟨e, he, hb, hon⟩ := h
              exact absurd hon (hno e he hb)
            · exact h
          · exfalso
            have := (p3 i).2 (by omega)
            simp only [] at this
            rw [hDi] at this; cases this
        · cases hxf
      have hnf : ∀ i, Nat.testBit fm i = true → i ∉ Region.ready .any ops listed := fun i h1 h2 => hex ⟨i, h1, h2⟩
      refine ⟨fun hr => done listed a w ?_ hph, fun i hi => ?_⟩
      · intro j
        induction j using Nat.strongRecOn with
        | _ j ihj =>
          intro hj
          cases hb : listed.getD j false with
          | true => rfl
          | false =>
            obtain ⟨o, ho⟩ : ∃ o, ops[j]? = some o := ⟨_, Array.getElem?_eq_getElem hj⟩
            obtain ⟨mk, hmk, _, _, h4⟩ := hat j o ho
            have hlt := hlow j o mk ho hmk
            have : j ∈ Region.ready .any ops listed := by
              refine mem_ready.2 ⟨getD_tf hb (by omega), o, ho, fun e he hbe => ?_⟩
              have hbit := h4 e he hbe
              have hej : e.on < j := by
                rcases Nat.lt_or_ge e.on j with h | h
                · exact h
                · have := Nat.testBit_lt_two_pow (Nat.lt_of_lt_of_le hlt (Nat.pow_le_pow_right (by omega) h))
                  rw [this] at hbit; cases hbit
              exact ihj e.on hej (by omega)
            rw [hr] at this; simp at this
      · obtain ⟨hi1, o, ho, hedge⟩ := mem_ready.1 hi
        obtain ⟨hDi, hisz⟩ := getD_ft hi1
        obtain ⟨mk, hmk, _, h3, _⟩ := hat i o ho
        have hiops : i < ops.size := by omega
        have hanc : ∀ b, Nat.testBit mk b = true → listed.getD b false = true := by
          intro b hb
          obtain ⟨e, he, hb1, hb2⟩ := h3 b hb
          have hon := hedge e he hb1
          rcases hb2 with rfl | ⟨mk', hmk', hb2⟩
          · exact hon
          · exact hcl e.on mk' hon hmk' b hb2
        have hset : ∀ j, (listed.setIfInBounds i true).getD j false = (listed.getD j false || j == i) := fun j => getD_set hisz
        have next : ∀ a' w', Phase E inl yt w0 B n ops s hd0 rs N k (fun j => listed.getD j false || j == i) a' w' → wpAnyIn (Fw rd) m E.P .any ops Q fuel (listed.setIfInBounds i true) a' w' := by
          intro a' w' hph'
          refine ih _ a' w' (U.filter (· != i)) (by simp [hsz]) ?_ ?_ ?_ (by simpa only [hset] using hph')
          · have hiU := hUm i hiops hDi
            have : (U.filter (· != i)).length < U.length := by
              refine List.length_filter_lt_length_iff_exists.2 ⟨i, hiU, by simp⟩
            omega
          · intro j hj hb
            rw [hset] at hb
            simp only [Bool.or_eq_false_iff, beq_eq_false_iff_ne] at hb
            exact List.mem_filter.2 ⟨hUm j hj hb.1, by simpa using hb.2⟩
          · intro j mk' hj hmk' b hb
            rw [hset] at hj ⊢
            simp only [Bool.or_eq_true, beq_iff_eq] at hj ⊢
            rcases hj with hj | rfl
            · exact .inl (hcl j mk' hj hmk' b hb)
            · rw [hmk] at hmk'; cases hmk'
              exact .inl (hanc b hb)
        have tail : ∀ s' gs', N ≤ i → (∀ j, listed.getD j false = true ↔ j < i) → runSeq E inl yt ops (ops.toList.drop i) s' gs' k → Sat E w0 B n s' gs' a w → wpOpIn (Fw rd) m E.P ops Q i (wpAnyIn (Fw rd) m E.P .any ops Q fuel (listed.setIfInBounds i true)) a w := by
          intro s' gs' hNi hDlt hrun hsat
          have hdrop : ops.toList.drop i = o :: ops.toList.drop (i + 1) := by
            obtain ⟨h1, h2⟩ := Array.getElem?_eq_some_iff.1 ho
            rw [List.drop_eq_getElem_cons (by simpa using h1)]
            simp [h2]
          rw [hdrop] at hrun
          refine seq_step hE hI hY ho (hd o (hmemO ho)) hrun hsat fun s'' gs'' a'' w'' hr' hs' => next a'' w'' (.inr ⟨i + 1, s'', gs'', by omega, by omega, fun j => ?_, hr', hs'⟩)
          simp only [Bool.or_eq_true, beq_iff_eq, hDlt]
          omega
        rcases hph with ⟨p1, p2⟩ | ⟨i0, s', gs', p1, p2, p3, p4, p5⟩
        · by_cases hiN : i < N
          · exact headStep i o mk listed a w hiN ho hmk hDi hanc hcl p1 p2 next
          · have hbits := hTail i mk (by omega) hiops hmk
            have hall := below_i listed i mk hsz hiops hnf hbits hanc
            have hiN' : i = N := by
              rcases Nat.lt_or_ge N i with hlt | hge
              · have := p1 N (hall N hlt); omega
              · omega
            have e1 : recTm (fun j => listed.getD j false) rs s.tm = recTm (fun _ => true) rs s.tm := recTm_congr fun x hx => hall x.i (by have := hrsN x hx; omega)
            have e2 : recGs (fun j => listed.getD j false) rs = recGs (fun _ => true) rs := recGs_congr fun x hx => hall x.i (by have := hrsN x hx; omega)
            have e3 : recOb (fun j => listed.getD j false) rs = recOb (fun _ => true) rs := recOb_congr fun x hx => hall x.i (by have := hrsN x hx; omega)
            rw [e1, e2, e3] at p2
            have p2 := p2.obs (ob' := obAt (fun _ => true) s.nx hd0 (recOb (fun _ => true) rs) s.ob) fun id p hp => full hp
            rw [← hiN'] at hcont p2
            exact tail _ _ (by omega) (fun j => ⟨fun h => by have := p1 j h; omega, hall j⟩) hcont p2
        · have hi0 : i = i0 := by
            have hge : ¬ i < i0 := fun h => by
              have := (p3 i).2 h
              simp only [] at this
              rw [hDi] at this; cases this
            rcases Nat.lt_or_ge i0 i with hlt | hge'
            · have := below_i listed i mk hsz hiops hnf (hTail i mk (by omega) hiops hmk) hanc i0 hlt
              have := (p3 i0).1 this
              omega
            · omega
          subst hi0
          exact tail s' gs' p1 p3 p4 p5
  obtain ⟨ρ, H, b, ds, I, G, hT, hG, hdf, hsz⟩ := hs
  refine main ops.size _ a _ (List.range ops.size) (by simp) (by simp) (fun j hj _ => by simpa using hj) ?_ (.inl ⟨?_, ?_⟩)
  · intro j mk' hj
    simp only [Array.getD_eq_getD_getElem?, Array.getElem?_replicate] at hj
    split at hj <;> simp at hj
  · intro j hj
    simp only [Array.getD_eq_getD_getElem?, Array.getElem?_replicate] at hj
    split at hj <;> simp at hj
  · have hf : ∀ x ∈ rs, (fun j => (Array.replicate ops.size false).getD j false) x.i = (fun _ => false) x.i := by
      intro x _
      simp only [Array.getD_eq_getD_getElem?, Array.getElem?_replicate]
      split <;> rfl
    rw [recTm_congr (β := fun _ => false) hf, recGs_congr (β := fun _ => false) hf, recOb_congr (β := fun _ => false) hf]
    have e1 : recTm (fun _ => false) rs s.tm = s.tm := by
      have := recTm_pre (α := fun _ => false) (rs := []) (tm := s.tm) (pre := rs) (fun _ _ => rfl)
      simpa [recTm] using this
    have e2 : recGs (fun _ => false) rs = [] := by
      have := recGs_pre (α := fun _ => false) (rs := []) (pre := rs) (fun _ _ => rfl)
      simpa [recGs] using this
    have e3 : recOb (fun _ => false) rs = [] := by
      have := recOb_pre (α := fun _ => false) (rs := []) (pre := rs) (fun _ _ => rfl)
      simpa [recOb] using this
    have e4 : obAt (fun j => (Array.replicate ops.size false).getD j false) s.nx hd0 [] s.ob = s.ob := by
      have : (fun j => (Array.replicate ops.size false).getD j false) = fun _ => false := by
        funext j
        simp only [Array.getD_eq_getD_getElem?, Array.getElem?_replicate]
        split <;> rfl
      rw [this]; unfold obAt; rw [eat_none, eat_none]; rfl
    rw [e1, e2, e3, e4]
    refine ⟨ρ, H, b, ds, (?_ : Inv b B ρ H s.ob (s.nx + W * N) _), G.mono (HLe.refl _) (REq.refl _ _) (Nat.le_add_right _ _), hT.mono (REq.refl _ _) (HLe.refl _) (Nat.le_add_right _ _), by simp, hdf, hsz⟩
    refine Inv.more ?_ (Nat.le_add_right _ _)
    exact I.grow ⟨rfl, rfl, rfl, Nat.le_refl _, fun _ _ => rfl⟩
theorem sat_drawn {s : St} (hs : Sat E w0 B n s [] a w) : Sat E w0 B n s [] a { w with drawn := w.drawn + 1 } := by
  obtain ⟨ρ, H, b, ds, I, G, hT, hG, hdf, hsz⟩ := hs
  exact ⟨ρ, H, b, ds, I.grow ⟨rfl, rfl, rfl, Nat.le_refl _, fun _ _ => rfl⟩, G, hT, hG, hdf, hsz⟩
theorem drawn_any {inl : Inl} {yt : YT} (hE : EnvOk E) (hI : InlOk E inl) (hY : YtOk E w0 B yt) (hd : ∀ o ∈ ops.toList, ∀ d, o.dst = some d → d < n) {k : St → Prop} (hk : ∀ s' a' w', k s' → Sat E w0 B n s' [] a' w' → Q .normal a' w') (hQ : ∀ c a w, ¬ Q (.panic c) a w) {s : St}
    (h : drawn E inl yt ops s k) (hs : Sat E w0 B n s [] a w) : wpAnyIn (Fw rd) m E.P .any ops Q ops.size (Array.replicate ops.size false) a w := by
  unfold drawn at h
  simp only [frcSt_eq, frcGs_eq] at h
  split at h
  · rename_i hh
    simp only [Bool.and_eq_true, decide_eq_true_eq] at hh
    rw [frcHd_eq] at h
    split at h
    · rename_i hdu
      exact draw_sound0 hE hI hY hd hk hQ hh.1 hh.2 hdu h hs
    · exact h.elim
  · exact h.elim
theorem late_facts {o : Oper} (h : lateOf ops = some o) : ∃ ops', ops = ops'.push o ∧ ops.pop = ops' ∧ (∃ x, o.op = .move x) ∧ o.guard = none ∧ (∀ e ∈ o.after, Region.binds .any e = false) ∧
    (∀ (j : Nat) (oj : Oper), ops'[j]? = some oj → ∀ g b, oj.guard = some (g, b) → g < ops'.size) ∧ (∀ (j : Nat) (oj : Oper), ops'[j]? = some oj → ∀ e ∈ oj.after, Region.binds .any e = true → e.on < ops'.size) ∧
    (∀ (j : Nat) (oj : Oper), ops'[j]? = some oj → o.apart ops oj = true) ∧ (∀ (j : Nat) (oj : Oper) cs b, ops'[j]? = some oj → oj.op ≠ .select cs b) ∧ (∀ (j : Nat) (oj : Oper) c, ops'[j]? = some oj → oj.op ≠ .defer c) := by
  unfold lateOf at h
  split at h
  · rename_i o' hb
    split at h
    · rename_i x hop hgu
      split at h
      · rename_i hc
        cases h
        simp only [Bool.and_eq_true, Bool.or_eq_true, List.all_eq_true, Array.all_eq_true', Bool.not_eq_true'] at hc
        obtain ⟨⟨h1, h2⟩, _⟩ := hc
        have hm : ∀ (j : Nat) (oj : Oper), ops.pop[j]? = some oj → oj ∈ ops.pop.toList := by
          intro j oj hj
          exact List.mem_of_getElem? (i := j) (by rw [Array.getElem?_toList]; exact hj)
        have hpp : ops.pop.push o = ops := by
          obtain ⟨q1, q2⟩ := Array.back?_eq_some_iff.1 hb
          rw [q2]; simp
        refine ⟨ops.pop, hpp.symm, rfl, ⟨x, hop⟩, hgu, fun e he => h1 e he, ?_, ?_, ?_, ?_, ?_⟩
        · intro j oj hj g b hg
          have := (h2 oj (hm j oj hj)).1.1.2
          rw [hg] at this
          simpa [Nat.blt_eq] using this
        · intro j oj hj e he hbe
          rcases (h2 oj (hm j oj hj)).1.2 e he with h | h
          · rw [hbe] at h; cases h
          · simpa [Nat.blt_eq] using h
        · intro j oj hj
          exact (h2 oj (hm j oj hj)).2
        · intro j oj cs b hj hh
          have := (h2 oj (hm j oj hj)).1.1.1
          rw [hh] at this; cases this
        · intro j oj c hj hh
          have := (h2 oj (hm j oj hj)).1.1.1
          rw [hh] at this; cases this
      · cases h
    · cases h
  · cases h
theorem draw_sound {inl : Inl} {yt : YT} (hE : EnvOk E) (hI : InlOk E inl) (hY : YtOk E w0 B yt) (hmix : E.P.follows .mixedOrders = true) (hd : ∀ o ∈ ops.toList, ∀ d, o.dst = some d → d < n) {k : St → Prop} (hk : ∀ s' a' w', k s' → Sat E w0 B n s' [] a' w' → Q .normal a' w') {s : St} {id : Nat}
    (h : match lateOf ops with
      | some o => runSeq E inl yt ops [o] s [] fun s => drawn E inl yt ops.pop s k
      | none => drawn E inl yt ops s k)
    (hs : Sat E w0 B n s [] a w) : (Code.region id ops true).wpIn (Fw rd) m E.P Q a w := by
  refine wpIn_mono (Q := fun e a w => e = .normal ∧ Q e a w) (wpIn_region_any hmix ?_) fun e a w hh => hh.2
  have hQ : ∀ c a w, ¬ ((fun e a w => e = .normal ∧ Q e a w) : Exit → Act → World → Prop) (.panic c) a w := fun c a w hh => by cases hh.1
  have hk' : ∀ s' a' w', k s' → Sat E w0 B n s' [] a' w' → ((fun e a w => e = .normal ∧ Q e a w) : Exit → Act → World → Prop) .normal a' w' := fun s' a' w' h1 h2 => ⟨rfl, hk s' a' w' h1 h2⟩
  cases hl : lateOf ops with
  | none =>
    rw [hl] at h
    exact drawn_any hE hI hY hd hk' hQ h (sat_drawn hs)
  | some o =>
    rw [hl] at h
    obtain ⟨ops', e1, e2, ⟨x, ho⟩, hg, haf, hgd, hed, hap, hsel, hdef⟩ := late_facts hl
    rw [e2] at h
    subst e1
    refine late_first ho hg haf hgd hed hap hsel hdef hQ ?_
    have hi : (ops'.push o)[ops'.size]? = some o := by rw [Array.getElem?_push, if_pos rfl]
    refine seq_step hE hI hY hi (hd o (by simp)) h (sat_drawn hs) fun s'' gs'' a'' w'' hr' hs' => ?_
    simp only [runSeq] at hr'
    exact drawn_any hE hI hY (fun o' ho' => hd o' (by simp at ho' ⊢; exact .inl ho')) hk' hQ hr' hs'.less
end
end Go.Sx

namespace Go.Sx
open Go.RowKit
def Mt.le (m m' : Mt) : Prop := (∀ p ∈ m.ps, p ∈ m'.ps) ∧ (∀ k v, lnOf m.ln k = some v → lnOf m'.ln k = some v) ∧ ∀ i ∈ m.fz, i ∈ m'.fz
theorem Mt.le_refl (m : Mt) : m.le m := ⟨fun _ h => h, fun _ _ h => h, fun _ h => h⟩
theorem Mt.le.trans {a b c : Mt} (h : a.le b) (k : b.le c) : a.le c := ⟨fun p hp => k.1 p (h.1 p hp), fun x v hx => k.2.1 x v (h.2.1 x v hx), fun i hi => k.2.2 i (h.2.2 i hi)⟩
theorem Mt.eq_ok {m m' : Mt} {p : Prop} (h : m.eq p = some m') : m.le m' ∧ p ∈ m'.ps := by
  cases h
  exact ⟨⟨fun q hq => by simp [hq], fun _ _ h => h, fun _ h => h⟩, by simp⟩
theorem lnOf_cons (k t : Nat) (v : Option Nat) (l : List (Nat × Option Nat)) : lnOf ((k, v) :: l) t = if k = t then some v else lnOf l t := by simp [lnOf]
theorem link_ok {m m' : Mt} {i : Nat} {x : Option Nat} (h : link m i x = some m') : m.le m' ∧ lnOf m'.ln i = some x := by
  unfold link at h
  split at h
  · rename_i hn
    cases h
    refine ⟨⟨fun _ h => h, fun k v hv => ?_, fun _ h => h⟩, by simp [lnOf_cons]⟩
    simp only [lnOf_cons]
    split
    · rename_i e; subst e; rw [hn] at hv; cases hv
    · exact hv
  · rename_i y hy
    split at h
    · rename_i e; subst e; cases h; exact ⟨Mt.le_refl _, hy⟩
    · cases h
def rho (fl : Nat) (M : Mt) (ρ : Nat → Value) : Nat → Value := fun k => if k < fl then ρ k else match lnOf M.ln k with
  | some (some i) => ρ i
  | some none => .slice none 0 0
  | none => .nilFunc
theorem lnOf_mem : ∀ {l : List (Nat × Option Nat)} {k : Nat} {v : Option Nat}, lnOf l k = some v → (k, v) ∈ l
  | [], _, _, h => by simp [lnOf] at h
  | (j, v) :: r, k, x, h => by
    rw [lnOf_cons] at h
    split at h
    · rename_i e; subst e; cases h; simp
    · exact List.mem_cons_of_mem _ (lnOf_mem h)
theorem lnFl_spec {fl : Nat} {l : List (Nat × Option Nat)} (h : lnFl fl l = true) {k : Nat} {v : Option Nat} (hk : lnOf l k = some v) (hlt : k < fl) : v = some k := by
  have := List.all_eq_true.1 h _ (lnOf_mem hk)
  simp only [Bool.or_eq_true, decide_eq_true_eq] at this
  rcases this with h | h
  · omega
  · exact h
def FzP (ρ : Nat → Value) (H : IH) (id : Nat) (o : Option AObj) : Prop := match o with
  | some (.row t xs) => Rd H (.sl t) xs [ρ id]
  | some (.map gk gt k t l) => DenC ρ H (.mp gk gt k t l) (ρ id)
  | some (.box cs) => ∃ g cur e fr, ρ id = .pointer (some ⟨g, 0, none⟩) ∧ H g = some (.cells cur e fr) ∧ DenChs ρ H cs cur.toList
  | some (.sbox cs) => ∃ g cap cur e fr, ρ id = .slice (some ⟨g, 0, none⟩) (chsSz cs) cap ∧ chsSz cs ≤ cap ∧ H g = some (.cells cur e fr) ∧ DenChs ρ H cs (seg cur 0 (chsSz cs))
  | _ => True
theorem addFz_mem {id : Nat} {l : List Nat} : id ∈ addFz id l := by
  unfold addFz
  cases h : l.contains id with
  | true => simpa using h
  | false => simp
theorem addFz_sub {id i : Nat} {l : List Nat} (h : i ∈ l) : i ∈ addFz id l := by
  unfold addFz
  cases l.contains id <;> simp [h]
theorem addFzs_sub {i : Nat} : ∀ {r l : List Nat}, i ∈ l → i ∈ addFzs r l
  | [], _, h => h
  | j :: r, _, h => addFzs_sub (r := r) (addFz_sub h)
theorem addFzs_mem {i : Nat} : ∀ {r l : List Nat}, i ∈ r → i ∈ addFzs r l
  | j :: r, l, h => by
    rcases List.mem_cons.1 h with rfl | h
    · exact addFzs_sub (r := r) addFz_mem
    · exact addFzs_mem (r := r) h
theorem sbRows_den {ρ : Nat → Value} {H : IH} {ob : Nat → Option AObj} {u : Ty} : ∀ {cs : List Ch} {x : List (List u.T) × List Nat} {vs : List Value}, sbRows ob u cs = some x → (∀ j ∈ x.2, FzP ρ H j (ob j)) → DenChs ρ H cs vs →
    x.1.length = vs.length ∧ ∀ i (h : i < x.1.length) (h' : i < vs.length), Rd H (.sl u) (x.1[i]'h) [vs[i]'h']
  | [], x, vs, h, _, hd => by
    cases h
    rw [show vs = [] from hd]
    exact ⟨rfl, fun i h => by simp at h⟩
  | .one c :: r, x, vs, h, hf, hd => by
    obtain ⟨v, vs', rfl, h1, h2⟩ := hd
    have step : ∀ {y : List u.T} {js : List Nat}, Rd H (.sl u) y [v] → (∃ x' : List (List u.T) × List Nat, sbRows ob u r = some x' ∧ x.1 = y :: x'.1 ∧ (∀ j ∈ x'.2, j ∈ x.2)) →
        x.1.length = (v :: vs').length ∧ ∀ i (h : i < x.1.length) (h' : i < (v :: vs').length), Rd H (.sl u) (x.1[i]'h) [(v :: vs')[i]'h'] := by
      intro y js hy hx
      obtain ⟨x', e1, e2, e3⟩ := hx
      obtain ⟨k1, k2⟩ := sbRows_den e1 (fun j hj => hf j (e3 j hj)) h2
      refine ⟨by rw [e2]; simp [k1], fun i hi hi' => ?_⟩
      cases i with
      | zero => simp only [e2, List.getElem_cons_zero]; exact hy
      | succ i => simp only [e2, List.getElem_cons_succ]; exact k2 i (by rw [e2] at hi; simpa using hi) (by simpa using hi')
    cases c with
    | own j =>
      simp only [sbRows] at h
      split at h
      · rename_i t' xs hrow
        split at h
        · rename_i e
          subst e
          obtain ⟨x', e1, rfl⟩ := Option.map_eq_some_iff.1 h
          refine step (js := []) ?_ ⟨x', e1, rfl, fun j hj => by simp [hj]⟩
          have := hf j (by simp)
          rw [hrow] at this
          rw [show v = ρ j from h1]
          exact this
        · cases h
      · cases h
    | sl t' xs =>
      simp only [sbRows] at h
      split at h
      · rename_i e
        subst e
        obtain ⟨x', e1, rfl⟩ := Option.map_eq_some_iff.1 h
        exact step (js := []) h1 ⟨x', e1, rfl, fun j hj => hj⟩
      · cases h
    | _ => simp [sbRows] at h
  | .arr .. :: r, x, vs, h, _, _ => by simp [sbRows] at h
section
variable {ρ : Nat → Value} {H : IH} {ob : Nat → Option AObj} {M : Mt}
theorem rho_some {fl : Nat} (hfl : lnFl fl M.ln = true) {k i : Nat} (h : lnOf M.ln k = some (some i)) : rho fl M ρ k = ρ i := by
  by_cases hk : k < fl
  · have := lnFl_spec hfl h hk
    cases this
    simp [rho, hk]
  · simp [rho, h, hk]
theorem rho_none {fl : Nat} (hfl : lnFl fl M.ln = true) {k : Nat} (h : lnOf M.ln k = some none) : rho fl M ρ k = .slice none 0 0 := by
  by_cases hk : k < fl
  · have := lnFl_spec hfl h hk
    cases this
  · simp [rho, h, hk]
theorem links_ok {fl : Nat} (hfl : lnFl fl M.ln = true) : ∀ {a b : List (Nat × Nat)} {m m' : Mt} , links m a b = some m' → m.le m' ∧ (m'.le M → ∀ vs, ptrsOf ρ a vs → ptrsOf (rho fl M ρ) b vs)
  | [], [], m, m', h => by cases h; exact ⟨Mt.le_refl _, fun _ vs h => h⟩
  | (i, o) :: r, (i', o') :: r', m, m', h => by
    simp only [links] at h
    split at h
    · rename_i e
      subst e
      obtain ⟨m1, h1, h2⟩ := Option.bind_eq_some_iff.1 h
      obtain ⟨k1, k2⟩ := link_ok h1
      obtain ⟨k3, k4⟩ := links_ok hfl h2
      refine ⟨k1.trans k3, fun hle vs hv => ?_⟩
      obtain ⟨v, q, rfl, hv1, hv2⟩ := hv
      obtain ⟨b, hb1, hb2⟩ := hv1
      refine ⟨v, q, rfl, ⟨b, ?_, hb2⟩, k4 hle q hv2⟩
      rw [rho_some hfl ((k3.trans hle).2.1 _ _ k2)]
      exact hb1
    · cases h
  | [], _ :: _, m, m', h => by simp [links] at h
  | _ :: _, [], m, m', h => by simp [links] at h
variable {fl : Nat} (hfl : lnFl fl M.ln = true) (hps : ∀ p ∈ M.ps, p) (hρ : ∀ id, (ρ id).oneCell' = true) (hfz : ∀ id ∈ M.fz, FzP ρ H id (ob id))
include hfl hps hρ hfz
theorem mC_ok {m m' : Mt} {c c' : C} (h : mC ob m c c' = some m') : m.le m' ∧ (m'.le M → ∀ v, DenC ρ H c v → DenC (rho fl M ρ) H c' v) := by
  have eqq : ∀ {p : Prop}, m.eq p = some m' → (p → ∀ v, DenC ρ H c v → DenC (rho fl M ρ) H c' v) → m.le m' ∧ (m'.le M → ∀ v, DenC ρ H c v → DenC (rho fl M ρ) H c' v) := by
    intro p h1 h2
    obtain ⟨k1, k2⟩ := Mt.eq_ok h1
    exact ⟨k1, fun hle => h2 (hps _ (hle.1 _ k2))⟩
  cases c' with
  | any =>
    simp only [mC] at h
    split at h
    · cases h
    · cases h; exact ⟨Mt.le_refl _, fun _ v hv => DenC.one hρ hv⟩
  | int k' n' =>
    simp only [mC] at h
    split at h
    · split at h
      · rename_i e; subst e; exact eqq h (fun e v hv => by subst e; exact hv)
      · cases h
    · cases h
  | bool b' =>
    simp only [mC] at h
    split at h
    · exact eqq h (fun e v hv => by subst e; exact hv)
    · cases h
  | str b' =>
    simp only [mC] at h
    split at h
    · exact eqq h (fun e v hv => by subst e; exact hv)
    · cases h
  | flt k' n' =>
    simp only [mC] at h
    split at h
    · split at h
      · rename_i e; subst e; exact eqq h (fun e v hv => by subst e; exact hv)
      · cases h
    · cases h
  | odd k' s' => simp only [mC] at h; cases h
  | cpx k' x y =>
    simp only [mC] at h
    split at h
    · split at h
      · rename_i e; subst e; exact eqq h (fun e v hv => by obtain ⟨rfl, rfl⟩ := e; exact hv)
      · cases h
    · cases h
  | sl t' ys =>
    simp only [mC] at h
    split at h
    · split at h
      · rename_i e; subst e; exact eqq h (fun e v hv => by subst e; exact hv)
      · cases h
    · exact eqq h (fun e v hv => by
        subst e
        rw [show v = _ from hv]
        exact ⟨none, 0, rfl, Nat.le_refl _, .inl rfl⟩)
    · rename_i id
      split at h
      · rename_i t xs hrow
        split at h
        · rename_i e
          subst e
          cases h
          refine ⟨⟨fun p hp => by simp [hp], fun _ _ h => h, fun i hi => addFz_sub hi⟩, fun hle v hv => ?_⟩
          have e1 : xs = ys := hps _ (hle.1 _ (by simp))
          subst e1
          rw [show v = ρ id from hv]
          have := hfz id (hle.2.2 _ addFz_mem)
          rw [hrow] at this
          exact this
        · cases h
      · rename_i cs hsb
        split at h
        · rename_i u ys
          obtain ⟨x, hx, e⟩ := Option.map_eq_some_iff.1 h
          cases e
          refine ⟨⟨fun p hp => by simp [hp], fun _ _ h => h, fun i hi => addFzs_sub (addFz_sub hi)⟩, fun hle v hv => ?_⟩
          have e1 : x.1 = ys := hps _ (hle.1 _ (by simp))
          subst e1
          rw [show v = ρ id from hv]
          have hf := hfz id (hle.2.2 _ (addFzs_sub addFz_mem))
          rw [hsb] at hf
          obtain ⟨g, cap, cur, e, fr, f1, f2, f3, f4⟩ := hf
          obtain ⟨q1, q2⟩ := sbRows_den hx (fun j hj => hfz j (hle.2.2 _ (addFzs_mem hj))) f4
          have hl := f4.len
          refine ⟨some ⟨g, 0, none⟩, cap, by rw [f1, q1, hl], by rw [q1, hl]; exact f2, .inr ⟨g, 0, cur, e, fr, rfl, f3, fun i hi => ?_⟩⟩
          have hi' : i < (seg cur 0 (chsSz cs)).length := by rw [← q1]; exact hi
          have := q2 i hi hi'
          have e2 : seg cur (0 + i * (Ty.sl u).sz) (Ty.sl u).sz = [(seg cur 0 (chsSz cs))[i]] := by
            show seg cur (0 + i * 1) 1 = _
            rw [Nat.mul_one, ← seg_seg (n := chsSz cs) (show i + 1 ≤ chsSz cs by rw [hl] at hi'; omega), List.drop_eq_getElem_cons hi']
            rfl
          rw [e2]
          exact this
        · cases h
      · cases h
    · rename_i id off sz lo n
      split at h
      · rename_i t xs hrow
        split at h
        · rename_i e
          obtain ⟨e, eo, es⟩ := e
          subst e
          subst eo
          subst es
          cases h
          refine ⟨⟨fun p hp => by simp [hp], fun _ _ h => h, fun i hi => addFz_sub hi⟩, fun hle v hv => ?_⟩
          have e1 : List.take n (List.drop lo xs) = ys := hps _ (hle.1 _ (by simp))
          have e2 : lo + n ≤ List.length xs := hps _ (hle.1 _ (by simp))
          have hl : List.length (List.take n (List.drop lo xs)) = n := by rw [List.length_take, List.length_drop]; omega
          subst e1
          have hf := hfz id (hle.2.2 _ addFz_mem)
          rw [hrow] at hf
          rcases hv with ⟨b, cap, hb, rfl, hcap⟩ | ⟨h0, a, cap, rfl⟩
          · by_cases h0 : n = 0
            · exact ⟨_, cap, by rw [hl], by omega, .inl (by rw [hl, h0])⟩
            · obtain ⟨a, cap0, f1, f2, f3⟩ := hf
              rcases f3 with f3 | ⟨b0, off0, c, e, fr, f4, f5, f6⟩
              · omega
              · have f1 : ρ id = .slice a (List.length xs) cap0 := by simpa using f1
                have hbb : b0 = b ∧ off0 = 0 := by
                  rcases hb with hb | ⟨n1, cap1, hb⟩ | hb
                  · rw [f1] at hb; cases hb
                  · rw [f1, f4] at hb; cases hb; exact ⟨rfl, rfl⟩
                  · rw [f1] at hb; cases hb
                obtain ⟨rfl, rfl⟩ := hbb
                refine ⟨_, cap, by rw [hl], by omega, .inr ⟨b0, 0 + lo * t.sz, c, e, fr, rfl, f5, fun i hi => ?_⟩⟩
                have hx := f6 (lo + i) (by omega)
                simp only [List.getElem_take, List.getElem_drop]
                rw [show 0 + lo * t.sz + i * t.sz = 0 + (lo + i) * t.sz by rw [Nat.add_mul]; omega]
                exact hx
          · exact ⟨a, cap, by rw [hl, h0], by omega, .inl (by rw [hl, h0])⟩
        · cases h
      · cases h
    · cases h
  | err b' =>
    simp only [mC] at h
    split at h
    · exact eqq h (fun e v hv => by subst e; rename_i b; cases b <;> exact hv)
    · cases h
  | fnd f' b' t' x' =>
    simp only [mC] at h
    split at h
    · split at h
      · rename_i e
        obtain ⟨rfl, rfl, rfl⟩ := e
        exact eqq h (fun e v hv => by
          have e' : _ = x' := e
          simp only at e'
          subst e'
          rename_i c _ _
          cases c <;> exact hv)
      · cases h
    · rename_i f id
      split at h
      · rename_i e
        obtain ⟨rfl, rfl⟩ := e
        split at h
        · rename_i t x hbx
          split at h
          · rename_i e
            subst e
            cases h
            refine ⟨⟨fun p hp => by simp [hp], fun _ _ h => h, fun i hi => addFz_sub hi⟩, fun hle v hv => ?_⟩
            have e1 : x = x' := hps _ (hle.1 _ (by simp))
            subst e1
            have hf := hfz id (hle.2.2 _ addFz_mem)
            obtain ⟨a, b, rfl, ha, hb⟩ := hv
            have ha : a = [] := ha
            subst ha
            obtain ⟨u, r, rfl, hu, hr⟩ := hb
            have hr : r = [] := hr
            subst hr
            obtain ⟨g, k1, k2⟩ := hu
            subst k2
            unfold boxOfC at hbx
            split at hbx
            · rename_i e
              cases e
              split at hbx
              · rename_i t0 xs0 ho
                cases hbx
                rw [ho] at hf
                obtain ⟨g', cur, e, fr, d1, d4, d5⟩ := hf
                have d1 : ρ id = .pointer (some ⟨g', 0, none⟩) := d1
                rw [d1] at k1
                cases k1
                obtain ⟨v1, vs', q1, q2, q3⟩ := d5
                have q3' : vs' = [] := q3
                subst q3'
                refine ⟨g, 0, cur, e, fr, rfl, d4, ?_⟩
                have : seg cur 0 (Ty.sl t0).sz = [v1] := by simp [seg, q1, Ty.sz]
                rw [this]
                exact q2
              · rename_i ho
                split at hbx
                · rename_i t0 hty
                  split at hbx
                  · rename_i y hy
                    cases hbx
                    rw [ho] at hf
                    obtain ⟨g', cur, e, fr, d1, d4, d5⟩ := hf
                    have d1 : ρ id = .pointer (some ⟨g', 0, none⟩) := d1
                    rw [d1] at k1
                    cases k1
                    obtain ⟨q1, q2⟩ := ofChs_all hy d5
                    refine ⟨g, 0, cur, e, fr, rfl, d4, ?_⟩
                    have key : ∀ n, cur.toList.length = n → seg cur 0 n = cur.toList := by
                      rintro n rfl
                      unfold seg
                      rw [List.drop_zero, List.take_length]
                    rw [key _ q2]
                    exact q1
                  · cases hbx
                · cases hbx
              · cases hbx
            · cases hbx
          · cases h
        · cases h
      · cases h
    · cases h
  | nilm =>
    simp only [mC] at h
    split at h
    · cases h; exact ⟨Mt.le_refl _, fun _ v hv => hv⟩
    · cases h
  | mp gk' gt' k' t' l' =>
    simp only [mC] at h
    split at h
    · split at h
      · rename_i e
        obtain ⟨rfl, rfl, rfl, rfl⟩ := e
        exact eqq h (fun e v hv => by
          have e' := (show _ = l' from e)
          simp only [castM] at e'
          subst e'; exact hv)
      · cases h
    · rename_i id
      split at h
      · rename_i gk gt k t l hmap
        split at h
        · rename_i e
          obtain ⟨rfl, rfl, rfl, rfl⟩ := e
          cases h
          refine ⟨⟨fun p hp => by simp [hp], fun _ _ h => h, fun i hi => addFz_sub hi⟩, fun hle v hv => ?_⟩
          have e1 : l = l' := hps _ (hle.1 _ (by simp [castM]))
          subst e1
          rw [show v = ρ id from hv]
          have := hfz id (hle.2.2 _ addFz_mem)
          rw [hmap] at this
          exact this
        · cases h
      · cases h
    · cases h
  | ref t' x' =>
    simp only [mC] at h
    split at h
    · split at h
      · rename_i e; subst e; exact eqq h (fun e v hv => by subst e; exact hv)
      · cases h
    · cases h
  | ptr id' o' =>
    simp only [mC] at h
    split at h
    · split at h
      · rename_i e; subst e
        obtain ⟨k1, k2⟩ := link_ok h
        refine ⟨k1, fun hle v hv => ?_⟩
        obtain ⟨b, hb1, hb2⟩ := hv
        exact ⟨b, by rw [rho_some hfl (hle.2.1 _ _ k2)]; exact hb1, hb2⟩
      · cases h
    · cases h
  | el id' o' z' i' s' =>
    simp only [mC] at h
    split at h
    · split at h
      · rename_i e
        obtain ⟨rfl, rfl, rfl⟩ := e
        obtain ⟨m1, h1, h2⟩ := Option.bind_eq_some_iff.1 h
        obtain ⟨k1, k2⟩ := link_ok h1
        obtain ⟨k3, k4⟩ := Mt.eq_ok h2
        refine ⟨k1.trans k3, fun hle v hv => ?_⟩
        obtain ⟨b, hb1, hb2⟩ := hv
        have e := hps _ (hle.1 _ k4)
        subst e
        exact ⟨b, by rw [rho_some hfl ((k3.trans hle).2.1 _ _ k2)]; exact hb1, hb2⟩
      · cases h
    · cases h
  | own id' =>
    simp only [mC] at h
    split at h
    · obtain ⟨k1, k2⟩ := link_ok h
      refine ⟨k1, fun hle v hv => ?_⟩
      show v = _
      rw [rho_some hfl (hle.2.1 _ _ k2)]
      exact hv
    · obtain ⟨k1, k2⟩ := link_ok h
      refine ⟨k1, fun hle v hv => ?_⟩
      show v = _
      rw [rho_none hfl (hle.2.1 _ _ k2)]
      exact hv
    · cases h
  | view id' o' z' l' n' =>
    simp only [mC] at h
    split at h
    · split at h
      · rename_i e
        obtain ⟨rfl, rfl⟩ := e
        obtain ⟨m1, h1, h2⟩ := Option.bind_eq_some_iff.1 h
        obtain ⟨k1, k2⟩ := link_ok h1
        obtain ⟨k3, k4⟩ := Mt.eq_ok h2
        refine ⟨k1.trans k3, fun hle v hv => ?_⟩
        obtain ⟨rfl, rfl⟩ := hps _ (hle.1 _ k4)
        rcases hv with ⟨b, cap, hb1, hb2⟩ | hv
        · exact .inl ⟨b, cap, by rw [rho_some hfl ((k3.trans hle).2.1 _ _ k2)]; exact hb1, hb2⟩
        · exact .inr hv
      · cases h
    · cases h
  | yl id' =>
    simp only [mC] at h
    split at h
    · obtain ⟨k1, k2⟩ := link_ok h
      refine ⟨k1, fun hle v hv => ?_⟩
      show v = _
      rw [rho_some hfl (hle.2.1 _ _ k2)]
      exact hv
    · cases h
  | vp id' o' z' l' n' =>
    simp only [mC] at h
    split at h
    · split at h
      · rename_i e
        obtain ⟨rfl, rfl, rfl⟩ := e
        obtain ⟨m1, h1, h2⟩ := Option.bind_eq_some_iff.1 h
        obtain ⟨k1, k2⟩ := link_ok h1
        obtain ⟨k3, k4⟩ := Mt.eq_ok h2
        refine ⟨k1.trans k3, fun hle v hv => ?_⟩
        have e := hps _ (hle.1 _ k4)
        subst e
        obtain ⟨h0, b, hb1, hb2⟩ := hv
        exact ⟨h0, b, by rw [rho_some hfl ((k3.trans hle).2.1 _ _ k2)]; exact hb1, hb2⟩
      · cases h
    · cases h
  | frs t x => simp [mC] at h
  | nilp =>
    simp only [mC] at h
    split at h
    · cases h; exact ⟨Mt.le_refl _, fun _ v hv => hv⟩
    · cases h
  | nils =>
    simp only [mC] at h
    split at h
    · cases h; exact ⟨Mt.le_refl _, fun _ v hv => hv⟩
    · cases h
  | nilf =>
    simp only [mC] at h
    split at h
    · cases h; exact ⟨Mt.le_refl _, fun _ v hv => hv⟩
    · cases h
  | fn f' a' b' =>
    simp only [mC] at h
    split at h
    · split at h
      · rename_i e
        subst e
        obtain ⟨m1, h1, h2⟩ := Option.bind_eq_some_iff.1 h
        obtain ⟨k1, k2⟩ := links_ok (M := M) (ρ := ρ) hfl h1
        obtain ⟨k3, k4⟩ := links_ok (M := M) (ρ := ρ) hfl h2
        refine ⟨k1.trans k3, fun hle v hv => ?_⟩
        obtain ⟨x, y, hv1, hv2, hv3⟩ := hv
        exact ⟨x, y, hv1, k2 (k3.trans hle) x hv2, k4 hle y hv3⟩
      · cases h
    · cases h
theorem mChs_ok : ∀ {cs cs' : List Ch} {m m' : Mt}, mChs ob m cs cs' = some m' → m.le m' ∧ (m'.le M → ∀ vs, DenChs ρ H cs vs → DenChs (rho fl M ρ) H cs' vs)
  | [], [], m, m', h => by cases h; exact ⟨Mt.le_refl _, fun _ _ h => h⟩
  | .one c :: r, .one c' :: r', m, m', h => by
    simp only [mChs] at h
    obtain ⟨m1, h1, h2⟩ := Option.bind_eq_some_iff.1 h
    obtain ⟨k1, k2⟩ := mC_ok hfl hps hρ hfz h1
    obtain ⟨k3, k4⟩ := mChs_ok h2
    refine ⟨k1.trans k3, fun hle vs hv => ?_⟩
    obtain ⟨v, vs', rfl, hv1, hv2⟩ := hv
    exact ⟨v, vs', rfl, k2 (k3.trans hle) v hv1, k4 hle vs' hv2⟩
  | .arr n t xs :: r, .arr n' t' ys :: r', m, m', h => by
    simp only [mChs] at h
    split at h
    · rename_i e
      obtain ⟨rfl, rfl⟩ := e
      obtain ⟨m1, h1, h2⟩ := Option.bind_eq_some_iff.1 h
      obtain ⟨k1, k2⟩ := Mt.eq_ok h1
      obtain ⟨k3, k4⟩ := mChs_ok h2
      refine ⟨k1.trans k3, fun hle vs hv => ?_⟩
      have e1 : xs = ys := hps _ ((k3.trans hle).1 _ k2)
      subst e1
      exact ⟨hv.1, k4 hle _ hv.2⟩
    · cases h
  | [], _ :: _, m, m', h => by simp [mChs] at h
  | .one _ :: _, [], m, m', h => by simp [mChs] at h
  | .arr _ _ _ :: _, [], m, m', h => by simp [mChs] at h
  | .one _ :: _, .arr _ _ _ :: _, m, m', h => by simp [mChs] at h
  | .arr _ _ _ :: _, .one _ :: _, m, m', h => by simp [mChs] at h
theorem mV_ok {x y : V} {m m' : Mt} (h : mV ob m x y = some m') : m.le m' ∧ (m'.le M → ∀ v, DenV ρ H x v → DenV (rho fl M ρ) H y v) := by
  cases x <;> cases y <;> simp only [mV] at h
  · exact mC_ok hfl hps hρ hfz h
  · cases h
  · cases h
  · obtain ⟨k1, k2⟩ := mChs_ok hfl hps hρ hfz h
    exact ⟨k1, fun hle v hv => let ⟨vs, h1, h2⟩ := hv; ⟨vs, h1, k2 hle vs h2⟩⟩
theorem mVs_ok : ∀ {x y : List V} {m m' : Mt}, mVs ob m x y = some m' → m.le m' ∧ (m'.le M → ∀ vs, DenVs ρ H x vs → DenVs (rho fl M ρ) H y vs)
  | [], [], m, m', h => by cases h; exact ⟨Mt.le_refl _, fun _ _ h => h⟩
  | x :: r, y :: r', m, m', h => by
    simp only [mVs] at h
    obtain ⟨m1, h1, h2⟩ := Option.bind_eq_some_iff.1 h
    obtain ⟨k1, k2⟩ := mV_ok hfl hps hρ hfz h1
    obtain ⟨k3, k4⟩ := mVs_ok h2
    refine ⟨k1.trans k3, fun hle vs hv => ?_⟩
    obtain ⟨v, vs', rfl, hv1, hv2⟩ := hv
    exact ⟨v, vs', rfl, k2 (k3.trans hle) v hv1, k4 hle vs' hv2⟩
  | [], _ :: _, m, m', h => by simp [mVs] at h
  | _ :: _, [], m, m', h => by simp [mVs] at h
theorem mSV_ok {x y : SV} {m m' : Mt} (h : mSV ob m x y = some m') : m.le m' ∧ (m'.le M → ∀ v, DenSV ρ H x v → DenSV (rho fl M ρ) H y v) := by
  cases x <;> cases y <;> simp only [mSV] at h
  · exact mV_ok hfl hps hρ hfz h
  · cases h
  · cases h
  · obtain ⟨k1, k2⟩ := mVs_ok hfl hps hρ hfz h
    exact ⟨k1, fun hle v hv => let ⟨vs, h1, h2⟩ := hv; ⟨vs, h1, k2 hle vs h2⟩⟩
end
end Go.Sx

namespace Go.Sx
open Go.RowKit
section
variable {E : Env} {w0 : Base} {B n : Nat} {ρ : Nat → Value} {H : IH} {ob : List (Nat × Option AObj)} {nx : Nat} {w : World} {a : Act}
theorem FzP.mono {ρ : Nat → Value} {H H' : IH} (hh : HLe H H') {id : Nat} {o : Option AObj} (h : FzP ρ H id o) : FzP ρ H' id o := by
  unfold FzP at h ⊢
  split
  · exact Rd.mono hh _ _ _ h
  · obtain ⟨g, es, cl, d1, d2, d3⟩ := h
    exact ⟨g, es, cl, d1, hh _ _ d2, d3.mono hh⟩
  · obtain ⟨g, cur, e, fr, d1, d3, d4⟩ := h
    exact ⟨g, cur, e, fr, d1, hh _ _ d3, d4.agree hh (fun _ _ => rfl)⟩
  · obtain ⟨g, cap, cur, e, fr, d1, d2, d3, d4⟩ := h
    exact ⟨g, cap, cur, e, fr, d1, d2, hh _ _ d3, d4.agree hh (fun _ _ => rfl)⟩
  · trivial
theorem freeze : ∀ (fz : List Nat) (H : IH) (ob : List (Nat × Option AObj)), Inv w0 B ρ H ob nx w → fz.Nodup →
    ∃ H', HLe H H' ∧ Agree H' w ∧ (∀ b, w0.K b → H' b = none) ∧ (∀ id p, lookO ob id = some p → id ∉ fz → DenO w B ρ H' id p) ∧ ∀ id ∈ fz, FzP ρ H' id (lookO ob id)
  | [], H, ob, I, _ => ⟨H, HLe.refl _, I.agree, fun b hk => (I.kp b hk).2.2.1, fun id p h _ => (I.objs id p h).2.2, by simp⟩
  | k :: fz, H, ob, I, hn => by
    obtain ⟨hn1, hn2⟩ := List.nodup_cons.1 hn
    have I1 := I.del k
    have hit : ∃ H1, HLe H H1 ∧ Inv w0 B ρ H1 ((k, none) :: ob) nx w ∧ FzP ρ H1 k (lookO ob k) := by
      cases hk : lookO ob k with
      | none => exact ⟨H, HLe.refl _, I1, trivial⟩
      | some p =>
        have hsep : ∀ g, HB (ρ k) g → (∀ id p, lookO ((k, none) :: ob) id = some p → ¬ HB (ρ id) g) ∧ ¬ w0.K g := by
          intro g hg
          refine ⟨fun id p hp hb => ?_, fun h => (I.kp g h).2.2.2 k _ hk hg⟩
          rw [lookO_cons] at hp
          split at hp
          · cases hp
          · rename_i hne
            exact I.sep k id _ _ hne hk hp g hg hb
        cases p with
        | box cs =>
          obtain ⟨g, cur, e, d1, d2, d3, d4, d5⟩ := (I.objs k _ hk).2.2
          obtain ⟨hf, hK⟩ := hsep g (.inl d1)
          obtain ⟨I2, hle⟩ := I1.imm d4 d3 hf hK
          exact ⟨_, hle, I2, g, cur, e, _, d1, upd_same _ _ _, d5.agree hle (fun _ _ => rfl)⟩
        | sit => exact ⟨H, HLe.refl _, I1, trivial⟩
        | map gk gt kt t l =>
          obtain ⟨g, es, cl, d1, d2, d3, d4, d5⟩ := (I.objs k _ hk).2.2
          obtain ⟨hf, hK⟩ := hsep g (.inr (.inr d1))
          obtain ⟨I2, hle⟩ := I1.imm d4 d3 hf hK
          exact ⟨_, hle, I2, g, es, cl, d1, upd_same _ _ _, d5.mono hle⟩
        | sbox cs =>
          obtain ⟨g, cap, cur, e, d1, dc, d2, d3, ⟨fz, _, d4⟩, d5⟩ := (I.objs k _ hk).2.2
          obtain ⟨hf, hK⟩ := hsep g (.inr (.inl ⟨_, _, d1⟩))
          obtain ⟨I2, hle⟩ := I1.imm d4 d3 hf hK
          exact ⟨_, hle, I2, g, cap, cur, e, fz, d1, dc, upd_same _ _ _, d5.agree hle (fun _ _ => rfl)⟩
        | row t xs =>
          rcases (I.objs k _ hk).2.2 with ⟨d1, d2⟩ | ⟨g, cap, cur, e, d1, d2, d3, ⟨_, _, d4⟩, d5, d6, d7, d8⟩
          · refine ⟨H, HLe.refl _, I1, ?_⟩
            show Rd H (.sl t) xs [ρ k]
            rw [d1, d2]
            exact ⟨none, 0, rfl, Nat.le_refl _, .inl rfl⟩
          · obtain ⟨hf, hK⟩ := hsep g (.inr (.inl ⟨_, _, d1⟩))
            obtain ⟨I2, hle⟩ := I1.imm d4 d3 hf hK
            refine ⟨_, hle, I2, ?_⟩
            show Rd _ (.sl t) xs [ρ k]
            rw [d1]
            refine ⟨_, cap, rfl, d5, .inr ⟨g, 0, cur, _, _, rfl, upd_same _ _ _, fun i hi => ?_⟩⟩
            rw [Nat.zero_add]
            exact Rd.mono hle _ _ _ (d8 i hi)
    obtain ⟨H1, hle1, I2, hrow⟩ := hit
    obtain ⟨H', hle, hag, hK, hob, hfz⟩ := freeze fz H1 _ I2 hn2
    have hlook : ∀ id, id ≠ k → lookO ((k, none) :: ob) id = lookO ob id := by
      intro id hne
      rw [lookO_cons, if_neg (fun e => hne e.symm)]
    refine ⟨H', hle1.trans hle, hag, hK, fun id p hp hid => ?_, fun id hid => ?_⟩
    · simp only [List.mem_cons, not_or] at hid
      exact hob id p (by rw [hlook id hid.1]; exact hp) hid.2
    · rcases List.mem_cons.1 hid with rfl | hid
      · exact hrow.mono hle
      · have hne : id ≠ k := fun e => hn1 (e ▸ hid)
        have := hfz id hid
        rwa [hlook id hne] at this
theorem lookO_mem : ∀ {ob : List (Nat × Option AObj)} {id : Nat} {p : AObj}, lookO ob id = some p → (id, some p) ∈ ob
  | [], _, _, h => by simp [lookO] at h
  | (k, v) :: r, id, p, h => by
    rw [lookO_cons] at h
    split at h
    · rename_i e; subst e; subst h; simp
    · exact List.mem_cons_of_mem _ (lookO_mem h)
theorem lookT_mem : ∀ {tm : List (Nat × SV)} {t : Nat} {v : SV}, lookT tm t = some v → (t, v) ∈ tm
  | [], _, _, h => by simp [lookT] at h
  | (k, v) :: r, t, x, h => by
    rw [lookT_cons] at h
    split at h
    · rename_i e; subst e; cases h; simp
    · exact List.mem_cons_of_mem _ (lookT_mem h)
theorem mTm_ok {fl : Nat} {s : St} : ∀ {l : List (Nat × SV)} {m m' : Mt}, mTm s m l = some m' → m.le m' ∧ ∀ (M : Mt) (H : IH), lnFl fl M.ln = true → (∀ p ∈ M.ps, p) → (∀ id, (ρ id).oneCell' = true) → (∀ id ∈ M.fz, FzP ρ H id (lookO s.ob id)) → m'.le M →
    ∀ t v', (t, v') ∈ l → ∃ v, lookT s.tm t = some v ∧ ∀ u, DenSV ρ H v u → DenSV (rho fl M ρ) H v' u
  | [], m, m', h => by cases h; exact ⟨Mt.le_refl _, by simp⟩
  | (t, v') :: r, m, m', h => by
    simp only [mTm] at h
    split at h
    · rename_i v hv
      obtain ⟨m1, h1, h2⟩ := Option.bind_eq_some_iff.1 h
      obtain ⟨k3, k4⟩ := mTm_ok h2
      refine ⟨(mSV_ok (fl := 0) (M := ⟨[], [], []⟩) (ρ := ρ0) (H := fun _ => none) rfl (by simp) ρ0_one (by simp) h1).1.trans k3, fun M H hfl hps hρ hfz hle t' x hx => ?_⟩
      rcases List.mem_cons.1 hx with e | hx
      · cases e
        exact ⟨v, hv, (mSV_ok hfl hps hρ hfz h1).2 (k3.trans hle)⟩
      · exact k4 M H hfl hps hρ hfz hle t' x hx
    · cases h
theorem preLink_le (m : Mt) (k : Nat) : m.le (preLink m k) := by
  unfold preLink
  split
  · exact Mt.le_refl _
  · rename_i h
    refine ⟨fun _ h => h, fun i v hv => ?_, fun _ h => h⟩
    rw [lnOf_cons]
    split
    · rename_i e; subst e; rw [h] at hv; cases hv
    · exact hv
theorem anyChs_sz : ∀ {l : List Ch}, anyChs l = true → chsSz l = l.length
  | [], _ => rfl
  | .one c :: r, h => by
    have : anyChs r = true := by
      unfold anyChs at h ⊢
      simp only [List.all_cons, Bool.and_eq_true] at h
      exact h.2
    simp only [chsSz, Ch.sz, List.length_cons, anyChs_sz this]; omega
  | .arr .. :: r, h => by simp [anyChs] at h
theorem anyChs_den {ρ : Nat → Value} {H : IH} : ∀ {l : List Ch} {vs : List Value}, anyChs l = true → vs.length = l.length → (∀ v ∈ vs, v.oneCell' = true) → DenChs ρ H l vs
  | [], [], _, _, _ => rfl
  | [], _ :: _, _, h, _ => by simp at h
  | .one c :: r, [], _, h, _ => by simp at h
  | .one c :: r, v :: vs, h, hl, hv => by
    unfold anyChs at h
    simp only [List.all_cons, Bool.and_eq_true] at h
    refine ⟨v, vs, rfl, ?_, anyChs_den (l := r) (by unfold anyChs; exact h.2) (by simpa using hl) (fun u hu => hv u (by simp [hu]))⟩
    cases c <;> simp at h
    exact hv v (by simp)
  | .arr .. :: r, _, h, _, _ => by simp [anyChs] at h
theorem mOb_ok {fl : Nat} {s : St} : ∀ {l : List (Nat × Option AObj)} {m m' : Mt}, mOb s m l = some m' → m.le m' ∧ ∀ (M : Mt) (H : IH) (w : World) (B : Nat), lnFl fl M.ln = true → (∀ p ∈ M.ps, p) → (∀ id, (ρ id).oneCell' = true) →
    (∀ id ∈ M.fz, FzP ρ H id (lookO s.ob id)) → m'.le M → (∀ id k, lnOf M.ln k = some (some id) → ∀ p, lookO s.ob id = some p → DenO w B ρ H id p) →
    ∀ k p', (k, some p') ∈ l → DenO w B (rho fl M ρ) H k p' ∧ (lnOf M.ln k = some none ∨ ∃ id p, lnOf M.ln k = some (some id) ∧ lookO s.ob id = some p)
  | [], m, m', h => by cases h; exact ⟨Mt.le_refl _, by simp⟩
  | (k, none) :: r, m, m', h => by simp [mOb] at h
  | (k, some o') :: r, m, m', h => by
    have hpre := preLink_le m k
    have fin : ∀ {m1 : Mt}, (preLink m k).le m1 → mOb s m1 r = some m' →
        (∀ (M : Mt) (H : IH) (w : World) (B : Nat), lnFl fl M.ln = true → (∀ p ∈ M.ps, p) → (∀ id, (ρ id).oneCell' = true) → (∀ id ∈ M.fz, FzP ρ H id (lookO s.ob id)) → m1.le M →
          (∀ id k, lnOf M.ln k = some (some id) → ∀ p, lookO s.ob id = some p → DenO w B ρ H id p) → DenO w B (rho fl M ρ) H k o' ∧ (lnOf M.ln k = some none ∨ ∃ id p, lnOf M.ln k = some (some id) ∧ lookO s.ob id = some p)) →
        m.le m' ∧ ∀ (M : Mt) (H : IH) (w : World) (B : Nat), lnFl fl M.ln = true → (∀ p ∈ M.ps, p) → (∀ id, (ρ id).oneCell' = true) →
          (∀ id ∈ M.fz, FzP ρ H id (lookO s.ob id)) → m'.le M → (∀ id k, lnOf M.ln k = some (some id) → ∀ p, lookO s.ob id = some p → DenO w B ρ H id p) →
          ∀ k' p', (k', some p') ∈ (k, some o') :: r → DenO w B (rho fl M ρ) H k' p' ∧ (lnOf M.ln k' = some none ∨ ∃ id p, lnOf M.ln k' = some (some id) ∧ lookO s.ob id = some p) := by
      intro m1 h1 h2 h3
      obtain ⟨k3, k4⟩ := mOb_ok h2
      refine ⟨hpre.trans (h1.trans k3), fun M H w B hfl hps hρ hfz hle hob k' p' hm => ?_⟩
      rcases List.mem_cons.1 hm with e | hm
      · cases e
        exact h3 M H w B hfl hps hρ hfz (k3.trans hle) hob
      · exact k4 M H w B hfl hps hρ hfz hle hob k' p' hm
    simp only [mOb] at h
    split at h
    · rename_i t ys hln
      obtain ⟨m1, h1, h2⟩ := Option.bind_eq_some_iff.1 h
      obtain ⟨k1, k2⟩ := Mt.eq_ok h1
      refine fin k1 h2 fun M H w B hfl hps hρ hfz hle hob => ?_
      have hln' := hle.2.1 _ _ (k1.2.1 _ _ hln)
      have e : ys = [] := hps _ (hle.1 _ k2)
      exact ⟨.inl ⟨rho_none hfl hln', e⟩, .inl hln'⟩
    · rename_i id hln
      split at h
      · rename_i x y hx
        obtain ⟨m1, h1, h2⟩ := Option.bind_eq_some_iff.1 h
        have k1 := (mChs_ok (fl := 0) (M := ⟨[], [], []⟩) (ρ := ρ0) (H := fun _ => none) rfl (by simp) ρ0_one (by simp) h1).1
        refine fin k1 h2 fun M H w B hfl hps hρ hfz hle hob => ?_
        have hln' := hle.2.1 _ _ (k1.2.1 _ _ hln)
        obtain ⟨g, cur, e, d1, d2, d3, d4, d5⟩ := hob id k hln' _ hx
        exact ⟨⟨g, cur, e, by rw [rho_some hfl hln']; exact d1, d2, d3, d4, (mChs_ok hfl hps hρ hfz h1).2 hle _ d5⟩, .inr ⟨id, _, hln', hx⟩⟩
      · rename_i x y hx
        obtain ⟨m1, h1, h2⟩ := Option.bind_eq_some_iff.1 h
        have k1 := (mChs_ok (fl := 0) (M := ⟨[], [], []⟩) (ρ := ρ0) (H := fun _ => none) rfl (by simp) ρ0_one (by simp) h1).1
        refine fin k1 h2 fun M H w B hfl hps hρ hfz hle hob => ?_
        have hln' := hle.2.1 _ _ (k1.2.1 _ _ hln)
        obtain ⟨g, cap, cur, e, d1, dc, d2, d3, d4, d5⟩ := hob id k hln' _ hx
        have d6 := (mChs_ok hfl hps hρ hfz h1).2 hle _ d5
        have d7 := d6.len
        rw [d5.len] at d7
        exact ⟨⟨g, cap, cur, e, by rw [rho_some hfl hln', ← d7]; exact d1, by rw [← d7]; exact dc, d2, d3, d4, by rw [← d7]; exact d6⟩, .inr ⟨id, _, hln', hx⟩⟩
      · rename_i t xs y hx
        split at h
        · rename_i hany
          obtain ⟨hsz, hany⟩ := hany
          obtain ⟨m1, h1, h2⟩ := Option.bind_eq_some_iff.1 h
          obtain ⟨k1, k2⟩ := Mt.eq_ok h1
          refine fin k1 h2 fun M H w B hfl hps hρ hfz hle hob => ?_
          have hln' := hle.2.1 _ _ (k1.2.1 _ _ hln)
          obtain ⟨e1, e2⟩ : 0 < xs.length ∧ xs.length = y.length := hps _ (hle.1 _ k2)
          refine ⟨?_, .inr ⟨id, _, hln', hx⟩⟩
          rcases hob id k hln' _ hx with ⟨_, d2⟩ | ⟨g, cap, cur, e, d1, d2, d3, d4, d5, d6, d7, d8⟩
          · rw [d2] at e1; simp at e1
          · have hy := anyChs_sz hany
            rw [hsz, Nat.mul_one] at d7
            have hl : (seg cur 0 y.length).length = y.length := by unfold seg; simp; omega
            refine ⟨g, cap, cur, e, by rw [rho_some hfl hln', hy, ← e2]; exact d1, by rw [hy, ← e2]; exact d5, d2, d3, d4, ?_⟩
            rw [hy]
            refine anyChs_den hany hl fun v hv => ?_
            obtain ⟨i, hi, rfl⟩ := List.mem_iff_getElem.1 hv
            have hi' : i < xs.length := by omega
            have hr := d8 i hi'
            rw [hsz, Nat.mul_one] at hr
            have e3 : seg cur i 1 = [(seg cur 0 y.length)[i]] := by
              have := seg_seg (c := cur) (o := 0) (n := y.length) (p := i) (m := 1) (by omega)
              rw [Nat.zero_add] at this
              rw [← this, List.drop_eq_getElem_cons hi]
              rfl
            rw [e3] at hr
            exact Rd.one _ _ _ hr _ (by simp)
        · cases h
      · rename_i t xs t' ys hx
        split at h
        · rename_i e
          subst e
          obtain ⟨m1, h1, h2⟩ := Option.bind_eq_some_iff.1 h
          obtain ⟨k1, k2⟩ := Mt.eq_ok h1
          refine fin k1 h2 fun M H w B hfl hps hρ hfz hle hob => ?_
          have hln' := hle.2.1 _ _ (k1.2.1 _ _ hln)
          have e1 : xs = ys := hps _ (hle.1 _ k2)
          subst e1
          refine ⟨?_, .inr ⟨id, _, hln', hx⟩⟩
          show OwnRow _ _ _ (rho fl M ρ k) _ _
          rw [rho_some hfl hln']
          exact hob id k hln' _ hx
        · cases h
      · rename_i l n l' n' hx
        obtain ⟨m1, h1, h2⟩ := Option.bind_eq_some_iff.1 h
        obtain ⟨k1, k2⟩ := Mt.eq_ok h1
        refine fin k1 h2 fun M H w B hfl hps hρ hfz hle hob => ?_
        have hln' := hle.2.1 _ _ (k1.2.1 _ _ hln)
        obtain ⟨e1, e2⟩ : l = l' ∧ n = n' := hps _ (hle.1 _ k2)
        subst e1 e2
        obtain ⟨g, d1, d2, d3, d4⟩ := hob id k hln' _ hx
        exact ⟨⟨g, by rw [rho_some hfl hln']; exact d1, d2, d3, d4⟩, .inr ⟨id, _, hln', hx⟩⟩
      · rename_i gk gt kt t l gk' gt' kt' t' l' hx
        split at h
        · rename_i e
          obtain ⟨rfl, rfl, rfl, rfl⟩ := e
          obtain ⟨m1, h1, h2⟩ := Option.bind_eq_some_iff.1 h
          obtain ⟨k1, k2⟩ := Mt.eq_ok h1
          refine fin k1 h2 fun M H w B hfl hps hρ hfz hle hob => ?_
          have hln' := hle.2.1 _ _ (k1.2.1 _ _ hln)
          have e1 : l = l' := hps _ (hle.1 _ k2)
          subst e1
          obtain ⟨g, es, cl, d1, d2, d3, d4, d5⟩ := hob id k hln' _ hx
          exact ⟨⟨g, es, cl, by rw [rho_some hfl hln']; exact d1, d2, d3, d4, d5⟩, .inr ⟨id, _, hln', hx⟩⟩
        · cases h
      · cases h
    · cases h
theorem mtch_sound {s s' : St} (h : mtch w0.fl s s') (hs : Sat E w0 B n s [] a w) : Sat E w0 B n s' [] a w := by
  obtain ⟨ρ, H, b0, ds, I, G, hT, _, hdf, hsz⟩ := hs
  unfold mtch at h
  split at h
  · rename_i M hM
    obtain ⟨m1, h1, h2⟩ := Option.bind_eq_some_iff.1 hM
    split at h
    · rename_i hok
      simp only [Bool.and_eq_true] at hok
      obtain ⟨⟨⟨⟨hmok, hids⟩, hfl⟩, hnx⟩, hlr⟩ := hok
      simp only [decide_eq_true_eq] at hnx hlr
      rw [conj_iff] at h
      have hps : ∀ p ∈ M.ps, p := fun p hp => h.1 p (by simpa using hp)
      simp only [mOk, Bool.and_eq_true, List.all_eq_true, decide_eq_true_eq] at hmok
      obtain ⟨⟨hm1, hm2⟩, hm3⟩ := hmok
      obtain ⟨H', hle, hag, hK, hob, hfz⟩ := freeze (ρ := ρ) (w := w) (w0 := b0) (B := B) (nx := s.nx) M.fz H s.ob I hm2
      obtain ⟨_, kt⟩ := mTm_ok (fl := w0.fl) (ρ := ρ) h1
      obtain ⟨le2, ko⟩ := mOb_ok (fl := w0.fl) (ρ := ρ) h2
      have kt' := kt M H' hfl hps I.one hfz le2
      have ko' := ko M H' w B hfl hps I.one hfz (Mt.le_refl _) (fun id k hl p hp => hob id p hp (by
        have := hm1 id (List.mem_filterMap.2 ⟨_, lnOf_mem hl, rfl⟩)
        simpa using this))
      simp only [idsOk, Bool.and_eq_true, List.all_eq_true, decide_eq_true_eq] at hids
      obtain ⟨⟨hi1, hi2⟩, _⟩ := hids
      refine ⟨rho w0.fl M ρ, H', b0, ds, ⟨I.below, I.bsz, fun id => ?_, hag, fun id p hp => ?_, fun i j p q hij hp hq b hb1 hb2 => ?_, fun b hk => ?_⟩, { G with gl := G.gl.mono hle, hle := G.hle.trans hle, fl := hnx, re := fun i hi => by simp only [rho, if_pos hi]; exact G.re i hi, lrK := hlr ▸ G.lrK, lrI := hlr ▸ G.lrI }, fun t v' ht => ?_, by simp, hdf, hsz⟩
      · unfold rho
        split
        · exact I.one _
        · split
          · exact I.one _
          · rfl
          · rfl
      · have hmem := lookO_mem hp
        have := hi2 _ hmem
        simp only [] at this
        refine ⟨this.1, ?_, (ko' id p hmem).1⟩
        cases p with
        | row => trivial
        | sit => trivial
        | map => trivial
        | sbox cs =>
          intro c hc
          have h3 := List.all_eq_true.1 this.2 c hc
          exact Ch.lt_of_ids fun id' hid' => by simpa using List.all_eq_true.1 h3 id' hid'
        | box cs =>
          intro c hc
          have h3 := List.all_eq_true.1 this.2 c hc
          exact Ch.lt_of_ids fun id' hid' => by simpa using List.all_eq_true.1 h3 id' hid'
      · rcases (ko' i p (lookO_mem hp)).2 with hi | ⟨id, o1, hi, ho1⟩
        · rw [rho_none hfl hi] at hb1
          rcases hb1 with e | ⟨_, _, e⟩ | e <;> cases e
        · rcases (ko' j q (lookO_mem hq)).2 with hj | ⟨jd, o2, hj, ho2⟩
          · rw [rho_none hfl hj] at hb2
            rcases hb2 with e | ⟨_, _, e⟩ | e <;> cases e
          · rw [rho_some hfl hi] at hb1
            rw [rho_some hfl hj] at hb2
            refine I.sep id jd o1 o2 (fun e => ?_) ho1 ho2 b hb1 hb2
            subst e
            obtain ⟨x, hx, hx'⟩ := List.mem_iff_getElem.1 (lnOf_mem hi)
            obtain ⟨y, hy, hy'⟩ := List.mem_iff_getElem.1 (lnOf_mem hj)
            have hxy := nodup_at (f := fun z : Nat × Option Nat => z.2) hm3 (List.getElem?_eq_some_iff.2 ⟨hx, hx'⟩) (List.getElem?_eq_some_iff.2 ⟨hy, hy'⟩) rfl rfl
            subst hxy
            rw [hx'] at hy'
            cases hy'
            exact hij rfl
      · obtain ⟨k1, k2, _, k4⟩ := I.kp b hk
        refine ⟨k1, k2, hK b hk, fun id p hp hb => ?_⟩
        rcases (ko' id p (lookO_mem hp)).2 with hi | ⟨id', o1, hi, ho1⟩
        · rw [rho_none hfl hi] at hb
          rcases hb with e | ⟨_, _, e⟩ | e <;> cases e
        · rw [rho_some hfl hi] at hb
          exact k4 id' o1 ho1 hb
      · have hmem := lookT_mem ht
        obtain ⟨v, hv1, hv2⟩ := kt' t v' hmem
        obtain ⟨q1, q2, q3⟩ := hT t v hv1
        refine ⟨q1, SV.lt_of_ids fun id hid => ?_, hv2 _ (q3.mono (REq.refl _ _) hle q2)⟩
        simpa using hi1 _ hmem id hid
    · exact h.elim
  · exact h.elim
end
end Go.Sx
