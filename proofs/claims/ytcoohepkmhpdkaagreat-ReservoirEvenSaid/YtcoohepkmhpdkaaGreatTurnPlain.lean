/-
  Plain mathematics of turned reservoirs.
-/
import Derived.Test.YtcoohepkmhpdkaaGreatSubPlain
namespace Go.Proofs.YtcoohepkmhpdkaaGreat

/-- where a place stood that F has moved -/
def hat (k : Nat) (F : List Int) (x : Nat) : Nat := if x < k then (F.getD x 0).toNat else x
/-- decisions, the slots named anew -/
def relab1 (k : Nat) (F : List Int) (x : Int) : Int := if x < (k : Int) then F.getD x.toNat 0 else x
def relab (k : Nat) (F d : List Int) : List Int := d.map (relab1 k F)
theorem relab_len (k : Nat) (F d : List Int) : (relab k F d).length = d.length := by simp [relab]
theorem relab_get (k : Nat) (F d : List Int) (i : Nat) (h : i < d.length) : (relab k F d).getD i 0 = relab1 k F (d.getD i 0) := by simp [relab, List.getD, h]
theorem hat_lt {k : Nat} {F : List Int} (hF : IsP F) (hl : F.length = k) {x : Nat} (h : x < k) : hat k F x < k := by
  unfold hat
  rw [if_pos h]
  have := hF.get (i := x) (by omega)
  omega
theorem hat_ge {k : Nat} {F : List Int} {x : Nat} (h : ¬ x < k) : hat k F x = x := by unfold hat; rw [if_neg h]
theorem hat_inj {k : Nat} {F : List Int} (hF : IsP F) (hl : F.length = k) {x y : Nat} (h : hat k F x = hat k F y) : x = y := by
  by_cases hx : x < k
  · by_cases hy : y < k
    · unfold hat at h
      rw [if_pos hx, if_pos hy] at h
      have h1 := hF.get (i := x) (by omega)
      have h2 := hF.get (i := y) (by omega)
      exact nodup_inj hF.nodup (by omega) (by omega) (by omega)
    · have := hat_lt hF hl hx; rw [hat_ge hy] at h; omega
  · by_cases hy : y < k
    · have := hat_lt hF hl hy; rw [hat_ge hx] at h; omega
    · rw [hat_ge hx, hat_ge hy] at h; exact h
theorem relab1_hat {k : Nat} {F : List Int} (hF : IsP F) (hl : F.length = k) {x : Int} (h0 : 0 ≤ x) : relab1 k F x = ((hat k F x.toNat : Nat) : Int) := by
  unfold relab1 hat
  by_cases hx : x < (k : Int)
  · rw [if_pos hx, if_pos (by omega)]
    have := hF.get (i := x.toNat) (by omega)
    omega
  · rw [if_neg hx, if_neg (by omega)]
    omega
theorem relab_right {k : Nat} {F : List Int} (hF : IsP F) (hl : F.length = k) {d : List Int} (h : ∀ i, i < d.length → 0 ≤ d.getD i 0 ∧ d.getD i 0 ≤ (k : Int) + i) :
    ∀ i, i < (relab k F d).length → 0 ≤ (relab k F d).getD i 0 ∧ (relab k F d).getD i 0 ≤ (k : Int) + i := by
  intro i hi
  rw [relab_len] at hi
  rw [relab_get _ _ _ _ hi, relab1_hat hF hl (h i hi).1]
  by_cases hx : (d.getD i 0).toNat < k
  · have := hat_lt hF hl hx; omega
  · rw [hat_ge hx]; have := h i hi; omega

theorem from_rel (k : Nat) (F : List Int) (hF : IsP F) (hl : F.length = k) : ∀ (n : Nat) (d : List Int), d.length = n → (∀ i, i < d.length → 0 ≤ d.getD i 0 ∧ d.getD i 0 ≤ (k : Int) + i) →
    ∀ x, x < k + n → (fromL k F d).getD x 0 = (orderL k (relab k F d)).getD (hat k F x) 0
  | 0, d, hd, _, x, hx => by
    obtain rfl := List.length_eq_zero_iff.1 hd
    show F.getD x 0 = (rowL k).getD (hat k F x) 0
    have h1 := hat_lt hF hl (x := x) (by omega)
    rw [rowL_get _ _ h1]
    unfold hat
    rw [if_pos (by omega)]
    have := hF.get (i := x) (by omega)
    omega
  | n + 1, d, hd, hp, x, hx => by
    have hne : d ≠ [] := by rintro rfl; simp at hd
    obtain ⟨l, y, rfl⟩ : ∃ l y, d = l ++ [y] := ⟨d.dropLast, d.getLast hne, (List.dropLast_concat_getLast hne).symm⟩
    have hln : l.length = n := by simp at hd; omega
    have hy := hp l.length (by simp)
    rw [getD_snoc] at hy
    have hp' : ∀ i, i < l.length → 0 ≤ l.getD i 0 ∧ l.getD i 0 ≤ (k : Int) + i := fun i hi => by have := hp i (by simp; omega); rwa [getD_append_left _ _ _ hi] at this
    have ih := from_rel k F hF hl n l hln hp'
    have hlenS : (fromL k F l).length = k + n := by rw [fromL_len, hl, hln]
    have hlenR : (orderL k (relab k F l)).length = k + n := by rw [orderL_len, relab_len, hln]
    have e1 : fromL k F (l ++ [y]) = orderStep k (fromL k F l) l.length y := by unfold fromL; rw [foldI_snoc]
    have e2 : orderL k (relab k F (l ++ [y])) = orderStep k (orderL k (relab k F l)) (relab k F l).length (relab1 k F y) := by
      have : relab k F (l ++ [y]) = relab k F l ++ [relab1 k F y] := by simp [relab]
      rw [this]; unfold orderL; rw [foldI_snoc]
    rw [e1, e2, step_swp k _ _ _ (by rw [hlenS, hln]), step_swp k _ _ _ (by rw [hlenR, relab_len, hln]), relab_len, hln, relab1_hat hF hl hy.1, Int.toNat_natCast]
    rw [hln] at hy
    have hyn : y.toNat ≤ k + n := by omega
    generalize y.toNat = a at *
    have hki : ((k : Int) + (n : Int)) = ((k + n : Nat) : Int) := by omega
    rw [hki]
    have hhk : hat k F (k + n) = k + n := hat_ge (by omega)
    have hha : hat k F a ≤ k + n := by
      by_cases h : a < k
      · have := hat_lt hF hl h; omega
      · rw [hat_ge h]; exact hyn
    have hhx : hat k F x ≤ k + n := by
      by_cases h : x < k
      · have := hat_lt hF hl h; omega
      · rw [hat_ge h]; omega
    have gS : ∀ t, t ≤ k + n → (fromL k F l ++ [((k + n : Nat) : Int)]).getD t 0 = (orderL k (relab k F l) ++ [((k + n : Nat) : Int)]).getD (hat k F t) 0 := by
      intro t ht
      by_cases h : t = k + n
      · subst h
        rw [hhk]
        have a1 := getD_snoc (fromL k F l) ((k + n : Nat) : Int)
        have a2 := getD_snoc (orderL k (relab k F l)) ((k + n : Nat) : Int)
        rw [hlenS] at a1
        rw [hlenR] at a2
        rw [a1, a2]
      · have h1 : hat k F t < k + n := by
          by_cases h' : t < k
          · have := hat_lt hF hl h'; omega
          · rw [hat_ge h']; omega
        rw [getD_append_left _ _ _ (by omega), getD_append_left _ _ _ (by omega)]
        exact ih t (by omega)
    rw [swp_get _ _ _ _ (by simp [hlenS]; omega) (by simp [hlenS]), swp_get _ _ _ _ (by simp [hlenR]; omega) (by simp [hlenR])]
    by_cases hx1 : x = k + n
    · rw [if_pos hx1, if_pos (by rw [hx1, hhk])]
      exact gS a hyn
    · have hx1' : hat k F x ≠ k + n := fun h => hx1 (hat_inj hF hl (h.trans hhk.symm))
      rw [if_neg hx1, if_neg hx1']
      by_cases hx2 : x = a
      · rw [if_pos hx2, if_pos (by rw [hx2])]
        have := gS (k + n) (Nat.le_refl _)
        rw [hhk] at this
        exact this
      · rw [if_neg hx2, if_neg (fun h => hx2 (hat_inj hF hl h))]
        exact gS x (by omega)

/-- decisions turned by an order -/
def turnT (k : Nat) (d q : List Int) : List Int := thenL q (orderL k d)
def turnF (n k : Nat) (d q : List Int) : List Int := (undoAcc k (n - k) (turnT k d q) []).2
def turnD (n k : Nat) (d q : List Int) : List Int := (undoAcc k (n - k) (turnT k d q) []).1
def turnL (n k : Nat) (d q : List Int) : List Int := relab k (turnF n k d q) (turnD n k d q)

theorem order_isP' (n k : Nat) (d : List Int) (hk : k ≤ n) (hd : resRight n k d) : IsP (orderL k d) ∧ (orderL k d).length = n := by
  have hl : (orderL k d).length = n := by rw [orderL_len, hd.1]; omega
  have hb : ∀ x ∈ rowL k, 0 ≤ x ∧ x < (k : Int) := fun x hx => mem_rowL.1 hx
  obtain ⟨h1, h2⟩ := undo_of k (rowL k) (rowL_len k) (rowL_nodup k) hb (n - k) d [] hd.1 hd.2
  refine ⟨isP_of h1 fun x hx => ?_, hl⟩
  have := fromL_lt k (rowL k) d (rowL_len k) hb hd.2 x hx
  have h3 := hd.1
  rw [hl]
  omega
theorem then_isP {p q : List Int} (hp : IsP p) (hq : IsP q) (h : p.length = q.length) : IsP (thenL p q) := by
  refine isP_of (nodup_of_inj fun i j hi hj e => ?_) fun x hx => ?_
  · rw [thenL_len] at hi hj
    rw [thenL_get _ _ _ hi, thenL_get _ _ _ hj] at e
    have h1 := hq.get hi
    have h2 := hq.get hj
    have := nodup_inj hp.nodup (by omega) (by omega) e
    exact nodup_inj hq.nodup hi hj (by omega)
  · obtain ⟨i, hi, rfl⟩ := mem_getD hx
    rw [thenL_len] at hi ⊢
    rw [thenL_get _ _ _ hi]
    have h1 := hq.get hi
    have := hp.get (i := (q.getD i 0).toNat) (by omega)
    omega

theorem turn_facts (n k : Nat) (d q : List Int) (hk : k ≤ n) (hd : resRight n k d) (hq : IsP q) (hl : q.length = n) :
    IsP (turnT k d q) ∧ (turnT k d q).length = n ∧ IsP (turnF n k d q) ∧ (turnF n k d q).length = k ∧ resRight n k (turnD n k d q) ∧ fromL k (turnF n k d q) (turnD n k d q) = turnT k d q ∧ resRight n k (turnL n k d q) := by
  obtain ⟨h1, h2⟩ := order_isP' n k d hk hd
  have hT : IsP (turnT k d q) := then_isP hq h1 (by omega)
  have hTl : (turnT k d q).length = n := by unfold turnT; rw [thenL_len, h2]
  obtain ⟨dd, g1, g2, g3, g4, g5, g6⟩ := undo_from k (n - k) (turnT k d q) [] (by omega) hT
  rw [List.append_nil] at g1
  have eD : turnD n k d q = dd := g1
  have hDr : ∀ i, i < (turnD n k d q).length → 0 ≤ (turnD n k d q).getD i 0 ∧ (turnD n k d q).getD i 0 ≤ (k : Int) + i := fun i hi => by rw [eD] at hi ⊢; exact g3 i (by omega)
  have hDl : (turnD n k d q).length = n - k := by rw [eD]; exact g2
  refine ⟨hT, hTl, g4, g5, ⟨hDl, hDr⟩, by rw [eD]; exact g6, ?_, relab_right g4 g5 hDr⟩
  unfold turnL
  rw [relab_len]; exact hDl

theorem turn_slots (n k : Nat) (d q : List Int) (hk : k ≤ n) (hd : resRight n k d) (hq : IsP q) (hl : q.length = n) :
    setL (slotsL k (turnL n k d q)) = setL (thenL q (slotsL k d)) := by
  obtain ⟨t1, t2, t3, t4, t5, t6, t7⟩ := turn_facts n k d q hk hd hq hl
  have hrel := from_rel k _ t3 t4 _ _ rfl t5.2
  rw [t6, t5.1] at hrel
  have hkn : k + (n - k) = n := by omega
  rw [hkn] at hrel
  have e1 := take_order k (turnL n k d q) t7.2
  have e2 := take_order k d hd.2
  have e3 : thenL q (slotsL k d) = (turnT k d q).take k := by rw [← e2]; unfold turnT thenL; rw [List.map_take]
  rw [← e1, e3]
  have hRl : (orderL k (turnL n k d q)).length = n := (order_isP' n k _ hk t7).2
  refine setL_congr fun y => ?_
  constructor
  · intro hy
    obtain ⟨z, hz, rfl⟩ := mem_getD hy
    have hzk : z < k := by rw [List.length_take] at hz; omega
    rw [getD_take _ _ _ hzk]
    obtain ⟨x, hx, hxe⟩ := t3.has (x := (z : Int)) (by omega) (by omega)
    rw [t4] at hx
    have := hrel x (by omega)
    have hh : hat k (turnF n k d q) x = z := by unfold hat; rw [if_pos hx, hxe]; omega
    rw [hh] at this
    have e : (orderL k (turnL n k d q)).getD z 0 = (turnT k d q).getD x 0 := this.symm
    rw [e, ← getD_take _ k _ hx]
    exact getD_mem _ _ (by rw [List.length_take]; omega)
  · intro hy
    obtain ⟨x, hx, rfl⟩ := mem_getD hy
    have hxk : x < k := by rw [List.length_take] at hx; omega
    rw [getD_take _ _ _ hxk, hrel x (by omega)]
    have hh := hat_lt t3 t4 hxk
    show (orderL k (turnL n k d q)).getD _ 0 ∈ _
    rw [← getD_take _ k _ hh]
    exact getD_mem _ _ (by rw [List.length_take]; omega)

theorem turn_back (n k : Nat) (d q : List Int) (hk : k ≤ n) (hd : resRight n k d) (hq : IsP q) (hl : q.length = n) : turnL n k (turnL n k d q) (backL q) = d := by
  obtain ⟨t1, t2, t3, t4, t5, t6, t7⟩ := turn_facts n k d q hk hd hq hl
  have hrel := from_rel k _ t3 t4 _ _ rfl t5.2
  rw [t6, t5.1] at hrel
  have hkn : k + (n - k) = n := by omega
  rw [hkn] at hrel
  obtain ⟨p1, p2⟩ := order_isP' n k d hk hd
  have hRl : (orderL k (turnL n k d q)).length = n := (order_isP' n k _ hk t7).2
  generalize hF : turnF n k d q = F at *
  have hG : IsP (backL F) := back_isP t3
  have hGl : (backL F).length = k := by rw [backL_len, t4]
  have heR := relab_right t3 t4 hd.2
  have hel : (relab k F d).length = n - k := by rw [relab_len]; exact hd.1
  have hGF : ∀ x, hat k (backL F) (hat k F x) = x := by
    intro x
    by_cases hx : x < k
    · have h1 := hat_lt t3 t4 hx
      have h0 := t3.get (i := x) (by omega)
      have e : hat k F x = (F.getD x 0).toNat := by unfold hat; rw [if_pos hx]
      unfold hat at h1 ⊢
      rw [if_pos hx] at h1 ⊢
      rw [if_pos h1, backL_get _ _ (by omega)]
      have : (((F.getD x 0).toNat : Nat) : Int) = F.getD x 0 := by omega
      rw [this, ixN_eq t3.nodup (i := x) (by omega) rfl]
      omega
    · rw [hat_ge hx, hat_ge hx]
  have hFG : ∀ x, hat k F (hat k (backL F) x) = x := by
    intro x
    apply hat_inj hG hGl
    rw [hGF]
  have hre : relab k (backL F) (relab k F d) = d := by
    refine ext_getD (by rw [relab_len, relab_len]) fun i hi => ?_
    rw [relab_len, relab_len] at hi
    rw [relab_get _ _ _ _ (by rw [relab_len]; exact hi), relab_get _ _ _ _ hi]
    have h0 := hd.2 i hi
    rw [relab1_hat t3 t4 h0.1, relab1_hat hG hGl (by omega), Int.toNat_natCast, hGF]
    omega
  have hrel2 := from_rel k (backL F) hG hGl _ (relab k F d) rfl heR
  rw [hre, hel, hkn] at hrel2
  have hT' : turnT k (turnL n k d q) (backL q) = fromL k (backL F) (relab k F d) := by
    refine ext_getD (by unfold turnT; rw [thenL_len, hRl, fromL_len, hGl, hel, hkn]) fun z hz => ?_
    have hzn : z < n := by unfold turnT at hz; rw [thenL_len, hRl] at hz; exact hz
    rw [hrel2 z hzn]
    unfold turnT
    rw [thenL_get _ _ _ (by rw [hRl]; exact hzn)]
    have hxn : hat k (backL F) z < n := by
      by_cases h : z < k
      · have := hat_lt hG hGl h; omega
      · rw [hat_ge h]; exact hzn
    have h1 := hrel (hat k (backL F) z) hxn
    rw [hFG] at h1
    have h2 : (orderL k (turnL n k d q)).getD z 0 = (turnT k d q).getD (hat k (backL F) z) 0 := by
      rw [h1]; unfold turnL; rw [hF]
    rw [h2]
    unfold turnT
    rw [thenL_get _ _ _ (by rw [p2]; exact hxn)]
    generalize hat k (backL F) z = x at *
    have hpx := p1.get (i := x) (by rw [p2]; exact hxn)
    rw [p2] at hpx
    have hqx := hq.get (i := ((orderL k d).getD x 0).toNat) (by omega)
    rw [backL_get _ _ (by omega)]
    have : (((q.getD ((orderL k d).getD x 0).toNat 0).toNat : Nat) : Int) = q.getD ((orderL k d).getD x 0).toNat 0 := by omega
    rw [this, ixN_eq hq.nodup (i := ((orderL k d).getD x 0).toNat) (by omega) rfl]
    omega
  have hGb : ∀ x ∈ backL F, 0 ≤ x ∧ x < (k : Int) := fun x hx => by have := hG.bound hx; rw [hGl] at this; exact this
  obtain ⟨-, hu⟩ := undo_of k (backL F) hGl hG.nodup hGb (n - k) (relab k F d) [] hel heR
  rw [List.append_nil] at hu
  show relab k (turnF n k (turnL n k d q) (backL q)) (turnD n k (turnL n k d q) (backL q)) = d
  unfold turnF turnD
  rw [hT', hu]
  exact hre

end Go.Proofs.YtcoohepkmhpdkaaGreat
