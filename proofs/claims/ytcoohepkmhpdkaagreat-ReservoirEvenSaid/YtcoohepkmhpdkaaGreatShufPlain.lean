/-
  Plain mathematics of shuffles: the order that choices make, the choices that make an order.
-/
import Derived.Test.YtcoohepkmhpdkaaGreatPerm
namespace Go.Proofs.YtcoohepkmhpdkaaGreat

/-- what the first i choices make of a row of i -/
def permR : Nat → List Int → List Int → List Int
  | 0, _, _ => []
  | i + 1, row, c => permR i ((swp row i (c.getD i 0).toNat).take i) c ++ [row.getD (c.getD i 0).toNat 0]
/-- the choices that make p of a row -/
def chR : Nat → List Int → List Int → List Int
  | 0, _, _ => []
  | i + 1, now, p => chR i ((swp now i (ixN now (p.getD i 0))).take i) p ++ [((ixN now (p.getD i 0) : Nat) : Int)]
theorem permR_len : ∀ (i : Nat) (row c : List Int), (permR i row c).length = i
  | 0, _, _ => rfl
  | i + 1, row, c => by simp [permR, permR_len i]
theorem chR_len : ∀ (i : Nat) (row c : List Int), (chR i row c).length = i
  | 0, _, _ => rfl
  | i + 1, row, c => by simp [chR, chR_len i]
theorem permR_congr : ∀ (i : Nat) (row c c' : List Int), (∀ j, j < i → c.getD j 0 = c'.getD j 0) → permR i row c = permR i row c'
  | 0, _, _, _, _ => rfl
  | i + 1, row, c, c', h => by
    simp only [permR]
    rw [h i (by omega), permR_congr i _ c c' (fun j hj => h j (by omega))]

/-- choices that may be -/
def shRight (c : List Int) : Prop := ∀ i, i < c.length → 0 ≤ c.getD i 0 ∧ c.getD i 0 ≤ (i : Int)
def shRightB (c : List Int) : Bool := (List.range c.length).all fun i => decide (0 ≤ c.getD i 0) && decide (c.getD i 0 ≤ (i : Int))
theorem shRightB_iff {c : List Int} : shRightB c = true ↔ shRight c := by simp [shRightB, shRight]

def permL (c : List Int) : List Int := permR c.length (rowL c.length) c
def choL (p : List Int) : List Int := chR p.length (rowL p.length) p

theorem swp_take_perm {l : List Int} {i a : Nat} (hl : l.length = i + 1) (ha : a < i + 1) (hn : l.Nodup) :
    ((swp l i a).take i ++ [l.getD a 0]).Perm l ∧ ((swp l i a).take i).Nodup ∧ ((swp l i a).take i).length = i := by
  have h1 : i < l.length := by omega
  have h2 : a < l.length := by omega
  have hsl : (swp l i a).length = i + 1 := by rw [swp_len, hl]
  have hlast : (swp l i a).getD i 0 = l.getD a 0 := by
    rw [swp_get _ _ _ _ h1 h2]
    by_cases h : i = a
    · rw [if_pos h, ← h]
    · rw [if_neg h, if_pos rfl]
  have hs := take_last (l := swp l i a) (m := i) hsl
  rw [hlast] at hs
  have hnd := swp_nodup hn h1 h2
  have hperm : (swp l i a).Perm l := by
    refine List.perm_iff_count.2 fun x => ?_
    rw [hnd.count, hn.count]
    by_cases hx : x ∈ l
    · rw [if_pos hx, if_pos ((swp_mem h1 h2).2 hx)]
    · rw [if_neg hx, if_neg (fun h => hx ((swp_mem h1 h2).1 h))]
  refine ⟨by rw [hs]; exact hperm, ?_, by rw [List.length_take, hsl]; omega⟩
  rw [← hs] at hnd
  exact (List.nodup_append.1 hnd).1

theorem ixN_mem {l : List Int} (hn : l.Nodup) {x : Int} (hx : x ∈ l) : ixN l x < l.length ∧ l.getD (ixN l x) 0 = x ∧ Lib.idxOf l x = ((ixN l x : Nat) : Int) := by
  obtain ⟨i, hi, he⟩ := mem_getD hx
  have e := ixN_eq hn hi he
  rw [e]
  exact ⟨hi, he, ix_eq hn hi he⟩

/-- the choices of an order make it -/
theorem perm_of_ch : ∀ (i : Nat) (now p : List Int), now.length = i → now.Nodup → i ≤ p.length → (p.take i).Perm now →
    permR i now (chR i now p) = p.take i ∧ ∀ j, j < i → 0 ≤ (chR i now p).getD j 0 ∧ (chR i now p).getD j 0 ≤ (j : Int)
  | 0, now, p, _, _, _, _ => ⟨by simp [permR], fun j hj => by omega⟩
  | i + 1, now, p, hl, hn, hip, hp => by
    have hpt : p.take (i + 1) = p.take i ++ [p.getD i 0] := by
      rw [List.take_succ_eq_append_getElem (show i < p.length by omega)]
      simp [List.getD, List.getElem?_eq_getElem (show i < p.length by omega)]
    have hmem : p.getD i 0 ∈ now := hp.mem_iff.1 (by rw [hpt]; simp)
    obtain ⟨g1, g2, -⟩ := ixN_mem hn hmem
    generalize ha : ixN now (p.getD i 0) = a at *
    obtain ⟨s1, s2, s3⟩ := swp_take_perm (i := i) (a := a) hl (by omega) hn
    rw [g2] at s1
    have hp2 : (p.take i).Perm ((swp now i a).take i) := by
      rw [hpt] at hp
      exact (List.perm_append_right_iff _).1 (hp.trans s1.symm)
    obtain ⟨ih1, ih2⟩ := perm_of_ch i ((swp now i a).take i) p s3 s2 (by omega) hp2
    have hch : chR (i + 1) now p = chR i ((swp now i a).take i) p ++ [(a : Int)] := by simp only [chR]; rw [ha]
    have hcl := chR_len i ((swp now i a).take i) p
    have hlast : (chR (i + 1) now p).getD i 0 = (a : Int) := by rw [hch]; have := getD_snoc (chR i ((swp now i a).take i) p) (a : Int); rwa [hcl] at this
    constructor
    · simp only [permR]
      rw [hlast, Int.toNat_natCast, g2, hpt]
      rw [permR_congr i _ (chR (i + 1) now p) (chR i ((swp now i a).take i) p) (fun j hj => by rw [hch, getD_append_left _ _ _ (by omega)]), ih1]
    · intro j hj
      by_cases hji : j < i
      · rw [hch, getD_append_left _ _ _ (by omega)]; exact ih2 j hji
      · obtain rfl : j = i := by omega
        rw [hlast]; omega

/-- the choices of what choices make are they -/
theorem ch_of_perm : ∀ (i : Nat) (now c : List Int), now.length = i → now.Nodup → i ≤ c.length → (∀ j, j < i → 0 ≤ c.getD j 0 ∧ c.getD j 0 ≤ (j : Int)) →
    (permR i now c).Perm now ∧ ∀ p : List Int, i ≤ p.length → p.take i = permR i now c → chR i now p = c.take i
  | 0, now, c, hl, _, _, _ => ⟨by rw [List.length_eq_zero_iff.1 hl]; exact List.Perm.refl _, fun p _ _ => by simp [chR]⟩
  | i + 1, now, c, hl, hn, hic, hc => by
    have hci := hc i (by omega)
    generalize ha : (c.getD i 0).toNat = a at *
    have hai : a < i + 1 := by omega
    obtain ⟨s1, s2, s3⟩ := swp_take_perm (i := i) (a := a) hl hai hn
    obtain ⟨ih1, ih2⟩ := ch_of_perm i ((swp now i a).take i) c s3 s2 (by omega) (fun j hj => hc j (by omega))
    have hpr : permR (i + 1) now c = permR i ((swp now i a).take i) c ++ [now.getD a 0] := by simp only [permR]; rw [ha]
    refine ⟨by rw [hpr]; exact (List.Perm.append_right _ ih1).trans s1, fun p hip hp => ?_⟩
    have hpt : p.take (i + 1) = p.take i ++ [p.getD i 0] := by
      rw [List.take_succ_eq_append_getElem (show i < p.length by omega)]
      simp [List.getD, List.getElem?_eq_getElem (show i < p.length by omega)]
    rw [hpt, hpr] at hp
    have hpl := permR_len i ((swp now i a).take i) c
    obtain ⟨e1, e2⟩ := List.append_inj hp (by rw [List.length_take, hpl]; omega)
    have e3 : p.getD i 0 = now.getD a 0 := by simpa using e2
    have hix : ixN now (p.getD i 0) = a := ixN_eq hn (by omega) e3.symm
    simp only [chR]
    rw [hix, ih2 p (by omega) e1]
    have hct : c.take (i + 1) = c.take i ++ [c.getD i 0] := by
      rw [List.take_succ_eq_append_getElem (show i < c.length by omega)]
      simp [List.getD, List.getElem?_eq_getElem (show i < c.length by omega)]
    rw [hct]
    have : ((a : Nat) : Int) = c.getD i 0 := by omega
    rw [this]

theorem perm_cho {p : List Int} (hp : IsP p) : permL (choL p) = p ∧ shRight (choL p) ∧ (choL p).length = p.length := by
  have hl : (choL p).length = p.length := chR_len _ _ _
  obtain ⟨h1, h2⟩ := perm_of_ch p.length (rowL p.length) p (rowL_len _) (rowL_nodup _) (Nat.le_refl _) (by rw [List.take_length]; exact hp)
  rw [List.take_length] at h1
  refine ⟨?_, fun i hi => h2 i (by omega), hl⟩
  unfold permL
  rw [hl]
  exact h1
theorem permL_len (c : List Int) : (permL c).length = c.length := permR_len _ _ _
theorem cho_perm {c : List Int} (hc : shRight c) : choL (permL c) = c ∧ IsP (permL c) := by
  obtain ⟨h1, h2⟩ := ch_of_perm c.length (rowL c.length) c (rowL_len _) (rowL_nodup _) (Nat.le_refl _) hc
  have h3 := h2 (permL c) (by rw [permL_len]; exact Nat.le_refl _) (by rw [List.take_of_length_le (by rw [permL_len]; exact Nat.le_refl _)]; rfl)
  rw [List.take_length] at h3
  refine ⟨?_, ?_⟩
  · unfold choL
    rw [permL_len]
    exact h3
  · unfold IsP
    rw [permL_len]
    exact h1

/-- one order behind another one -/
def thenL (p q : List Int) : List Int := q.map fun x => p.getD x.toNat 0
theorem thenL_len (p q : List Int) : (thenL p q).length = q.length := by simp [thenL]
theorem thenL_get (p q : List Int) (i : Nat) (h : i < q.length) : (thenL p q).getD i 0 = p.getD (q.getD i 0).toNat 0 := by simp [thenL, List.getD, h]
/-- what undoes an order -/
def backL (p : List Int) : List Int := (List.range p.length).map fun (x : Nat) => ((ixN p (x : Int) : Nat) : Int)
theorem backL_len (p : List Int) : (backL p).length = p.length := by simp [backL]
theorem backL_get (p : List Int) (x : Nat) (h : x < p.length) : (backL p).getD x 0 = ((ixN p (x : Int) : Nat) : Int) := by simp [backL, List.getD, h]
theorem then_back {p : List Int} (hp : IsP p) : thenL p (backL p) = rowL p.length := by
  refine ext_getD (by rw [thenL_len, backL_len, rowL_len]) fun i hi => ?_
  rw [thenL_len, backL_len] at hi
  rw [thenL_get _ _ _ (by rw [backL_len]; exact hi), backL_get _ _ hi, rowL_get _ _ hi, Int.toNat_natCast]
  exact (ixN_spec hp (x := (i : Int)) (by omega) (by omega)).2.1
theorem back_isP {p : List Int} (hp : IsP p) : IsP (backL p) := by
  have hb : ∀ i, i < p.length → ixN p (i : Int) < p.length ∧ p.getD (ixN p (i : Int)) 0 = (i : Int) := fun i hi => by
    obtain ⟨h1, h2, -⟩ := ixN_spec hp (x := (i : Int)) (by omega) (by omega)
    exact ⟨h1, h2⟩
  refine isP_of (nodup_of_inj fun i j hi hj e => ?_) fun x hx => ?_
  · rw [backL_len] at hi hj
    rw [backL_get _ _ hi, backL_get _ _ hj] at e
    have e' : ixN p (i : Int) = ixN p (j : Int) := by omega
    have h1 := (hb i hi).2
    have h2 := (hb j hj).2
    rw [e'] at h1
    omega
  · obtain ⟨i, hi, rfl⟩ := mem_getD hx
    rw [backL_len] at hi ⊢
    rw [backL_get _ _ hi]
    have := (hb i hi).1
    omega

end Go.Proofs.YtcoohepkmhpdkaaGreat
