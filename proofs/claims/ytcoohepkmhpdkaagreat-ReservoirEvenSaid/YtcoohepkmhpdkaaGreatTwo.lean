/-
  Two appends in one statement whose order is open: a row of ints and a row of draws.
-/
import Derived.Test.YtcoohepkmhpdkaaGreatRTake
import Derived.Deep.RegionHeld3
namespace Go.Proofs.YtcoohepkmhpdkaaGreat
open Go.RowKit
set_option linter.unusedVariables false

/-- two rows of the call's own, since the world Wb -/
structure Two (B : Nat) (Wb w : World) (vc0 vd0 vc vd : Value) (nc nd : Nat) (xc xd : List Value) : Prop where
  cs : w.ownsRow B 3 1 vc nc xc
  ds : w.ownsRow B 65 3 vd nd xd
  chg : Chg (fun g => vc0.ownBlock = some g ∨ vd0.ownBlock = some g) Wb w
  fc : ∀ g, vc.ownBlock = some g → vc0.ownBlock = some g ∨ Wb.heap.size ≤ g
  fd : ∀ g, vd.ownBlock = some g → vd0.ownBlock = some g ∨ Wb.heap.size ≤ g
  bs : B ≤ Wb.heap.size

/-- Rows of different kinds lie in different blocks. -/
theorem row_ne_row {w : World} {B B' : Nat} {e e' : TypeId} {sz sz' : Nat} {v v' : Value} {n n' : Nat} {xs xs' : List Value} (h : w.ownsRow B e sz v n xs) (h' : w.ownsRow B' e' sz' v' n' xs') (hne : e ≠ e') {g : Nat} (hg : v.ownBlock = some g) : v'.ownBlock ≠ some g := by
  intro hg'
  rcases h.2 with ⟨rfl, _⟩ | ⟨g1, c1, cur1, rfl, _, h1, _⟩
  · cases hg
  · rcases h'.2 with ⟨rfl, _⟩ | ⟨g2, c2, cur2, rfl, _, h2, _⟩
    · cases hg'
    · cases hg
      cases hg'
      rw [h1] at h2
      injection h2 with h2
      injection h2 with _ h3
      exact hne h3

section
variable {B : Nat} {Wb w w' : World} {vc0 vd0 vc vd v' : Value} {nc nd : Nat} {xc xd : List Value}

theorem Two.start (hc : w.ownsRow B 3 1 vc nc xc) (hd : w.ownsRow B 65 3 vd nd xd) (hB : B ≤ w.heap.size) : Two B w w vc vd vc vd nc nd xc xd :=
  ⟨hc, hd, Chg.refl _ _, fun g h => .inl h, fun g h => .inl h, hB⟩
theorem Two.drew (h : Two B Wb w vc0 vd0 vc vd nc nd xc xd) : Two B Wb w.drew vc0 vd0 vc vd nc nd xc xd := ⟨h.cs.drew, h.ds.drew, h.chg.drew, h.fc, h.fd, h.bs⟩
theorem Two.alloc (h : Two B Wb w vc0 vd0 vc vd nc nd xc xd) (o : Obj) : Two B Wb (w.alloc o) vc0 vd0 vc vd nc nd xc xd := ⟨h.cs.alloc _, h.ds.alloc _, h.chg.alloc _, h.fc, h.fd, h.bs⟩

theorem Two.appc (h : Two B Wb w vc0 vd0 vc vd nc nd xc xd) {y : Value} (hown : w'.ownsRow B 3 1 v' (nc + 1) (xc ++ [y])) (hg : w.grownBy w' vc.ownBlock) (hat : v'.ownBlock = vc.ownBlock ∨ v'.ownBlock = some w.heap.size) :
    Two B Wb w' vc0 vd0 v' vd (nc + 1) nd (xc ++ [y]) xd := by
  have hs := h.chg.size
  refine ⟨hown, row_kept h.ds fun g hx => hg.block g (h.ds.lt g hx).2 (fun hy => ?_), h.chg.grown hg fun k hk => ?_, fun g hx => ?_, h.fd, h.bs⟩
  · exact row_ne_row h.ds h.cs (by decide) hx hy.symm
  · rcases h.fc k hk with h1 | h1
    · exact .inl (.inl h1)
    · exact .inr h1
  · rcases hat with h1 | h1
    · exact h.fc g (h1 ▸ hx)
    · rw [h1] at hx
      cases hx
      exact .inr hs
theorem Two.appd (h : Two B Wb w vc0 vd0 vc vd nc nd xc xd) {y : List Value} (hown : w'.ownsRow B 65 3 v' (nd + 1) (xd ++ y)) (hg : w.grownBy w' vd.ownBlock) (hat : v'.ownBlock = vd.ownBlock ∨ v'.ownBlock = some w.heap.size) :
    Two B Wb w' vc0 vd0 vc v' nc (nd + 1) xc (xd ++ y) := by
  have hs := h.chg.size
  refine ⟨row_kept h.cs fun g hx => hg.block g (h.cs.lt g hx).2 (fun hy => ?_), hown, h.chg.grown hg fun k hk => ?_, h.fc, fun g hx => ?_, h.bs⟩
  · exact row_ne_row h.cs h.ds (by decide) hx hy.symm
  · rcases h.fd k hk with h1 | h1
    · exact .inl (.inr h1)
    · exact .inr h1
  · rcases hat with h1 | h1
    · exact h.fd g (h1 ▸ hx)
    · rw [h1] at hx
      cases hx
      exact .inr hs

/-- a cell of a block that was made since is as it was behind an append -/
theorem cell_far {row : Option Nat} (hg : w.grownBy w' row) (b o : Nat) (hb : b < w.heap.size) (hr : some b ≠ row) : w'.cell? ⟨b, o, none⟩ = w.cell? ⟨b, o, none⟩ :=
  World.cell?_of_block (hg.block b hb hr)
end

/-- the step of a region that draws: 'append(c, x)', c a row of ints -/
theorem step_appc {B : Nat} {Wb w : World} {vc0 vd0 vc vd : Value} {nc nd : Nat} {xc xd : List Value} {ops : Array Oper} {o : Oper} {a : Act} {K : Act → World → Prop} {Q : Exit → Act → World → Prop} {E : Prop} (hgd : o.guard = none) (s x : Operand)
    (ho : o.op = .call { callee := .builtin .append, args := #[s, x], argTypes := #[36, 36] })
    (hs : a.eval s = vc) (hT : Two B Wb w vc0 vd0 vc vd nc nd xc xd) (g : Nat) (y : Value) (hx : a.eval x = .slice (some ⟨g, 0, none⟩) 1 1) (hcell : w.cell? ⟨g, 0, none⟩ = some y) (h1 : y.oneCell' = true) (hn : nc ≤ 1000000)
    (h : ∀ sa cap w', Two B Wb w' vc0 vd0 (.slice sa (nc + 1) cap) vd (nc + 1) nd (xc ++ [y]) xd → (∀ b o, b < w.heap.size → (∀ k, vc.ownBlock = some k → k < b) → w'.cell? ⟨b, o, none⟩ = w.cell? ⟨b, o, none⟩) → w.heap.size ≤ w'.heap.size → K (a.put o.dst (.slice sa (nc + 1) cap)) w') :
    if Region.wanted o (yielded ops a.tmps) = true then Oper.wp Tryz.prog o a w K Q else E := by
  have hw : Region.wanted o (yielded ops a.tmps) = true := by simp [Region.wanted, hgd]
  rw [if_pos hw]
  obtain ⟨i0, hi, hz0, hz1, hz2⟩ := info_parts info_i64
  have hbs := h1
  obtain ⟨v', w', hr, h2, h3, h4⟩ := app_where (P := Tryz.prog) w B _ o.type _ i0 _ 1 8 Tryz.underlying36 hi hz0 hz1 hz2 rfl (by decide) vc nc xc hT.cs ⟨g, 0, none⟩ 1 1 [y] rfl
    (fun j u hu => by
      cases j with
      | zero => simp only [List.getElem?_cons_zero, Option.some.injEq] at hu; subst hu; rw [Addr.add_lit]; exact hcell
      | succ j => simp at hu) (fun z hz => by simp at hz; subst hz; exact h1) (by unfold maxLen; omega) (by omega) (Nat.le_trans hT.bs hT.chg.size)
  obtain ⟨sa, cap, rfl⟩ := (rd_of_row h2).form
  unfold Oper.wp execOp
  simp only [ho, resolve, invoke, builtin, Sem.run_bind, Sem.run_pure, Result.andThen_ok, List.map_toArray, List.map_cons, List.map_nil, hs, hx, hr]
  exact h sa cap w' (hT.appc h2 h3 h4) (fun b o hb hk => cell_far h3 b o hb fun hy => by have := hk b hy.symm; omega) h3.size

/-- the step of a region that draws: 'append(l, d)', l a row of draws -/
theorem step_appd {B : Nat} {Wb w : World} {vc0 vd0 vc vd : Value} {nc nd : Nat} {xc xd : List Value} {ops : Array Oper} {o : Oper} {a : Act} {K : Act → World → Prop} {Q : Exit → Act → World → Prop} {E : Prop} (hgd : o.guard = none) (s x : Operand)
    (ho : o.op = .call { callee := .builtin .append, args := #[s, x], argTypes := #[41, 41] })
    (hs : a.eval s = vd) (hT : Two B Wb w vc0 vd0 vc vd nc nd xc xd) (g : Nat) (y1 y2 y3 : Value) (hx : a.eval x = .slice (some ⟨g, 0, none⟩) 1 1) (hc1 : w.cell? ⟨g, 0, none⟩ = some y1) (hc2 : w.cell? ⟨g, 1, none⟩ = some y2) (hc3 : w.cell? ⟨g, 2, none⟩ = some y3)
    (h1 : y1.oneCell' = true) (h2 : y2.oneCell' = true) (h3 : y3.oneCell' = true) (hn : nd ≤ 1000000)
    (h : ∀ sa cap w', Two B Wb w' vc0 vd0 vc (.slice sa (nd + 1) cap) nc (nd + 1) xc (xd ++ [y1, y2, y3]) → (∀ b o, b < w.heap.size → (∀ k, vd.ownBlock = some k → k < b) → w'.cell? ⟨b, o, none⟩ = w.cell? ⟨b, o, none⟩) → w.heap.size ≤ w'.heap.size → K (a.put o.dst (.slice sa (nd + 1) cap)) w') :
    if Region.wanted o (yielded ops a.tmps) = true then Oper.wp Tryz.prog o a w K Q else E := by
  have hw : Region.wanted o (yielded ops a.tmps) = true := by simp [Region.wanted, hgd]
  rw [if_pos hw]
  obtain ⟨i0, hi, hz0, hz1, hz2⟩ := info_parts info_dw
  obtain ⟨v', w', hr, k2, k3, k4⟩ := app_where (P := Tryz.prog) w B _ o.type _ i0 _ 3 24 Tryz.underlying41 hi hz0 hz1 hz2 rfl (by decide) vd nd xd hT.ds ⟨g, 0, none⟩ 1 1 [y1, y2, y3] rfl
    (fun j u hu => by
      rw [Addr.add_lit]
      match j with
      | 0 => simp only [List.getElem?_cons_zero, Option.some.injEq] at hu; subst hu; exact hc1
      | 1 => simp at hu; subst hu; exact hc2
      | 2 => simp at hu; subst hu; exact hc3
      | j + 3 => simp at hu) (fun z hz => by simp at hz; rcases hz with rfl | rfl | rfl <;> assumption) (by unfold maxLen; omega) (by omega) (Nat.le_trans hT.bs hT.chg.size)
  obtain ⟨sa, cap, rfl⟩ := (rd_of_row k2).form
  unfold Oper.wp execOp
  simp only [ho, resolve, invoke, builtin, Sem.run_bind, Sem.run_pure, Result.andThen_ok, List.map_toArray, List.map_cons, List.map_nil, hs, hx, hr]
  exact h sa cap w' (hT.appd k2 k3 k4) (fun b o hb hk => cell_far k3 b o hb fun hy => by have := hk b hy.symm; omega) k3.size

end Go.Proofs.YtcoohepkmhpdkaaGreat
