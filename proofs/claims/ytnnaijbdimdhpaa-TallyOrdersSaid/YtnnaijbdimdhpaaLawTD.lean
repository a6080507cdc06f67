/-
  TallyOrders: the law's walk.
-/
import Derived.Test.YtnnaijbdimdhpaaTlyOrd4
import Derived.Test.YtnnaijbdimdhpaaTlyOrd2
import Derived.Test.YtnnaijbdimdhpaaTly24
import Derived.Test.YtnnaijbdimdhpaaTly7
import Derived.Test.YtnnaijbdimdhpaaTly9
namespace Go.Proofs.Ytnnaijbdimdhpaa
open Go.RowKit Go.Shelf
set_option linter.unusedVariables false
set_option linter.unusedSimpArgs false

set_option maxRecDepth 100000 in
set_option maxHeartbeats 1000000 in
theorem orders_bad51 (n : Int) (w : World) (h : n < 0 ∨ 6 < n) :
    Calls Try.prog 40 #[.int .i64 n] w fun e w' => e = .returned (.tuple #[.slice none 0 0, .int .i64 1]) ∧ w' = w := by
  refine (callsIn_wide (n := 0)).1 ?_
  refine callsIn_of_wp_marks Try.func40 rfl trivial ?_ rfl
  simp only [Try.ntmps40, List.size_toArray, List.length_cons, List.length_nil, Nat.reduceAdd, Nat.reduceSub, Array.replicate_succ, Array.replicate_zero, List.push_toArray, List.append_toArray, List.nil_append, List.cons_append]
  by_cases h1 : n < 0
  · clear h
    gi_wp2
    exact ⟨_, results_tmp2 rfl _ _ _, rfl, rfl⟩
  have h2 : 6 < n := by omega
  clear h
  gi_wp2
  exact ⟨_, results_tmp2 rfl _ _ _, rfl, rfl⟩

set_option maxRecDepth 100000 in
set_option maxHeartbeats 2000000 in
theorem law_TallyOrders (w : World) (n : Int) (vp : Value) (np : Nat) (p : List Int) (hp : Rd w 1 vp np (i64s p)) :
    Calls Try.prog 9 #[.int .i64 n, vp] w fun e w' => e = .returned (.bool true) ∧ Below w.heap.size w w' := by
  have CA := awake51 w
  have hlp := hp.len_i64
  subst hlp
  obtain ⟨sp, cp, rfl⟩ := hp.form
  have HP := Lib.hid hp
  clear hp
  by_cases hE : n < 0 ∨ 6 < n
  · have C1 := fun W => orders_bad51 n W hE
    by_cases h1 : n < 0
    · clear hE
      go_enter Try.func9, Try.ntmps9
      go_wp2_with (first
        | (go_at_call 10; refine CA.mono ?_; rintro e w1 ⟨rfl, hb1⟩; have HB1 := Lib.hid hb1; clear hb1)
        | (go_at_call 40; refine (C1 _).mono ?_; rintro e w2 ⟨rfl, rfl⟩))
      go_ret
      exact ⟨rfl, HB1.out⟩
    · have h2 : 6 < n := by omega
      clear hE
      go_enter Try.func9, Try.ntmps9
      go_wp2_with (first
        | (go_at_call 10; refine CA.mono ?_; rintro e w1 ⟨rfl, hb1⟩; have HB1 := Lib.hid hb1; clear hb1)
        | (go_at_call 40; refine (C1 _).mono ?_; rintro e w2 ⟨rfl, rfl⟩))
      go_ret
      exact ⟨rfl, HB1.out⟩
  · obtain ⟨n, rfl⟩ : ∃ m : Nat, n = m := ⟨n.toNat, by omega⟩
    have hn : n ≤ 6 := by omega
    have C1 := Lib.hid (fun W => orders_ok51 n W hn)
    have hlen := ords_len hn
    have C2 := fun W => times_any n n W hn (Nat.le_refl _)
    have hcb : timesN n n ≤ 720 := timesN_le hn (Nat.le_refl _)
    rw [← hlen] at C2 hcb
    obtain ⟨m, hm⟩ : ∃ m, m = (ords n).length := ⟨_, rfl⟩
    rw [← hm] at C1 C2 hcb
    have C3 := Lib.hid (fun (v : Value) (W : World) (h : Rd W 1 v m (u64s (List.replicate m 1))) => refEven_rep v m 1 W h (by omega))
    clear hE hlen hm
    by_cases hp6 : 6 < p.length
    · go_enter Try.func9, Try.ntmps9
      go_wp2_with (first
        | (go_at_call 10; refine CA.mono ?_; rintro e w1 ⟨rfl, hb1⟩; have HB1 := Lib.hid hb1; clear hb1)
        | (go_at_call 40; refine (C1.out _).mono ?_; rintro e w2 ⟨v2, rfl, hr, hb⟩; have HB2 := Lib.hid (HB1.out.trans (hb.mono HB1.out.size)); have HR := Lib.hid hr; (obtain ⟨sv, cv, rfl⟩ := hr.form); clear hb hr)
        | (go_at_call 29; refine (C2 _).mono ?_; rintro e w3 ⟨rfl, rfl⟩)
        | (go_at_call 18; refine (C3.out _ _ HR.out).mono ?_; rintro e w4 ⟨rfl, rfl⟩))
      go_ret
      exact ⟨rfl, HB2.out⟩
    · have C4 := fun W (h : Rd W 1 (.slice sp p.length cp) p.length (i64s p)) => refis_any W _ _ p h (by omega)
      have C5 := fun W (h : Rd W 1 (.slice sp p.length cp) p.length (i64s p)) => refOrders_any p _ _ W (by omega) h
      cases hP : isPB p
      · rw [hP] at C4
        have C4 := Lib.hid C4
        clear C5 hP
        obtain ⟨l, hl⟩ : ∃ l, l = p.length := ⟨_, rfl⟩
        rw [← hl] at hp6 C4 HP ⊢
        clear hl
        go_enter Try.func9, Try.ntmps9
        go_wp2_with (first
          | (go_at_call 10; refine CA.mono ?_; rintro e w1 ⟨rfl, hb1⟩; have HB1 := Lib.hid hb1; clear hb1)
          | (go_at_call 40; refine (C1.out _).mono ?_; rintro e w2 ⟨v2, rfl, hr, hb⟩; have HB2 := Lib.hid (HB1.out.trans (hb.mono HB1.out.size)); have HR := Lib.hid hr; (obtain ⟨sv, cv, rfl⟩ := hr.form); clear hb hr)
          | (go_at_call 29; refine (C2 _).mono ?_; rintro e w3 ⟨rfl, rfl⟩)
          | (go_at_call 18; refine (C3.out _ _ HR.out).mono ?_; rintro e w4 ⟨rfl, rfl⟩)
          | (go_at_call 41; refine (C4.out _ (HP.out.below HB2.out)).mono ?_; rintro e w5 ⟨rfl, rfl⟩))
        go_ret
        exact ⟨rfl, HB2.out⟩
      · rw [hP] at C4
        have h1 := cntO_one (isPB_iff.1 hP)
        rw [h1] at C5
        have C4 := Lib.hid C4
        have C5 := Lib.hid C5
        clear hP h1
        obtain ⟨l, hl⟩ : ∃ l, l = p.length := ⟨_, rfl⟩
        rw [← hl] at hp6 C4 C5 HP ⊢
        clear hl
        go_enter Try.func9, Try.ntmps9
        go_wp2_with (first
          | (go_at_call 10; refine CA.mono ?_; rintro e w1 ⟨rfl, hb1⟩; have HB1 := Lib.hid hb1; clear hb1)
          | (go_at_call 40; refine (C1.out _).mono ?_; rintro e w2 ⟨v2, rfl, hr, hb⟩; have HB2 := Lib.hid (HB1.out.trans (hb.mono HB1.out.size)); have HR := Lib.hid hr; (obtain ⟨sv, cv, rfl⟩ := hr.form); clear hb hr)
          | (go_at_call 29; refine (C2 _).mono ?_; rintro e w3 ⟨rfl, rfl⟩)
          | (go_at_call 18; refine (C3.out _ _ HR.out).mono ?_; rintro e w4 ⟨rfl, rfl⟩)
          | (go_at_call 41; refine (C4.out _ (HP.out.below HB2.out)).mono ?_; rintro e w5 ⟨rfl, rfl⟩)
          | (go_at_call 42; refine (C5.out _ (HP.out.below HB2.out)).mono ?_; rintro e w6 ⟨rfl, hb⟩; have HB3 := Lib.hid (HB2.out.trans (hb.mono HB2.out.size)); clear hb))
        go_ret
        exact ⟨rfl, HB3.out⟩

end Go.Proofs.Ytnnaijbdimdhpaa
