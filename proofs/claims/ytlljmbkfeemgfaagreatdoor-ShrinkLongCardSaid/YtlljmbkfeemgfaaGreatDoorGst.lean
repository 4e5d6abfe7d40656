/- A goroutine's status. -/
import Derived.Test.YtlljmbkfeemgfaaGreatDoorSmall
import Derived.Laws.BitsAllLaws
namespace Go.Proofs.YtlljmbkfeemgfaaGreatDoor.Wk
open Go Go.RowKit Esc
set_option maxRecDepth 100000

theorem gstatus_c (w : World) (n : Nat) (hn : n < 16) : Calls Tryz.prog 174 #[natV n] w fun e w' => e = .returned (.bool (decide (n ≤ 6))) ∧ Upd0 w w' := by
  go_enter Tryz.func174, Tryz.ntmps174
  go_wp2
  go_ret
  exact ⟨by simp; omega, Upd.refl _ _⟩
def pow2 (n : Nat) : Nat := 2 ^ n
theorem gbit_c (w : World) (n : Nat) (hn : n < 16) : Calls Tryz.prog 207 #[natV n] w fun e w' => e = .returned (natV (pow2 n)) ∧ Upd0 w w' := by
  have h : n = 0 ∨ n = 1 ∨ n = 2 ∨ n = 3 ∨ n = 4 ∨ n = 5 ∨ n = 6 ∨ n = 7 ∨ n = 8 ∨ n = 9 ∨ n = 10 ∨ n = 11 ∨ n = 12 ∨ n = 13 ∨ n = 14 ∨ n = 15 := by omega
  rcases h with rfl | rfl | rfl | rfl | rfl | rfl | rfl | rfl | rfl | rfl | rfl | rfl | rfl | rfl | rfl | rfl
  all_goals
    go_enter Tryz.func207, Tryz.ntmps207
    go_wp2
    go_ret
    exact ⟨rfl, Upd.refl _ _⟩

theorem lt16 {n : Nat} (hn : n < 16) : n = 0 ∨ n = 1 ∨ n = 2 ∨ n = 3 ∨ n = 4 ∨ n = 5 ∨ n = 6 ∨ n = 7 ∨ n = 8 ∨ n = 9 ∨ n = 10 ∨ n = 11 ∨ n = 12 ∨ n = 13 ∨ n = 14 ∨ n = 15 := by omega
theorem and8 (n : Nat) (hn : n < 16) : bits .and .i64 (n : Int) 8 = ((n / 8 * 8 : Nat) : Int) := by
  rcases lt16 hn with rfl | rfl | rfl | rfl | rfl | rfl | rfl | rfl | rfl | rfl | rfl | rfl | rfl | rfl | rfl | rfl <;> kernel_rfl
theorem andNot8 (n : Nat) (hn : n < 16) : bits .andNot .i64 (n : Int) 8 = ((n % 8 : Nat) : Int) := by
  rcases lt16 hn with rfl | rfl | rfl | rfl | rfl | rfl | rfl | rfl | rfl | rfl | rfl | rfl | rfl | rfl | rfl | rfl <;> kernel_rfl
theorem lt8 {n : Nat} (hn : n < 8) : n = 0 ∨ n = 1 ∨ n = 2 ∨ n = 3 ∨ n = 4 ∨ n = 5 ∨ n = 6 ∨ n = 7 := by omega
theorem lt7 {n : Nat} (hn : n < 7) : n = 0 ∨ n = 1 ∨ n = 2 ∨ n = 3 ∨ n = 4 ∨ n = 5 ∨ n = 6 := by omega
def bitOf (b : Bool) (n : Nat) : Int := if b then ((2 ^ n : Nat) : Int) else 0
theorem bitOf_ne (b : Bool) (n : Nat) : (bitOf b n != 0) = b := by
  cases b
  · rfl
  · have : 0 < 2 ^ n := Nat.two_pow_pos n
    simp only [bitOf, if_true]
    rw [bne_iff_ne.2]
    omega
theorem and58 (n : Nat) (hn : n < 8) : bits .and .i64 58 ((pow2 n : Nat) : Int) = bitOf (locks n) n := by
  rcases lt8 hn with rfl | rfl | rfl | rfl | rfl | rfl | rfl | rfl <;> kernel_rfl
/-- To which statuses one may go. -/
def fol (n : Nat) : Int := if n = 0 then 2 else if n = 1 then 36 else if n = 2 then 122 else if n = 3 then 6 else if n = 4 then 2 else if n = 5 then 2 else 0
theorem andFol (n t : Nat) (hn : n < 7) (ht : t < 7) : bits .and .i64 (fol n) ((pow2 t : Nat) : Int) = bitOf (may n t) t := by
  rcases lt7 hn with rfl | rfl | rfl | rfl | rfl | rfl | rfl <;> rcases lt7 ht with rfl | rfl | rfl | rfl | rfl | rfl | rfl <;> kernel_rfl
theorem idxFol (n : Nat) (hn : n < 7) (w : World) : (Instr.index 257 (.agg #[.int .i64 2, .int .i64 36, .int .i64 122, .int .i64 6, .int .i64 2, .int .i64 2, .int .i64 0]) (natV n)).run Tryz.prog w = .ok (intV (fol n)) w := by
  rcases lt7 hn with rfl | rfl | rfl | rfl | rfl | rfl | rfl <;> kernel_rfl

theorem gIs_c (w : World) (n : Nat) (hn : n < 16) : Calls Tryz.prog 173 #[natV n] w fun e w' => e = .returned (.bool (isW n)) ∧ Upd0 w w' := by
  have hand := andNot8 n hn
  have h58 := and58 (n % 8) (by omega)
  obtain ⟨m, hm⟩ : ∃ m, m = n % 8 := ⟨_, rfl⟩
  rw [← hm] at hand h58
  have hb := bitOf_ne (locks m) m
  have hres : isW n = (decide (m ≤ 6) && ((n : Int) == (m : Int) || locks m)) := by
    subst hm
    rcases lt16 hn with rfl | rfl | rfl | rfl | rfl | rfl | rfl | rfl | rfl | rfl | rfl | rfl | rfl | rfl | rfl | rfl <;> decide
  rw [hres]
  have hm8 : m < 8 := by omega
  clear hres hm
  generalize bitOf (locks m) m = z at *
  generalize locks m = lk at *
  go_enter Tryz.func173, Tryz.ntmps173
  go_wp2_with fail
  refine (gstatus_c _ m (by omega)).mono ?_
  rintro e w1 ⟨rfl, hu⟩
  have HU := Lib.hid hu
  clear hu
  by_cases h6 : m ≤ 6
  · by_cases hnm : n = m
    · have e1 : ((n : Int) == (m : Int)) = true := by simp [hnm]
      have e2 : decide (m ≤ 6) = true := by simp [h6]
      rw [e2]
      go_wp2
      go_ret
      exact ⟨by simp [h6, hnm], HU.out⟩
    · have e1 : ((n : Int) == (m : Int)) = false := by rw [beq_eq_false_iff_ne]; omega
      have e2 : decide (m ≤ 6) = true := by simp [h6]
      rw [e2]
      go_wp2_with fail
      refine (gbit_c _ m (by omega)).mono ?_
      rintro e w2 ⟨rfl, hu⟩
      have HU2 := Lib.hid (HU.out.trans hu)
      clear hu
      go_wp2
      go_ret
      exact ⟨by simp [hb, h6, e1], HU2.out⟩
  · have e2 : decide (m ≤ 6) = false := by simp; omega
    rw [e2]
    go_wp2
    go_ret
    exact ⟨by simp [h6], HU.out⟩

theorem gBase_c (w : World) (n : Nat) (hn : n < 16) (hi : isW n = true) : Calls Tryz.prog 176 #[natV n] w fun e w' => e = .returned (natV (n % 8)) ∧ Upd0 w w' := by
  have hand := andNot8 n hn
  go_enter Tryz.func176, Tryz.ntmps176
  go_wp2_with fail
  refine (gIs_c _ n hn).mono ?_
  rintro e w1 ⟨rfl, hu⟩
  rw [hi]
  have HU := Lib.hid hu
  clear hu
  go_wp2
  go_ret
  exact ⟨by simp, HU.out⟩

theorem gScanned_c (w : World) (n : Nat) (hn : n < 16) : Calls Tryz.prog 177 #[natV n] w fun e w' => e = .returned (.bool (scanned n)) ∧ Upd0 w w' := by
  have hand := and8 n hn
  have h8 : (((n / 8 * 8 : Nat) : Int) != 0) = decide (8 ≤ n) := by
    by_cases h : 8 ≤ n
    · rw [bne_iff_ne.2 (by omega)]; simp [h]
    · have : n / 8 = 0 := by omega
      simp [this]; omega
  have hres : scanned n = (isW n && decide (8 ≤ n)) := rfl
  rw [hres]
  generalize ((n / 8 * 8 : Nat) : Int) = z at *
  generalize decide (8 ≤ n) = d at *
  clear hres
  go_enter Tryz.func177, Tryz.ntmps177
  go_wp2_with fail
  refine (gIs_c _ n hn).mono ?_
  rintro e w1 ⟨rfl, hu⟩
  have HU := Lib.hid hu
  clear hu
  rcases hi : isW n with _ | _
  all_goals
    go_wp2
    go_ret
    exact ⟨by simp [h8, hi], HU.out⟩

theorem gbit_l (w : World) (x y : Int) (n : Nat) (hx : x = n) (hn : n < 16) (hy : ((pow2 n : Nat) : Int) = y) : Calls Tryz.prog 207 #[.int .i64 x] w fun e w' => e = .returned (.int .i64 y) ∧ w' = w := by
  subst hx
  subst hy
  rcases lt16 hn with rfl | rfl | rfl | rfl | rfl | rfl | rfl | rfl | rfl | rfl | rfl | rfl | rfl | rfl | rfl | rfl
  all_goals
    go_enter Tryz.func207, Tryz.ntmps207
    go_wp2
    go_ret
    exact ⟨rfl, rfl⟩

theorem or_lits : bits .or .i64 4 32 = 36 ∧ bits .or .i64 2 8 = 10 ∧ bits .or .i64 10 16 = 26 ∧ bits .or .i64 26 32 = 58 ∧ bits .or .i64 58 64 = 122 ∧ bits .or .i64 4 2 = 6 := by decide

set_option maxHeartbeats 4000000 in
theorem gFollows_c (w : World) : Calls Tryz.prog 208 #[] w fun e w' => e = .returned (.agg #[.int .i64 2, .int .i64 36, .int .i64 122, .int .i64 6, .int .i64 2, .int .i64 2, .int .i64 0]) ∧ Upd0 w w' := by
  obtain ⟨o1, o2, o3, o4, o5, o6⟩ := or_lits
  go_enter Tryz.func208, Tryz.ntmps208
  go_wp2_with (first | (go_at_call 207; refine (gbit_l _ 1 2 1 rfl (by decide) rfl).mono ?_; rintro e w' ⟨rfl, rfl⟩) | (go_at_call 207; refine (gbit_l _ 2 4 2 rfl (by decide) rfl).mono ?_; rintro e w' ⟨rfl, rfl⟩) | (go_at_call 207; refine (gbit_l _ 3 8 3 rfl (by decide) rfl).mono ?_; rintro e w' ⟨rfl, rfl⟩) | (go_at_call 207; refine (gbit_l _ 4 16 4 rfl (by decide) rfl).mono ?_; rintro e w' ⟨rfl, rfl⟩) | (go_at_call 207; refine (gbit_l _ 5 32 5 rfl (by decide) rfl).mono ?_; rintro e w' ⟨rfl, rfl⟩) | (go_at_call 207; refine (gbit_l _ 6 64 6 rfl (by decide) rfl).mono ?_; rintro e w' ⟨rfl, rfl⟩))
  refine bodyPost_ret (v := .agg #[.int .i64 2, .int .i64 36, .int .i64 122, .int .i64 6, .int .i64 2, .int .i64 2, .int .i64 0]) (by simp [results, Tryz.results208, go_sem, Act.put]) rfl ⟨rfl, (by exact ((Upd.refl _ _).alloc _))⟩

end Go.Proofs.YtlljmbkfeemgfaaGreatDoor.Wk
