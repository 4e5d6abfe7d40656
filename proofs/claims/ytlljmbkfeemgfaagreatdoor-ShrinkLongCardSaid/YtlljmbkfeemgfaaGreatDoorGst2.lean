/- A goroutine's status goes on. -/
import Derived.Test.YtlljmbkfeemgfaaGreatDoorGst
namespace Go.Proofs.YtlljmbkfeemgfaaGreatDoor.Wk
open Go Go.RowKit Esc
set_option maxRecDepth 100000

set_option maxHeartbeats 4000000 in
theorem gMay_c (w : World) (n t : Nat) (hn : n < 7) (ht : t < 7) : Calls Tryz.prog 175 #[natV n, natV t] w fun e w' => e = .returned (.bool (may n t)) ∧ Upd0 w w' := by
  have hidx := idxFol n hn
  have hand := andFol n t hn ht
  have hb := bitOf_ne (may n t) t
  have h6 : decide (n ≤ 6) = true := by simp; omega
  have h7 : decide (t ≤ 6) = true := by simp; omega
  generalize bitOf (may n t) t = z at *
  generalize may n t = m at *
  go_enter Tryz.func175, Tryz.ntmps175
  go_wp2
  go_region_law (first
    | (go_simp; go_at_call 174; refine (gstatus_c _ n (by omega)).mono ?_; rintro e w1 ⟨rfl, hu1⟩; rw [h6]; have HU1 := Lib.hid ((Upd.refl (fun _ => False) w).drew.trans hu1); clear hu1)
    | (go_simp; go_at_call 174; refine (gstatus_c _ t (by omega)).mono ?_; rintro e w2 ⟨rfl, hu2⟩; rw [h7]; have HU2 := Lib.hid (HU1.out.trans hu2); clear hu2)
    | (go_simp; go_at_call 208; refine (gFollows_c _).mono ?_; rintro e w3 ⟨rfl, hu3⟩; have HU3 := Lib.hid (HU2.out.trans hu3); clear hu3)
    | (go_simp; go_at_call 207; refine (gbit_c _ t (by omega)).mono ?_; rintro e w4 ⟨rfl, hu4⟩; have HU4 := Lib.hid (HU3.out.trans hu4); clear hu4))
  all_goals
    go_wp2
    go_ret
    exact ⟨rfl, HU4.out⟩

/-- What Move tells. -/
def moveF (n t : Nat) : Nat × Nat := if isW n = false then (0, 1) else if may (n % 8) t = false then (0, 9) else if (scanned n && decide (t ≠ 1)) = true then (0, 7) else (t + n / 8 * 8, 0)
theorem orTo0 (t z : Nat) (ht : t < 7) (hz : z = 0 ∨ z = 8) : bits .or .i64 (t : Int) ((z : Nat) : Int) = ((t + z : Nat) : Int) := by
  rcases hz with rfl | rfl <;> rcases lt7 ht with rfl | rfl | rfl | rfl | rfl | rfl | rfl <;> kernel_rfl
theorem orTo (t k : Nat) (ht : t < 7) (hk : k < 16) : bits .or .i64 (t : Int) ((k / 8 * 8 : Nat) : Int) = ((t + k / 8 * 8 : Nat) : Int) := orTo0 t _ ht (by omega)
theorem isW_lt {n : Nat} (hn : n < 16) (hi : isW n = true) : n % 8 < 7 := by
  revert hi
  rcases lt16 hn with rfl | rfl | rfl | rfl | rfl | rfl | rfl | rfl | rfl | rfl | rfl | rfl | rfl | rfl | rfl | rfl <;> decide

set_option maxHeartbeats 4000000 in
theorem gMove_c (w : World) (n t : Nat) (hn : n < 16) (ht : t < 7) : Calls Tryz.prog 131 #[natV n, natV t] w fun e w' => e = .returned (.tuple #[natV (moveF n t).1, .int .i64 ((moveF n t).2 : Nat)]) ∧ Upd0 w w' := by
  have hand := and8 n hn
  have hor := orTo t n ht hn
  have h7 : decide (t ≤ 6) = true := by simp; omega
  have hne : ((t : Int) != 1) = decide (t ≠ 1) := by
    by_cases h : t = 1
    · simp [h]
    · rw [bne_iff_ne.2 (by omega)]; simp [h]
  generalize hr : moveF n t = r
  have Hr := Lib.hid hr
  clear hr
  generalize hz : n / 8 * 8 = z at *
  have Hz := Lib.hid hz
  clear hz
  rcases hi : isW n with _ | _
  · go_enter Tryz.func131, Tryz.ntmps131
    go_wp2_with fail
    refine (gIs_c _ n hn).mono ?_
    rintro e w1 ⟨rfl, hu⟩
    rw [hi]
    have HU := Lib.hid hu
    clear hu
    go_wp2
    go_ret2
    exact ⟨by rw [← Hr.out]; simp [moveF, hi], HU.out⟩
  rcases hm : may (n % 8) t with _ | _
  · go_enter Tryz.func131, Tryz.ntmps131
    go_wp2_with fail
    refine (gIs_c _ n hn).mono ?_
    rintro e w1 ⟨rfl, hu⟩
    rw [hi]
    have HU := Lib.hid hu
    clear hu
    go_wp2_with fail
    refine (gstatus_c _ t (by omega)).mono ?_
    rintro e w2 ⟨rfl, hu⟩
    rw [h7]
    have HU2 := Lib.hid (HU.out.trans hu)
    clear hu
    go_wp2_with fail
    refine (gBase_c _ n hn hi).mono ?_
    rintro e w3 ⟨rfl, hu⟩
    have HU3 := Lib.hid (HU2.out.trans hu)
    clear hu
    go_wp2_with fail
    refine (gMay_c _ (n % 8) t (isW_lt hn hi) ht).mono ?_
    rintro e w4 ⟨rfl, hu⟩
    rw [hm]
    have HU4 := Lib.hid (HU3.out.trans hu)
    clear hu
    go_wp2
    go_ret2
    exact ⟨by rw [← Hr.out]; simp [moveF, hi, hm], HU4.out⟩
  · go_enter Tryz.func131, Tryz.ntmps131
    go_wp2_with fail
    refine (gIs_c _ n hn).mono ?_
    rintro e w1 ⟨rfl, hu⟩
    rw [hi]
    have HU := Lib.hid hu
    clear hu
    go_wp2_with fail
    refine (gstatus_c _ t (by omega)).mono ?_
    rintro e w2 ⟨rfl, hu⟩
    rw [h7]
    have HU2 := Lib.hid (HU.out.trans hu)
    clear hu
    go_wp2_with fail
    refine (gBase_c _ n hn hi).mono ?_
    rintro e w3 ⟨rfl, hu⟩
    have HU3 := Lib.hid (HU2.out.trans hu)
    clear hu
    go_wp2_with fail
    refine (gMay_c _ (n % 8) t (isW_lt hn hi) ht).mono ?_
    rintro e w4 ⟨rfl, hu⟩
    rw [hm]
    have HU4 := Lib.hid (HU3.out.trans hu)
    clear hu
    go_wp2_with fail
    refine (gScanned_c _ n hn).mono ?_
    rintro e w5 ⟨rfl, hu⟩
    have HU5 := Lib.hid (HU4.out.trans hu)
    clear hu
    rcases hs : scanned n with _ | _
    · go_wp2
      go_ret2
      exact ⟨by rw [← Hr.out]; simp [moveF, hi, hm, hs, Hz.out], HU5.out⟩
    · rcases h1 : decide (t ≠ 1) with _ | _
      all_goals
        rw [h1] at hne
        go_wp2
        go_ret2
        exact ⟨by rw [← Hr.out]; simp [moveF, hi, hm, hs, h1, Hz.out], HU5.out⟩
end Go.Proofs.YtlljmbkfeemgfaaGreatDoor.Wk
