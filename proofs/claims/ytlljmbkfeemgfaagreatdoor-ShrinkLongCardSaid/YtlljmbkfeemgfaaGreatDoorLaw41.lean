/- ShrinkLists: lists without one, and whether one is within another one. -/
import Derived.Test.YtlljmbkfeemgfaaGreatDoorLists
namespace Go.Proofs.YtlljmbkfeemgfaaGreatDoor.Wk
open Go Go.RowKit Esc

/-- A program that may not run is refused. -/
theorem new_bad {w : World} {F : Nat → Prop} {v : Value} {p : Prog} (hp : ProgM w F v p) (hT : Tab w) (hbad : (check p).2.2 ≠ 0) (a b c : Int) :
    Calls Tryz.prog 15 #[.agg #[v], .agg #[.int .i64 a, .int .i64 b, .int .i64 c]] w fun e w' => e = .returned (.tuple #[.pointer none, .int .i64 1]) ∧ Upd0 w w' := by
  obtain ⟨av, nv, cv, rfl⟩ : ∃ a n c, v = .slice a n c := by
    obtain ⟨a, c, e, _⟩ := hp.val
    exact ⟨_, _, _, e⟩
  have hb : (((check p).2.2 : Nat) : Int) ≠ 0 := by omega
  have hb' : ((((check p).2.2 : Nat) : Int) != 0) = true := by rw [bne_iff_ne]; exact hb
  have Hp := Lib.hid hp
  clear hp hbad hb
  go_enter Tryz.func15, Tryz.ntmps15
  go_wp2_with fail
  refine (check_prog (Hp.out.upd0 (by exact ((Upd.refl _ _).alloc _).alloc _)) (hT.upd (F := fun _ => False) (by exact ((Upd.refl _ _).alloc _).alloc _) (fun x => x))).mono ?_
  rintro e w1 ⟨rfl, hu⟩
  have HU := Lib.hid hu.pre.pre
  clear hu hT
  go_wp2
  go_ret2
  exact ⟨rfl, HU.out⟩

theorem empty_prog (w : World) (F : Nat → Prop) : ProgM w F (.slice none 0 0) [] := ⟨[], rfl, Sl.nil _ _ _ _ _, fun k h => by simp at h⟩

theorem prefix_bad (w : World) (hT : Tab w) (a : Option Addr) (n c : Nat) :
    Calls Tryz.prog 36 #[.agg #[.slice none 0 0], .agg #[.int .i64 0, .int .i64 0, .int .i64 0], .slice a n c] w fun e w' => e = .returned (.int .i64 (-1)) ∧ Upd0 w w' := by
  go_enter Tryz.func36, Tryz.ntmps36
  go_wp2_with fail
  refine (new_bad (empty_prog _ (fun _ => False)) (hT.upd (F := fun _ => False) (by exact ((Upd.refl _ _).alloc _).alloc _) (fun x => x)) (by decide) 0 0 0).mono ?_
  rintro e w1 ⟨rfl, hu⟩
  have HU := Lib.hid hu.pre.pre
  clear hu hT
  go_wp2
  go_ret
  exact ⟨rfl, HU.out⟩

def e1 : Entry := ⟨1, 0, 0⟩
def e2 : Entry := ⟨2, 0, 0⟩
def e3 : Entry := ⟨3, 0, 0⟩

set_option maxRecDepth 100000 in
theorem alive41_c (w : World) (hT : Tab w) :
    Calls Tryz.prog 29 #[] w fun e w' => e = .returned (.bool true) ∧ Upd0 w w' := by
  have hl : EntM (w.alloc (.cells ([e1, e2, e3].flatMap entC).toArray 40)) (fun _ => True) (.slice (some ⟨w.heap.size, 0, none⟩) 3 3) [e1, e2, e3] :=
    Sl.of_row (l := [e1, e2, e3]) (E := 40) ⟨rfl, .inr ⟨w.heap.size, 0, 3, [e1, e2, e3].flatMap entC, rfl, trivial, Blk.new _ _ _, by decide, by decide, by decide, rfl⟩⟩
  have hl2 := Sl.piece hl (fun _ => rfl) 1 3 3 (by decide) (by decide) (by decide) (Nat.le_refl 3)
  have HL := Lib.hid hl
  have HL2 := Lib.hid hl2
  have HT := Lib.hid hT
  clear hl hl2 hT
  go_enter Tryz.func29, Tryz.ntmps29
  go_wp2_with fail
  refine (without_c HL.out (by decide) 1 (by decide) (by decide)).mono ?_
  rintro e w1 ⟨v1, rfl, hv1, hu⟩
  obtain ⟨a1, c1, rfl, _⟩ := Sl.val hv1
  rw [show (without [e1, e2, e3] 1).length = 2 from rfl]
  have HU := Lib.hid hu
  clear hv1 hu
  go_wp2_with fail
  refine (sub_c (HL2.out.upd0 HU.out) (HL.out.upd0 HU.out)).mono ?_
  rintro e w2 ⟨rfl, hu⟩
  rw [show sub (([e1, e2, e3].drop 1).take (3 - 1)) [e1, e2, e3] = true from by decide]
  have HU2 := Lib.hid (HU.out.trans hu)
  clear hu
  go_wp2_with fail
  refine (sub_c (HL.out.upd0 HU2.out) (HL2.out.upd0 HU2.out)).mono ?_
  rintro e w3 ⟨rfl, hu⟩
  rw [show sub [e1, e2, e3] (([e1, e2, e3].drop 1).take (3 - 1)) = false from by decide]
  have HU3 := Lib.hid (HU2.out.trans hu)
  clear hu
  go_wp2_with fail
  refine (prefix_bad _ (HT.out.upd (F := fun _ => False) (by exact HU3.out.pre) (fun x => x)) _ _ _).mono ?_
  rintro e w4 ⟨rfl, hu⟩
  have HU4 := Lib.hid (HU3.out.trans hu)
  clear hu
  go_wp2
  go_ret
  exact ⟨rfl, HU4.out.pre⟩

set_option maxRecDepth 100000 in
theorem law_c {w : World} {F G : Nat → Prop} {va vb : Value} {a b : List Entry} (ha : EntM w F va a) (hb : EntM w G vb b) (hT : Tab w) (i : Int) (hi1 : -9223372036854775808 ≤ i) (hi2 : i ≤ 9223372036854775807) :
    Calls Tryz.prog 7 #[va, vb, .int .i64 i] w fun e w' => e = .returned (.bool true) ∧ Upd0 w w' := by
  have hma := ha.le_max
  have hmb := hb.le_max
  unfold maxLen at hma hmb
  obtain ⟨a0, ca, rfl, hca⟩ := Sl.val ha
  obtain ⟨b0, cb, rfl, hcb⟩ := Sl.val hb
  have HB := Lib.hid hb
  have HA := Lib.hid ha
  have HT := Lib.hid hT
  clear ha hb hT
  by_cases h1 : 100 < a.length
  · go_enter Tryz.func7, Tryz.ntmps7
    go_wp2_with fail
    refine (alive41_c _ HT.out).mono ?_
    rintro e w1 ⟨rfl, hu⟩
    go_wp2
    go_ret
    exact ⟨rfl, hu⟩
  by_cases h2 : 100 < b.length
  · go_enter Tryz.func7, Tryz.ntmps7
    go_wp2_with fail
    refine (alive41_c _ HT.out).mono ?_
    rintro e w1 ⟨rfl, hu⟩
    go_wp2
    go_ret
    exact ⟨rfl, hu⟩
  go_enter Tryz.func7, Tryz.ntmps7
  go_wp2_with fail
  refine (without_c HA.out (by omega) i hi1 hi2).mono ?_
  rintro e w1 ⟨v1, rfl, hv1, hu⟩
  have HV1 := Lib.hid hv1
  have HU := Lib.hid hu
  clear hv1 hu
  go_wp2_with fail
  refine (refWithout_c (HA.out.upd0 HU.out) (by omega) i hi1 hi2).mono ?_
  rintro e w2 ⟨v2, rfl, hv2, hu⟩
  have HV2 := Lib.hid hv2
  have HV1' := Lib.hid (HV1.out.upd0 hu)
  have HU2 := Lib.hid (HU.out.trans hu)
  clear hv2 hu
  go_wp2_with fail
  refine (sameEnt_c HV1'.out HV2.out).mono ?_
  rintro e w3 ⟨rfl, hu⟩
  have HU3 := Lib.hid (HU2.out.trans hu)
  clear hu
  go_wp2_with fail
  refine (sub_c (HA.out.upd0 HU3.out) (HB.out.upd0 HU3.out)).mono ?_
  rintro e w4 ⟨rfl, hu⟩
  have HU4 := Lib.hid (HU3.out.trans hu)
  clear hu
  go_wp2_with fail
  refine (refSub_c (HA.out.upd0 HU4.out) (HB.out.upd0 HU4.out)).mono ?_
  rintro e w5 ⟨rfl, hu⟩
  have HU5 := Lib.hid (HU4.out.trans hu)
  clear hu
  generalize sub a b = r
  cases r
  all_goals
    go_wp2_with fail
    refine (alive41_c _ (HT.out.upd HU5.out (fun x => x))).mono ?_
    rintro e w6 ⟨rfl, hu⟩
    have HU6 := Lib.hid (HU5.out.trans hu)
    clear hu
    go_wp2
    go_ret
    exact ⟨rfl, HU6.out⟩
end Go.Proofs.YtlljmbkfeemgfaaGreatDoor.Wk
