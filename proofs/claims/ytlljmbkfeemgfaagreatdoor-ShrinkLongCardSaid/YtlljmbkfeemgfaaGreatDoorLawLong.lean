/- ShrinkLong: of too many entries none are cut. -/
import Derived.Test.YtlljmbkfeemgfaaGreatDoorNew
import Derived.Test.YtlljmbkfeemgfaaGreatDoorLaw41
namespace Go.Proofs.YtlljmbkfeemgfaaGreatDoor.Wk
open Go Go.RowKit Esc
set_option maxRecDepth 100000

theorem new_111 {w : World} {F : Nat → Prop} {v : Value} {p : Prog} (hp : ProgM w F v p) (hT : Tab w) (hgood : (check p).2.2 = 0) :
    Calls Tryz.prog 15 #[.agg #[v], .agg #[intV 1, intV 1, intV 1]] w fun e w' => ∃ m, e = .returned (.tuple #[ptrV m, .int .i64 0]) ∧ Upd0 w w' :=
  new_ok (a := 1) (b := 1) (c := 1) hp hT hgood (by decide) (by decide) (by decide)

theorem cutLong_c {w : World} {F : Nat → Prop} {v : Value} {p : Prog} (hp : ProgM w F v p) (hT : Tab w) (hgood : (check p).2.2 = 0) (ad : Option Addr) (n c : Nat) (hn : 200 < n) (hn2 : n ≤ 100000) :
    Calls Tryz.prog 40 #[.agg #[v], .agg #[intV 1, intV 1, intV 1], .slice ad n c] w fun e w' => e = .returned (.tuple #[.slice none 0 0, .int .i64 2]) ∧ Upd0 w w' := by
  obtain ⟨av, nv, cv, rfl⟩ : ∃ a n c, v = .slice a n c := by
    obtain ⟨a, c, e, _⟩ := hp.val
    exact ⟨_, _, _, e⟩
  have Hp := Lib.hid hp
  have HT := Lib.hid hT
  have Hg := Lib.hid hgood
  have hn3 : (200 : Int) < n := by omega
  clear hp hT hgood
  go_enter Tryz.func40, Tryz.ntmps40
  go_wp2_with fail
  go_step3
  go_wp2_with fail
  refine (new_111 (Hp.out.upd0 (by exact ((Upd.refl _ _).alloc _).alloc _)) (HT.out.upd (F := fun _ => False) (by exact ((Upd.refl _ _).alloc _).alloc _) (fun x => x)) Hg.out).mono ?_
  rintro e w1 ⟨m, rfl, hu⟩
  have HU := Lib.hid hu.pre.pre
  clear hu
  go_wp2
  (try rw [Exit.noGoto_ret])
  go_ret2
  exact ⟨rfl, HU.out⟩

abbrev codeL : List Value := [intV 17, intV 0, intV 0, intV 0, intV 0, intV 6, intV 0, intV 0, intV 0, intV 1]
def progL : Prog := [⟨[⟨17, 0, 0, 0, 0⟩, ⟨6, 0, 0, 0, 1⟩], [true, true]⟩]

theorem progL_at (w : World) : ProgM ((((w.alloc (.cells codeL.toArray 83)).alloc (.cells [Value.bool true, .bool true].toArray 4)).alloc (.cells [Value.slice (some ⟨w.heap.size, 0, none⟩) 2 2, .slice (some ⟨w.heap.size + 1, 0, none⟩) 2 2].toArray 86)).alloc (.cells [Value.slice (some ⟨w.heap.size + 1 + 1, 0, none⟩) 1 1].toArray 24)) (fun _ => True) (.slice (some ⟨w.heap.size + 1 + 1, 0, none⟩) 1 1) progL := by
  have B1 : Blk ((((w.alloc (.cells codeL.toArray 83)).alloc (.cells [Value.bool true, .bool true].toArray 4)).alloc (.cells [Value.slice (some ⟨w.heap.size, 0, none⟩) 2 2, .slice (some ⟨w.heap.size + 1, 0, none⟩) 2 2].toArray 86)).alloc (.cells [Value.slice (some ⟨w.heap.size + 1 + 1, 0, none⟩) 1 1].toArray 24)) w.heap.size codeL 83 := (((Blk.new _ _ _).alloc _).alloc _).alloc _
  have B2 : Blk ((((w.alloc (.cells codeL.toArray 83)).alloc (.cells [Value.bool true, .bool true].toArray 4)).alloc (.cells [Value.slice (some ⟨w.heap.size, 0, none⟩) 2 2, .slice (some ⟨w.heap.size + 1, 0, none⟩) 2 2].toArray 86)).alloc (.cells [Value.slice (some ⟨w.heap.size + 1 + 1, 0, none⟩) 1 1].toArray 24)) (w.heap.size + 1) [.bool true, .bool true] 4 := by
    have := ((Blk.new (w.alloc (.cells codeL.toArray 83)) [.bool true, .bool true] 4).alloc (.cells [Value.slice (some ⟨w.heap.size, 0, none⟩) 2 2, .slice (some ⟨w.heap.size + 1, 0, none⟩) 2 2].toArray 86)).alloc (.cells [Value.slice (some ⟨w.heap.size + 1 + 1, 0, none⟩) 1 1].toArray 24)
    rw [World.size_alloc] at this
    exact this
  have B3 : Blk ((((w.alloc (.cells codeL.toArray 83)).alloc (.cells [Value.bool true, .bool true].toArray 4)).alloc (.cells [Value.slice (some ⟨w.heap.size, 0, none⟩) 2 2, .slice (some ⟨w.heap.size + 1, 0, none⟩) 2 2].toArray 86)).alloc (.cells [Value.slice (some ⟨w.heap.size + 1 + 1, 0, none⟩) 1 1].toArray 24)) (w.heap.size + 1 + 1) [.slice (some ⟨w.heap.size, 0, none⟩) 2 2, .slice (some ⟨w.heap.size + 1, 0, none⟩) 2 2] 86 := by
    have := (Blk.new ((w.alloc (.cells codeL.toArray 83)).alloc (.cells [Value.bool true, .bool true].toArray 4)) [.slice (some ⟨w.heap.size, 0, none⟩) 2 2, .slice (some ⟨w.heap.size + 1, 0, none⟩) 2 2] 86).alloc (.cells [Value.slice (some ⟨w.heap.size + 1 + 1, 0, none⟩) 1 1].toArray 24)
    rw [World.size_alloc, World.size_alloc] at this
    exact this
  refine ⟨[(.slice (some ⟨w.heap.size, 0, none⟩) 2 2, .slice (some ⟨w.heap.size + 1, 0, none⟩) 2 2)], rfl, Sl.of_row (E := 86) ⟨rfl, .inr ⟨_, 0, 1, _, rfl, trivial, B3, Nat.le_refl _, by decide, Nat.le_refl _, rfl⟩⟩, fun k h h' => ?_⟩
  have hk : k = 0 := by simp at h; exact h
  subst hk
  exact ⟨Sl.of_row (E := 83) ⟨rfl, .inr ⟨_, 0, 2, _, rfl, trivial, B1, Nat.le_refl _, by decide, Nat.le_refl _, rfl⟩⟩, Sl.of_row (E := 4) ⟨rfl, .inr ⟨_, 0, 2, _, rfl, trivial, B2, Nat.le_refl _, by decide, Nat.le_refl _, rfl⟩⟩, fun i hi => by
    simp [progL] at hi
    rcases hi with rfl | rfl <;> simp [Esc.Instr.fits, IntKind.has] <;> decide⟩

theorem lawLong_c (w : World) (hT : Tab w) (n : Int) (h1 : -9223372036854775808 ≤ n) (h2 : n ≤ 9223372036854775807) :
    Calls Tryz.prog 11 #[intV n] w fun e w' => e = .returned (.bool true) ∧ Upd0 w w' := by
  have HT := Lib.hid hT
  clear hT
  by_cases hout : n < 201 ∨ 1000 < n
  · have hout' : n < 201 ∨ (¬ n < 201 ∧ 1000 < n) := by omega
    clear hout
    rcases hout' with h0 | ⟨h0, h3⟩
    all_goals
      go_enter Tryz.func11, Tryz.ntmps11
      go_wp2_with fail
      refine (alive41_c _ HT.out).mono ?_
      rintro e w1 ⟨rfl, hu⟩
      go_wp2
      go_ret
      exact ⟨rfl, hu⟩
  · obtain ⟨k, rfl⟩ := Int.eq_ofNat_of_zero_le (show 0 ≤ n by omega)
    have hk1 : 200 < k := by omega
    have hk2 : k ≤ 1000 := by omega
    have hmk : ∀ w : World, (Instr.makeSlice 27 (.int .i64 (k : Int)) (.int .i64 (k : Int))).run Tryz.prog w = .ok (.slice (some ⟨w.heap.size, 0, none⟩) k k) (w.alloc (.cells ((List.replicate k [intV 0, intV 0, intV 0]).flatten).toArray 40)) := by
      obtain ⟨i0, hi, hz0, hz1, hz2⟩ := info_parts infoEnt
      exact fun w => run_mk Tryz.underlying27 hi hz0 hz1 hz2 rfl (by decide) (by decide) k (by omega) w
    generalize (List.replicate k [intV 0, intV 0, intV 0]).flatten = zs at hmk
    have hq1 : ¬ ((k : Int) < 201) := by omega
    have hq2 : ¬ (1000 < (k : Int)) := by omega
    go_enter Tryz.func11, Tryz.ntmps11
    go_wp2_with fail
    have HP := Lib.hid (progL_at w)
    have hb : Blk ((((w.alloc (.cells codeL.toArray 83)).alloc (.cells [Value.bool true, .bool true].toArray 4)).alloc (.cells [Value.slice (some ⟨w.heap.size, 0, none⟩) 2 2, .slice (some ⟨w.heap.size + 1, 0, none⟩) 2 2].toArray 86)).alloc (.cells [Value.slice (some ⟨w.heap.size + 1 + 1, 0, none⟩) 1 1].toArray 24)) (w.heap.size + 1 + 1 + 1) [Value.slice (some ⟨w.heap.size + 1 + 1, 0, none⟩) 1 1] 24 := by
      have := Blk.new (((w.alloc (.cells codeL.toArray 83)).alloc (.cells [Value.bool true, .bool true].toArray 4)).alloc (.cells [Value.slice (some ⟨w.heap.size, 0, none⟩) 2 2, .slice (some ⟨w.heap.size + 1, 0, none⟩) 2 2].toArray 86)) [Value.slice (some ⟨w.heap.size + 1 + 1, 0, none⟩) 1 1] 24
      rw [World.size_alloc, World.size_alloc, World.size_alloc] at this
      exact this
    have HU4 : Hid (Upd0 w ((((w.alloc (.cells codeL.toArray 83)).alloc (.cells [Value.bool true, .bool true].toArray 4)).alloc (.cells [Value.slice (some ⟨w.heap.size, 0, none⟩) 2 2, .slice (some ⟨w.heap.size + 1, 0, none⟩) 2 2].toArray 86)).alloc (.cells [Value.slice (some ⟨w.heap.size + 1 + 1, 0, none⟩) 1 1].toArray 24))) := Lib.hid (((((Upd.refl _ _).alloc _).alloc _).alloc _).alloc _)
    have hc := hb.cell 0
    have hz := hb.lt
    clear hb
    revert HP hc hz HU4
    generalize ((((w.alloc (.cells codeL.toArray 83)).alloc (.cells [Value.bool true, .bool true].toArray 4)).alloc (.cells [Value.slice (some ⟨w.heap.size, 0, none⟩) 2 2, .slice (some ⟨w.heap.size + 1, 0, none⟩) 2 2].toArray 86)).alloc (.cells [Value.slice (some ⟨w.heap.size + 1 + 1, 0, none⟩) 1 1].toArray 24)) = w4
    intro HP HU4 hc hz
    go_region_held3 (fun w' => w'.cell? ⟨w.heap.size + 1 + 1 + 1, 0, none⟩ = some (.slice (some ⟨w.heap.size + 1 + 1, 0, none⟩) 1 1)) (first | go_keep | exact (HU5.out.cell (by assumption) (fun x => x)).trans hc)
      ((go_at_call 40; refine (cutLong_c (HP.out.upd0 (by exact ((Upd.refl _ _).drew.alloc _))) (HT.out.upd (F := fun _ => False) (by exact (HU4.out.drew.alloc _)) (fun x => x)) (by decide +kernel) _ k k hk1 (by omega)).mono ?_; rintro e w5 ⟨rfl, hu⟩; have HU5 := Lib.hid (((Upd.refl (fun _ => False) w4).drew.alloc _).trans hu); clear hu))
    rename_i hh
    clear hh
    go_wp2_with fail
    refine (alive41_c _ (HT.out.upd (F := fun _ => False) (by exact (HU4.out.trans HU5.out)) (fun x => x))).mono ?_
    rintro e w6 ⟨rfl, hu⟩
    have HU6 := Lib.hid ((HU4.out.trans HU5.out).trans hu)
    clear hu
    go_wp2
    go_ret
    exact ⟨rfl, HU6.out⟩
end Go.Proofs.YtlljmbkfeemgfaaGreatDoor.Wk
