/- Lists of entries: shrink's Without and Sub, the reference's, slices.Clone. -/
import Derived.Test.YtlljmbkfeemgfaaGreatDoorValid
import Derived.Deep.RegionWith
import Derived.Deep.AppendLies
import Derived.Deep.RegionLaw
namespace Go.Proofs.YtlljmbkfeemgfaaGreatDoor.Wk
open Go Go.RowKit Esc
def entC (e : Entry) : List Value := [.int .i64 e.pick, .int .i64 e.delay, .int .i64 e.draw]
/-- A list of entries that a call made itself. -/
abbrev EntO (w : World) (F : Nat → Prop) (v : Value) (l : List Entry) : Prop := Row w F 40 3 v l.length (l.flatMap entC)
abbrev EntM (w : World) (F : Nat → Prop) (v : Value) (l : List Entry) : Prop := Sl w F 40 3 entC v l
theorem infoEnt : (Tryz.prog.info? 40).map (fun i => (i.zero, i.size, i.bytes)) = some (some (.agg #[.int .i64 0, .int .i64 0, .int .i64 0]), 3, 24) := by kernel_rfl
theorem infoInt : (Tryz.prog.info? 3).map (fun i => (i.zero, i.size, i.bytes)) = some (some (.int .i64 0), 1, 8) := by kernel_rfl

theorem entC_one (l : List Entry) : ∀ u ∈ l.flatMap entC, u.oneCell' = true := by
  intro u hu
  obtain ⟨e, _, he⟩ := List.mem_flatMap.1 hu
  simp [entC] at he
  rcases he with rfl | rfl | rfl <;> rfl

/-- A copy, in new memory. -/
theorem cloneEnt_c {w : World} {F : Nat → Prop} {v : Value} {l : List Entry} (h : EntM w F v l) (hl : l.length ≤ 1048576) :
    Calls Tryz.prog 78 #[v] w fun e w' => ∃ v', e = .returned v' ∧ EntO w' (fun b => w.heap.size ≤ b) v' l ∧ Upd0 w w' := by
  rcases h.2 with ⟨rfl, h0⟩ | ⟨g, off, spot, cap, rfl, hc, _, r3, _⟩
  · obtain rfl : l = [] := List.eq_nil_of_length_eq_zero h0
    clear h
    have hq := fun w => Lib.run_eql_slice_nil (P := Tryz.prog) w
    go_enter Tryz.func78, Tryz.ntmps78
    go_wp2
    go_ret
    exact ⟨_, rfl, Row.nil _ _ _ _, Upd.refl _ _⟩
  · obtain ⟨i0, hi, hz0, hz1, hz2⟩ := info_parts infoEnt
    by_cases h0 : l.length = 0
    · obtain rfl : l = [] := List.eq_nil_of_length_eq_zero h0
      have hq := fun w => Lib.run_eql_slice_nil (P := Tryz.prog) w
      clear h h0
      go_enter Tryz.func78, Tryz.ntmps78
      go_wp2
      go_ret
      refine ⟨_, rfl, ⟨rfl, .inr ⟨w.heap.size, 0, 0, [], rfl, Nat.le_refl _, Blk.new w [] _, by simp, by simp, by simp, by simp⟩⟩, (Upd.refl _ _).alloc _⟩
    · obtain ⟨rfl, hg, hF⟩ := r3 h0
      have hq := fun w => Lib.run_eql_slice_nil (P := Tryz.prog) w
      have Hh := Lib.hid h
      clear h r3
      go_enter Tryz.func78, Tryz.ntmps78
      go_wp2_with (at_builtin; refine wpList_append_row (F := fun b => w.heap.size ≤ b) rfl _ _ 27 rfl 40 i0 _ 3 24 Tryz.underlying27 hi hz0 hz1 hz2 rfl (by decide) _ 0 [] rfl ?hrow ⟨g, off, none⟩ l.length cap (l.flatMap entC) rfl ?hl ?hnews ?h1 ?h63 ?hby ?_)
      case hrow => exact ⟨rfl, .inr ⟨w.heap.size, 0, 0, [], rfl, Nat.le_refl _, Blk.new w [] _, by simp, by simp, by simp, by simp⟩⟩
      case hl => exact Hh.out.1
      case hnews => exact RowR.add_cells (Hh.out.upd0 ((Upd.refl _ _).alloc _))
      case h1 => exact entC_one l
      case h63 => simp only [maxLen]; omega
      case hby => omega
      rintro v' w' hrow hu
      have HR := Lib.hid hrow
      have HU := Lib.hid hu
      clear hrow hu
      go_wp2
      go_ret
      refine ⟨_, rfl, ?_, ?_⟩
      · have := HR.out
        exact this.mono (fun b _ hb => hb.elim (fun x => x) (fun x => by have := World.size_alloc w (.cells #[] 40); show w.heap.size ≤ b; omega))
      · exact ((Upd.refl (fun _ => False) w).alloc (.cells #[] 40)).trans' (HU.out.mono (fun b _ hb => .inr hb))

/-- The list without its i-th. -/
def without (l : List Entry) (i : Int) : List Entry := if i < 0 ∨ (l.length : Int) ≤ i then l else l.eraseIdx i.toNat

set_option maxRecDepth 100000 in
theorem without_c {w : World} {F : Nat → Prop} {v : Value} {l : List Entry} (h : EntM w F v l) (hl : l.length ≤ 1000000) (i : Int) (hi1 : -9223372036854775808 ≤ i) (hi2 : i ≤ 9223372036854775807) :
    Calls Tryz.prog 31 #[v, .int .i64 i] w fun e w' => ∃ v', e = .returned v' ∧ EntM w' (fun b => w.heap.size ≤ b) v' (without l i) ∧ Upd0 w w' := by
  obtain ⟨a0, c0, rfl, hc⟩ := Sl.val h
  by_cases hout : i < 0 ∨ (l.length : Int) ≤ i
  · have e : without l i = l := by simp [without, hout]
    rw [e]
    have Hh := Lib.hid h
    clear h e
    have hout' : i < 0 ∨ (¬ i < 0 ∧ (l.length : Int) ≤ i) := by omega
    clear hout
    rcases hout' with h0 | ⟨h0, h1⟩
    all_goals
      go_enter Tryz.func31, Tryz.ntmps31
      go_wp2_with fail
      refine (cloneEnt_c Hh.out (by omega)).mono ?_
      rintro e w1 ⟨v1, rfl, hv1, hu1⟩
      have HV := Lib.hid hv1
      have HU := Lib.hid hu1
      clear hv1 hu1
      go_wp2
      go_ret
      exact ⟨_, rfl, Sl.of_row HV.out, HU.out⟩
  · obtain ⟨k, rfl⟩ := Int.eq_ofNat_of_zero_le (show 0 ≤ i by omega)
    have hk : k < l.length := by omega
    have e : without l k = l.eraseIdx k := by simp [without]; omega
    obtain ⟨i0, hi, hz0, hz1, hz2⟩ := info_parts infoEnt
    have p1 := Sl.piece h (fun _ => rfl) 0 k c0 (by omega) (by omega) (by omega) (by simp [capOf])
    have p2 := Sl.piece h (fun _ => rfl) (k + 1) l.length c0 (by omega) (by omega) (by omega) (by simp [capOf])
    have el : l.eraseIdx k = (l.drop 0).take (k - 0) ++ (l.drop (k + 1)).take (l.length - (k + 1)) := by
      rw [List.eraseIdx_eq_take_drop_succ]
      simp
      rw [List.take_of_length_le (by simp)]
    rw [e, el]
    generalize hq1 : (l.drop 0).take (k - 0) = q1 at *
    generalize hq2 : (l.drop (k + 1)).take (l.length - (k + 1)) = q2 at *
    have hl1 : q1.length ≤ 1000000 := by rw [← hq1]; simp; omega
    have hl2 : q2.length ≤ 1000000 := by rw [← hq2]; simp; omega
    have P1 := Lib.hid p1
    have P2 := Lib.hid p2
    have f1 : k ≤ c0 := by omega
    have f2 : (0 : Int) ≤ (k : Int) + 1 := by omega
    have f3 : (k : Int) + 1 ≤ (l.length : Int) := by omega
    have f4 : IntKind.i64.wrap ((k : Int) + 1) = (k : Int) + 1 := IntWalk.i64_in _ (by omega)
    have f5 : ((k : Int) + 1).toNat = k + 1 := by omega
    have HI := Lib.hid hi
    clear h e el p1 p2 hq1 hq2 hi hout
    go_enter Tryz.func31, Tryz.ntmps31
    go_wp2_with fail
    go_region_law (first
      | (refine step_append_row (F := fun b => w.heap.size ≤ b) (G := F) rfl _ _ 27 rfl 40 i0 _ 3 24 Tryz.underlying27 HI.out hz0 hz1 hz2 rfl (by decide) _ q1.length (q1.flatMap entC) rfl (by exact HV.out) _ q2.length (q2.flatMap entC) rfl (by exact P2.out.upd0 (by exact HU.out)) (entC_one q2) (by simp only [maxLen]; omega) (by omega) ?_; rintro v2 w2 hrow hu2; have HR := Lib.hid hrow; have HU2 := Lib.hid hu2; clear hrow hu2)
      | (go_simp; go_at_call 78; refine (cloneEnt_c (P1.out.upd0 (by exact (Upd.refl _ _).drew)) (by exact (by omega))).mono ?_; rintro e w1 ⟨v1, rfl, hv1, hu1⟩; have HV := Lib.hid hv1; have HU := Lib.hid ((Upd.refl (fun _ => False) w).drew.trans hu1); clear hv1 hu1))
    go_wp2
    go_ret
    refine ⟨_, rfl, ?_, HU.out.trans' (HU2.out.mono (fun b _ hb => .inr hb))⟩
    have := HR.out
    refine Sl.of_row (E := 40) ?_
    rw [List.length_append, List.flatMap_append]
    exact this.mono (fun b _ hb => hb.elim (fun x => x) (fun x => Nat.le_trans HU.out.size x))

/-! ### the reference's Without -/
theorem without_ne (l : List Entry) (i : Int) (j : Nat) (hj : j < l.length) (h : (j : Int) ≠ i) : without (l.take (j + 1)) i = without (l.take j) i ++ [l[j]] := by
  have e1 : (l.take j).length = j := by simp; omega
  have e2 : (l.take (j + 1)).length = j + 1 := by simp; omega
  have e3 : l.take (j + 1) = l.take j ++ [l[j]] := by rw [List.take_succ_eq_append_getElem hj]
  unfold without
  rw [e1, e2]
  by_cases hi : i < 0 ∨ (j : Int) ≤ i
  · rw [if_pos (by omega), if_pos hi, e3]
  · rw [if_neg (by omega), if_neg hi, e3, List.eraseIdx_append_of_lt_length (by rw [e1]; omega)]
theorem without_eq (l : List Entry) (i : Int) (j : Nat) (hj : j < l.length) (h : (j : Int) = i) : without (l.take (j + 1)) i = without (l.take j) i := by
  have e1 : (l.take j).length = j := by simp; omega
  have e2 : (l.take (j + 1)).length = j + 1 := by simp; omega
  have e3 : l.take (j + 1) = l.take j ++ [l[j]] := by rw [List.take_succ_eq_append_getElem hj]
  unfold without
  rw [e1, e2, if_neg (by omega), if_pos (by omega), e3, List.eraseIdx_append_of_length_le (by rw [e1]; omega), e1]
  simp [← h]
theorem without_len (l : List Entry) (i : Int) (j : Nat) : (without (l.take j) i).length ≤ j := by
  unfold without
  split
  · simp; omega
  · have := List.length_eraseIdx_le (l.take j) i.toNat
    have e : (l.take j).length ≤ j := by simp; omega
    omega

set_option maxRecDepth 100000 in
theorem refWithout_c {w : World} {F : Nat → Prop} {v : Value} {l : List Entry} (h : EntM w F v l) (hl : l.length ≤ 1000000) (i : Int) (hi1 : -9223372036854775808 ≤ i) (hi2 : i ≤ 9223372036854775807) :
    Calls Tryz.prog 32 #[v, .int .i64 i] w fun e w' => ∃ v', e = .returned v' ∧ EntM w' (fun b => w.heap.size ≤ b) v' (without l i) ∧ Upd0 w w' := by
  obtain ⟨a0, c0, rfl, hc⟩ := Sl.val h
  obtain ⟨i0, hi, hz0, hz1, hz2⟩ := info_parts infoEnt
  have HI := Lib.hid hi
  have HZ := Lib.hid hz0
  have Hh := Lib.hid h
  clear h hi hz0
  go_enter Tryz.func32, Tryz.ntmps32
  go_wp2_with fail
  go_loopg [5, 6] l.length (fun k v x wr => ∃ j : Nat, j + k = l.length ∧ x = .int .i64 j ∧ Hid (EntO wr (fun b => w.heap.size ≤ b) v (without (l.take j) i) ∧ Upd0 w wr))
  case atStart => exact ⟨0, by omega, rfl, Lib.hid ⟨by rw [show without (l.take 0) i = [] from by simp only [without]; split <;> simp]; exact Row.nil _ _ _ _, Upd.refl _ _⟩⟩
  case round =>
    obtain ⟨j, hj, rfl, HJ⟩ := hrel
    have Hj := Lib.hid hj
    have hgk : gk ≤ l.length := by omega
    clear hj
    by_cases hlt : j < l.length
    · obtain ⟨g, off, cap, hv, hF, hc2, hg, hcell⟩ := (Hh.out.upd0 HJ.out.2).at_ (fun _ => rfl) hlt
      injection hv with hv1 _ hv3
      subst hv1 hv3
      have c0 : wr.cell? ⟨g, off + j * 3, none⟩ = some (.int .i64 l[j].pick) := hcell 0 _ rfl
      have c1 : wr.cell? ⟨g, off + j * 3 + 1, none⟩ = some (.int .i64 l[j].delay) := hcell 1 _ rfl
      have c2 : wr.cell? ⟨g, off + j * 3 + 2, none⟩ = some (.int .i64 l[j].draw) := hcell 2 _ rfl
      clear hcell
      by_cases hji : (j : Int) = i
      · have hb : ((j : Int) != i) = false := by simp [hji]
        have e := without_eq l i j hlt hji
        have HJ2 : Hid (EntO wr (fun b => w.heap.size ≤ b) u5 (without (l.take (j + 1)) i) ∧ Upd0 w wr) := Lib.hid ⟨by rw [e]; exact HJ.out.1, HJ.out.2⟩
        clear e hji c0 c1 c2
        go_wp2
        go_roundg (gk - 1)
        case measure => have := Hj.out; omega
        case rel => exact ⟨j + 1, by have := Hj.out; omega, by go_num, HJ2⟩
      · have hb : ((j : Int) != i) = true := by rw [bne_iff_ne]; exact hji
        have e := without_ne l i j hlt hji
        have hwl := without_len l i j
        generalize hx : l[j] = x at *
        generalize hq : without (l.take j) i = q at *
        have He := Lib.hid e
        clear e hji hx hq
        go_wp2_with (at_builtin; refine wpList_append_row (F := fun b => w.heap.size ≤ b) rfl _ _ 27 rfl 40 i0 _ 3 24 Tryz.underlying27 HI.out HZ.out hz1 hz2 rfl (by decide) _ q.length (q.flatMap entC) rfl ?hrow ⟨wr.heap.size, 0, none⟩ 1 1 (entC x) rfl ?hl ?hnews ?h1 ?h63 ?hby ?_)
        case hrow => exact HJ.out.1.upd (F := fun b => w.heap.size ≤ b) ((Upd.refl (fun _ => False) _).alloc _) (fun _ _ x => x)
        case hl => rfl
        case hnews =>
          first
          | exact fun j u hu => hu
          | (intro j u hu
             have := (Blk.new wr (entC x) 40).cell j
             rw [addr_add, Nat.zero_add]
             exact this.trans hu)
        case h1 => exact fun u hu => entC_one [x] u (by simpa using hu)
        case h63 => simp only [maxLen]; omega
        case hby => omega
        rintro v' w' hrow hu
        have HJ2 : Hid (EntO w' (fun b => w.heap.size ≤ b) v' (without (l.take (j + 1)) i) ∧ Upd0 w w') := Lib.hid ⟨by
          rw [He.out]
          unfold EntO
          rw [List.length_append, List.flatMap_append]
          simp only [List.flatMap_cons, List.flatMap_nil, List.append_nil, List.length_cons, List.length_nil, Nat.zero_add]
          exact Row.mono hrow (fun b _ hb => hb.elim (fun y => y) (fun y => by have := HJ.out.2.size; have e := World.size_alloc wr (.cells (entC x).toArray 40); show w.heap.size ≤ b; simp only [entC] at e; omega)),
          (HJ.out.2.alloc _).trans' (hu.mono (fun b _ hb => .inr hb))⟩
        clear hrow hu c0 c1 c2
        go_wp2
        go_roundg (gk - 1)
        case measure => have := Hj.out; omega
        case rel => exact ⟨j + 1, by have := Hj.out; omega, by go_num, HJ2⟩
    · have e : l.take j = l := List.take_of_length_le (by omega)
      have HR := HJ.out
      rw [e] at HR
      have HR2 := Lib.hid HR
      clear HR e HJ
      go_wp2
      go_ret
      exact ⟨_, rfl, Sl.of_row HR2.out.1, HR2.out.2⟩

/-! ### Sub -/
/-- What is left of a when b has been gone through. -/
def restS : List Entry → List Entry → List Entry
  | a, [] => a
  | [], _ :: b => restS [] b
  | x :: a, y :: b => if x = y then restS a b else restS (x :: a) b
def sub (a b : List Entry) : Bool := (restS a b).isEmpty

@[go_sem high] theorem eql_ent (x y : Entry) (w : World) : (binOp .eql 40 (.agg #[.int .i64 x.pick, .int .i64 x.delay, .int .i64 x.draw]) (.agg #[.int .i64 y.pick, .int .i64 y.delay, .int .i64 y.draw])).run Tryz.prog w = .ok (.bool (decide (x = y))) w := by
  have e : decide (x = y) = (x.pick == y.pick && (x.delay == y.delay && x.draw == y.draw)) := by
    rcases x with ⟨a, b, c⟩
    rcases y with ⟨a', b', c'⟩
    by_cases h1 : a = a' <;> by_cases h2 : b = b' <;> by_cases h3 : c = c' <;> simp [h1, h2, h3]
  rw [e]
  go_simp
  by_cases h1 : x.pick = y.pick <;> by_cases h2 : x.delay = y.delay <;> by_cases h3 : x.draw = y.draw <;> simp [h1, h2, h3]

set_option maxRecDepth 100000 in
theorem sub_c {w : World} {F G : Nat → Prop} {va vb : Value} {a b : List Entry} (ha : EntM w F va a) (hb : EntM w G vb b) :
    Calls Tryz.prog 33 #[va, vb] w fun e w' => e = .returned (.bool (sub a b)) ∧ Upd0 w w' := by
  have hma := ha.le_max
  have hmb := hb.le_max
  unfold maxLen at hma hmb
  obtain ⟨a0, ca, rfl, hca⟩ := Sl.val ha
  obtain ⟨b0, cb, rfl, hcb⟩ := Sl.val hb
  have HB := Lib.hid hb
  have hL : ∃ L : List Entry, L = a := ⟨a, rfl⟩
  have HA : Hid (Sl w F 40 3 entC (.slice a0 a.length ca) a) := Lib.hid ha
  clear ha hb
  generalize hres : sub a b = res
  have Hres := Lib.hid hres
  clear hres
  go_enter Tryz.func33, Tryz.ntmps33
  go_wp2_with fail
  go_loopg [0, 9] b.length (fun k v x wr => ∃ (j : Nat) (q : List Entry), j + k = b.length ∧ x = .int .i64 j ∧ Hid (EntM wr F v q ∧ Upd0 w wr ∧ restS q (b.drop j) = restS a b))
  case atStart => exact ⟨0, a, by omega, rfl, Lib.hid ⟨HA.out, Upd.refl _ _, by simp⟩⟩
  case round =>
    obtain ⟨j, q, hj, rfl, HJ⟩ := hrel
    have hq := HJ.out.1.le_max
    unfold maxLen at hq
    obtain ⟨q0, cq, rfl, hcq⟩ := Sl.val HJ.out.1
    have Hj := Lib.hid hj
    have hgk : gk ≤ b.length := by omega
    clear hj
    by_cases hlt : j < b.length
    · obtain ⟨g, off, cap, hv, hF, hc2, hg, hcell⟩ := (HB.out.upd0 HJ.out.2.1).at_ (fun _ => rfl) hlt
      injection hv with hv1 _ hv3
      subst hv1 hv3
      have c0 : wr.cell? ⟨g, off + j * 3, none⟩ = some (.int .i64 b[j].pick) := hcell 0 _ rfl
      have c1 : wr.cell? ⟨g, off + j * 3 + 1, none⟩ = some (.int .i64 b[j].delay) := hcell 1 _ rfl
      have c2 : wr.cell? ⟨g, off + j * 3 + 2, none⟩ = some (.int .i64 b[j].draw) := hcell 2 _ rfl
      have hd : b.drop j = b[j] :: b.drop (j + 1) := List.drop_eq_getElem_cons hlt
      generalize hy : b[j] = y at *
      have Hd := Lib.hid hd
      clear hcell hd hy
      cases q with
      | nil =>
        have HJ2 : Hid (EntM wr F (.slice q0 ([] : List Entry).length cq) [] ∧ Upd0 w wr ∧ restS [] (b.drop (j + 1)) = restS a b) := Lib.hid ⟨HJ.out.1, HJ.out.2.1, by have := HJ.out.2.2; rw [Hd.out] at this; exact this⟩
        go_wp2
        go_quiet (fail)
        go_wp2
        go_roundg (gk - 1)
        case measure => have := Hj.out; omega
        case rel => exact ⟨j + 1, [], by have := Hj.out; omega, by go_num, Lib.hid ⟨HJ2.out.1.upd0 (((Upd.refl _ _).alloc _).drewN _), (HJ2.out.2.1.alloc _).drewN _, HJ2.out.2.2⟩⟩
      | cons x q =>
        obtain ⟨g', off', cap', hv', _, _, hg', hcell'⟩ := HJ.out.1.at_ (fun _ => rfl) (show 0 < (x :: q).length by simp)
        injection hv' with hv1 _ hv3
        subst hv1 hv3
        have d0 : wr.cell? ⟨g', off', none⟩ = some (.int .i64 x.pick) := by have := hcell' 0 _ rfl; simpa using this
        have d1 : wr.cell? ⟨g', off' + 1, none⟩ = some (.int .i64 x.delay) := by have := hcell' 1 _ rfl; simpa using this
        have d2 : wr.cell? ⟨g', off' + 2, none⟩ = some (.int .i64 x.draw) := by have := hcell' 2 _ rfl; simpa using this
        clear hcell'
        have hp := Sl.piece HJ.out.1 (fun _ => rfl) 1 (x :: q).length cq (by simp) (by omega) (by omega) (by simp [capOf])
        have hp2 : EntM wr F (cut (.slice (some ⟨g', off', none⟩) (q.length + 1) cq) 1 (q.length + 1) cq 3) q := by simpa using hp
        have HP := Lib.hid hp2
        clear hp hp2
        have hq' : q.length + 1 ≤ 9223372036854775807 := by simpa using hq
        have hlen : ((1 : Int)) ≤ ((q.length : Int) + 1) := by omega
        by_cases hxy : x = y
        · subst hxy
          have HJ2 : Hid (restS q (b.drop (j + 1)) = restS a b) := Lib.hid (by have := HJ.out.2.2; rw [Hd.out] at this; simpa [restS] using this)
          have HU := Lib.hid HJ.out.2.1
          clear HJ Hd
          go_wp2
          go_quiet (fail)
          go_wp2
          go_roundg (gk - 1)
          case measure => have := Hj.out; omega
          case rel => exact ⟨j + 1, q, by have := Hj.out; omega, by go_num, Lib.hid ⟨HP.out.upd0 (((Upd.refl _ _).alloc _).drewN _), (HU.out.alloc _).drewN _, HJ2.out⟩⟩
        · have HJ2 : Hid (restS (x :: q) (b.drop (j + 1)) = restS a b) := Lib.hid (by have := HJ.out.2.2; rw [Hd.out] at this; simpa [restS, hxy] using this)
          have HQ := Lib.hid HJ.out.1
          have HU := Lib.hid HJ.out.2.1
          clear HJ Hd HP
          go_wp2
          go_quiet (fail)
          go_wp2
          go_roundg (gk - 1)
          case measure => have := Hj.out; omega
          case rel => exact ⟨j + 1, x :: q, by have := Hj.out; omega, by go_num, Lib.hid ⟨HQ.out.upd0 (((Upd.refl _ _).alloc _).drewN _), (HU.out.alloc _).drewN _, HJ2.out⟩⟩
    · have e : restS a b = q := by
        have := HJ.out.2.2
        rw [show b.drop j = [] from by simp; omega] at this
        rw [← this]
        cases q <;> rfl
      have hr : res = q.isEmpty := by rw [← Hres.out]; simp [sub, e]
      have HU := Lib.hid HJ.out.2.1
      subst hr
      clear e HJ Hres
      cases q with
      | nil =>
        go_wp2
        go_ret
        exact ⟨rfl, HU.out⟩
      | cons x q =>
        have hq' : (((x :: q).length : Int) == 0) = false := by rw [beq_eq_false_iff_ne]; simp; omega
        have hq2 : ((q.length : Int) + 1 == 0) = false := by rw [beq_eq_false_iff_ne]; omega
        go_wp2
        go_ret
        exact ⟨rfl, HU.out⟩

theorem restS_nil (b : List Entry) : restS [] b = [] := by
  induction b with
  | nil => rfl
  | cons y b ih => simpa [restS] using ih
theorem drop_isEmpty (a : List Entry) (k : Nat) (hk : k ≤ a.length) : (a.drop k).isEmpty = decide (k = a.length) := by
  by_cases h : k = a.length
  · simp [h]
  · have : ¬ a.length ≤ k := by omega
    simp [h, List.isEmpty_iff, this]

set_option maxRecDepth 100000 in
theorem refSub_c {w : World} {F G : Nat → Prop} {va vb : Value} {a b : List Entry} (ha : EntM w F va a) (hb : EntM w G vb b) :
    Calls Tryz.prog 34 #[va, vb] w fun e w' => e = .returned (.bool (sub a b)) ∧ Upd0 w w' := by
  have hma := ha.le_max
  have hmb := hb.le_max
  unfold maxLen at hma hmb
  obtain ⟨a0, ca, rfl, hca⟩ := Sl.val ha
  obtain ⟨b0, cb, rfl, hcb⟩ := Sl.val hb
  have HB := Lib.hid hb
  have HA := Lib.hid ha
  clear ha hb
  generalize hres : sub a b = res
  have Hres := Lib.hid hres
  clear hres
  go_enter Tryz.func34, Tryz.ntmps34
  go_wp2_with fail
  go_loopg [5, 6] b.length (fun k x y wr => ∃ (i j : Nat), j + k = b.length ∧ i ≤ a.length ∧ x = .int .i64 i ∧ y = .int .i64 j ∧ Hid (Upd0 w wr ∧ restS (a.drop i) (b.drop j) = restS a b))
  case atStart => exact ⟨0, 0, by omega, by omega, rfl, rfl, Lib.hid ⟨Upd.refl _ _, by simp⟩⟩
  case round =>
    obtain ⟨i, j, hj, hi, rfl, rfl, HJ⟩ := hrel
    have Hj := Lib.hid hj
    have hgk : gk ≤ b.length := by omega
    have hgk2 : j ≤ b.length := by omega
    clear hj
    by_cases hlt : j < b.length
    · by_cases hlt2 : i < a.length
      · obtain ⟨g, off, cap, hv, hF, hc2, hg, hcell⟩ := (HB.out.upd0 HJ.out.1).at_ (fun _ => rfl) hlt
        injection hv with hv1 _ hv3
        subst hv1 hv3
        have c0 : wr.cell? ⟨g, off + j * 3, none⟩ = some (.int .i64 b[j].pick) := hcell 0 _ rfl
        have c1 : wr.cell? ⟨g, off + j * 3 + 1, none⟩ = some (.int .i64 b[j].delay) := hcell 1 _ rfl
        have c2 : wr.cell? ⟨g, off + j * 3 + 2, none⟩ = some (.int .i64 b[j].draw) := hcell 2 _ rfl
        obtain ⟨g', off', cap', hv', _, _, hg', hcell'⟩ := (HA.out.upd0 HJ.out.1).at_ (fun _ => rfl) hlt2
        injection hv' with hv1 _ hv3
        subst hv1 hv3
        have d0 : wr.cell? ⟨g', off' + i * 3, none⟩ = some (.int .i64 a[i].pick) := hcell' 0 _ rfl
        have d1 : wr.cell? ⟨g', off' + i * 3 + 1, none⟩ = some (.int .i64 a[i].delay) := hcell' 1 _ rfl
        have d2 : wr.cell? ⟨g', off' + i * 3 + 2, none⟩ = some (.int .i64 a[i].draw) := hcell' 2 _ rfl
        have hd : b.drop j = b[j] :: b.drop (j + 1) := List.drop_eq_getElem_cons hlt
        have hd2 : a.drop i = a[i] :: a.drop (i + 1) := List.drop_eq_getElem_cons hlt2
        have hstep : restS (if a[i] = b[j] then a.drop (i + 1) else a.drop i) (b.drop (j + 1)) = restS a b := by
          have := HJ.out.2
          rw [hd, hd2] at this
          rw [← this]
          simp only [restS]
          split
          · rfl
          · rw [hd2]
        generalize b[j] = y at *
        generalize a[i] = x at *
        have HU := Lib.hid HJ.out.1
        clear hcell hcell' hd hd2 HJ
        by_cases hxy : x = y
        · subst hxy
          rw [if_pos rfl] at hstep
          have HS := Lib.hid hstep
          clear hstep
          go_wp2
          go_quiet (fail)
          go_wp2
          go_roundg (gk - 1)
          case measure => have := Hj.out; omega
          case rel => exact ⟨i + 1, j + 1, by have := Hj.out; omega, by omega, by go_num, by go_num, Lib.hid ⟨HU.out.drewN _, HS.out⟩⟩
        · rw [if_neg hxy] at hstep
          have HS := Lib.hid hstep
          clear hstep
          go_wp2
          go_quiet (fail)
          go_wp2
          go_roundg (gk - 1)
          case measure => have := Hj.out; omega
          case rel => exact ⟨i, j + 1, by have := Hj.out; omega, by omega, by go_num, by go_num, Lib.hid ⟨HU.out.drewN _, HS.out⟩⟩
      · have hr : res = true := by
          rw [← Hres.out]; simp only [sub]
          rw [← HJ.out.2, show a.drop i = [] from by simp; omega, restS_nil]; rfl
        have hia : ((i : Int) == (a.length : Int)) = true := by rw [beq_iff_eq]; omega
        have HU := Lib.hid HJ.out.1
        subst hr
        clear HJ Hres
        go_wp2
        go_ret
        exact ⟨rfl, HU.out⟩
    · have hr : res = ((i : Int) == (a.length : Int)) := by
        rw [← Hres.out]; simp only [sub]
        rw [← HJ.out.2, show b.drop j = [] from by simp; omega]
        have e : restS (a.drop i) [] = a.drop i := by cases a.drop i <;> rfl
        rw [e, drop_isEmpty a i hi, Bool.eq_iff_iff]
        simp
        omega
      have HU := Lib.hid HJ.out.1
      have HR := Lib.hid hr
      clear HJ Hres hr
      go_wp2
      go_ret
      exact ⟨by rw [HR.out]; rfl, HU.out⟩

/-! ### Same -/
set_option maxRecDepth 100000 in
theorem sameEnt_c {w : World} {F G : Nat → Prop} {va vb : Value} {a : List Entry} (ha : EntM w F va a) (hb : EntM w G vb a) :
    Calls Tryz.prog 30 #[va, vb] w fun e w' => e = .returned (.bool true) ∧ Upd0 w w' := by
  have hma := ha.le_max
  unfold maxLen at hma
  obtain ⟨a0, ca, rfl, hca⟩ := Sl.val ha
  obtain ⟨b0, cb, rfl, hcb⟩ := Sl.val hb
  have HB := Lib.hid hb
  have HA := Lib.hid ha
  clear ha hb
  go_enter Tryz.func30, Tryz.ntmps30
  go_wp2_with fail
  go_loopg [5] a.length (fun k x wr => ∃ (j : Nat), j + k = a.length ∧ x = .int .i64 j ∧ Hid (Upd0 w wr))
  case atStart => exact ⟨0, by omega, rfl, Lib.hid (Upd.refl _ _)⟩
  case round =>
    obtain ⟨j, hj, rfl, HU⟩ := hrel
    have Hj := Lib.hid hj
    have hgk : gk ≤ a.length := by omega
    clear hj
    by_cases hlt : j < a.length
    · obtain ⟨g, off, cap, hv, hF, hc2, hg, hcell⟩ := (HB.out.upd0 HU.out).at_ (fun _ => rfl) hlt
      injection hv with hv1 _ hv3
      subst hv1 hv3
      have c0 : wr.cell? ⟨g, off + j * 3, none⟩ = some (.int .i64 a[j].pick) := hcell 0 _ rfl
      have c1 : wr.cell? ⟨g, off + j * 3 + 1, none⟩ = some (.int .i64 a[j].delay) := hcell 1 _ rfl
      have c2 : wr.cell? ⟨g, off + j * 3 + 2, none⟩ = some (.int .i64 a[j].draw) := hcell 2 _ rfl
      obtain ⟨g', off', cap', hv', _, _, hg', hcell'⟩ := (HA.out.upd0 HU.out).at_ (fun _ => rfl) hlt
      injection hv' with hv1 _ hv3
      subst hv1 hv3
      have d0 : wr.cell? ⟨g', off' + j * 3, none⟩ = some (.int .i64 a[j].pick) := hcell' 0 _ rfl
      have d1 : wr.cell? ⟨g', off' + j * 3 + 1, none⟩ = some (.int .i64 a[j].delay) := hcell' 1 _ rfl
      have d2 : wr.cell? ⟨g', off' + j * 3 + 2, none⟩ = some (.int .i64 a[j].draw) := hcell' 2 _ rfl
      clear hcell hcell'
      generalize a[j] = x at *
      go_wp2
      go_quiet (fail)
      go_wp2
      go_roundg (gk - 1)
      case measure => have := Hj.out; omega
      case rel => exact ⟨j + 1, by have := Hj.out; omega, by go_num, Lib.hid (HU.out.drewN _)⟩
    · go_wp2
      go_ret
      exact ⟨rfl, HU.out⟩
end Go.Proofs.YtlljmbkfeemgfaaGreatDoor.Wk
