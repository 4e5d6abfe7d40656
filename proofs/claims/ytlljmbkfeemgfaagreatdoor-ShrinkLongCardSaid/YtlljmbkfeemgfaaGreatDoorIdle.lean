/- Those that are idle: idle.List. -/
import Derived.Test.YtlljmbkfeemgfaaGreatDoorStat
namespace Go.Proofs.YtlljmbkfeemgfaaGreatDoor.Wk
open Go Go.RowKit Esc
set_option maxRecDepth 100000
abbrev intV (n : Int) : Value := .int .i64 n

/-- Who is ahead of an id: -1 nobody, -2 it is not there. -/
def aheadOf : List Nat → Nat → Int
  | [], _ => -2
  | x :: l, i => if i = x then (match l with | [] => -1 | y :: _ => (y : Int)) else aheadOf l i
def lastOf : List Nat → Int
  | [] => -1
  | x :: _ => x
/-- A list of ids below n. -/
def IdleR (w : World) (F : Nat → Prop) (b n : Nat) (l : List Nat) : Prop :=
  ∃ (g : Nat) (ah : List Int), F b ∧ F g ∧ b ≠ g ∧ Blk w b [intV (lastOf l), .slice (some ⟨g, 0, none⟩) n n, natV l.length] 163 ∧ Blk w g (ah.map intV) 3 ∧ ah.length = n ∧ n ≤ 1024 ∧
    (∀ i, i < n → ah[i]? = some (aheadOf l i)) ∧ l.Nodup ∧ (∀ i, i ∈ l → i < n)

theorem IdleR.keep {w w' : World} {F G : Nat → Prop} {b n : Nat} {l : List Nat} (h : IdleR w F b n l) (hb : ∀ b, F b → b < w.heap.size → w'.heap[b]? = w.heap[b]?) (hG : ∀ b, b < w.heap.size → F b → G b) : IdleR w' G b n l := by
  obtain ⟨g, ah, h1, h2, h3, h4, h5, h6⟩ := h
  exact ⟨g, ah, hG _ h4.lt h1, hG _ h5.lt h2, h3, h4.of_heap (hb _ h1 h4.lt), h5.of_heap (hb _ h2 h5.lt), h6⟩
theorem IdleR.upd {H : Nat → Prop} {w w' : World} {F : Nat → Prop} {b n : Nat} {l : List Nat} (h : IdleR w F b n l) (u : Upd H w w') (hd : ∀ b, b < w.heap.size → F b → ¬ H b) : IdleR w' F b n l :=
  h.keep (fun b hF hb => u.block b hb (hd b hb hF)) (fun _ _ x => x)
theorem IdleR.upd0 {w w' : World} {F : Nat → Prop} {b n : Nat} {l : List Nat} (h : IdleR w F b n l) (u : Upd0 w w') : IdleR w' F b n l := h.upd u (fun _ _ _ x => x)

theorem aheadOf_iff (l : List Nat) (i : Nat) : aheadOf l i = -2 ↔ i ∉ l := by
  induction l with
  | nil => simp [aheadOf]
  | cons x l ih =>
    simp only [aheadOf, List.mem_cons, not_or]
    by_cases h : i = x
    · simp only [h, if_true, not_true, false_and, iff_false]
      cases l with
      | nil => simp
      | cons y l => simp; try omega
    · simp [h, ih]

theorem idleIs_c {w : World} {F : Nat → Prop} {b n : Nat} {l : List Nat} (h : IdleR w F b n l) {i : Nat} (hi : i < n) :
    Calls Tryz.prog 93 #[ptrV b, natV i] w fun e w' => e = .returned (.bool true) ∧ Upd0 w w' := by
  obtain ⟨g, ah, h1, h2, h3, B, h5, h6, h7, _⟩ := h
  have Bc := B.cell
  have Bf := B.free
  have Bz := B.lt
  have h3 : (i : Int) < n := by omega
  clear B h5
  go_enter Tryz.func93, Tryz.ntmps93
  go_wp2
  go_ret
  exact ⟨rfl, Upd.refl _ _⟩

theorem idleHas_c {w : World} {F : Nat → Prop} {b n : Nat} {l : List Nat} (h : IdleR w F b n l) {i : Nat} (hi : i < n) :
    Calls Tryz.prog 94 #[ptrV b, natV i] w fun e w' => e = .returned (.bool (l.contains i)) ∧ Upd0 w w' := by
  have H := Lib.hid h
  clear h
  go_enter Tryz.func94, Tryz.ntmps94
  go_wp2_with fail
  refine (idleIs_c H.out hi).mono ?_
  rintro e w1 ⟨rfl, hu⟩
  obtain ⟨g, ah, h1, h2, h3, B, D, h6, h7, h8, _⟩ := H.out.upd0 hu
  have HU := Lib.hid hu
  have Bc := B.cell
  have Bf := B.free
  have Bz := B.lt
  have D1 : w1.cell? ⟨g, i, none⟩ = some (intV (aheadOf l i)) := by rw [D.cell, List.getElem?_map, h8 i hi]; rfl
  have Dz := D.lt
  have e : (aheadOf l i != -2) = l.contains i := by
    by_cases hm : i ∈ l
    · have : aheadOf l i ≠ -2 := fun h => (aheadOf_iff l i).1 h hm
      simp [hm, this]
    · have := (aheadOf_iff l i).2 hm
      simp [hm, this]
  have HE := Lib.hid e
  clear B D hu h8 e
  go_wp2
  go_ret
  exact ⟨congrArg (fun x => Ending.returned (.bool x)) HE.out, HU.out⟩

theorem aheadOf_put (l : List Nat) (i j : Nat) (hi : i ∉ l) : aheadOf (i :: l) j = if j = i then lastOf l else aheadOf l j := by
  simp only [aheadOf]
  cases l <;> rfl

theorem nodup_le : ∀ (n : Nat) (l : List Nat), l.Nodup → (∀ x, x ∈ l → x < n) → l.length ≤ n
  | 0, l, _, h => by
    cases l with
    | nil => simp
    | cons x l => exact absurd (h x (by simp)) (by omega)
  | n + 1, l, hd, h => by
    by_cases hm : n ∈ l
    · have e := List.length_erase_of_mem hm
      have := nodup_le n (l.erase n) (hd.erase n) (fun x hx => by
        have h1 := (hd.mem_erase_iff).1 hx
        have := h x h1.2
        omega)
      omega
    · have := nodup_le n l hd (fun x hx => by
        have := h x hx
        have : x ≠ n := fun e => hm (e ▸ hx)
        omega)
      omega

theorem idlePut_c {w : World} {F : Nat → Prop} {b n : Nat} {l : List Nat} (h : IdleR w F b n l) {i : Nat} (hi : i < n) (hm : i ∉ l) :
    Calls Tryz.prog 52 #[ptrV b, natV i] w fun e w' => e = .returned (.bool true) ∧ Upd F w w' ∧ IdleR w' F b n (i :: l) := by
  have H := Lib.hid h
  have hlen : l.length < 1024 := by
    obtain ⟨g, ah, h1, h2, h3, B, D, h6, h7, h8, h9, h10⟩ := h
    have : (i :: l).length ≤ n := nodup_le n _ (List.nodup_cons.2 ⟨hm, h9⟩) (fun x hx => by
      rcases List.mem_cons.1 hx with rfl | hx
      · exact hi
      · exact h10 x hx)
    simp at this; omega
  have f1 : IntKind.i64.wrap ((l.length : Int) + 1) = (l.length : Int) + 1 := IntWalk.i64_in _ (by omega)
  have hmb : l.contains i = false := by simpa using hm
  clear h
  go_enter Tryz.func52, Tryz.ntmps52
  go_wp2_with fail
  refine (idleIs_c H.out hi).mono ?_
  rintro e w1 ⟨rfl, hu⟩
  have HU := Lib.hid hu
  clear hu
  go_wp2_with fail
  refine (idleHas_c (H.out.upd0 HU.out) hi).mono ?_
  rintro e w2 ⟨rfl, hu⟩
  rw [hmb]
  have HU2 := Lib.hid (HU.out.trans hu)
  obtain ⟨g, ah, h1, h2, h3, B, D, h6, h7, h8, h9, h10⟩ := H.out.upd0 HU2.out
  have Bc := B.cell
  have Bf := B.free
  have Bz := B.lt
  have D1 : w2.cell? ⟨g, i, none⟩ = some (intV (aheadOf l i)) := by rw [D.cell, List.getElem?_map, h8 i hi]; rfl
  have Df := D.free i
  have Dz := D.lt
  have HB := Lib.hid B
  have HD := Lib.hid D
  have H8 := Lib.hid (And.intro h8 (And.intro h9 h10))
  clear B D hu h8 h9 h10 hmb
  go_wp2
  go_region_law (fail)
  all_goals
    go_wp2
    go_ret
    have hne : g ≠ b := fun e => h3 e.symm
    have hu : Upd F w (((w2.setCell ⟨g, i, none⟩ (intV (lastOf l))).setCell ⟨b, 0, none⟩ (natV i)).setCell ⟨b, 2, none⟩ (.int .i64 ((l.length : Int) + 1))).drew :=
      ((((HU2.out.of0).set (.inl h2) _).set (.inl h1) _).set (.inl h1) _).drew
    refine ⟨rfl, hu, g, ah.set i (lastOf l), h1, h2, h3, ?_, ?_, by simpa using h6, h7, fun j hj => ?_, List.nodup_cons.2 ⟨hm, H8.out.2.1⟩, fun x hx => ?_⟩
    · have := ((HB.out.set_other (a := ⟨g, i, none⟩) hne (intV (lastOf l))).set 0 (natV i)).set 2 (.int .i64 ((l.length : Int) + 1))
      have e : (natV (i :: l).length) = .int .i64 ((l.length : Int) + 1) := by simp
      rw [e]
      exact this.drew
    · have := ((HD.out.set i (intV (lastOf l))).set_other (a := ⟨b, 0, none⟩) h3 (natV i)).set_other (a := ⟨b, 2, none⟩) h3 (.int .i64 ((l.length : Int) + 1))
      rw [List.map_set]
      exact this.drew
    · rw [aheadOf_put l i j hm, List.getElem?_set]
      by_cases e : j = i
      · subst e; rw [if_pos rfl, if_pos (by omega), if_pos rfl]
      · rw [if_neg (fun h => e h.symm), if_neg e]; exact H8.out.1 j hj
    · rcases List.mem_cons.1 hx with rfl | hx
      · exact hi
      · exact H8.out.2.2 x hx

theorem idleNew_c (w : World) (n : Nat) (hn : n ≤ 256) (lit : Value) (hlit : lit = natV n) :
    Calls Tryz.prog 49 #[lit] w fun e w' => ∃ b, e = .returned (ptrV b) ∧ IdleR w' (fun x => w.heap.size ≤ x) b n [] ∧ Upd0 w w' := by
  subst hlit
  have hmk := run_mk_int n (by omega)
  have h1 : (n : Int) ≤ 1024 := by omega
  generalize hz : (List.replicate n (natV 0)) = zs at hmk
  have HZ := Lib.hid hz
  clear hz
  go_enter Tryz.func49, Tryz.ntmps49
  go_wp2_with fail
  go_loopg [20] n (fun k x wr => ∃ j : Nat, j + k = n ∧ x = natV j ∧ Hid (Blk wr (w.heap.size + 1) [intV (-1), .slice (some ⟨w.heap.size, 0, none⟩) n n, natV 0] 163 ∧ Blk wr w.heap.size ((List.replicate j (intV (-2)) ++ List.replicate (n - j) (intV 0))) 3 ∧ Upd0 w wr))
  case atStart =>
    refine ⟨0, by omega, rfl, Lib.hid ⟨?_, ?_, ((Upd.refl _ _).alloc _).alloc _⟩⟩
    · have := Blk.new (w.alloc (.cells zs.toArray 3)) [intV (-1), .slice (some ⟨w.heap.size, 0, none⟩) n n, natV 0] 163
      rw [World.size_alloc] at this
      exact this
    · have := (Blk.new w zs 3).alloc (.cells [intV (-1), .slice (some ⟨w.heap.size, 0, none⟩) n n, natV 0].toArray 163)
      have e : List.replicate 0 (intV (-2)) ++ List.replicate (n - 0) (intV 0) = zs := by rw [← HZ.out]; rfl
      rw [e]
      exact this
  case round =>
    obtain ⟨j, hj, rfl, HJ⟩ := hrel
    have Hj := Lib.hid hj
    have hgk : gk ≤ n := by omega
    clear hj
    have B := HJ.out.1
    have D := HJ.out.2.1
    have Bc := B.cell
    have Bf := B.free
    have Bz := B.lt
    by_cases hlt : j < n
    · have D1 : wr.cell? ⟨w.heap.size, j, none⟩ = some (intV 0) := by
        rw [D.cell, List.getElem?_append_right (by simp), List.length_replicate, Nat.sub_self, List.getElem?_replicate, if_pos (by omega)]
      have Df := D.free j
      have Dz := D.lt
      have HJ2 : Hid (Blk (wr.setCell ⟨w.heap.size, j, none⟩ (intV (-2))) (w.heap.size + 1) [intV (-1), .slice (some ⟨w.heap.size, 0, none⟩) n n, natV 0] 163 ∧ Blk (wr.setCell ⟨w.heap.size, j, none⟩ (intV (-2))) w.heap.size ((List.replicate (j + 1) (intV (-2)) ++ List.replicate (n - (j + 1)) (intV 0))) 3 ∧ Upd0 w (wr.setCell ⟨w.heap.size, j, none⟩ (intV (-2)))) := Lib.hid (by
        refine ⟨B.set_other (by show w.heap.size ≠ w.heap.size + 1; omega) _, ?_, HJ.out.2.2.set (.inr (Nat.le_refl _)) _⟩
        have := D.set j (intV (-2))
        have e : (List.replicate j (intV (-2)) ++ List.replicate (n - j) (intV 0)).set j (intV (-2)) = List.replicate (j + 1) (intV (-2)) ++ List.replicate (n - (j + 1)) (intV 0) := by
          rw [List.set_append_right _ _ (by simp), List.length_replicate, Nat.sub_self, show n - j = (n - (j + 1)) + 1 by omega, List.replicate_succ, List.set_cons_zero, List.replicate_succ', List.append_assoc]
          rfl
        rw [e] at this
        exact this)
      clear B D
      go_wp2
      go_roundg (gk - 1)
      case measure => have := Hj.out; omega
      case rel => exact ⟨j + 1, by have := Hj.out; omega, by go_num, HJ2⟩
    · have hjn : j = n := by have := Hj.out; omega
      subst hjn
      clear B D
      go_wp2
      go_ret
      refine ⟨w.heap.size + 1, rfl, ⟨w.heap.size, List.replicate j (-2), by omega, Nat.le_refl _, by omega, HJ.out.1, ?_, by simp, by omega, fun i hi => ?_, List.nodup_nil, fun i hi => by simp at hi⟩, HJ.out.2.2⟩
      · have := HJ.out.2.1
        rw [Nat.sub_self] at this
        simpa using this
      · rw [List.getElem?_replicate, if_pos hi]; rfl
end Go.Proofs.YtlljmbkfeemgfaaGreatDoor.Wk
