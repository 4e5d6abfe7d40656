/- The queue of all, the world's semaphore, the box of signals: new ones, and what they hold. -/
import Derived.Test.YtlljmbkfeemgfaaGreatDoorIdle
namespace Go.Proofs.YtlljmbkfeemgfaaGreatDoor.Wk
open Go Go.RowKit Esc
set_option maxRecDepth 100000

/-- The queue of all. -/
def GlobR (w : World) (F : Nat → Prop) (b : Nat) (q : List Nat) : Prop :=
  ∃ (v1 v2 : Value) (fr bk : List Nat) (o : Nat → Nat), F b ∧ o b = 0 ∧ Blk w b [v1, v2] 161 ∧ IntO w (fun x => F x ∧ o x = 1) v1 fr ∧ IntO w (fun x => F x ∧ o x = 2) v2 bk ∧ q = fr.reverse ++ bk
theorem GlobR.keep {w w' : World} {F G : Nat → Prop} {b : Nat} {q : List Nat} (h : GlobR w F b q) (hb : ∀ b, F b → b < w.heap.size → w'.heap[b]? = w.heap[b]?) (hG : ∀ b, b < w.heap.size → F b → G b) : GlobR w' G b q := by
  obtain ⟨v1, v2, fr, bk, o, h1, h2, h3, h4, h5, h6⟩ := h
  exact ⟨v1, v2, fr, bk, o, hG _ h3.lt h1, h2, h3.of_heap (hb _ h1 h3.lt), h4.keep (fun b q hl => hb b q.1 hl) (fun b hl q => ⟨hG b hl q.1, q.2⟩), h5.keep (fun b q hl => hb b q.1 hl) (fun b hl q => ⟨hG b hl q.1, q.2⟩), h6⟩
theorem GlobR.upd {H : Nat → Prop} {w w' : World} {F : Nat → Prop} {b : Nat} {q : List Nat} (h : GlobR w F b q) (u : Upd H w w') (hd : ∀ b, b < w.heap.size → F b → ¬ H b) : GlobR w' F b q :=
  h.keep (fun b hF hb => u.block b hb (hd b hb hF)) (fun _ _ x => x)
theorem GlobR.upd0 {w w' : World} {F : Nat → Prop} {b : Nat} {q : List Nat} (h : GlobR w F b q) (u : Upd0 w w') : GlobR w' F b q := h.upd u (fun _ _ _ x => x)

theorem globNew_c (w : World) : Calls Tryz.prog 48 #[] w fun e w' => ∃ b, e = .returned (ptrV b) ∧ GlobR w' (fun x => w.heap.size ≤ x) b [] ∧ Upd0 w w' := by
  go_enter Tryz.func48, Tryz.ntmps48
  go_wp2
  go_ret
  exact ⟨w.heap.size, rfl, ⟨.slice none 0 0, .slice none 0 0, [], [], fun _ => 0, Nat.le_refl _, rfl, Blk.new _ _ _, Row.nil _ _ _ _, Row.nil _ _ _ _, rfl⟩, (Upd.refl _ _).alloc _⟩

/-- Who has the world, and who waits for it. -/
def SemaR (w : World) (F : Nat → Prop) (b owner : Nat) (l : List Nat) : Prop :=
  ∃ v : Value, F b ∧ Blk w b [natV owner, v] 165 ∧ IntO w (fun x => F x ∧ x ≠ b) v l
theorem SemaR.keep {w w' : World} {F G : Nat → Prop} {b ow : Nat} {q : List Nat} (h : SemaR w F b ow q) (hb : ∀ b, F b → b < w.heap.size → w'.heap[b]? = w.heap[b]?) (hG : ∀ b, b < w.heap.size → F b → G b) : SemaR w' G b ow q := by
  obtain ⟨v, h1, h2, h3⟩ := h
  exact ⟨v, hG _ h2.lt h1, h2.of_heap (hb _ h1 h2.lt), h3.keep (fun b q hl => hb b q.1 hl) (fun b hl q => ⟨hG b hl q.1, q.2⟩)⟩
theorem SemaR.upd {H : Nat → Prop} {w w' : World} {F : Nat → Prop} {b ow : Nat} {q : List Nat} (h : SemaR w F b ow q) (u : Upd H w w') (hd : ∀ b, b < w.heap.size → F b → ¬ H b) : SemaR w' F b ow q :=
  h.keep (fun b hF hb => u.block b hb (hd b hb hF)) (fun _ _ x => x)
theorem SemaR.upd0 {w w' : World} {F : Nat → Prop} {b ow : Nat} {q : List Nat} (h : SemaR w F b ow q) (u : Upd0 w w') : SemaR w' F b ow q := h.upd u (fun _ _ _ x => x)

theorem semaNew_c (w : World) : Calls Tryz.prog 50 #[] w fun e w' => ∃ b, e = .returned (ptrV b) ∧ SemaR w' (fun x => w.heap.size ≤ x) b 0 [] ∧ Upd0 w w' := by
  go_enter Tryz.func50, Tryz.ntmps50
  go_wp2
  go_ret
  exact ⟨w.heap.size, rfl, ⟨.slice none 0 0, Nat.le_refl _, Blk.new _ _ _, Row.nil _ _ _ _⟩, (Upd.refl _ _).alloc _⟩

/-- A signal's cells: for whom, when. -/
def sigC (s : Nat × Int) : List Value := [natV s.1, intV s.2]
/-- Where an M's signal stands in the heap's list: -1 nowhere. -/
def sigAt (l : List (Nat × Int)) (m : Nat) : Int := match l.findIdx? (fun s => s.1 == m) with | none => -1 | some i => i
/-- The box: of each M, when its signal is due. -/
def BoxR (w : World) (F : Nat → Prop) (b : Nat) (box : List (Option Int)) : Prop :=
  ∃ (v : Value) (l : List (Nat × Int)), F b ∧ Blk w b (v :: (List.range 64).map fun m => intV (sigAt l m)) 171 ∧ Row w (fun x => F x ∧ x ≠ b) 180 2 v l.length (l.flatMap sigC) ∧
    (l.map Prod.fst).Nodup ∧ (∀ s, s ∈ l → s.1 < 64) ∧ box.length = 64 ∧ (∀ m, m < 64 → box[m]? = some ((l.find? fun s => s.1 == m).map Prod.snd))
theorem BoxR.keep {w w' : World} {F G : Nat → Prop} {b : Nat} {q : List (Option Int)} (h : BoxR w F b q) (hb : ∀ b, F b → b < w.heap.size → w'.heap[b]? = w.heap[b]?) (hG : ∀ b, b < w.heap.size → F b → G b) : BoxR w' G b q := by
  obtain ⟨v, l, h1, h2, h3, h4⟩ := h
  exact ⟨v, l, hG _ h2.lt h1, h2.of_heap (hb _ h1 h2.lt), h3.keep (fun b q hl => hb b q.1 hl) (fun b hl q => ⟨hG b hl q.1, q.2⟩), h4⟩
theorem BoxR.upd {H : Nat → Prop} {w w' : World} {F : Nat → Prop} {b : Nat} {q : List (Option Int)} (h : BoxR w F b q) (u : Upd H w w') (hd : ∀ b, b < w.heap.size → F b → ¬ H b) : BoxR w' F b q :=
  h.keep (fun b hF hb => u.block b hb (hd b hb hF)) (fun _ _ x => x)
theorem BoxR.upd0 {w w' : World} {F : Nat → Prop} {b : Nat} {q : List (Option Int)} (h : BoxR w F b q) (u : Upd0 w w') : BoxR w' F b q := h.upd u (fun _ _ _ x => x)

theorem sigNew_c (w : World) : Calls Tryz.prog 51 #[] w fun e w' => ∃ b, e = .returned (ptrV b) ∧ BoxR w' (fun x => w.heap.size ≤ x) b (List.replicate 64 none) ∧ Upd0 w w' := by
  go_enter Tryz.func51, Tryz.ntmps51
  go_wp2_with fail
  go_loopg [5] 64 (fun k x wr => ∃ j : Nat, j + k = 64 ∧ x = natV j ∧ Hid (Blk wr w.heap.size (.slice none 0 0 :: (List.replicate j (intV (-1)) ++ List.replicate (64 - j) (intV 0))) 171 ∧ Upd0 w wr))
  case atStart =>
    refine ⟨0, by omega, rfl, Lib.hid ⟨?_, (Upd.refl _ _).alloc _⟩⟩
    exact Blk.new w (.slice none 0 0 :: (List.replicate 0 (intV (-1)) ++ List.replicate (64 - 0) (intV 0))) 171
  case round =>
    obtain ⟨j, hj, rfl, HJ⟩ := hrel
    have Hj := Lib.hid hj
    have hgk : gk ≤ 64 := by omega
    clear hj
    have D := HJ.out.1
    by_cases hlt : j < 64
    · have D1 : wr.cell? ⟨w.heap.size, 1 + j, none⟩ = some (intV 0) := by
        rw [D.cell, Nat.add_comm 1 j, List.getElem?_cons_succ, List.getElem?_append_right (by simp), List.length_replicate, Nat.sub_self, List.getElem?_replicate, if_pos (by omega)]
      have Df := D.free (1 + j)
      have Dz := D.lt
      have hlt2 : (j : Int) < 64 := by omega
      have HJ2 : Hid (Blk (wr.setCell ⟨w.heap.size, 1 + j, none⟩ (intV (-1))) w.heap.size (.slice none 0 0 :: (List.replicate (j + 1) (intV (-1)) ++ List.replicate (64 - (j + 1)) (intV 0))) 171 ∧ Upd0 w (wr.setCell ⟨w.heap.size, 1 + j, none⟩ (intV (-1)))) := Lib.hid (by
        refine ⟨?_, HJ.out.2.set (.inr (Nat.le_refl _)) _⟩
        have := D.set (1 + j) (intV (-1))
        have e : (List.replicate j (intV (-1)) ++ List.replicate (64 - j) (intV 0)).set j (intV (-1)) = List.replicate (j + 1) (intV (-1)) ++ List.replicate (64 - (j + 1)) (intV 0) := by
          rw [List.set_append_right _ _ (by simp), List.length_replicate, Nat.sub_self, show 64 - j = (64 - (j + 1)) + 1 by omega, List.replicate_succ, List.set_cons_zero, List.replicate_succ', List.append_assoc]
          rfl
        have e2 : (Value.slice none 0 0 :: (List.replicate j (intV (-1)) ++ List.replicate (64 - j) (intV 0))).set (1 + j) (intV (-1)) = Value.slice none 0 0 :: (List.replicate j (intV (-1)) ++ List.replicate (64 - j) (intV 0)).set j (intV (-1)) := by rw [Nat.add_comm 1 j]; rfl
        rw [e2, e] at this
        exact this)
      clear D
      go_wp2
      go_roundg (gk - 1)
      case measure => have := Hj.out; omega
      case rel => exact ⟨j + 1, by have := Hj.out; omega, by go_num, HJ2⟩
    · have hjn : j = 64 := by have := Hj.out; omega
      subst hjn
      clear D
      go_wp2
      go_ret
      refine ⟨w.heap.size, rfl, ⟨.slice none 0 0, [], Nat.le_refl _, ?_, Row.nil _ _ _ _, by simp, by simp, by simp, fun m hm => ?_⟩, HJ.out.2⟩
      · exact HJ.out.1
      · rw [List.getElem?_replicate, if_pos hm]; rfl
end Go.Proofs.YtlljmbkfeemgfaaGreatDoor.Wk
