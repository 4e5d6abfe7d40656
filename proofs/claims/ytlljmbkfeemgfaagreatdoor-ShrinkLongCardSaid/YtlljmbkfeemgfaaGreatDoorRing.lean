/- A processor's ring: its walks. -/
import Derived.Test.YtlljmbkfeemgfaaGreatDoorInts
namespace Go.Proofs.YtlljmbkfeemgfaaGreatDoor.Wk
open Go Go.RowKit Esc
set_option maxRecDepth 100000

/-- The four cells of a ring of 256 places whose row lies in block g. -/
abbrev ringC (nx : Nat) (g h t : Nat) : List Value := [.int .i64 nx, .slice (some ⟨g, 0, none⟩) 256 256, .int .u32 h, .int .u32 t]

theorem ringRow_c {w : World} {b nx g h t : Nat} (B : Blk w b (ringC nx g h t) 177) (h1 : h ≤ t) (h2 : t < 1024) :
    Calls Tryz.prog 128 #[.pointer (some ⟨b, 0, none⟩)] w fun e w' => e = .returned (.int .i64 ((t : Int) - h)) ∧ Upd0 w w' := by
  have Bc := B.cell
  have Bf := B.free
  have Bz := B.lt
  have f1 : IntKind.u32.wrap ((t : Int) - h) = (t : Int) - h := u32_in _ (by omega)
  have f2 : IntKind.i64.wrap ((t : Int) - h) = (t : Int) - h := IntWalk.i64_in _ (by omega)
  clear B
  go_enter Tryz.func128, Tryz.ntmps128
  go_wp2
  go_quiet (fail)
  go_wp2
  go_ret
  exact ⟨rfl, (by first | exact Upd.refl _ _ | exact (Upd.refl _ _).drewN _)⟩

theorem ringNext_c {w : World} {b nx g h t : Nat} (B : Blk w b (ringC nx g h t) 177) :
    Calls Tryz.prog 157 #[.pointer (some ⟨b, 0, none⟩)] w fun e w' => e = .returned (.int .i64 nx) ∧ Upd0 w w' := by
  have Bc := B.cell
  have Bf := B.free
  have Bz := B.lt
  clear B
  go_enter Tryz.func157, Tryz.ntmps157
  go_wp2
  go_ret
  exact ⟨rfl, (by first | exact Upd.refl _ _ | exact (Upd.refl _ _).drewN _)⟩

theorem ringAt_c {w : World} {b nx g h t k : Nat} (B : Blk w b (ringC nx g h t) 177) (h2 : h < 1024) (h3 : k < 1024) :
    Calls Tryz.prog 158 #[.pointer (some ⟨b, 0, none⟩), .int .i64 k] w fun e w' => e = .returned (.pointer (some ⟨g, (h + k) % 256, none⟩)) ∧ Upd0 w w' := by
  have Bc := B.cell
  have Bf := B.free
  have Bz := B.lt
  have f1 : IntKind.i64.wrap (h : Int) = (h : Int) := IntWalk.i64_in _ (by omega)
  have f2 : IntKind.i64.wrap ((h : Int) + k) = (h : Int) + k := IntWalk.i64_in _ (by omega)
  clear B
  go_enter Tryz.func158, Tryz.ntmps158
  go_wp2
  go_quiet (fail)
  go_wp2
  go_ret
  exact ⟨rfl, (by first | exact Upd.refl _ _ | exact (Upd.refl _ _).drewN _)⟩

/-- Its state: who is next, and who waits. -/
def RingR (w : World) (F : Nat → Prop) (b : Nat) (r : Ring) : Prop :=
  ∃ (g h : Nat) (buf : List Nat), F b ∧ F g ∧ b ≠ g ∧ Blk w b (ringC r.next g h (h + r.row.length)) 177 ∧ Blk w g (buf.map natV) 3 ∧ buf.length = 256 ∧ h < 256 ∧ r.row.length ≤ 256 ∧ ∀ k n, r.row[k]? = some n → buf[(h + k) % 256]? = some n

theorem RingR.keep {w w' : World} {F G : Nat → Prop} {b : Nat} {r : Ring} (h : RingR w F b r) (hb : ∀ b, F b → b < w.heap.size → w'.heap[b]? = w.heap[b]?) (hG : ∀ b, b < w.heap.size → F b → G b) : RingR w' G b r := by
  obtain ⟨g, hd, buf, h1, h2, h3, h4, h5, h6⟩ := h
  exact ⟨g, hd, buf, hG _ h4.lt h1, hG _ h5.lt h2, h3, h4.of_heap (hb _ h1 h4.lt), h5.of_heap (hb _ h2 h5.lt), h6⟩
theorem RingR.upd {H : Nat → Prop} {w w' : World} {F : Nat → Prop} {b : Nat} {r : Ring} (h : RingR w F b r) (u : Upd H w w') (hd : ∀ b, b < w.heap.size → F b → ¬ H b) : RingR w' F b r :=
  h.keep (fun b hF hb => u.block b hb (hd b hb hF)) (fun _ _ x => x)
theorem RingR.upd0 {w w' : World} {F : Nat → Prop} {b : Nat} {r : Ring} (h : RingR w F b r) (u : Upd0 w w') : RingR w' F b r := h.upd u (fun _ _ _ x => x)

theorem ringPush_c {w : World} {F : Nat → Prop} {b : Nat} {r : Ring} (hr : RingR w F b r) (hroom : r.row.length < 256) (n : Nat) :
    Calls Tryz.prog 130 #[.pointer (some ⟨b, 0, none⟩), natV n] w fun e w' => e = .returned (.tuple #[]) ∧ RingR w' F b (r.behind n) ∧ Upd F w w' := by
  obtain ⟨g, h, buf, hF1, hF2, hne, B, D, hl, hh, _, hrow⟩ := hr
  obtain ⟨t, ht⟩ : ∃ t, t = h + r.row.length := ⟨_, rfl⟩
  obtain ⟨j, hj⟩ : ∃ j, j = t % 256 := ⟨_, rfl⟩
  rw [← ht] at B
  have e2 : ((t : Int) - h) = ((r.row.length : Nat) : Int) := by omega
  have HR := Lib.hid hrow
  have HB := Lib.hid B
  have HD := Lib.hid D
  have H1 := Lib.hid (show h ≤ t ∧ t < 1024 ∧ h < 1024 ∧ (h + r.row.length) % 256 = j ∧ j < buf.length ∧ h < 256 by omega)
  have HT := Lib.hid ht
  have f1 : IntKind.u32.wrap ((t : Int) + 1) = (t : Int) + 1 := u32_in _ (by omega)
  clear hrow B D ht hj hh
  go_enter Tryz.func130, Tryz.ntmps130
  go_wp2_with fail
  refine (ringRow_c HB.out H1.out.1 H1.out.2.1).mono ?_
  rintro e w1 ⟨rfl, hu⟩
  rw [e2]
  have HB1 := Lib.hid (hu.blk HB.out (fun x => x))
  have HD1 := Lib.hid (hu.blk HD.out (fun x => x))
  have HU := Lib.hid hu
  clear hu HB HD e2
  go_wp2_with fail
  refine (ringAt_c HB1.out H1.out.2.2.1 (by omega)).mono ?_
  rintro e w2 ⟨rfl, hu⟩
  rw [H1.out.2.2.2.1]
  have B := hu.blk HB1.out (fun x => x)
  have D := hu.blk HD1.out (fun x => x)
  have HU2 := Lib.hid (HU.out.trans hu)
  have Bc := B.cell
  have Bf := B.free
  have Bz := B.lt
  have Dz := D.lt
  obtain ⟨v, hv⟩ : ∃ v, (buf.map natV)[j]? = some v := ⟨_, List.getElem?_eq_getElem (by rw [List.length_map]; exact H1.out.2.2.2.2.1)⟩
  have Dv := (D.cell j).trans hv
  have Df := D.free j
  have HB2 := Lib.hid B
  have HD2 := Lib.hid D
  clear hu B D HB1 HD1 hv HU
  go_wp2
  go_end0
  refine ⟨rfl, ⟨g, h, buf.set j n, hF1, hF2, hne, ?_, ?_, ?_⟩, ?_⟩
  · have := (HB2.out.set_other (a := ⟨g, j, none⟩) (fun e => hne e.symm) (natV n)).set 3 (.int .u32 ((t : Int) + 1))
    have e : h + (r.behind n).row.length = t + 1 := by have := HT.out; simp [Ring.behind]; omega
    rw [e]
    exact this
  · have := (HD2.out.set j (natV n)).set_other (a := ⟨b, 3, none⟩) hne (.int .u32 ((t : Int) + 1))
    rw [List.map_set]
    exact this
  · refine ⟨by simpa using hl, by have := H1.out; have := HT.out; omega, by simp [Ring.behind]; omega, ?_⟩
    have h1 := H1.out
    have ht := HT.out
    intro k m hk
    simp only [Ring.behind, List.getElem?_append] at hk
    split at hk
    · rename_i hlt
      rw [List.getElem?_set_ne (by have : (h + r.row.length) % 256 ≠ (h + k) % 256 := (by omega); omega)]
      exact HR.out k m hk
    · have hk0 : k = r.row.length := by
        rcases Nat.lt_or_ge (k - r.row.length) 1 with q | q
        · omega
        · rw [List.getElem?_eq_none (by simpa using q)] at hk; cases hk
      subst hk0
      simp at hk
      subst hk
      rw [h1.2.2.2.1, List.getElem?_set_self h1.2.2.2.2.1]
  · exact ((HU2.out.of0).set (.inl hF2) _).set (.inl hF1) _

theorem ringRow_r {w : World} {F : Nat → Prop} {b : Nat} {r : Ring} (hr : RingR w F b r) :
    Calls Tryz.prog 128 #[.pointer (some ⟨b, 0, none⟩)] w fun e w' => e = .returned (natV r.row.length) ∧ Upd0 w w' := by
  obtain ⟨g, h, buf, hF1, hF2, hne, B, D, hl, hh, hlen, hrow⟩ := hr
  refine (ringRow_c B (by omega) (by omega)).mono fun e w' he => ?_
  rw [show (((h + r.row.length : Nat) : Int) - h) = ((r.row.length : Nat) : Int) by omega] at he
  exact he
theorem ringNext_r {w : World} {F : Nat → Prop} {b : Nat} {r : Ring} (hr : RingR w F b r) :
    Calls Tryz.prog 157 #[.pointer (some ⟨b, 0, none⟩)] w fun e w' => e = .returned (natV r.next) ∧ Upd0 w w' := by
  obtain ⟨g, h, buf, hF1, hF2, hne, B, _⟩ := hr
  exact ringNext_c B

theorem ringLen_c {w : World} {F : Nat → Prop} {b : Nat} {r : Ring} (hr : RingR w F b r) :
    Calls Tryz.prog 244 #[.pointer (some ⟨b, 0, none⟩)] w fun e w' => e = .returned (natV r.len) ∧ Upd0 w w' := by
  have hlen : r.row.length ≤ 256 := by obtain ⟨g, h, buf, hF1, hF2, hne, B, D, hl, hh, hlen, hrow⟩ := hr; exact hlen
  have HR := Lib.hid hr
  have f1 : IntKind.i64.wrap ((r.row.length : Int) + 1) = (r.row.length : Int) + 1 := IntWalk.i64_in _ (by omega)
  clear hr
  by_cases h0 : 0 < r.next
  · have e : r.len = r.row.length + 1 := by simp [Ring.len, h0]
    rw [e]
    clear e
    go_enter Tryz.func244, Tryz.ntmps244
    go_wp2_with fail
    refine (ringNext_r HR.out).mono ?_
    rintro e w1 ⟨rfl, hu⟩
    have HU := Lib.hid hu
    clear hu
    go_wp2_with fail
    refine (ringRow_r (HR.out.upd0 HU.out)).mono ?_
    rintro e w2 ⟨rfl, hu⟩
    have HU2 := Lib.hid (HU.out.trans hu)
    clear hu
    go_wp2
    go_ret
    exact ⟨rfl, HU2.out⟩
  · have e : r.len = r.row.length := by simp [Ring.len, h0]
    rw [e]
    clear e
    go_enter Tryz.func244, Tryz.ntmps244
    go_wp2_with fail
    refine (ringNext_r HR.out).mono ?_
    rintro e w1 ⟨rfl, hu⟩
    have HU := Lib.hid hu
    clear hu
    go_wp2_with fail
    refine (ringRow_r (HR.out.upd0 HU.out)).mono ?_
    rintro e w2 ⟨rfl, hu⟩
    have HU2 := Lib.hid (HU.out.trans hu)
    clear hu
    go_wp2
    go_ret
    exact ⟨rfl, HU2.out⟩

theorem ringBehind_c {w : World} {F : Nat → Prop} {b : Nat} {r : Ring} (hr : RingR w F b r) (hroom : r.row.length < 256) (n : Nat) :
    Calls Tryz.prog 97 #[.pointer (some ⟨b, 0, none⟩), natV n] w fun e w' => e = .returned (.slice none 0 0) ∧ RingR w' F b (r.behind n) ∧ Upd F w w' := by
  obtain ⟨g, h, buf, _, _, _, B, _⟩ := id hr
  have Bc := B.cell
  have Bf := B.free
  have Bz := B.lt
  have HB := Lib.hid B
  have HR := Lib.hid hr
  have hq : ((r.row.length : Int) == 256) = false := by rw [beq_eq_false_iff_ne]; omega
  clear hr B
  go_enter Tryz.func97, Tryz.ntmps97
  go_wp2_with fail
  go_region_law (go_simp; go_at_call 128; refine (ringRow_r (HR.out.upd0 (by exact (Upd.refl _ _).drew))).mono ?_; rintro e w1 ⟨rfl, hu⟩; have HU := Lib.hid ((Upd.refl (fun _ => False) w).drew.trans hu); have B1 := HU.out.blk HB.out (fun x => x); have Bc1 := B1.cell; have Bf1 := B1.free; have Bz1 := B1.lt; clear hu B1)
  all_goals
    go_wp2_with fail
    refine (ringPush_c (HR.out.upd0 HU.out) hroom n).mono ?_
    rintro e w2 ⟨rfl, hr2, hu2⟩
    have HR2 := Lib.hid hr2
    have HU2 := Lib.hid ((HU.out.of0).trans hu2)
    clear hr2 hu2
    go_wp2
    go_ret
    exact ⟨rfl, HR2.out, HU2.out⟩

/-- A goroutine is put: there is room. -/
theorem ringPut_c {w : World} {F : Nat → Prop} {b : Nat} {r : Ring} (hr : RingR w F b r) (hroom : r.row.length < 256) (n : Nat) (hn : 0 < n) (first : Bool) :
    Calls Tryz.prog 55 #[.pointer (some ⟨b, 0, none⟩), natV n, .bool first] w fun e w' => e = .returned (.slice none 0 0) ∧ RingR w' F b (r.put n first) ∧ Upd F w w' := by
  cases first with
  | false =>
    have e : r.put n false = r.behind n := by simp [Ring.put]; omega
    rw [e]
    have HR := Lib.hid hr
    clear hr e
    go_enter Tryz.func55, Tryz.ntmps55
    go_wp2_with fail
    refine (ringBehind_c HR.out hroom n).mono ?_
    rintro e w1 ⟨rfl, hr1, hu1⟩
    have HR1 := Lib.hid hr1
    have HU1 := Lib.hid hu1
    clear hr1 hu1
    go_wp2
    go_ret
    exact ⟨rfl, HR1.out, HU1.out⟩
  | true =>
    obtain ⟨g, h, buf, hF1, hF2, hne, B, D, hl, hh, hlen, hrow⟩ := hr
    have Bc := B.cell
    have Bf := B.free
    have Bz := B.lt
    have hr1 : RingR (w.setCell ⟨b, 0, none⟩ (natV n)) F b { r with next := n } := ⟨g, h, buf, hF1, hF2, hne, B.set 0 (natV n), D.set_other hne _, hl, hh, hlen, hrow⟩
    have hu1 : Upd F w (w.setCell ⟨b, 0, none⟩ (natV n)) := (Upd.refl F w).set (.inl hF1) _
    have HR1 := Lib.hid hr1
    have HU1 := Lib.hid hu1
    clear B D hrow hl hr1 hu1
    by_cases h0 : r.next = 0
    · have e : r.put n true = { r with next := n } := by simp [Ring.put, h0]; omega
      rw [e]
      clear e
      have h0' : ((r.next : Int) == 0) = true := by simp [h0]
      go_enter Tryz.func55, Tryz.ntmps55
      go_wp2
      go_ret
      exact ⟨rfl, HR1.out, HU1.out⟩
    · have e : r.put n true = ({ r with next := n } : Ring).behind r.next := by simp [Ring.put, h0, Ring.behind]; omega
      rw [e]
      clear e
      have h0' : ((r.next : Int) == 0) = false := by simp [h0]
      go_enter Tryz.func55, Tryz.ntmps55
      go_wp2_with fail
      refine (ringBehind_c (r := { r with next := n }) HR1.out hroom r.next).mono ?_
      rintro e w1 ⟨rfl, hr2, hu2⟩
      have HR2 := Lib.hid hr2
      have HU2 := Lib.hid (HU1.out.trans hu2)
      clear hr2 hu2
      go_wp2
      go_ret
      exact ⟨rfl, HR2.out, HU2.out⟩
end Go.Proofs.YtlljmbkfeemgfaaGreatDoor.Wk
