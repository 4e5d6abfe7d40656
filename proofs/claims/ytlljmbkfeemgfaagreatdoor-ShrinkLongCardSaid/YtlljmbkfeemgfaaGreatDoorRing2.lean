/- A processor's ring: what is taken of it, what it lists, a new one. -/
import Derived.Test.YtlljmbkfeemgfaaGreatDoorRing
namespace Go.Proofs.YtlljmbkfeemgfaaGreatDoor.Wk
open Go Go.RowKit Esc
set_option maxRecDepth 100000

theorem RingR.len_le {w : World} {F : Nat → Prop} {b : Nat} {r : Ring} (h : RingR w F b r) : r.row.length ≤ 256 := by
  obtain ⟨g, h, buf, hF1, hF2, hne, B, D, hl, hh, hlen, hrow⟩ := h; exact hlen

/-- The k-th of those that wait: where it lies. -/
theorem RingR.at_ {w : World} {F : Nat → Prop} {b : Nat} {r : Ring} (hr : RingR w F b r) {k x : Nat} (hk : r.row[k]? = some x) :
    Calls Tryz.prog 158 #[.pointer (some ⟨b, 0, none⟩), natV k] w fun e w' => ∃ g j, e = .returned (.pointer (some ⟨g, j, none⟩)) ∧ Upd0 w w' ∧ w'.cell? ⟨g, j, none⟩ = some (natV x) ∧ g < w'.heap.size := by
  obtain ⟨g, h, buf, hF1, hF2, hne, B, D, hl, hh, hlen, hrow⟩ := hr
  have hkl : k < r.row.length := (List.getElem?_eq_some_iff.1 hk).1
  refine (ringAt_c B (by omega) (by omega)).mono fun e w' he => ⟨g, (h + k) % 256, he.1, he.2, ?_, ?_⟩
  · have D' := he.2.blk D (fun x => x)
    rw [D'.cell, List.getElem?_map, hrow k x hk]; rfl
  · exact (he.2.blk D (fun x => x)).lt

theorem ringRound_c {w : World} {b nx g h t : Nat} (B : Blk w b (ringC nx g h t) 177) (h1 : h ≤ t) (h2 : t < 1024) (h3 : h < 512) :
    Calls Tryz.prog 172 #[.pointer (some ⟨b, 0, none⟩)] w fun e w' => e = .returned (.tuple #[]) ∧ Blk w' b (ringC nx g (h % 256) (t - (h - h % 256))) 177 ∧ Upd (· = b) w w' := by
  have Bc := B.cell
  have Bf := B.free
  have Bz := B.lt
  have HB := Lib.hid B
  have f0 : IntKind.u32.wrap (256 : Int) = 256 := u32_in _ (by omega)
  clear B
  by_cases hh : 256 ≤ h
  · have f1 : IntKind.u32.wrap ((h : Int) - 256) = (h : Int) - 256 := u32_in _ (by omega)
    have f2 : IntKind.u32.wrap ((t : Int) - 256) = (t : Int) - 256 := u32_in _ (by omega)
    go_enter Tryz.func172, Tryz.ntmps172
    go_wp2
    go_region_law (fail)
    all_goals
      go_wp2
      go_end0
      refine ⟨rfl, ?_, (((Upd.refl _ _).setb _ _).setb _ _).drew⟩
      have := ((HB.out.set 2 (.int .u32 ((h : Int) - 256))).set 3 (.int .u32 ((t : Int) - 256))).drew
      have e1 : h % 256 = h - 256 := by omega
      have e2 : ((h - 256 : Nat) : Int) = (h : Int) - 256 := by omega
      have e3 : ((t - 256 : Nat) : Int) = (t : Int) - 256 := by omega
      rw [e1, show t - (h - (h - 256)) = t - 256 by omega]
      unfold ringC
      rw [e2, e3]
      exact this
  · go_enter Tryz.func172, Tryz.ntmps172
    go_wp2
    go_end0
    refine ⟨rfl, ?_, Upd.refl _ _⟩
    have e1 : h % 256 = h := Nat.mod_eq_of_lt (by omega)
    rw [e1, Nat.sub_self, Nat.sub_zero]
    exact HB.out

theorem ringTake_c {w : World} {F : Nat → Prop} {b : Nat} {r : Ring} (hr : RingR w F b r) {n : Nat} (hn : n ≤ r.row.length) :
    Calls Tryz.prog 129 #[.pointer (some ⟨b, 0, none⟩), natV n] w fun e w' => ∃ v, e = .returned v ∧ IntO w' (fun b => w.heap.size ≤ b) v (r.row.take n) ∧ RingR w' F b { r with row := r.row.drop n } ∧ Upd F w w' := by
  have hlen := hr.len_le
  obtain ⟨i0, hi, hz0, hz1, hz2⟩ := info_parts infoInt
  have HI := Lib.hid hi
  have HZ := Lib.hid hz0
  have HR := Lib.hid hr
  clear hr hi hz0
  go_enter Tryz.func129, Tryz.ntmps129
  go_wp2_with fail
  go_loopg [4, 7] n (fun k v x wr => ∃ j : Nat, j + k = n ∧ x = natV j ∧ Hid (IntO wr (fun b => w.heap.size ≤ b) v (r.row.take j) ∧ Upd0 w wr))
  case atStart => exact ⟨0, by omega, rfl, Lib.hid ⟨Row.nil _ _ _ _, Upd.refl _ _⟩⟩
  case round =>
    obtain ⟨j, hj, rfl, HJ⟩ := hrel
    have Hj := Lib.hid hj
    have hgk : gk ≤ n := by omega
    clear hj
    by_cases hlt : j < n
    · obtain ⟨x, hx⟩ : ∃ x, r.row[j]? = some x := ⟨_, List.getElem?_eq_getElem (by omega)⟩
      have HX := Lib.hid hx
      have hl : (r.row.take j).length < 16777216 := by rw [List.length_take]; omega
      have HT := Lib.hid (take_snoc hx)
      clear hx
      generalize r.row.take j = q at *
      go_wp2_with fail
      refine ((HR.out.upd0 HJ.out.2).at_ HX.out).mono ?_
      rintro e w1 ⟨g, jj, rfl, hu, hc, hz⟩
      have HU := Lib.hid hu
      have hrow : IntO w1 (fun b => w.heap.size ≤ b) u4 q := HJ.out.1.upd hu (fun _ _ x => x)
      have HROW := Lib.hid hrow
      clear hu hrow
      go_wp2_with (at_builtin; refine wpList_app1 rfl rfl Tryz.underlying41 HI.out HZ.out hz1 hz2 rfl (by decide) rfl rfl HROW.out rfl (natV_one [x]) hl (by decide) ?_)
      rintro v' w' hrow hu
      have HJ2 : Hid (IntO w' (fun b => w.heap.size ≤ b) v' (r.row.take (j + 1)) ∧ Upd0 w w') := Lib.hid ⟨by
        rw [HT.out]
        refine IntO.snoc (Row.mono hrow (fun b _ hb => hb.elim id fun y => ?_))
        have := HJ.out.2.size
        have := HU.out.size
        omega, (HJ.out.2.trans HU.out).trans' (hu.mono fun b _ hb => .inr hb)⟩
      clear hrow hu
      go_wp2
      go_roundg (gk - 1)
      case measure => have := Hj.out; omega
      case rel => exact ⟨j + 1, by have := Hj.out; omega, by go_num, HJ2⟩
    · have hjn : j = n := by have := Hj.out; omega
      subst hjn
      have HROW := Lib.hid HJ.out.1
      have HU := Lib.hid HJ.out.2
      obtain ⟨g, h, buf, hF1, hF2, hne, B, D, hl, hh, _, hrow⟩ := HR.out.upd0 HJ.out.2
      have hFb : b < w.heap.size := by
        obtain ⟨g, h, buf, hF1, hF2, hne, B, _⟩ := HR.out; exact B.lt
      have Bc := B.cell
      have Bf := B.free
      have Bz := B.lt
      have f1 : IntKind.u32.wrap (j : Int) = (j : Int) := u32_in _ (by omega)
      have f2 : IntKind.u32.wrap ((h : Int) + j) = ((h + j : Nat) : Int) := by rw [u32_in _ (by omega)]; omega
      have HB := Lib.hid B
      have HD := Lib.hid D
      have HROW2 := Lib.hid hrow
      clear B D hrow HJ
      go_wp2_with fail
      refine (ringRound_c (nx := r.next) (g := g) (h := h + j) (t := h + r.row.length) (HB.out.set 2 (.int .u32 ((h + j : Nat) : Int))) (by omega) (by omega) (by omega)).mono ?_
      rintro e w1 ⟨rfl, hb1, hu1⟩
      have hr1 : RingR w1 F b { r with row := r.row.drop j } := by
        refine ⟨g, (h + j) % 256, buf, hF1, hF2, hne, ?_, ?_, hl, Nat.mod_lt _ (by decide), by simp; omega, ?_⟩
        · have : (h + j) % 256 + (r.row.drop j).length = h + r.row.length - (h + j - (h + j) % 256) := by rw [List.length_drop]; omega
          show Blk w1 b (ringC r.next g ((h + j) % 256) ((h + j) % 256 + (r.row.drop j).length)) _
          rw [this]
          exact hb1
        · exact hu1.blk (HD.out.set_other hne _) (fun e => hne e.symm)
        · intro k m hk
          rw [List.getElem?_drop] at hk
          have := HROW2.out (j + k) m hk
          rw [show ((h + j) % 256 + k) % 256 = (h + (j + k)) % 256 by omega]
          exact this
      have hrow1 : IntO w1 (fun b => w.heap.size ≤ b) u4 (r.row.take j) :=
        (Row.upd (H := (· = b)) HROW.out ((Upd.refl _ _).setb _ _) (fun c h1 h2 => by subst h2; omega)).upd hu1 (fun c h1 h2 => by subst h2; omega)
      have hu2 : Upd F w w1 := ((HU.out.of0).set (.inl hF1) _).trans (hu1.mono (fun c _ h => h ▸ hF1))
      have H1 := Lib.hid hr1
      have H2 := Lib.hid hrow1
      have H3 := Lib.hid hu2
      clear hr1 hrow1 hu2 hb1 hu1
      go_wp2
      go_ret
      exact ⟨_, rfl, H2.out, H1.out, H3.out⟩
end Go.Proofs.YtlljmbkfeemgfaaGreatDoor.Wk
