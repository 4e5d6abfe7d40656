/- The processors' rings: procs.Procs. -/
import Derived.Test.YtlljmbkfeemgfaaGreatDoorRing2
import Derived.Deep.RegionWith
import Derived.Deep.AppendLies
namespace Go.Proofs.YtlljmbkfeemgfaaGreatDoor.Wk
open Go Go.RowKit Esc
set_option maxRecDepth 100000

/-- A new ring. -/
theorem ringNew_c (w : World) :
    Calls Tryz.prog 126 #[.int .i64 256] w fun e w' => ∃ b, e = .returned (.pointer (some ⟨b, 0, none⟩)) ∧ RingR w' (fun x => w.heap.size ≤ x) b Ring.empty ∧ Upd0 w w' := by
  have hmk : ∀ w : World, (Instr.makeSlice 41 (.int .i64 256) (.int .i64 256)).run Tryz.prog w = .ok (.slice (some ⟨w.heap.size, 0, none⟩) 256 256) (w.alloc (.cells (List.replicate 256 (natV 0)).toArray 3)) := fun w => run_mk_int 256 (by decide) w
  generalize hz : (List.replicate 256 (natV 0)) = zs at hmk
  go_enter Tryz.func126, Tryz.ntmps126
  go_wp2
  go_ret
  have e : zs = (List.replicate 256 0).map natV := by rw [← hz, List.map_replicate]
  have B1 : Blk (w.alloc (.cells zs.toArray 3)) w.heap.size zs 3 := Blk.new _ _ _
  refine ⟨w.heap.size + 1, rfl, ⟨w.heap.size, 0, List.replicate 256 0, by omega, Nat.le_refl _, by omega, ?_, ?_, by simp, by omega, by simp [Ring.empty], fun k n h => by simp [Ring.empty] at h⟩, ((Upd.refl _ _).alloc _).alloc _⟩
  · have := Blk.new (w.alloc (.cells zs.toArray 3)) (ringC 0 w.heap.size 0 0) 177
    rw [World.size_alloc] at this
    exact this
  · rw [← e]
    exact B1.alloc _

abbrev ptrV (b : Nat) : Value := .pointer (some ⟨b, 0, none⟩)
/-- The rings. -/
def ProcsR (w : World) (F : Nat → Prop) (b : Nat) (rb : List Nat) (rs : List Ring) : Prop :=
  ∃ (v : Value) (o : Nat → Nat), F b ∧ o b = 0 ∧ Blk w b [v] 153 ∧ rb.length = rs.length ∧ Row w (fun x => F x ∧ o x = 1) 114 1 v rb.length (rb.map ptrV) ∧
    ∀ (k c : Nat) (r : Ring), rb[k]? = some c → rs[k]? = some r → RingR w (fun x => F x ∧ o x = k + 2) c r

theorem ProcsR.keep {w w' : World} {F G : Nat → Prop} {b : Nat} {rb : List Nat} {rs : List Ring} (h : ProcsR w F b rb rs) (hb : ∀ b, F b → b < w.heap.size → w'.heap[b]? = w.heap[b]?) (hG : ∀ b, b < w.heap.size → F b → G b) : ProcsR w' G b rb rs := by
  obtain ⟨v, o, h1, h2, h3, h4, h5, h6⟩ := h
  exact ⟨v, o, hG _ h3.lt h1, h2, h3.of_heap (hb _ h1 h3.lt), h4, h5.keep (fun b q hl => hb b q.1 hl) (fun b hl q => ⟨hG b hl q.1, q.2⟩), fun k c r e1 e2 => (h6 k c r e1 e2).keep (fun b q hl => hb b q.1 hl) (fun b hl q => ⟨hG b hl q.1, q.2⟩)⟩
theorem ProcsR.upd {H : Nat → Prop} {w w' : World} {F : Nat → Prop} {b : Nat} {rb : List Nat} {rs : List Ring} (h : ProcsR w F b rb rs) (u : Upd H w w') (hd : ∀ b, b < w.heap.size → F b → ¬ H b) : ProcsR w' F b rb rs :=
  h.keep (fun b hF hb => u.block b hb (hd b hb hF)) (fun _ _ x => x)
theorem ProcsR.upd0 {w w' : World} {F : Nat → Prop} {b : Nat} {rb : List Nat} {rs : List Ring} (h : ProcsR w F b rb rs) (u : Upd0 w w') : ProcsR w' F b rb rs := h.upd u (fun _ _ _ x => x)

theorem procsLen_c {w : World} {F : Nat → Prop} {b : Nat} {rb : List Nat} {rs : List Ring} (h : ProcsR w F b rb rs) :
    Calls Tryz.prog 63 #[ptrV b] w fun e w' => e = .returned (natV rs.length) ∧ Upd0 w w' := by
  obtain ⟨v, o, h1, h2, B, h4, h5, _⟩ := h
  obtain ⟨a, c, rfl⟩ := h5.slice
  have Bc := B.cell
  have Bf := B.free
  have Bz := B.lt
  rw [← h4]
  clear h5 B h4
  go_enter Tryz.func63, Tryz.ntmps63
  go_wp2
  go_ret
  exact ⟨rfl, Upd.refl _ _⟩

theorem one_ptr (b : Nat) : ∀ u ∈ [ptrV b], u.oneCell' = true := by simp [Value.oneCell']
theorem infoRingP : (Tryz.prog.info? 114).map (fun i => (i.zero, i.size, i.bytes)) = some (some (.pointer none), 1, 8) := by kernel_rfl
/-- One ring more. -/
theorem procs_snoc {w wr w1 w2 : World} {F : Nat → Prop} {b j rc : Nat} {rs : List Ring} {rb : List Nat} {o : Nat → Nat} {v v2 : Value} (hb : b < w.heap.size → F b) (hbw : b < w.heap.size)
    (hu : Upd F w wr) (ho : F b ∨ w.heap.size ≤ b) (ho0 : o b = 0) (hl : rb.length = rs.length + j) (B : Blk wr b [v] 153)
    (hrs : ∀ (k c : Nat) (r : Ring), rb[k]? = some c → (rs ++ List.replicate j Ring.empty)[k]? = some r → RingR wr (fun x => (F x ∨ w.heap.size ≤ x) ∧ o x = k + 2) c r)
    (hu1 : Upd0 wr w1) (hr1 : RingR w1 (fun x => wr.heap.size ≤ x) rc Ring.empty) (hu2 : Upd (fun x => ((F x ∨ w.heap.size ≤ x) ∧ o x = 1) ∧ x < wr.heap.size) w1 w2)
    (hrow : Row w2 (fun x => (((F x ∨ w.heap.size ≤ x) ∧ o x = 1) ∧ x < wr.heap.size) ∨ w1.heap.size ≤ x) 114 1 v2 (rb.length + 1) (rb.map ptrV ++ [ptrV rc])) :
    ProcsR (w2.setCell ⟨b, 0, none⟩ v2) (fun x => F x ∨ w.heap.size ≤ x) b (rb ++ [rc]) (rs ++ List.replicate (j + 1) Ring.empty) ∧ Upd F w (w2.setCell ⟨b, 0, none⟩ v2) := by
  have s1 := hu.size
  have s2 := hu1.size
  have s3 := hu2.size
  have hFb := hb hbw
  have hbr : b < wr.heap.size := by omega
  have B2 : Blk w2 b [v] 153 := hu2.blk (hu1.blk B (fun x => x)) (fun x => by have := x.2; omega)
  have hu3 : Upd (· = b) w2 (w2.setCell ⟨b, 0, none⟩ v2) := (Upd.refl _ _).setb _ _
  refine ⟨⟨v2, fun x => if x < wr.heap.size then o x else if x < w1.heap.size then rb.length + 2 else 1, ho, by simp [hbr, ho0], B2.set 0 v2, by simp [hl]; omega, ?_, ?_⟩, ?_⟩
  · rw [List.length_append, List.map_append]
    refine hrow.keep (fun x hx hl => hu3.block x hl (fun e => ?_)) (fun x hl hx => ?_)
    · subst e
      rcases hx with q | q
      · have := q.1.2; omega
      · omega
    · show (F x ∨ w.heap.size ≤ x) ∧ (if x < wr.heap.size then o x else if x < w1.heap.size then rb.length + 2 else 1) = 1
      rcases hx with q | q
      · rw [if_pos q.2]; exact q.1
      · rw [if_neg (by omega), if_neg (by omega)]
        exact ⟨.inr (by omega), rfl⟩
  · intro k c r e1 e2
    rcases Nat.lt_or_ge k rb.length with hk | hk
    · rw [List.getElem?_append_left hk] at e1
      have e3 : (rs ++ List.replicate j Ring.empty)[k]? = some r := by
        rw [← e2, List.replicate_succ', ← List.append_assoc]
        exact (List.getElem?_append_left (by simp; omega)).symm
      have h := hrs k c r e1 e3
      refine h.keep (fun x hx hl => ?_) (fun x hl hx => ⟨hx.1, by simp [hl, hx.2]⟩)
      rw [hu3.block x (by omega) (fun e => by subst e; have := hx.2; omega), hu2.block x (by omega) (fun q => by have := q.1.2; have := hx.2; omega), hu1.block x hl (fun x => x)]
    · have hk2 : k = rb.length := by
        have := (List.getElem?_eq_some_iff.1 e1).1
        simp at this; omega
      subst hk2
      simp at e1
      subst e1
      have e3 : r = Ring.empty := by
        rw [List.replicate_succ', ← List.append_assoc, List.getElem?_append_right (by simp; omega)] at e2
        have e4 : rb.length - (rs ++ List.replicate j Ring.empty).length = 0 := by simp; omega
        rw [e4] at e2
        simpa using e2.symm
      subst e3
      refine hr1.keep (fun x hx hl => ?_) (fun x hl hx => ⟨.inr (by omega), ?_⟩)
      · rw [hu3.block x (by omega) (fun e => by omega), hu2.block x hl (fun q => by omega)]
      · show (if x < wr.heap.size then o x else if x < w1.heap.size then rb.length + 2 else 1) = _
        rw [if_neg (by omega), if_pos hl]
  · refine hu.trans' ((hu1.of0).trans ((hu2.mono (fun x _ h => h.1.1)).trans (hu3.mono (fun x _ h => .inl (h ▸ hFb)))))

theorem procsGrow_c {w : World} {F : Nat → Prop} {b : Nat} {rb : List Nat} {rs : List Ring} (h : ProcsR w F b rb rs) {n : Nat} (hn : n ≤ 256) :
    Calls Tryz.prog 91 #[ptrV b, natV n] w fun e w' => e = .returned (.tuple #[]) ∧ Upd F w w' ∧ ∃ rb2, ProcsR w' (fun x => F x ∨ w.heap.size ≤ x) b (rb ++ rb2) (rs ++ List.replicate (n - rs.length) Ring.empty) := by
  have H := Lib.hid h
  have H0 : Hid (F b ∧ b < w.heap.size) := Lib.hid (by obtain ⟨v, o, h1, h2, B, _⟩ := h; exact ⟨h1, B.lt⟩)
  obtain ⟨i0, hi, hz0, hz1, hz2⟩ := info_parts infoRingP
  have HI := Lib.hid hi
  have HZ := Lib.hid hz0
  clear h hi hz0
  go_enter Tryz.func91, Tryz.ntmps91
  go_wp2_with fail
  go_loopg [] (n - rs.length) (fun k wr => ∃ j : Nat, j + k = n - rs.length ∧ Hid (∃ rb2, ProcsR wr (fun x => F x ∨ w.heap.size ≤ x) b (rb ++ rb2) (rs ++ List.replicate j Ring.empty) ∧ Upd F w wr))
  case atStart => exact ⟨0, by omega, Lib.hid ⟨[], by simpa using H.out.keep (fun _ _ _ => rfl) (fun _ _ x => .inl x), Upd.refl _ _⟩⟩
  case round =>
    obtain ⟨j, hj, HJ⟩ := hrel
    obtain ⟨rb2, hp, hupd⟩ := HJ.out
    obtain ⟨v, o, h1, h2, B, h4, h5, h6⟩ := id hp
    have HP := Lib.hid hp
    have HU0 := Lib.hid hupd
    have Hrb := Lib.hid (show rb ++ rb2 = rb ++ rb2 from rfl)
    revert HP h4 h5 h6
    generalize hq : rb ++ rb2 = rq
    intro h4 h5 h6 HP
    have Hq := Lib.hid hq
    clear hq Hrb hp hupd HJ
    rw [List.length_append, List.length_replicate] at h4
    obtain ⟨a, c, rfl⟩ := h5.slice
    have Bc := B.cell
    have Bf := B.free
    have Bz := B.lt
    have HB := Lib.hid B
    have HROW := Lib.hid h5.tight
    have HRS := Lib.hid h6
    have Hj := Lib.hid hj
    have Ho := Lib.hid (And.intro h1 h2)
    have Ho1 : Hid (¬ (((F b ∨ w.heap.size ≤ b) ∧ o b = 1) ∧ b < wr.heap.size)) := Lib.hid (by rw [h2]; simp)
    have H4 := Lib.hid h4
    clear B h5 h6 hj h1 h2
    by_cases hlt : rq.length < n
    · clear h4
      go_wp2_with fail
      go_region_law (first
        | (refine step_app1 rfl rfl Tryz.underlying151 HI.out HZ.out hz1 hz2 rfl (by decide) rfl rfl HROW1.out rfl (by exact one_ptr rc) (by omega) (by decide) ?_; rintro v2 w2 hrow hu2; obtain ⟨a2, c2, rfl⟩ := hrow.slice; have B2 := hu2.blk HB1.out (fun x => Ho1.out x); have Bc2 := B2.cell; have Bf2 := B2.free; have Bz2 := B2.lt; have HR2 := Lib.hid hrow; have HU2 := Lib.hid hu2; have HB2 := Lib.hid B2; clear hrow hu2 B2)
        | (go_simp; go_at_call 126; refine (ringNew_c _).mono ?_; rintro e w1 ⟨rc, rfl, hr1, hu1⟩; have HR1 := Lib.hid hr1; have HU1 := Lib.hid ((Upd.refl (fun _ => False) wr).drew.trans hu1); have HROW1 := Lib.hid (HROW.out.upd HU1.out (fun _ _ x => x)); have B1 := HU1.out.blk HB.out (fun x => x); have Bc1 := B1.cell; have Bf1 := B1.free; have Bz1 := B1.lt; have HB1 := Lib.hid B1; clear hr1 hu1 B1))
      all_goals
        go_wp2
        have hs1 := HU0.out.size
        have hs2 : wr.heap.size ≤ w1.heap.size := HU1.out.size
        have hlt1 := H4.out
        have hj := Hj.out
        go_roundg (gk - 1)
        case measure => omega
        case rel =>
          refine ⟨j + 1, by omega, Lib.hid ⟨rb2 ++ [rc], by rw [← List.append_assoc, Hq.out]; exact procs_snoc (fun _ => H0.out.1) H0.out.2 HU0.out Ho.out.1 Ho.out.2 H4.out HB.out HRS.out HU1.out HR1.out HU2.out HR2.out⟩⟩
    · have e : n - rs.length = j := by have := Hj.out; omega
      go_wp2
      go_end0
      exact ⟨rfl, HU0.out, rb2, by rw [Hq.out]; exact HP.out⟩

theorem ProcsR.ring {w : World} {F : Nat → Prop} {b : Nat} {rb : List Nat} {rs : List Ring} (h : ProcsR w F b rb rs) {p c : Nat} {r : Ring} (hc : rb[p]? = some c) (hr : rs[p]? = some r) :
    ∃ Fp : Nat → Prop, RingR w Fp c r ∧ (∀ x, Fp x → F x) ∧ ∀ w2 r', Upd Fp w w2 → RingR w2 Fp c r' → ProcsR w2 F b rb (rs.set p r') := by
  obtain ⟨v, o, h1, h2, h3, h4, h5, h6⟩ := h
  refine ⟨fun x => F x ∧ o x = p + 2, h6 p c r hc hr, fun x q => q.1, fun w2 r' hu hr' => ⟨v, o, h1, h2, hu.blk h3 (fun q => by have := q.2; omega), by simpa using h4, h5.upd hu (fun x q1 q2 => by have := q1.2; have := q2.2; omega), fun k d s e1 e2 => ?_⟩⟩
  by_cases hk : k = p
  · subst hk
    rw [hc] at e1
    injection e1 with e1
    subst e1
    have hlt : k < rs.length := (List.getElem?_eq_some_iff.1 hr).1
    rw [List.getElem?_set_self hlt] at e2
    injection e2 with e2
    subst e2
    exact hr'
  · rw [List.getElem?_set_ne (fun e => hk e.symm)] at e2
    exact (h6 k d s e1 e2).upd hu (fun x _ q1 q2 => by have := q1.2; have := q2.2; omega)
theorem ProcsR.len {w : World} {F : Nat → Prop} {b : Nat} {rb : List Nat} {rs : List Ring} (h : ProcsR w F b rb rs) : rb.length = rs.length := by
  obtain ⟨v, o, h1, h2, h3, h4, _⟩ := h; exact h4
theorem ProcsR.own {w : World} {F : Nat → Prop} {b : Nat} {rb : List Nat} {rs : List Ring} (h : ProcsR w F b rb rs) : F b ∧ b < w.heap.size := by
  obtain ⟨v, o, h1, h2, h3, h4, _⟩ := h; exact ⟨h1, h3.lt⟩

theorem procsRing_c {w : World} {F : Nat → Prop} {b : Nat} {rb : List Nat} {rs : List Ring} (h : ProcsR w F b rb rs) {p c : Nat} (hc : rb[p]? = some c) :
    Calls Tryz.prog 54 #[ptrV b, natV p] w fun e w' => e = .returned (ptrV c) ∧ Upd0 w w' := by
  have hp : p < rs.length := by rw [← h.len]; exact (List.getElem?_eq_some_iff.1 hc).1
  have H := Lib.hid h
  clear h
  have HC := Lib.hid hc
  clear hc
  go_enter Tryz.func54, Tryz.ntmps54
  go_wp2_with fail
  refine (procsLen_c H.out).mono ?_
  rintro e w1 ⟨rfl, hu⟩
  obtain ⟨v, o, h1, h2, B, h4, h5, h6⟩ := H.out.upd0 hu
  have HU := Lib.hid hu
  obtain ⟨a, cc, rfl⟩ := h5.slice
  have Bc := B.cell
  have Bf := B.free
  have Bz := B.lt
  rcases h5.shape with ⟨_, e0, _⟩ | ⟨g, off, cap, e0, _, _, hcell, _, hz⟩
  · rw [h4] at e0; omega
  · injection e0 with e1 e2 e3
    subst e1 e3
    have hx : w1.cell? ⟨g, off + p, none⟩ = some (ptrV c) := hcell p _ (by rw [List.getElem?_map, HC.out]; rfl)
    have hp2 : p < rb.length := by omega
    clear hcell h5 h6 hu B h4
    go_wp2
    go_ret
    exact ⟨rfl, HU.out⟩

theorem procsIs_c (w : World) (n : Nat) (h1 : 1 ≤ n) (h2 : n ≤ 256) : Calls Tryz.prog 90 #[natV n] w fun e w' => e = .returned (.bool true) ∧ Upd0 w w' := by
  have h3 : (1 : Int) ≤ n := by omega
  have h4 : (n : Int) ≤ 256 := by omega
  go_enter Tryz.func90, Tryz.ntmps90
  go_wp2
  go_ret
  exact ⟨rfl, Upd.refl _ _⟩

theorem procsNew_c (w : World) (n : Nat) (h1 : 1 ≤ n) (h2 : n ≤ 256) :
    Calls Tryz.prog 46 #[natV n] w fun e w' => ∃ b rb, e = .returned (ptrV b) ∧ ProcsR w' (fun x => w.heap.size ≤ x) b rb (List.replicate n Ring.empty) ∧ Upd0 w w' := by
  go_enter Tryz.func46, Tryz.ntmps46
  go_wp2_with fail
  refine (procsIs_c _ n h1 h2).mono ?_
  rintro e w1 ⟨rfl, hu⟩
  have HU := Lib.hid hu
  clear hu
  go_wp2_with fail
  have h : ProcsR (w1.alloc (.cells [.slice none 0 0].toArray 153)) (fun x => w1.heap.size ≤ x) w1.heap.size [] [] :=
    ⟨.slice none 0 0, fun _ => 0, Nat.le_refl _, rfl, Blk.new _ _ _, rfl, Row.nil _ _ _ _, fun k c r e => by simp at e⟩
  refine (procsGrow_c h (by omega)).mono ?_
  rintro e w2 ⟨rfl, hu2, rb, hp⟩
  have HP := Lib.hid hp
  have HU2 := Lib.hid hu2
  clear hp hu2 h
  go_wp2
  go_ret
  refine ⟨w1.heap.size, rb, rfl, ?_, ?_⟩
  · have hp := HP.out
    rw [List.nil_append, List.nil_append] at hp
    have s1 := HU.out.size
    refine hp.keep (fun _ _ _ => rfl) (fun x _ q => ?_)
    rcases q with q | q
    · exact Nat.le_trans s1 q
    · rw [World.size_alloc] at q
      exact Nat.le_trans s1 (by omega)
  · have s1 := HU.out.size
    exact (HU.out.alloc _).trans' (HU2.out.mono fun x _ q => .inr (Nat.le_trans s1 q))
end Go.Proofs.YtlljmbkfeemgfaaGreatDoor.Wk
