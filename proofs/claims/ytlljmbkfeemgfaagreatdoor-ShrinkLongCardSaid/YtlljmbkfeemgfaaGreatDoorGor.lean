/- A goroutine: its cells; a new one; its status. -/
import Derived.Test.YtlljmbkfeemgfaaGreatDoorGst2
import Derived.Deep.RegionHeld3
namespace Go.Proofs.YtlljmbkfeemgfaaGreatDoor.Wk
open Go Go.RowKit Esc
set_option maxRecDepth 100000

theorem vmNew_c (w : World) (fn arg : Int) : Calls Tryz.prog 98 #[intV fn, intV arg] w fun e w' => e = .returned (.agg #[intV fn, intV 0, intV arg, intV 0, intV 0, intV 0, intV 0, intV 0, intV 0, intV 0, .slice none 0 0, .bool false]) ∧ Upd0 w w' := by
  go_enter Tryz.func98, Tryz.ntmps98
  go_wp2
  refine bodyPost_ret (v := .agg #[intV fn, intV 0, intV arg, intV 0, intV 0, intV 0, intV 0, intV 0, intV 0, intV 0, .slice none 0 0, .bool false]) (by simp [results, Tryz.results98, go_sem, Act.put]) rfl ⟨rfl, (by exact ((Upd.refl _ _).alloc _))⟩

/-- The cells of a goroutine whose status is n, the others being rest. -/
theorem gIsTo_c {w : World} {b n t : Nat} {c0 : Value} {rest : List Value} (B : Blk w b (c0 :: natV n :: rest) 118) (hn : n < 16) (ht : t < 7) :
    Calls Tryz.prog 99 #[ptrV b, natV t] w fun e w' => e = .returned (.tuple #[]) ∧ Blk w' b (c0 :: natV (gis n t) :: rest) 118 ∧ Upd (· = b) w w' := by
  have Bc := B.cell
  have Bf := B.free
  have Bz := B.lt
  have HB := Lib.hid B
  clear B
  have hcase : (moveF n t).2 = 0 ∧ gis n t = (moveF n t).1 ∨ (moveF n t).2 ≠ 0 ∧ gis n t = n := by
    by_cases h1 : isW n = false
    · right; simp [moveF, gis, moveW, h1]
    by_cases h2 : may (n % 8) t = false
    · right; simp [moveF, gis, moveW, h1, h2]
    by_cases h3 : (scanned n && decide (t ≠ 1)) = true
    · right
      simp only [moveF, h1, h2, h3, if_true, if_false]
      simp [gis, moveW, h1, h2]
      simp [scanned, h1] at h3
      have : ¬ 6 < t := by omega
      simp [this, h3]
    · left
      simp only [moveF, h1, h2, h3, if_false]
      simp [gis, moveW, h1, h2]
      simp [scanned, h1] at h3
      have : ¬ 6 < t := by omega
      by_cases h8 : 8 ≤ n
      · simp [this, h8, h3 h8]
      · simp [this, h8]
  generalize hm : moveF n t = r at *
  obtain ⟨r1, r2⟩ := r
  simp only at hcase
  go_enter Tryz.func99, Tryz.ntmps99
  go_wp2_with fail
  refine (gMove_c _ n t hn ht).mono ?_
  rw [hm]
  rintro e w1 ⟨rfl, hu⟩
  have HU := Lib.hid hu
  have B1 := hu.blk HB.out (fun x => x)
  clear hu Bc Bf Bz hm
  have Bc := B1.cell
  have Bf := B1.free
  have Bz := B1.lt
  have HB1 := Lib.hid B1
  clear B1
  rcases hcase with ⟨h0, h1⟩ | ⟨h0, h1⟩
  · subst h0
    go_wp2
    go_end0
    exact ⟨rfl, by rw [h1]; exact HB1.out.set 1 (natV r1), (HU.out.of0).setb _ _⟩
  · have h0' : ((r2 : Int) == 0) = false := by rw [beq_eq_false_iff_ne]; omega
    go_wp2
    go_end0
    exact ⟨rfl, by rw [h1]; exact HB1.out, HU.out.of0⟩

theorem infoGP : (Tryz.prog.info? 107).map (fun i => (i.zero, i.size, i.bytes)) = some (some (.pointer none), 1, 8) := by kernel_rfl

/-- The cells of a machine, by its fields. -/
structure MC where
  procs : Nat
  p : Value
  c : Conf
  gs : Value
  ms : Value
  asked : Value
  stat : Nat
  all : Nat
  idleM : Nat
  idleP : Nat
  world : Nat
  box : Nat
  e : Entry
  now : Int
  stopped : Bool
  wait : Int
  holder : Value
  ev : Ev
  seen : Bool
def MC.cells (c : MC) : List Value :=
  [ptrV c.procs, c.p, intV c.c.procs, intV c.c.gs, intV c.c.ms, c.gs, c.ms, c.asked, ptrV c.stat, ptrV c.all, ptrV c.idleM, ptrV c.idleP, ptrV c.world, ptrV c.box,
   intV c.e.pick, intV c.e.delay, intV c.e.draw, intV c.now, .bool c.stopped, intV c.wait, c.holder, intV c.ev.kind, intV c.ev.g, intV c.ev.fn, intV c.ev.pc, intV c.ev.n, .bool c.seen]

/-- A goroutine is born. -/
theorem born_c {w : World} {F : Nat → Prop} {a : Nat} {c : MC} {gb : List Nat} (B : Blk w a c.cells 109) (hrow : Row w F 107 1 c.gs gb.length (gb.map ptrV)) (ha : ¬ F a) (hl : gb.length < 65536) (fn arg : Int) :
    Calls Tryz.prog 56 #[ptrV a, intV fn, intV arg] w fun e w' => ∃ b, e = .returned (ptrV b) ∧ w.heap.size ≤ b ∧ Upd (fun x => F x ∨ x = a) w w' ∧
      Blk w' b [intV ((gb.length : Int) + 1), natV 1, intV fn, intV 0, intV arg, intV 0, intV 0, intV 0, intV 0, intV 0, intV 0, intV 0, .slice none 0 0, .bool false, .bool false, .bool false, .bool false, .bool false, natV 0] 118 ∧
      ∃ v, Blk w' a { c with gs := v }.cells 109 ∧ Row w' (fun x => F x ∨ w.heap.size ≤ x ∧ x ≠ b) 107 1 v (gb.length + 1) ((gb ++ [b]).map ptrV) := by
  obtain ⟨i0, hi, hz0, hz1, hz2⟩ := info_parts infoGP
  have HI := Lib.hid hi
  have HZ := Lib.hid hz0
  obtain ⟨ag, cg, hgs⟩ := hrow.slice
  have Bc := B.cell
  have Bf := B.free
  have Bz := B.lt
  have HB := Lib.hid B
  have HROW := Lib.hid hrow.tight
  have c5 : w.cell? ⟨a, 5, none⟩ = some (.slice ag gb.length cg) := by rw [Bc]; show some c.gs = _; rw [hgs]
  have f1 : IntKind.i64.wrap ((gb.length : Int) + 1) = (gb.length : Int) + 1 := IntWalk.i64_in _ (by omega)
  clear hrow B hi hz0 Bc
  go_enter Tryz.func56, Tryz.ntmps56
  go_wp2_with fail
  go_region_held3 (fun w' => w'.cell? ⟨a, 5, none⟩ = some (.slice ag gb.length cg)) (first | go_keep | exact (HU.out.cell (by assumption) (fun x => x)).trans c5)
    ((go_at_call 98; refine (vmNew_c _ fn arg).mono ?_; rintro e w1 ⟨rfl, hu⟩; have HU := Lib.hid ((Upd.refl (fun _ => False) w).drew.trans hu); clear hu))
  rename_i hh
  clear hh
  have hn : Blk (w1.alloc (.cells [intV ((gb.length : Int) + 1), natV 0, intV fn, intV 0, intV arg, intV 0, intV 0, intV 0, intV 0, intV 0, intV 0, intV 0, .slice none 0 0, .bool false, .bool false, .bool false, .bool false, .bool false, natV 0].toArray 118)) w1.heap.size _ _ := Blk.new _ _ _
  have HU1 := Lib.hid (HU.out.alloc (.cells [intV ((gb.length : Int) + 1), natV 0, intV fn, intV 0, intV arg, intV 0, intV 0, intV 0, intV 0, intV 0, intV 0, intV 0, .slice none 0 0, .bool false, .bool false, .bool false, .bool false, .bool false, natV 0].toArray 118))
  have HN := Lib.hid hn
  have Hlt := Lib.hid HU.out.size
  have Hne := Lib.hid (show a ≠ w1.heap.size by have := Hlt.out; omega)
  clear hn
  go_wp2_with fail
  refine (gIsTo_c (n := 0) (t := 1) HN.out (by decide) (by decide)).mono ?_
  rintro e w2 ⟨rfl, hb, hu⟩
  have HB2 := Lib.hid hb
  have hB3 := hu.blk (HU1.out.blk HB.out (fun x => x)) Hne.out
  have HB3 := Lib.hid hB3
  have HROW3 : Hid (Row w2 (fun x => F x ∧ x < w.heap.size) 107 1 c.gs gb.length (gb.map ptrV)) := Lib.hid ((HROW.out.upd HU1.out (fun _ _ x => x)).upd hu (fun x h1 h2 => by have := h1.2; have := Hlt.out; have e : x = w1.heap.size := h2; omega))
  have HU2 := Lib.hid hu
  have d5 : w2.cell? ⟨a, 5, none⟩ = some (.slice ag gb.length cg) := by rw [hB3.cell]; show some c.gs = _; rw [hgs]
  have df := hB3.free
  have dz := hB3.lt
  clear hb hu hB3 Bf Bz c5
  have HR4 : Hid (Row w2 (fun x => F x ∧ x < w.heap.size) 107 1 (.slice ag gb.length cg) gb.length (gb.map ptrV)) := Lib.hid (by rw [← hgs]; exact HROW3.out)
  go_wp2_with (at_builtin; refine wpList_app1 rfl rfl Tryz.underlying104 HI.out HZ.out hz1 hz2 rfl (by decide) rfl rfl HR4.out (us := [ptrV w1.heap.size]) rfl (one_ptr _) (by omega) (by decide) ?_)
  rintro v' w3 hrow hu
  obtain ⟨a2, c2, rfl⟩ := hrow.slice
  have hane : ¬ (F a ∧ a < w.heap.size) := fun x => ha x.1
  have hB5 := hu.blk HB3.out hane
  have hB6 := hu.blk HB2.out (fun x => by have := Hlt.out; omega)
  have e5 := hB5.cell 5
  have ef := hB5.free
  have ez := hB5.lt
  have HB5 := Lib.hid hB5
  have HB6 := Lib.hid hB6
  have HR5 := Lib.hid hrow
  have HU3 := Lib.hid hu
  replace e5 : w3.cell? ⟨a, 5, none⟩ = some (.slice ag gb.length cg) := by rw [e5]; show some c.gs = _; rw [hgs]
  clear hB5 hB6 hrow hu d5 df dz
  go_wp2
  go_ret
  have hs1 := Hlt.out
  have hs2 := HB2.out.lt
  have hs3 := HB.out.lt
  have hab := Hne.out
  have hset : Upd (· = a) w3 (w3.setCell ⟨a, 5, none⟩ (.slice a2 (gb.length + 1) c2)) := (Upd.refl _ _).setb _ _
  refine ⟨w1.heap.size, rfl, hs1, ?_, HB6.out.set_other hab _, .slice a2 (gb.length + 1) c2, HB5.out.set 5 (.slice a2 (gb.length + 1) c2), ?_⟩
  · exact (HU1.out.of0).trans' ((HU2.out.mono (fun x _ h => .inr (by have e : x = w1.heap.size := h; rw [e]; exact hs1))).trans ((HU3.out.mono (fun x _ h => .inl (.inl h.1))).trans (hset.mono (fun x _ h => .inl (.inr h)))))
  · have hr := HR5.out
    rw [List.map_append]
    refine hr.keep (fun x hx hl => hset.block x hl (fun e => ?_)) (fun x hl hx => ?_)
    · have e' : x = a := e
      subst e'
      rcases hx with q | q
      · exact ha q.1
      · omega
    · rcases hx with q | q
      · exact .inl q.1
      · exact .inr ⟨by omega, by omega⟩
end Go.Proofs.YtlljmbkfeemgfaaGreatDoor.Wk
