/- machine.New: a program that may run. -/
import Derived.Test.YtlljmbkfeemgfaaGreatDoorMach
namespace Go.Proofs.YtlljmbkfeemgfaaGreatDoor.Wk
open Go Go.RowKit Esc
set_option maxRecDepth 100000

/-- Between two sizes of the heap. -/
def In (n : Nat → Nat) (k : Nat) (x : Nat) : Prop := n k ≤ x ∧ x < n (k + 1)
/-- While a machine is made: its parts lie one behind the other. -/
structure NewSt (n : Nat → Nat) (w : World) (b1 b2 b3 b4 b5 b6 b7 : Nat) (rb : List Nat) (rings : List Ring) (stat : PSt) (idleP : List Nat) : Prop where
  n1 : n 1 ≤ n 2
  n2 : n 2 ≤ n 3
  n3 : n 3 ≤ n 4
  n4 : n 4 ≤ n 5
  n5 : n 5 ≤ n 6
  n6 : n 6 ≤ n 7
  n7 : n 7 ≤ n 8
  n8 : n 8 ≤ w.heap.size
  procs : ProcsR w (In n 1) b1 rb rings
  stat : StatR w (In n 2) b2 stat
  all : GlobR w (In n 3) b3 []
  idleM : IdleR w (In n 4) b4 64 []
  idleP : IdleR w (In n 5) b5 256 idleP
  world : SemaR w (In n 6) b6 0 []
  box : BoxR w (In n 7) b7 (List.replicate 64 none)

namespace NewSt
variable {n : Nat → Nat} {w w' : World} {b1 b2 b3 b4 b5 b6 b7 : Nat} {rb : List Nat} {rings : List Ring} {stat : PSt} {idleP : List Nat} {H : Nat → Prop}
theorem parts (h : NewSt n w b1 b2 b3 b4 b5 b6 b7 rb rings stat idleP) (k : Nat) (u : Upd H w w') (hk : 1 ≤ k ∧ k ≤ 8) (hH : ∀ x, x < w.heap.size → H x → In n k x ∨ n 8 ≤ x) :
    (k ≠ 1 → ProcsR w' (In n 1) b1 rb rings) ∧ (k ≠ 2 → StatR w' (In n 2) b2 stat) ∧ (k ≠ 3 → GlobR w' (In n 3) b3 []) ∧ (k ≠ 4 → IdleR w' (In n 4) b4 64 []) ∧ (k ≠ 5 → IdleR w' (In n 5) b5 256 idleP) ∧
    (k ≠ 6 → SemaR w' (In n 6) b6 0 []) ∧ (k ≠ 7 → BoxR w' (In n 7) b7 (List.replicate 64 none)) := by
  have key : ∀ j, 1 ≤ j → j ≤ 7 → k ≠ j → ∀ x, x < w.heap.size → In n j x → ¬ H x := by
    intro j j1 j2 hne x hx hj hh
    have a1 := h.n1
    have a2 := h.n2
    have a3 := h.n3
    have a4 := h.n4
    have a5 := h.n5
    have a6 := h.n6
    have a7 := h.n7
    have hj' : j = 1 ∨ j = 2 ∨ j = 3 ∨ j = 4 ∨ j = 5 ∨ j = 6 ∨ j = 7 := by omega
    have hk' : k = 1 ∨ k = 2 ∨ k = 3 ∨ k = 4 ∨ k = 5 ∨ k = 6 ∨ k = 7 ∨ k = 8 := by omega
    have h3 := hH x hx hh
    unfold In at hj h3
    rcases hj' with rfl | rfl | rfl | rfl | rfl | rfl | rfl <;> rcases hk' with rfl | rfl | rfl | rfl | rfl | rfl | rfl | rfl <;> simp only [Nat.reduceAdd] at hj h3 <;> omega
  exact ⟨fun q => h.procs.upd u (key 1 (by omega) (by omega) q), fun q => h.stat.upd u (key 2 (by omega) (by omega) q), fun q => h.all.upd u (key 3 (by omega) (by omega) q), fun q => h.idleM.upd u (key 4 (by omega) (by omega) q),
    fun q => h.idleP.upd u (key 5 (by omega) (by omega) q), fun q => h.world.upd u (key 6 (by omega) (by omega) q), fun q => h.box.upd u (key 7 (by omega) (by omega) q)⟩
theorem set0 (h : NewSt n w b1 b2 b3 b4 b5 b6 b7 rb rings stat idleP) (u : Upd H w w') (hH : ∀ x, x < w.heap.size → H x → n 8 ≤ x) : NewSt n w' b1 b2 b3 b4 b5 b6 b7 rb rings stat idleP := by
  obtain ⟨p1, p2, p3, p4, p5, p6, p7⟩ := h.parts 8 u (by omega) (fun x h1 h2 => .inr (hH x h1 h2))
  exact ⟨h.n1, h.n2, h.n3, h.n4, h.n5, h.n6, h.n7, Nat.le_trans h.n8 u.size, p1 (by decide), p2 (by decide), p3 (by decide), p4 (by decide), p5 (by decide), p6 (by decide), p7 (by decide)⟩
theorem set1 (h : NewSt n w b1 b2 b3 b4 b5 b6 b7 rb rings stat idleP) {r2 : List Ring} (u : Upd (In n 1) w w') (hr : ProcsR w' (In n 1) b1 rb r2) : NewSt n w' b1 b2 b3 b4 b5 b6 b7 rb r2 stat idleP := by
  obtain ⟨p1, p2, p3, p4, p5, p6, p7⟩ := h.parts 1 u (by omega) (fun x h1 h2 => .inl h2)
  exact ⟨h.n1, h.n2, h.n3, h.n4, h.n5, h.n6, h.n7, Nat.le_trans h.n8 u.size, hr, p2 (by decide), p3 (by decide), p4 (by decide), p5 (by decide), p6 (by decide), p7 (by decide)⟩
theorem set2 (h : NewSt n w b1 b2 b3 b4 b5 b6 b7 rb rings stat idleP) {s2 : PSt} (u : Upd (In n 2) w w') (hr : StatR w' (In n 2) b2 s2) : NewSt n w' b1 b2 b3 b4 b5 b6 b7 rb rings s2 idleP := by
  obtain ⟨p1, p2, p3, p4, p5, p6, p7⟩ := h.parts 2 u (by omega) (fun x h1 h2 => .inl h2)
  exact ⟨h.n1, h.n2, h.n3, h.n4, h.n5, h.n6, h.n7, Nat.le_trans h.n8 u.size, p1 (by decide), hr, p3 (by decide), p4 (by decide), p5 (by decide), p6 (by decide), p7 (by decide)⟩
theorem set5 (h : NewSt n w b1 b2 b3 b4 b5 b6 b7 rb rings stat idleP) {i2 : List Nat} (u : Upd (In n 5) w w') (hr : IdleR w' (In n 5) b5 256 i2) : NewSt n w' b1 b2 b3 b4 b5 b6 b7 rb rings stat i2 := by
  obtain ⟨p1, p2, p3, p4, p5, p6, p7⟩ := h.parts 5 u (by omega) (fun x h1 h2 => .inl h2)
  exact ⟨h.n1, h.n2, h.n3, h.n4, h.n5, h.n6, h.n7, Nat.le_trans h.n8 u.size, p1 (by decide), p2 (by decide), p3 (by decide), p4 (by decide), hr, p6 (by decide), p7 (by decide)⟩
end NewSt

theorem infoAsk : (Tryz.prog.info? 129).map (fun i => (i.zero, i.size, i.bytes)) = some (some (.agg #[.bool false, .bool false, .int .i64 0]), 3, 16) := by kernel_rfl

set_option maxHeartbeats 8000000 in
theorem new_ok {w : World} {F : Nat → Prop} {v : Value} {p : Prog} (hp : ProgM w F v p) (hT : Tab w) (hgood : (check p).2.2 = 0) (a b c : Nat) (h1 : 1 ≤ a ∧ a ≤ 256) (h2 : 1 ≤ b ∧ b ≤ 64) (h3 : 1 ≤ c ∧ c ≤ 64) :
    Calls Tryz.prog 15 #[.agg #[v], .agg #[natV a, natV b, natV c]] w fun e w' => ∃ m, e = .returned (.tuple #[ptrV m, .int .i64 0]) ∧ Upd0 w w' := by
  obtain ⟨av, nv, cv, rfl⟩ : ∃ a n c, v = .slice a n c := by
    obtain ⟨a, c, e, _⟩ := hp.val
    exact ⟨_, _, _, e⟩
  have Hp := Lib.hid hp
  have HT := Lib.hid hT
  have Hg := Lib.hid hgood
  clear hp hgood hT
  go_enter Tryz.func15, Tryz.ntmps15
  go_wp2_with fail
  have hu0 : Upd0 w ((w.alloc (.cells [.slice av nv cv].toArray 24)).alloc (.cells [natV a, natV b, natV c].toArray 26)) := (((Upd.refl _ _).alloc _).alloc _)
  have hB2 : Blk ((w.alloc (.cells [.slice av nv cv].toArray 24)).alloc (.cells [natV a, natV b, natV c].toArray 26)) w.heap.size [.slice av nv cv] 24 := (Blk.new _ _ _).alloc _
  have hB3 : Blk ((w.alloc (.cells [.slice av nv cv].toArray 24)).alloc (.cells [natV a, natV b, natV c].toArray 26)) (w.heap.size + 1) [natV a, natV b, natV c] 26 := by
    have := Blk.new (w.alloc (.cells [.slice av nv cv].toArray 24)) [natV a, natV b, natV c] 26
    rw [World.size_alloc] at this
    exact this
  have HU0 := Lib.hid hu0
  have HB2 := Lib.hid hB2
  have HB3 := Lib.hid hB3
  clear hu0 hB2 hB3
  refine (check_prog (Hp.out.upd0 (by exact HU0.out)) (HT.out.upd (F := fun _ => False) (by exact HU0.out) (fun x => x))).mono ?_
  rw [Hg.out]
  rintro e w1 ⟨rfl, hu⟩
  have HU1 := Lib.hid (HU0.out.trans hu)
  have B2 := hu.blk HB2.out (fun x => x)
  have B3 := hu.blk HB3.out (fun x => x)
  have Bc2 := B2.cell
  have Bf2 := B2.free
  have Bz2 := B2.lt
  have Bc3 := B3.cell
  have Bf3 := B3.free
  have Bz3 := B3.lt
  have HB2 := Lib.hid B2
  have HB3 := Lib.hid B3
  have hcf : confFault ⟨a, b, c⟩ = 0 := by
    have := h1.1; have := h1.2; have := h2.1; have := h2.2; have := h3.1; have := h3.2
    simp [confFault]; omega
  clear B2 B3 hu
  go_wp2_with fail
  refine (conf_c _ a b c).mono ?_
  rw [hcf]
  rintro e w2 ⟨rfl, hu⟩
  have HU2 := Lib.hid (HU1.out.trans hu)
  have B2 := hu.blk HB2.out (fun x => x)
  have B3 := hu.blk HB3.out (fun x => x)
  clear Bc2 Bf2 Bz2 Bc3 Bf3 Bz3
  have Bc2 := B2.cell
  have Bf2 := B2.free
  have Bz2 := B2.lt
  have Bc3 := B3.cell
  have Bf3 := B3.free
  have Bz3 := B3.lt
  have HB2 := Lib.hid B2
  have HB3 := Lib.hid B3
  have cp : w2.cell? ⟨w.heap.size, 0, none⟩ = some (.slice av nv cv) := Bc2 0
  have ca : w2.cell? ⟨w.heap.size + 1, 0, none⟩ = some (natV a) := Bc3 0
  have cb : w2.cell? ⟨w.heap.size + 1, 1, none⟩ = some (natV b) := Bc3 1
  have cc : w2.cell? ⟨w.heap.size + 1, 2, none⟩ = some (natV c) := Bc3 2
  have HU := Lib.hid ((Upd.refl (fun _ => False) w2).drew)
  have ha1 := h1.1
  have ha2 := h1.2
  clear hu hcf B2 B3 Bc2 Bc3
  go_wp2_with fail
  go_region_held3 (fun w' => w'.cell? ⟨w.heap.size, 0, none⟩ = some (.slice av nv cv) ∧ w'.cell? ⟨w.heap.size + 1, 0, none⟩ = some (natV a) ∧ w'.cell? ⟨w.heap.size + 1, 1, none⟩ = some (natV b) ∧ w'.cell? ⟨w.heap.size + 1, 2, none⟩ = some (natV c))
    (first | go_keep | exact ⟨(HU.out.cell (by assumption) (fun x => x)).trans cp, (HU.out.cell (by assumption) (fun x => x)).trans ca, (HU.out.cell (by assumption) (fun x => x)).trans cb, (HU.out.cell (by assumption) (fun x => x)).trans cc⟩)
    ((first
      | (go_at_call 46; refine (procsNew_c _ a ha1 ha2).mono ?_; rintro e x1 ⟨b1, rb, rfl, r1, hu⟩; have HU := Lib.hid (HU.out.trans hu); have R1 := Lib.hid r1; clear hu r1)
      | (go_at_call 47; refine (statNew_c _ a ha1 ha2).mono ?_; rintro e x2 ⟨b2, rfl, r2, hu⟩; have HU := Lib.hid (HU.out.trans hu); have R2 := Lib.hid r2; have V2 := Lib.hid hu; clear hu r2)
      | (go_at_call 48; refine (globNew_c _).mono ?_; rintro e x3 ⟨b3, rfl, r3, hu⟩; have HU := Lib.hid (HU.out.trans hu); have R3 := Lib.hid r3; have V3 := Lib.hid hu; clear hu r3)
      | (go_at_call_of 49 (Value.int .i64 64); refine (idleNew_c _ 64 (by decide) _ rfl).mono ?_; rintro e x4 ⟨b4, rfl, r4, hu⟩; have HU := Lib.hid (HU.out.trans hu); have R4 := Lib.hid r4; have V4 := Lib.hid hu; clear hu r4)
      | (go_at_call_of 49 (Value.int .i64 256); refine (idleNew_c _ 256 (by decide) _ rfl).mono ?_; rintro e x5 ⟨b5, rfl, r5, hu⟩; have HU := Lib.hid (HU.out.trans hu); have R5 := Lib.hid r5; have V5 := Lib.hid hu; clear hu r5)
      | (go_at_call 50; refine (semaNew_c _).mono ?_; rintro e x6 ⟨b6, rfl, r6, hu⟩; have HU := Lib.hid (HU.out.trans hu); have R6 := Lib.hid r6; have V6 := Lib.hid hu; clear hu r6)
      | (go_at_call 51; refine (sigNew_c _).mono ?_; rintro e x7 ⟨b7, rfl, r7, hu⟩; have HU := Lib.hid (HU.out.trans hu); have R7 := Lib.hid r7; have V7 := Lib.hid hu; clear hu r7)))
  rename_i hh
  clear hh
  have hmk : ∀ w : World, (Instr.makeSlice 106 (.int .i64 (a : Int)) (.int .i64 (a : Int))).run Tryz.prog w = .ok (.slice (some ⟨w.heap.size, 0, none⟩) a a) (w.alloc (.cells ((List.replicate a (askC ⟨false, false, 0⟩)).flatten).toArray 129)) := by
    obtain ⟨i0, hi, hz0, hz1, hz2⟩ := info_parts infoAsk
    exact fun w => run_mk Tryz.underlying106 hi hz0 hz1 hz2 rfl (by decide) (by decide) a (by omega) w
  generalize hzs : (List.replicate a (askC ⟨false, false, 0⟩)).flatten = zs at hmk
  have Hzs := Lib.hid hzs
  clear hzs
  have U7 : Upd0 x7 ((x7.alloc (.cells (mcells ⟨b1, .slice av nv cv, .slice none 0 0, .slice none 0 0, .slice (some ⟨x7.heap.size + 1, 0, none⟩) a a, b2, b3, b4, b5, b6, b7⟩ ⟨p, ⟨a, b, c⟩⟩ [] (St.init ⟨p, ⟨a, b, c⟩⟩)).toArray 109)).alloc (.cells zs.toArray 129)) := ((Upd.refl _ _).alloc _).alloc _
  have U6 := V7.out.trans U7
  have U5 := V6.out.trans U6
  have U4 := V5.out.trans U5
  have U3 := V4.out.trans U4
  have U2 := V3.out.trans U3
  have U1 := V2.out.trans U2
  obtain ⟨n, hn⟩ : ∃ n : Nat → Nat, n 1 = w2.heap.size ∧ n 2 = x1.heap.size ∧ n 3 = x2.heap.size ∧ n 4 = x3.heap.size ∧ n 5 = x4.heap.size ∧ n 6 = x5.heap.size ∧ n 7 = x6.heap.size ∧ n 8 = x7.heap.size :=
    ⟨fun k => [0, w2.heap.size, x1.heap.size, x2.heap.size, x3.heap.size, x4.heap.size, x5.heap.size, x6.heap.size, x7.heap.size].getD k 0, rfl, rfl, rfl, rfl, rfl, rfl, rfl, rfl⟩
  have hst : NewSt n ((x7.alloc (.cells (mcells ⟨b1, .slice av nv cv, .slice none 0 0, .slice none 0 0, .slice (some ⟨x7.heap.size + 1, 0, none⟩) a a, b2, b3, b4, b5, b6, b7⟩ ⟨p, ⟨a, b, c⟩⟩ [] (St.init ⟨p, ⟨a, b, c⟩⟩)).toArray 109)).alloc (.cells zs.toArray 129)) b1 b2 b3 b4 b5 b6 b7 rb (List.replicate a Ring.empty) (List.replicate a (0, none)) [] := by
    obtain ⟨e1, e2, e3, e4, e5, e6, e7, e8⟩ := hn
    have s1 : w2.heap.size ≤ x1.heap.size := by
      obtain ⟨_, hb⟩ := R1.out.own
      have := R1.out.own.1
      have e : w2.drew.heap.size = w2.heap.size := rfl
      omega
    have s2 := V2.out.size
    have s3 := V3.out.size
    have s4 := V4.out.size
    have s5 := V5.out.size
    have s6 := V6.out.size
    have s7 := V7.out.size
    refine ⟨by omega, by omega, by omega, by omega, by omega, by omega, by omega, by rw [World.size_alloc, World.size_alloc]; omega, ?_, ?_, ?_, ?_, ?_, ?_, ?_⟩
    · exact R1.out.keep (fun x _ hx => U1.block x hx id) (fun x hx hF => ⟨by rw [e1]; exact hF, by rw [e2]; exact hx⟩)
    · exact R2.out.keep (fun x _ hx => U2.block x hx id) (fun x hx hF => ⟨by rw [e2]; exact hF, by rw [e3]; exact hx⟩)
    · exact R3.out.keep (fun x _ hx => U3.block x hx id) (fun x hx hF => ⟨by rw [e3]; exact hF, by rw [e4]; exact hx⟩)
    · exact R4.out.keep (fun x _ hx => U4.block x hx id) (fun x hx hF => ⟨by rw [e4]; exact hF, by rw [e5]; exact hx⟩)
    · exact R5.out.keep (fun x _ hx => U5.block x hx id) (fun x hx hF => ⟨by rw [e5]; exact hF, by rw [e6]; exact hx⟩)
    · exact R6.out.keep (fun x _ hx => U6.block x hx id) (fun x hx hF => ⟨by rw [e6]; exact hF, by rw [e7]; exact hx⟩)
    · exact R7.out.keep (fun x _ hx => U7.block x hx id) (fun x hx hF => ⟨by rw [e7]; exact hF, by rw [e8]; exact hx⟩)
  have hB : Blk ((x7.alloc (.cells (mcells ⟨b1, .slice av nv cv, .slice none 0 0, .slice none 0 0, .slice (some ⟨x7.heap.size + 1, 0, none⟩) a a, b2, b3, b4, b5, b6, b7⟩ ⟨p, ⟨a, b, c⟩⟩ [] (St.init ⟨p, ⟨a, b, c⟩⟩)).toArray 109)).alloc (.cells zs.toArray 129)) x7.heap.size _ _ := (Blk.new _ _ _).alloc _
  have hZ : Blk ((x7.alloc (.cells (mcells ⟨b1, .slice av nv cv, .slice none 0 0, .slice none 0 0, .slice (some ⟨x7.heap.size + 1, 0, none⟩) a a, b2, b3, b4, b5, b6, b7⟩ ⟨p, ⟨a, b, c⟩⟩ [] (St.init ⟨p, ⟨a, b, c⟩⟩)).toArray 109)).alloc (.cells zs.toArray 129)) (x7.heap.size + 1) zs 129 := by
    have := Blk.new (x7.alloc (.cells (mcells ⟨b1, .slice av nv cv, .slice none 0 0, .slice none 0 0, .slice (some ⟨x7.heap.size + 1, 0, none⟩) a a, b2, b3, b4, b5, b6, b7⟩ ⟨p, ⟨a, b, c⟩⟩ [] (St.init ⟨p, ⟨a, b, c⟩⟩)).toArray 109)) zs 129
    rw [World.size_alloc] at this
    exact this
  have HZ := Lib.hid hZ
  have HST := Lib.hid hst
  have HM := Lib.hid hB
  have HU8 := Lib.hid (HU2.out.trans (HU.out.trans U7))
  have HB38 := Lib.hid ((HU.out.trans U7).blk HB3.out (fun x => x))
  have hB3x := HU.out.blk HB3.out (fun x => x)
  have cx : x7.cell? ⟨w.heap.size + 1, 0, none⟩ = some (natV a) := hB3x.cell 0
  have cz : w.heap.size + 1 < x7.heap.size := hB3x.lt
  have cz2 : w.heap.size < x7.heap.size := by omega
  have Hn := Lib.hid (And.intro hn (HU2.out.size))
  clear U1 U2 U3 U4 U5 U6 U7 R1 R2 R3 R4 R5 R6 R7 V2 V3 V4 V5 V6 V7 hst hB hZ hn hB3x cp ca cb cc Bf2 Bz2 Bf3 Bz3
  have f1 : IntKind.i64.wrap ((a : Int) - 1) = ((a - 1 : Nat) : Int) := by rw [IntWalk.i64_in _ (by omega)]; omega
  go_wp2_with fail
  have hN : NewSt n x7 b1 b2 b3 b4 b5 b6 b7 rb [] [] [] → True := fun _ => trivial
  clear hN
  obtain ⟨m, hm⟩ : ∃ m, m = x7.heap.size := ⟨_, rfl⟩
  have hn8 : n 8 = m := by rw [hm]; exact Hn.out.1.2.2.2.2.2.2.2
  have Hmc := Lib.hid (rfl : mcells ⟨b1, .slice av nv cv, .slice none 0 0, .slice none 0 0, .slice (some ⟨x7.heap.size + 1, 0, none⟩) a a, b2, b3, b4, b5, b6, b7⟩ ⟨p, ⟨a, b, c⟩⟩ [] (St.init ⟨p, ⟨a, b, c⟩⟩) = mcells ⟨b1, .slice av nv cv, .slice none 0 0, .slice none 0 0, .slice (some ⟨x7.heap.size + 1, 0, none⟩) a a, b2, b3, b4, b5, b6, b7⟩ ⟨p, ⟨a, b, c⟩⟩ [] (St.init ⟨p, ⟨a, b, c⟩⟩))
  go_loopg [11] (a - 1) (fun k x wr => x = natV k ∧ k ≤ a - 1 ∧ Hid (NewSt n wr b1 b2 b3 b4 b5 b6 b7 rb (List.replicate a Ring.empty) (List.replicate a (0, none)) (List.range' (k + 1) (a - 1 - k)) ∧
      Blk wr x7.heap.size (mcells ⟨b1, .slice av nv cv, .slice none 0 0, .slice none 0 0, .slice (some ⟨x7.heap.size + 1, 0, none⟩) a a, b2, b3, b4, b5, b6, b7⟩ ⟨p, ⟨a, b, c⟩⟩ [] (St.init ⟨p, ⟨a, b, c⟩⟩)) 109 ∧ Blk wr (x7.heap.size + 1) zs 129 ∧ Upd0 w wr))
  case atStart => exact ⟨rfl, Nat.le_refl _, Lib.hid ⟨by rw [Nat.sub_self]; exact HST.out, HM.out, HZ.out, HU8.out⟩⟩
  case round =>
    obtain ⟨rfl, hk, HJ⟩ := hrel
    have B := HJ.out.2.1
    have d11 : wr.cell? ⟨x7.heap.size, 11, none⟩ = some (ptrV b5) := B.cell 11
    have bz := B.lt
    have bf := B.free
    clear B
    by_cases h0 : 0 < gk
    · go_wp2_with fail
      refine (idlePut_c (i := gk) HJ.out.1.idleP (by omega) (by simp [List.mem_range']; omega)).mono ?_
      rintro e y ⟨rfl, hu, hr⟩
      have hno : ¬ In n 5 x7.heap.size := by
        have a6 := HJ.out.1.n6
        have a7 := HJ.out.1.n7
        intro q
        have := q.2
        simp only [Nat.reduceAdd] at this
        omega
      have hno2 : ¬ In n 5 (x7.heap.size + 1) := by
        have a6 := HJ.out.1.n6
        have a7 := HJ.out.1.n7
        intro q
        have := q.2
        simp only [Nat.reduceAdd] at this
        omega
      have HJ2 : Hid (NewSt n y b1 b2 b3 b4 b5 b6 b7 rb (List.replicate a Ring.empty) (List.replicate a (0, none)) (List.range' (gk - 1 + 1) (a - 1 - (gk - 1))) ∧
          Blk y x7.heap.size (mcells ⟨b1, .slice av nv cv, .slice none 0 0, .slice none 0 0, .slice (some ⟨x7.heap.size + 1, 0, none⟩) a a, b2, b3, b4, b5, b6, b7⟩ ⟨p, ⟨a, b, c⟩⟩ [] (St.init ⟨p, ⟨a, b, c⟩⟩)) 109 ∧ Blk y (x7.heap.size + 1) zs 129 ∧ Upd0 w y) := Lib.hid (by
        have e : List.range' (gk - 1 + 1) (a - 1 - (gk - 1)) = gk :: List.range' (gk + 1) (a - 1 - gk) := by
          rw [show gk - 1 + 1 = gk by omega, show a - 1 - (gk - 1) = (a - 1 - gk) + 1 by omega, List.range'_succ]
        rw [e]
        refine ⟨HJ.out.1.set5 hu hr, hu.blk HJ.out.2.1 hno, hu.blk HJ.out.2.2.1 hno2, HJ.out.2.2.2.trans' (hu.mono fun x _ q => .inr ?_)⟩
        have q1 := q.1
        have := Hn.out.2
        have := Hn.out.1.1
        have a1 := HJ.out.1.n1
        have a2 := HJ.out.1.n2
        have a3 := HJ.out.1.n3
        have a4 := HJ.out.1.n4
        omega)
      have f2 : IntKind.i64.wrap ((gk : Int) - 1) = ((gk - 1 : Nat) : Int) := by rw [IntWalk.i64_in _ (by omega)]; omega
      clear hu hr d11 bz bf
      go_wp2
      go_roundg (gk - 1)
      case measure => omega
      case rel => exact ⟨rfl, by omega, HJ2⟩
    · have hk0 : gk = 0 := by omega
      subst hk0
      have d8 : wr.cell? ⟨x7.heap.size, 8, none⟩ = some (ptrV b2) := HJ.out.2.1.cell 8
      go_wp2_with fail
      refine (statTake_c (p := 0) (m := 0) HJ.out.1.stat (by rw [List.length_replicate]; omega) (by decide)).mono ?_
      rintro e y ⟨⟨f, rfl⟩, hu, hr⟩
      have hno : ¬ In n 2 x7.heap.size ∧ ¬ In n 2 (x7.heap.size + 1) := by
        have a3 := HJ.out.1.n3
        have a4 := HJ.out.1.n4
        have a5 := HJ.out.1.n5
        have a6 := HJ.out.1.n6
        have a7 := HJ.out.1.n7
        constructor <;> intro q <;> have := q.2 <;> simp only [Nat.reduceAdd] at this <;> omega
      have HY : Hid (NewSt n y b1 b2 b3 b4 b5 b6 b7 rb (List.replicate a Ring.empty) (statTake (List.replicate a (0, none)) 0 0) (List.range' (0 + 1) (a - 1 - 0)) ∧
          Blk y x7.heap.size (mcells ⟨b1, .slice av nv cv, .slice none 0 0, .slice none 0 0, .slice (some ⟨x7.heap.size + 1, 0, none⟩) a a, b2, b3, b4, b5, b6, b7⟩ ⟨p, ⟨a, b, c⟩⟩ [] (St.init ⟨p, ⟨a, b, c⟩⟩)) 109 ∧ Blk y (x7.heap.size + 1) zs 129 ∧ Upd0 w y) := Lib.hid (by
        refine ⟨HJ.out.1.set2 hu hr, hu.blk HJ.out.2.1 hno.1, hu.blk HJ.out.2.2.1 hno.2, HJ.out.2.2.2.trans' (hu.mono fun x _ q => .inr ?_)⟩
        have q1 := q.1
        have := Hn.out.2
        have := Hn.out.1.1
        have a1 := HJ.out.1.n1
        omega)
      clear hu hr d11 d8 bz bf HJ
      have bz := HY.out.2.1.lt
      have bf := HY.out.2.1.free
      have d6 : y.cell? ⟨x7.heap.size, 6, none⟩ = some (.slice none 0 0) := HY.out.2.1.cell 6
      have d0 : y.cell? ⟨x7.heap.size, 0, none⟩ = some (ptrV b1) := HY.out.2.1.cell 0
      have uz : Upd (· = x7.heap.size) y (((y.setCell ⟨x7.heap.size, 6, none⟩ (.slice (some ⟨y.heap.size + 1, 0, none⟩) 1 1)).alloc (.cells [natV 0, intV 0, .pointer none, natV 1, .bool false, natV 0, natV 0, natV 0].toArray 113)).alloc (.cells [ptrV y.heap.size].toArray 111)) := (((Upd.refl _ _).setb _ _).alloc _).alloc _
      have hz : Hid (NewSt n (((y.setCell ⟨x7.heap.size, 6, none⟩ (.slice (some ⟨y.heap.size + 1, 0, none⟩) 1 1)).alloc (.cells [natV 0, intV 0, .pointer none, natV 1, .bool false, natV 0, natV 0, natV 0].toArray 113)).alloc (.cells [ptrV y.heap.size].toArray 111)) b1 b2 b3 b4 b5 b6 b7 rb (List.replicate a Ring.empty) (statTake (List.replicate a (0, none)) 0 0) (List.range' 1 (a - 1)) ∧
          Blk (((y.setCell ⟨x7.heap.size, 6, none⟩ (.slice (some ⟨y.heap.size + 1, 0, none⟩) 1 1)).alloc (.cells [natV 0, intV 0, .pointer none, natV 1, .bool false, natV 0, natV 0, natV 0].toArray 113)).alloc (.cells [ptrV y.heap.size].toArray 111)) x7.heap.size (mcells ⟨b1, .slice av nv cv, .slice none 0 0, .slice (some ⟨y.heap.size + 1, 0, none⟩) 1 1, .slice (some ⟨x7.heap.size + 1, 0, none⟩) a a, b2, b3, b4, b5, b6, b7⟩ ⟨p, ⟨a, b, c⟩⟩ [] (St.init ⟨p, ⟨a, b, c⟩⟩)) 109 ∧ Blk (((y.setCell ⟨x7.heap.size, 6, none⟩ (.slice (some ⟨y.heap.size + 1, 0, none⟩) 1 1)).alloc (.cells [natV 0, intV 0, .pointer none, natV 1, .bool false, natV 0, natV 0, natV 0].toArray 113)).alloc (.cells [ptrV y.heap.size].toArray 111)) (x7.heap.size + 1) zs 129 ∧ Blk (((y.setCell ⟨x7.heap.size, 6, none⟩ (.slice (some ⟨y.heap.size + 1, 0, none⟩) 1 1)).alloc (.cells [natV 0, intV 0, .pointer none, natV 1, .bool false, natV 0, natV 0, natV 0].toArray 113)).alloc (.cells [ptrV y.heap.size].toArray 111)) y.heap.size [natV 0, intV 0, .pointer none, natV 1, .bool false, natV 0, natV 0, natV 0] 113 ∧ Blk (((y.setCell ⟨x7.heap.size, 6, none⟩ (.slice (some ⟨y.heap.size + 1, 0, none⟩) 1 1)).alloc (.cells [natV 0, intV 0, .pointer none, natV 1, .bool false, natV 0, natV 0, natV 0].toArray 113)).alloc (.cells [ptrV y.heap.size].toArray 111)) (y.heap.size + 1) [ptrV y.heap.size] 111 ∧ Upd0 w (((y.setCell ⟨x7.heap.size, 6, none⟩ (.slice (some ⟨y.heap.size + 1, 0, none⟩) 1 1)).alloc (.cells [natV 0, intV 0, .pointer none, natV 1, .bool false, natV 0, natV 0, natV 0].toArray 113)).alloc (.cells [ptrV y.heap.size].toArray 111))) := Lib.hid (by
        refine ⟨HY.out.1.set0 uz (fun x _ q => by have e : x = x7.heap.size := q; omega), ?_, uz.blk HY.out.2.2.1 (fun q => by have e : x7.heap.size + 1 = x7.heap.size := q; omega), ?_, ?_, ?_⟩
        · exact ((HY.out.2.1.set 6 (.slice (some ⟨y.heap.size + 1, 0, none⟩) 1 1)).alloc _).alloc _
        · have := (Blk.new (y.setCell ⟨x7.heap.size, 6, none⟩ (.slice (some ⟨y.heap.size + 1, 0, none⟩) 1 1)) [natV 0, intV 0, .pointer none, natV 1, .bool false, natV 0, natV 0, natV 0] 113).alloc (.cells [ptrV y.heap.size].toArray 111)
          rw [World.size_setCell] at this
          exact this
        · have := Blk.new ((y.setCell ⟨x7.heap.size, 6, none⟩ (.slice (some ⟨y.heap.size + 1, 0, none⟩) 1 1)).alloc (.cells [natV 0, intV 0, .pointer none, natV 1, .bool false, natV 0, natV 0, natV 0].toArray 113)) [ptrV y.heap.size] 111
          rw [World.size_alloc, World.size_setCell] at this
          exact this
        · have := HU8.out.size
          have hz8 := cz
          exact HY.out.2.2.2.trans' (uz.mono fun x _ q => .inr (by have e : x = x7.heap.size := q; have := Hn.out.2; have := Hn.out.1.1; have a1 := HY.out.1.n1; have a2 := HY.out.1.n2; have a3 := HY.out.1.n3; have a4 := HY.out.1.n4; have a5 := HY.out.1.n5; have a6 := HY.out.1.n6; have a7 := HY.out.1.n7; omega)))
      clear uz
      go_wp2_with fail
      have hrl := hz.out.1.procs.len
      rw [List.length_replicate] at hrl
      obtain ⟨c0, hc0⟩ : ∃ c0, rb[0]? = some c0 := ⟨_, List.getElem?_eq_getElem (by omega)⟩
      refine (procsRing_c (p := 0) hz.out.1.procs hc0).mono ?_
      rintro e y2 ⟨rfl, hu⟩
      have hz2 : Hid (NewSt n y2 b1 b2 b3 b4 b5 b6 b7 rb (List.replicate a Ring.empty) (statTake (List.replicate a (0, none)) 0 0) (List.range' 1 (a - 1)) ∧
          Blk y2 x7.heap.size (mcells ⟨b1, .slice av nv cv, .slice none 0 0, .slice (some ⟨y.heap.size + 1, 0, none⟩) 1 1, .slice (some ⟨x7.heap.size + 1, 0, none⟩) a a, b2, b3, b4, b5, b6, b7⟩ ⟨p, ⟨a, b, c⟩⟩ [] (St.init ⟨p, ⟨a, b, c⟩⟩)) 109 ∧ Blk y2 (x7.heap.size + 1) zs 129 ∧ Blk y2 y.heap.size [natV 0, intV 0, .pointer none, natV 1, .bool false, natV 0, natV 0, natV 0] 113 ∧ Blk y2 (y.heap.size + 1) [ptrV y.heap.size] 111 ∧ Upd0 w y2) :=
        Lib.hid ⟨hz.out.1.set0 hu (fun x _ q => q.elim), hu.blk hz.out.2.1 id, hu.blk hz.out.2.2.1 id, hu.blk hz.out.2.2.2.1 id, hu.blk hz.out.2.2.2.2.1 id, hz.out.2.2.2.2.2.trans hu⟩
      clear hu hz bz bf d6 d0 hrl
      go_wp2_with fail
      refine (born_c (F := fun _ => False) (gb := []) (c := ⟨b1, .slice av nv cv, ⟨a, b, c⟩, .slice none 0 0, .slice (some ⟨y.heap.size + 1, 0, none⟩) 1 1, .slice (some ⟨x7.heap.size + 1, 0, none⟩) a a, b2, b3, b4, b5, b6, b7, ⟨0, 0, 0⟩, 0, false, 0, .pointer none, ⟨0, 0, 0, 0, 0⟩, false⟩) hz2.out.2.1 (Row.nil _ _ _ _) id (by decide) 0 0).mono ?_
      rintro e y3 ⟨g, rfl, hg, hu, hgb, v, hmb, hrow⟩
      have hz3 := hz2.out.1.set0 hu (fun x _ q => by
        rcases q with q | q
        · exact q.elim
        · omega)
      have hUf : Upd0 w y3 := hz2.out.2.2.2.2.2.trans' (hu.mono fun x _ q => .inr (by
        rcases q with q | q
        · exact q.elim
        · omega))
      obtain ⟨Fp, hr0, hsub, hback⟩ := hz3.procs.ring (p := 0) (r := Ring.empty) hc0 (by rw [List.getElem?_replicate, if_pos (by omega)])
      have Hgb := Lib.hid hgb
      have g0 : y3.cell? ⟨g, 0, none⟩ = some (intV 1) := hgb.cell 0
      have gz := hgb.lt
      have HZ3 := Lib.hid hz3
      have HUf := Lib.hid hUf
      have HR0 := Lib.hid hr0
      have HS := Lib.hid hsub
      have hlow : ∀ x, In n 1 x → w.heap.size ≤ x := fun x q => by
        have q1 := q.1
        have := Hn.out.2
        have := Hn.out.1.1
        omega
      have HL := Lib.hid hlow
      clear hu hgb hz3 hUf hr0 hsub hback hmb hrow hlow
      go_wp2_with fail
      refine (ringPut_c (n := 1) (first := false) HR0.out (by decide) (by decide)).mono ?_
      rintro e y4 ⟨rfl, hr4, hu⟩
      have HU9 := Lib.hid (HUf.out.trans' (hu.mono fun x _ q => .inr (HL.out x (HS.out x q))))
      clear hu hr4
      go_wp2
      go_ret2
      exact ⟨_, rfl, HU9.out⟩
end Go.Proofs.YtlljmbkfeemgfaaGreatDoor.Wk
