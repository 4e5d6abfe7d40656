/- valid: which programs may run. -/
import Derived.Test.YtlljmbkfeemgfaaGreatDoorNum
import Derived.Test.YtlljmbkfeemgfaaGreatDoorPrg
namespace Go.Proofs.YtlljmbkfeemgfaaGreatDoor.Wk
open Go Go.RowKit Esc
abbrev FnM (w : World) (F : Nat → Prop) (c s : Value) (f : FnD) : Prop := FnAt w F 83 4 c s f
abbrev ProgM (w : World) (F : Nat → Prop) (v : Value) (p : Prog) : Prop := ProgAt w F 86 83 4 v p

theorem safe_c {w : World} {F : Nat → Prop} {c s : Value} {f : FnD} (h : FnM w F c s f) (pc : Nat) :
    Calls Tryz.prog 170 #[.agg #[c, s], .int .i64 pc] w fun e w' => e = .returned (.bool (safeAt f pc)) ∧ Upd0 w w' := by
  have hm := h.safe.le_max
  unfold maxLen at hm
  by_cases hpc : pc < f.safe.length
  · obtain ⟨g, off, cap, rfl, hc, hg, hcell⟩ := h.truth hpc
    clear h
    go_enter Tryz.func170, Tryz.ntmps170
    go_wp2
    go_ret
    exact ⟨rfl, ((Upd.refl _ _).alloc _)⟩
  · have e : safeAt f pc = false := by simp [safeAt, List.getD]; rw [List.getElem?_eq_none (by omega)]; rfl
    rw [e]
    obtain ⟨a, cap, rfl, _⟩ := h.safe.val
    clear h e
    go_enter Tryz.func170, Tryz.ntmps170
    go_wp2
    go_ret
    exact ⟨rfl, ((Upd.refl _ _).alloc _)⟩

theorem place_c {w : World} {F : Nat → Prop} {c s : Value} {f : FnD} (h : FnM w F c s f) (pc funcs : Nat) (hpc : pc < f.code.length) (hT : Tab w) :
    Calls Tryz.prog 124 #[.agg #[c, s], .int .i64 pc, .int .i64 funcs] w fun e w' => e = .returned (.int .i64 (placeFault f pc funcs)) ∧ Upd0 w w' := by
  have hm := h.code.le_max
  unfold maxLen at hm
  obtain ⟨g, off, cap, rfl, hc, hg, c0, c1, c2, c3, c4⟩ := h.instr hpc
  generalize hi : f.code.getD pc default = i at *
  have hp : placeFault f pc funcs = if checkInstr i f.code.length funcs ≠ 0 then checkInstr i f.code.length funcs
    else if waitsOp i.op = true ∧ (safeAt f pc = false ∨ safeAt f (pc + 1) = false) then 10 else 0 := by simp only [placeFault, hi]; simp
  generalize placeFault f pc funcs = res at *
  generalize hch : checkInstr i f.code.length funcs = ch at *
  have Hp := Lib.hid hp
  have Hch := Lib.hid hch
  have Hf := Lib.hid h
  clear hi hp h hch
  go_enter Tryz.func124, Tryz.ntmps124
  go_wp2_with fail
  refine (check_c _ _ _ _ _ _ _ _ (hT.upd (((Upd.refl (fun _ => False) _).alloc _).alloc _) (fun x => x))).mono ?_
  rintro e w1 ⟨rfl, hu⟩
  rw [show (⟨i.op, i.a, i.b, i.c, i.n⟩ : Instr) = i from rfl, Hch.out]
  have hT1 : Tab w1 := hT.upd hu.pre.pre (fun x => x)
  have B0 := hu.blk ((Blk.new w [.slice (some ⟨g, off, none⟩) f.code.length cap, s] 86).alloc _) (fun x => x)
  have B1 := Upd0.new hu
  have hz : w.heap.size + 1 < w1.heap.size := by have := hu.size; simp at this; omega
  simp only [World.size_alloc] at B1
  have B0c := B0.cell
  have B1c := B1.cell
  clear c0 c1 c2 c3 c4
  have HU := Lib.hid hu
  have Hf1 := Lib.hid (Hf.out.upd0 hu.pre.pre)
  clear hu
  by_cases h0 : ch = 0
  · subst h0
    by_cases hw : waitsOp i.op = true
    · go_wp2_with fail
      refine (waits_c _ _ hT1).mono ?_
      rintro e w2 ⟨rfl, hu2⟩
      have B0' := hu2.blk B0 (fun x => x)
      have B0c' := B0'.cell
      have hz' := hu2.size
      have Hf2 := Lib.hid (Hf1.out.upd0 hu2)
      have HU2 := Lib.hid (HU.out.pre.pre.trans hu2)
      clear hu2
      go_wp2_with fail
      refine (safe_c Hf2.out pc).mono ?_
      rintro e w3 ⟨rfl, hu3⟩
      have B0'' := hu3.blk B0' (fun x => x)
      have B0c'' := B0''.cell
      have hz'' := hu3.size
      have Hf3 := Lib.hid (Hf2.out.upd0 hu3)
      have HU3 := Lib.hid (HU2.out.trans hu3)
      clear hu3
      by_cases hs : safeAt f pc = true
      · go_wp2_with fail
        refine (safe_c Hf3.out (pc + 1)).mono ?_
        rintro e w4 ⟨rfl, hu4⟩
        have HU4 := Lib.hid (HU3.out.trans hu4)
        clear hu4
        by_cases hs' : safeAt f (pc + 1) = true
        · have e : res = 0 := by rw [Hp.out]; simp [hs, hs']
          subst e
          go_wp2
          go_ret
          exact ⟨rfl, HU4.out⟩
        · have hs'' : safeAt f (pc + 1) = false := by simpa using hs'
          have e : res = 10 := by rw [Hp.out]; simp [hs'', hw]
          subst e
          go_wp2
          go_ret
          exact ⟨rfl, HU4.out⟩
      · have hs'' : safeAt f pc = false := by simpa using hs
        have e : res = 10 := by rw [Hp.out]; simp [hs'', hw]
        subst e
        go_wp2
        go_ret
        exact ⟨rfl, HU3.out⟩
    · have hw' : waitsOp i.op = false := by simpa using hw
      have e : res = 0 := by rw [Hp.out]; simp [hw']
      subst e
      go_wp2_with fail
      refine (waits_c _ _ hT1).mono ?_
      rintro e w2 ⟨rfl, hu2⟩
      have HU2 := Lib.hid (HU.out.pre.pre.trans hu2)
      clear hu2
      go_wp2
      go_ret
      exact ⟨rfl, HU2.out⟩
  · have e : res = ch := by rw [Hp.out]; simp [h0]
    have hne : ((ch : Int) == 0) = false := by simp; omega
    have hne' : ((ch : Int) != 0) = true := by simp; omega
    subst e
    go_wp2
    go_ret
    exact ⟨rfl, HU.out.pre.pre⟩

theorem firstBad_skip (f : FnD) (funcs : Nat) : ∀ (j n : Nat), (∀ i, i < j → placeFault f i funcs = 0) → firstBad f funcs (j + n) 0 = firstBad f funcs n j := by
  have go : ∀ (j n k : Nat), (∀ i, i < j → placeFault f (k + i) funcs = 0) → firstBad f funcs (j + n) k = firstBad f funcs n (k + j) := by
    intro j
    induction j with
    | zero => intro n k _; simp
    | succ j ih =>
      intro n k h
      rw [show j + 1 + n = (j + n) + 1 by omega]
      simp only [firstBad]
      have h0 := h 0 (by omega)
      simp only [Nat.add_zero] at h0
      rw [if_neg (by simp [h0])]
      rw [ih n (k + 1) (fun i hi => by have := h (i + 1) (by omega); rwa [show k + (i + 1) = k + 1 + i by omega] at this)]
      congr 1; omega
  intro j n h
  have := go j n 0 (by simpa using h)
  simpa using this

theorem fn_c {w : World} {F : Nat → Prop} {c s : Value} {f : FnD} (h : FnM w F c s f) (funcs : Nat) (hT : Tab w) :
    Calls Tryz.prog 88 #[.agg #[c, s], .int .i64 funcs] w fun e w' => e = .returned (.tuple #[.int .i64 (fnFault f funcs).1, .int .i64 (fnFault f funcs).2]) ∧ Upd0 w w' := by
  have hm := h.code.le_max
  have hm2 := h.safe.le_max
  unfold maxLen at hm hm2
  generalize hres : fnFault f funcs = res at *
  by_cases h0 : f.code.length = 0
  · obtain rfl : res = (-1, 6) := by rw [← hres]; simp [fnFault, h0]
    clear hres
    obtain ⟨a, cap, rfl, _⟩ := h.code.val
    rw [h0]
    clear h h0
    go_enter Tryz.func88, Tryz.ntmps88
    go_wp2
    go_step3
    go_wp2
    (try rw [Exit.noGoto_ret])
    go_ret2
    exact ⟨rfl, (Upd.refl _ _).alloc _⟩
  · obtain ⟨g, off, cap, rfl, hF, hc, hg⟩ := h.code.shape h0
    have h0' : ((f.code.length : Int) == 0) = false := by rw [beq_eq_false_iff_ne]; omega
    obtain ⟨a2, cap2, rfl, hc2⟩ := h.safe.val
    by_cases h64 : 64 < f.code.length
    · obtain rfl : res = (-1, 5) := by rw [← hres]; simp [fnFault, h0, h64]
      clear hres h
      go_enter Tryz.func88, Tryz.ntmps88
      go_wp2
      go_step3
      go_wp2
      (try rw [Exit.noGoto_ret])
      go_ret2
      exact ⟨rfl, (Upd.refl _ _).alloc _⟩
    by_cases hne : f.code.length = f.safe.length
    · have hne' : ((f.code.length : Int) != (f.safe.length : Int)) = false := by simp; omega
      have Hf := Lib.hid h
      have Hne := Lib.hid hne
      have Hres := Lib.hid hres
      clear h hne hres
      go_enter Tryz.func88, Tryz.ntmps88
      go_wp2_with fail
      go_step3
      go_wp2_with fail
      go_step3
      go_wp2_with fail
      have Bx : Blk (w.alloc (.cells [.slice (some ⟨g, off, none⟩) f.code.length cap, .slice a2 f.safe.length cap2].toArray 86)) w.heap.size [.slice (some ⟨g, off, none⟩) f.code.length cap, .slice a2 f.safe.length cap2] 86 := Blk.new _ _ _
      have Ux : Upd0 w (w.alloc (.cells [.slice (some ⟨g, off, none⟩) f.code.length cap, .slice a2 f.safe.length cap2].toArray 86)) := (Upd.refl _ _).alloc _
      go_loopg [28] f.code.length (fun k i wr => ∃ j : Nat, j + k = f.code.length ∧ i = .int .i64 j ∧ Hid (Upd0 w wr ∧ Blk wr w.heap.size [.slice (some ⟨g, off, none⟩) f.code.length cap, .slice a2 f.safe.length cap2] 86 ∧ ∀ i, i < j → placeFault f i funcs = 0))
      case atStart => exact ⟨0, by omega, rfl, Lib.hid ⟨Ux, Bx, fun i hi => by omega⟩⟩
      case round =>
        obtain ⟨j, hj, rfl, HI⟩ := hrel
        clear Bx Ux
        have Bc := HI.out.2.1.cell
        have Bz := HI.out.2.1.lt
        by_cases hlt : j < f.code.length
        · have hne3 : ((gk : Int) = 0) = False := by simp; omega
          clear hne3
          have hj2 : gk ≤ f.code.length := by omega
          have Hj := Lib.hid hj
          clear hj
          go_wp2_with fail
          refine (place_c (Hf.out.upd0 HI.out.1) j funcs hlt (hT.upd HI.out.1 (fun x => x))).mono ?_
          rintro e w2 ⟨rfl, hu⟩
          by_cases hp : placeFault f j funcs = 0
          · have HI2 : Hid (Upd0 w w2 ∧ Blk w2 w.heap.size [.slice (some ⟨g, off, none⟩) f.code.length cap, .slice a2 f.safe.length cap2] 86 ∧ ∀ i, i < j + 1 → placeFault f i funcs = 0) :=
              Lib.hid ⟨HI.out.1.trans hu, hu.blk HI.out.2.1 (fun x => x), fun i hi => by
                by_cases e : i = j
                · rw [e]; exact hp
                · exact HI.out.2.2 i (by omega)⟩
            rw [hp]
            clear hp hu Bc
            go_wp2
            go_roundg (gk - 1)
            case measure => have := Hj.out; omega
            case rel => exact ⟨j + 1, by have := Hj.out; omega, by go_num, HI2⟩
          · have hb : ((placeFault f j funcs : Nat) : Int) ≠ 0 := by omega
            have hb' : (((placeFault f j funcs : Nat) : Int) == 0) = false := by rw [beq_eq_false_iff_ne]; exact hb
            have hr2 : res = (((j : Nat) : Int), placeFault f j funcs) := by
              rw [← Hres.out]
              have e1 := firstBad_skip f funcs j gk HI.out.2.2
              have e2 : firstBad f funcs gk j = some (j, placeFault f j funcs) := by
                obtain ⟨k', rfl⟩ : ∃ k', gk = k' + 1 := ⟨gk - 1, by have := Hj.out; omega⟩
                simp [firstBad, hp]
              have e3 : f.code.length = j + gk := Hj.out.symm
              simp only [fnFault]
              rw [if_neg h0, if_neg h64, if_neg (by simp [Hne.out])]
              rw [e3, e1, e2]
            subst hr2
            have HU2 := Lib.hid (HI.out.1.trans hu)
            clear hu hb hp
            go_wp2
            (try rw [Exit.noGoto_ret])
            go_ret2
            exact ⟨rfl, HU2.out⟩
        · have hnone : firstBad f funcs f.code.length 0 = none := by
            have e1 := firstBad_skip f funcs j 0 HI.out.2.2
            have e3 : f.code.length = j + 0 := by omega
            rw [e3, e1]; rfl
          obtain ⟨L, hL⟩ : ∃ L, f.code.length = L + 1 := ⟨f.code.length - 1, by omega⟩
          have hLlt : L < f.code.length := by omega
          obtain ⟨g', off', cap', hv, _, hg', c0, _⟩ := (Hf.out.upd0 HI.out.1).instr hLlt
          injection hv with hv1 hv2 hv3
          injection hv1 with hv1
          injection hv1 with hv4 hv5
          subst hv4 hv5
          clear hv2 hv3
          have e1 : ((f.code.length : Int) - 1) = (L : Int) := by omega
          have hr2 : res = if endsOp (f.code.getD L default).op = false then ((L : Int), 11) else (-1, 0) := by
            rw [← Hres.out]
            simp only [fnFault]
            rw [if_neg h0, if_neg h64, if_neg (by simp [Hne.out]), hnone]
            rw [show f.code.length - 1 = L by omega]
            simp
            split <;> simp_all <;> omega
          have Hr2 := Lib.hid hr2
          have HL := Lib.hid hL
          generalize (f.code.getD L default).op = opL at *
          have hT' : Tab wr := hT.upd HI.out.1 (fun x => x)
          clear hr2 hL hnone
          go_wp2_with fail
          refine (ends_c _ _ hT').mono ?_
          rintro e w2 ⟨rfl, hu⟩
          have HU2 := Lib.hid (HI.out.1.trans hu)
          by_cases he : endsOp opL = true
          · obtain rfl : res = (-1, 0) := by rw [Hr2.out]; simp [he]
            clear hu
            go_wp2
            (try rw [Exit.noGoto_ret])
            go_ret2
            exact ⟨rfl, HU2.out⟩
          · have he' : endsOp opL = false := by simpa using he
            obtain rfl : res = ((L : Int), 11) := by rw [Hr2.out]; simp [he']
            clear hu
            go_wp2
            (try rw [Exit.noGoto_ret])
            go_ret2
            exact ⟨rfl, HU2.out⟩
    · have hne' : ((f.code.length : Int) != (f.safe.length : Int)) = true := by simp; omega
      obtain rfl : res = (-1, 9) := by rw [← hres]; simp [fnFault, h0, h64, hne]
      clear h hres
      go_enter Tryz.func88, Tryz.ntmps88
      go_wp2
      go_step3
      go_wp2
      (try rw [Exit.noGoto_ret])
      go_ret2
      exact ⟨rfl, (Upd.refl _ _).alloc _⟩

def outB (n most : Int) : Bool := decide (n < 1) || decide (most < n)
theorem out_c (n most : Int) (w : World) : Calls Tryz.prog 89 #[.int .i64 n, .int .i64 most] w fun e w' => e = .returned (.bool (outB n most)) ∧ w = w' := by
  by_cases h : n < 1
  · have e : outB n most = true := by simp [outB, h]
    rw [e]; clear e
    go_enter Tryz.func89, Tryz.ntmps89
    go_wp2
    go_ret
    exact ⟨rfl, rfl⟩
  · by_cases h2 : most < n
    · have e : outB n most = true := by simp [outB, h2]
      rw [e]; clear e
      go_enter Tryz.func89, Tryz.ntmps89
      go_wp2
      go_ret
      exact ⟨rfl, rfl⟩
    · have e : outB n most = false := by simp [outB]; omega
      rw [e]; clear e
      go_enter Tryz.func89, Tryz.ntmps89
      go_wp2
      go_ret
      exact ⟨rfl, rfl⟩
set_option maxHeartbeats 2000000 in
theorem conf_c (w : World) (a b c : Int) : Calls Tryz.prog 45 #[.agg #[.int .i64 a, .int .i64 b, .int .i64 c]] w fun e w' => e = .returned (.int .i64 (confFault ⟨a, b, c⟩)) ∧ Upd0 w w' := by
  have e : confFault ⟨a, b, c⟩ = if outB a 256 = true ∨ outB b 64 = true ∨ outB c 64 = true then 2 else 0 := by simp [confFault, outB, or_assoc]
  generalize confFault ⟨a, b, c⟩ = res at *
  have He := Lib.hid e
  clear e
  by_cases h1 : outB a 256 = true
  · obtain rfl : res = 2 := by rw [He.out]; simp [h1]
    go_enter Tryz.func45, Tryz.ntmps45
    go_wp2_with fail
    refine (out_c _ _ _).mono ?_
    rintro e w' ⟨rfl, rfl⟩
    rw [h1]
    go_wp2
    go_ret
    exact ⟨rfl, (Upd.refl _ _).alloc _⟩
  have h1' : outB a 256 = false := by simpa using h1
  by_cases h2 : outB b 64 = true
  · obtain rfl : res = 2 := by rw [He.out]; simp [h2]
    go_enter Tryz.func45, Tryz.ntmps45
    go_wp2_with fail
    refine (out_c _ _ _).mono ?_
    rintro e w' ⟨rfl, rfl⟩
    go_wp2_with fail
    refine (out_c _ _ _).mono ?_
    rintro e w' ⟨rfl, rfl⟩
    go_wp2
    go_ret
    exact ⟨rfl, (Upd.refl _ _).alloc _⟩
  have h2' : outB b 64 = false := by simpa using h2
  by_cases h3 : outB c 64 = true
  · obtain rfl : res = 2 := by rw [He.out]; simp [h3]
    go_enter Tryz.func45, Tryz.ntmps45
    go_wp2_with fail
    refine (out_c _ _ _).mono ?_
    rintro e w' ⟨rfl, rfl⟩
    go_wp2_with fail
    refine (out_c _ _ _).mono ?_
    rintro e w' ⟨rfl, rfl⟩
    go_wp2_with fail
    refine (out_c _ _ _).mono ?_
    rintro e w' ⟨rfl, rfl⟩
    go_wp2
    go_ret
    exact ⟨rfl, (Upd.refl _ _).alloc _⟩
  · have h3' : outB c 64 = false := by simpa using h3
    obtain rfl : res = 0 := by rw [He.out]; simp [h1, h2, h3]
    go_enter Tryz.func45, Tryz.ntmps45
    go_wp2_with fail
    refine (out_c _ _ _).mono ?_
    rintro e w' ⟨rfl, rfl⟩
    go_wp2_with fail
    refine (out_c _ _ _).mono ?_
    rintro e w' ⟨rfl, rfl⟩
    go_wp2_with fail
    refine (out_c _ _ _).mono ?_
    rintro e w' ⟨rfl, rfl⟩
    go_wp2
    go_ret
    exact ⟨rfl, (Upd.refl _ _).alloc _⟩

theorem firstFn_skip (funcs : Nat) : ∀ (p : List FnD) (j : Nat), (∀ i, i < j → (fnFault (fnAt p i) funcs).2 = 0) → j ≤ p.length → firstFn funcs p 0 = firstFn funcs (p.drop j) j := by
  have go : ∀ (j : Nat) (p : List FnD) (k : Nat), (∀ i, i < j → (fnFault (fnAt p i) funcs).2 = 0) → j ≤ p.length → firstFn funcs p k = firstFn funcs (p.drop j) (k + j) := by
    intro j
    induction j with
    | zero => intro p k _ _; simp
    | succ j ih =>
      intro p k h hl
      cases p with
      | nil => simp at hl
      | cons f p =>
        have h0 := h 0 (by omega)
        simp [fnAt] at h0
        simp only [firstFn, List.drop_succ_cons]
        rw [if_neg (by simp [h0]), ih p (k + 1) (fun i hi => by have := h (i + 1) (by omega); simpa [fnAt] using this) (by simpa using hl)]
        congr 1; omega
  intro p j h hl
  simpa using go j p 0 h hl

theorem check_prog {w : World} {F : Nat → Prop} {v : Value} {p : Prog} (h : ProgM w F v p) (hT : Tab w) :
    Calls Tryz.prog 44 #[.agg #[v]] w fun e w' => e = .returned (.tuple #[.int .i64 (check p).1, .int .i64 (check p).2.1, .int .i64 (check p).2.2]) ∧ Upd0 w w' := by
  have hm := h.le_max
  unfold maxLen at hm
  generalize hres : check p = res at *
  by_cases h0 : p.length = 0
  · obtain ⟨a, cap, rfl, _⟩ := h.val
    obtain rfl : res = (-1, -1, 6) := by rw [← hres]; simp [check, h0]
    rw [h0]
    clear hres h h0
    go_enter Tryz.func44, Tryz.ntmps44
    go_wp2
    go_ret3
    exact ⟨rfl, (Upd.refl _ _).alloc _⟩
  · obtain ⟨g, off, cap, rfl, hc⟩ := h.shape h0
    have h0' : ((p.length : Int) == 0) = false := by rw [beq_eq_false_iff_ne]; omega
    by_cases h16 : 16 < p.length
    · obtain rfl : res = (-1, -1, 5) := by rw [← hres]; simp [check, h0, h16]
      clear hres h
      go_enter Tryz.func44, Tryz.ntmps44
      go_wp2
      go_ret3
      exact ⟨rfl, (Upd.refl _ _).alloc _⟩
    have Hres := Lib.hid hres
    have Hf := Lib.hid h
    clear hres h
    go_enter Tryz.func44, Tryz.ntmps44
    go_wp2_with fail
    have Bx : Blk (w.alloc (.cells [.slice (some ⟨g, off, none⟩) p.length cap].toArray 24)) w.heap.size [.slice (some ⟨g, off, none⟩) p.length cap] 24 := Blk.new _ _ _
    have Ux : Upd0 w (w.alloc (.cells [.slice (some ⟨g, off, none⟩) p.length cap].toArray 24)) := (Upd.refl _ _).alloc _
    go_loopg [22] p.length (fun k i wr => ∃ j : Nat, j + k = p.length ∧ i = .int .i64 j ∧ Hid (Upd0 w wr ∧ Blk wr w.heap.size [.slice (some ⟨g, off, none⟩) p.length cap] 24 ∧ ∀ i, i < j → (fnFault (fnAt p i) p.length).2 = 0))
    case atStart => exact ⟨0, by omega, rfl, Lib.hid ⟨Ux, Bx, fun i hi => by omega⟩⟩
    case round =>
      obtain ⟨j, hj, rfl, HI⟩ := hrel
      clear Bx Ux
      have Bc := HI.out.2.1.cell
      have Bz := HI.out.2.1.lt
      have hj2 : gk ≤ p.length := by omega
      have Hj := Lib.hid hj
      clear hj
      have hskip := firstFn_skip p.length p j HI.out.2.2 (by have := Hj.out; omega)
      have Hskip := Lib.hid hskip
      clear hskip
      by_cases hlt : j < p.length
      · obtain ⟨g', off', cap', cv, sv, hv, _, hg', c0, c1, hfn⟩ := (Hf.out.upd0 HI.out.1).fn hlt
        injection hv with hv1 hv2 hv3
        injection hv1 with hv1
        injection hv1 with hv4 hv5
        subst hv4 hv5
        clear hv2 hv3
        obtain ⟨a1, n1, k1, rfl⟩ := hfn.code.slice
        obtain ⟨a2, n2, k2, rfl⟩ := hfn.safe.slice
        have Hfn := Lib.hid hfn
        clear hfn
        go_wp2_with fail
        refine (fn_c (Hfn.out.upd0 ((Upd.refl _ _).alloc _)) p.length ((hT.upd HI.out.1 (fun x => x)).upd ((Upd.refl (fun _ => False) _).alloc _) (fun x => x))).mono ?_
        rintro e w2 ⟨rfl, hu⟩
        have hd : p.drop j = fnAt p j :: p.drop (j + 1) := by rw [List.drop_eq_getElem_cons hlt]; simp [fnAt, List.getD, hlt]
        by_cases hp : (fnFault (fnAt p j) p.length).2 = 0
        · have HI2 : Hid (Upd0 w w2 ∧ Blk w2 w.heap.size [.slice (some ⟨g, off, none⟩) p.length cap] 24 ∧ ∀ i, i < j + 1 → (fnFault (fnAt p i) p.length).2 = 0) :=
            Lib.hid ⟨HI.out.1.trans hu.pre, hu.pre.blk HI.out.2.1 (fun x => x), fun i hi => by
              by_cases e : i = j
              · rw [e]; exact hp
              · exact HI.out.2.2 i (by omega)⟩
          rw [hp]
          clear hp hu Bc c0 c1
          go_wp2
          go_roundg (gk - 1)
          case measure => have := Hj.out; omega
          case rel => exact ⟨j + 1, by have := Hj.out; omega, by go_num, HI2⟩
        · have hr2 : res = ((j : Int), (fnFault (fnAt p j) p.length).1, (fnFault (fnAt p j) p.length).2) := by
            rw [← Hres.out]
            simp only [check]
            rw [if_neg h0, if_neg h16, Hskip.out, hd]
            simp [firstFn, hp]
          subst hr2
          have hb' : ((((fnFault (fnAt p j) p.length).2 : Nat) : Int) != 0) = true := by rw [bne_iff_ne]; omega
          have HU2 := Lib.hid (HI.out.1.trans hu.pre)
          clear hu hp Bc c0 c1 hd
          go_wp2
          go_ret3
          exact ⟨rfl, HU2.out⟩
      · have hr2 : res = (-1, -1, 0) := by
          rw [← Hres.out]
          simp only [check]
          rw [if_neg h0, if_neg h16, Hskip.out, show p.drop j = [] from by simp; omega]
          rfl
        subst hr2
        have HU2 := Lib.hid HI.out.1
        clear Bc
        go_wp2
        go_ret3
        exact ⟨rfl, HU2.out⟩
end Go.Proofs.YtlljmbkfeemgfaaGreatDoor.Wk
