/- The processors' statuses: pstat.Table. -/
import Derived.Test.YtlljmbkfeemgfaaGreatDoorProcs
namespace Go.Proofs.YtlljmbkfeemgfaaGreatDoor.Wk
open Go Go.RowKit Esc
set_option maxRecDepth 100000
@[go_sem] theorem fld159_0 (c0 c1 : Value) (w : World) : (Instr.field 159 (.agg #[c0, c1]) 0).run Tryz.prog w = .ok (c0) w := by kernel_rfl
@[go_sem] theorem fld159_1 (c0 c1 : Value) (w : World) : (Instr.field 159 (.agg #[c0, c1]) 1).run Tryz.prog w = .ok (c1) w := by kernel_rfl
abbrev PSt := List (Nat × Option Nat)
def whoI : Option Nat → Int | none => -1 | some m => m
abbrev whoV (m : Option Nat) : Value := .int .i64 (whoI m)
def statC (x : Nat × Option Nat) : List Value := [natV x.1, whoV x.2]
def StatR (w : World) (F : Nat → Prop) (b : Nat) (l : PSt) : Prop :=
  ∃ v : Value, F b ∧ Blk w b [v] 157 ∧ Row w (fun x => F x ∧ x ≠ b) 159 2 v l.length (l.flatMap statC)
theorem StatR.keep {w w' : World} {F G : Nat → Prop} {b : Nat} {l : PSt} (h : StatR w F b l) (hb : ∀ b, F b → b < w.heap.size → w'.heap[b]? = w.heap[b]?) (hG : ∀ b, b < w.heap.size → F b → G b) : StatR w' G b l := by
  obtain ⟨v, h1, h2, h3⟩ := h
  exact ⟨v, hG _ h2.lt h1, h2.of_heap (hb _ h1 h2.lt), h3.keep (fun b q hl => hb b q.1 hl) (fun b hl q => ⟨hG b hl q.1, q.2⟩)⟩
theorem StatR.upd {H : Nat → Prop} {w w' : World} {F : Nat → Prop} {b : Nat} {l : PSt} (h : StatR w F b l) (u : Upd H w w') (hd : ∀ b, b < w.heap.size → F b → ¬ H b) : StatR w' F b l :=
  h.keep (fun b hF hb => u.block b hb (hd b hb hF)) (fun _ _ x => x)
theorem StatR.upd0 {w w' : World} {F : Nat → Prop} {b : Nat} {l : PSt} (h : StatR w F b l) (u : Upd0 w w') : StatR w' F b l := h.upd u (fun _ _ _ x => x)

theorem flat2_get (l : PSt) (p : Nat) (x : Nat × Option Nat) (hp : l[p]? = some x) : (l.flatMap statC)[p * 2]? = some (natV x.1) ∧ (l.flatMap statC)[p * 2 + 1]? = some (whoV x.2) := by
  induction l generalizing p with
  | nil => simp at hp
  | cons y l ih =>
    cases p with
    | zero => simp at hp; subst hp; simp [statC]
    | succ p =>
      have := ih p (by simpa using hp)
      simp only [List.flatMap_cons, statC, List.cons_append, List.nil_append]
      have e1 : (p + 1) * 2 = p * 2 + 1 + 1 := by omega
      rw [e1]
      simpa using this

theorem flat2_set (l : PSt) (p : Nat) (x : Nat × Option Nat) (hp : p < l.length) : ((l.flatMap statC).set (p * 2) (natV x.1)).set (p * 2 + 1) (whoV x.2) = (l.set p x).flatMap statC := by
  induction l generalizing p with
  | nil => simp at hp
  | cons y l ih =>
    cases p with
    | zero => simp [statC]
    | succ p =>
      have := ih p (by simpa using hp)
      simp only [List.flatMap_cons, statC, List.cons_append, List.nil_append, List.set_cons_succ]
      have e1 : (p + 1) * 2 = p * 2 + 1 + 1 := by omega
      rw [e1]
      simp only [List.set_cons_succ]
      rw [← this]

/-- Where a processor's status lies. -/
structure StatAt (w : World) (F : Nat → Prop) (b : Nat) (l : PSt) (p g off : Nat) (cs : List Value) : Prop where
  own : F g
  ne : g ≠ b
  B : Blk w g cs 159
  cell : ∀ x, l[p]? = some x → cs[off]? = some (natV x.1) ∧ cs[off + 1]? = some (whoV x.2)
  set : ∀ (w2 : World) (x : Nat × Option Nat), Upd0 w w2 → StatR ((w2.setCell ⟨g, off, none⟩ (natV x.1)).setCell ⟨g, off + 1, none⟩ (whoV x.2)) F b (l.set p x)

theorem statAt_c {w : World} {F : Nat → Prop} {b : Nat} {l : PSt} (h : StatR w F b l) {p : Nat} (hp : p < l.length) :
    Calls Tryz.prog 108 #[.pointer (some ⟨b, 0, none⟩), natV p] w fun e w' => ∃ g off cs, e = .returned (.pointer (some ⟨g, off, none⟩)) ∧ Upd0 w w' ∧ StatAt w' F b l p g off cs := by
  obtain ⟨v, hF, B, hrow⟩ := id h
  rcases id hrow.2 with ⟨_, e0⟩ | ⟨g, off, c, cur, rfl, hg, hB, hc, _, hz, htk⟩
  · omega
  · have hcell : ∀ j u, (l.flatMap statC)[j]? = some u → cur[off + j]? = some u := by
      intro j u hj
      rw [← htk, List.getElem?_take] at hj
      split at hj
      · rw [List.getElem?_drop] at hj; exact hj
      · cases hj
    have hS : StatAt w F b l p g (off + p * 2) cur := by
      refine ⟨hg.1, hg.2, hB, fun x hx => ?_, fun w2 x hu => ?_⟩
      · have := flat2_get l p x hx
        exact ⟨hcell _ _ this.1, by have := hcell _ _ this.2; rw [← Nat.add_assoc] at this; exact this⟩
      · have h2 := h.upd0 hu
        have hr2 := hrow.upd hu (fun _ _ x => x)
        have hl : (l.flatMap statC).length = l.length * 2 := hrow.1
        refine ⟨.slice (some ⟨g, off, none⟩) l.length c, hF, ((hu.blk B (fun x => x)).set_other hg.2 _).set_other hg.2 _, ?_⟩
        have r1 := (hr2.set (p * 2) (by omega) (natV x.1)).set (p * 2 + 1) (by simp [hl]; omega) (whoV x.2)
        rw [flat2_set l p x hp] at r1
        rw [List.length_set]
        exact r1
    have Bc := B.cell
    have Bf := B.free
    have Bz := B.lt
    have HS := Lib.hid hS
    clear hrow B hS h hcell hB hz htk
    go_enter Tryz.func108, Tryz.ntmps108
    go_wp2
    go_ret
    exact ⟨_, _, _, rfl, Upd.refl _ _, HS.out⟩
/-- What a step makes of a processor: x' if it may be. -/
def turned (l : PSt) (p : Nat) (y : (Nat × Option Nat) × Bool) : PSt := if y.2 then l.set p y.1 else l
theorem statTurn_c {w : World} {F : Nat → Prop} {b : Nat} {l : PSt} (h : StatR w F b l) {p : Nat} {x : Nat × Option Nat} (hx : l[p]? = some x) (fid : Nat) (caps : Array Value) (y : (Nat × Option Nat) × Bool)
    (hent : ∀ args w, (callFunc fid args).run Tryz.prog w = .ok (.enter fid args) w)
    (hf : ∀ w1, Upd0 w w1 → Calls Tryz.prog fid (#[.agg #[natV x.1, whoV x.2]] ++ caps) w1 fun e w2 => e = .returned (.tuple #[.agg #[natV y.1.1, whoV y.1.2], .bool y.2]) ∧ Upd0 w1 w2) :
    Calls Tryz.prog 127 #[.pointer (some ⟨b, 0, none⟩), natV p, .func (.func fid) #[] caps] w fun e w' => (∃ f, e = .returned f) ∧ Upd F w w' ∧ StatR w' F b (turned l p y) := by
  have hp : p < l.length := (List.getElem?_eq_some_iff.1 hx).1
  have HX := Lib.hid hx
  have H := Lib.hid h
  have HF := Lib.hid hf
  clear h hx hf
  go_enter Tryz.func127, Tryz.ntmps127
  go_wp2_with fail
  refine (statAt_c H.out hp).mono ?_
  rintro e w1 ⟨g, off, cs, rfl, hu, hS⟩
  have B := hS.B
  have Bc := B.cell
  have Bf := B.free
  have Bz := B.lt
  have hc := hS.cell x HX.out
  have c0 := hc.1
  have c1 := hc.2
  have HS := Lib.hid hS
  have HU := Lib.hid hu
  clear hc hS hu B
  go_wp2_with fail
  refine (HF.out _ HU.out).mono ?_
  rintro e w2 ⟨rfl, hu⟩
  have HU2 := Lib.hid hu
  have B := hu.blk HS.out.B (fun x => x)
  clear hu Bc Bf Bz
  have Bc := B.cell
  have Bf := B.free
  have Bz := B.lt
  obtain ⟨⟨ys, yw⟩, is⟩ := y
  clear B
  cases is with
  | false =>
    go_wp2
    go_ret
    exact ⟨⟨_, rfl⟩, ((HU.out.trans HU2.out).alloc _).of0, (H.out.upd0 ((HU.out.trans HU2.out).alloc _))⟩
  | true =>
    go_wp2
    go_ret
    exact ⟨⟨_, rfl⟩, ((((HU.out.trans HU2.out).of0).set (.inl HS.out.own) _).set (.inl HS.out.own) _).alloc _, (HS.out.set _ (ys, yw) HU2.out).upd0 ((Upd.refl _ _).alloc _)⟩

theorem statBy_c {w : World} {F : Nat → Prop} {b : Nat} {l : PSt} (h : StatR w F b l) {p m : Nat} (hm : m < 64) {x : Nat × Option Nat} (hx : l[p]? = some x) (fid : Nat) (caps : Array Value) (y : (Nat × Option Nat) × Bool)
    (hent : ∀ args w, (callFunc fid args).run Tryz.prog w = .ok (.enter fid args) w)
    (hf : ∀ w1, Upd0 w w1 → Calls Tryz.prog fid (#[.agg #[natV x.1, whoV x.2]] ++ caps) w1 fun e w2 => e = .returned (.tuple #[.agg #[natV y.1.1, whoV y.1.2], .bool y.2]) ∧ Upd0 w1 w2) :
    Calls Tryz.prog 95 #[.pointer (some ⟨b, 0, none⟩), natV p, natV m, .func (.func fid) #[] caps] w fun e w' => (∃ f, e = .returned f) ∧ Upd F w w' ∧ StatR w' F b (turned l p y) := by
  have hp : p < l.length := (List.getElem?_eq_some_iff.1 hx).1
  have HX := Lib.hid hx
  have H := Lib.hid h
  have HF := Lib.hid hf
  have HE := Lib.hid hent
  clear h hx hf hent
  have hm2 : (m : Int) < 64 := by omega
  go_enter Tryz.func95, Tryz.ntmps95
  go_wp2_with fail
  refine (statAt_c H.out hp).mono ?_
  rintro e w1 ⟨g, off, cs, rfl, hu, hS⟩
  have HU := Lib.hid hu
  clear hu hS
  go_wp2_with fail
  refine (statTurn_c (H.out.upd0 HU.out) HX.out fid caps y HE.out (fun w2 hu2 => HF.out w2 (HU.out.trans hu2))).mono ?_
  rintro e w2 ⟨⟨f, rfl⟩, hu, hr⟩
  have HU2 := Lib.hid ((HU.out.of0).trans hu)
  have HR := Lib.hid hr
  clear hu hr
  go_wp2
  go_ret
  exact ⟨⟨_, rfl⟩, HU2.out, HR.out⟩

theorem statTake1_c (w : World) (x : Nat × Option Nat) (cb m : Nat) (B : Blk w cb [natV m] 3) :
    Calls Tryz.prog 96 #[.agg #[natV x.1, whoV x.2], .pointer (some ⟨cb, 0, none⟩)] w fun e w2 => e = .returned (.tuple #[.agg #[natV 1, natV m], .bool ((x.1 : Int) == 0)]) ∧ Upd0 w w2 := by
  have Bc := B.cell
  have Bf := B.free
  have Bz := B.lt
  clear B
  go_enter Tryz.func96, Tryz.ntmps96
  go_wp2
  go_region_law (fail)
  all_goals
    go_wp2
    refine bodyPost_ret (v := .tuple #[.agg #[natV 1, natV m], .bool ((x.1 : Int) == 0)]) (by simp [results, Tryz.results96, go_sem, Act.put]) rfl ⟨rfl, (by exact ((((Upd.refl _ _).alloc _).alloc _).drewN 1))⟩

theorem modify_some {α : Type} {l : List α} {p : Nat} {x : α} (hx : l[p]? = some x) (f : α → α) : l.modify p f = l.set p (f x) := by
  apply List.ext_getElem?
  intro j
  rw [List.getElem?_modify, List.getElem?_set]
  by_cases hj : p = j
  · subst hj
    obtain ⟨hlt, e⟩ := List.getElem?_eq_some_iff.1 hx
    simp [hlt, e]
  · simp [hj]
theorem turned_eq {l : PSt} {p : Nat} {x : Nat × Option Nat} (hx : l[p]? = some x) (y : (Nat × Option Nat) × Bool) (f : Nat × Option Nat → Nat × Option Nat) (h : f x = if y.2 then y.1 else x) : turned l p y = l.modify p f := by
  rw [modify_some hx, h, turned]
  cases y.2 with
  | true => rfl
  | false =>
    simp only [Bool.false_eq_true, if_false]
    apply List.ext_getElem?
    intro j
    rw [List.getElem?_set]
    by_cases hj : p = j
    · subst hj; rw [if_pos rfl, if_pos (List.getElem?_eq_some_iff.1 hx).1, hx]
    · rw [if_neg hj]

theorem statTake_c {w : World} {F : Nat → Prop} {b : Nat} {l : PSt} (h : StatR w F b l) {p m : Nat} (hp : p < l.length) (hm : m < 64) :
    Calls Tryz.prog 53 #[.pointer (some ⟨b, 0, none⟩), natV p, natV m] w fun e w' => (∃ f, e = .returned f) ∧ Upd F w w' ∧ StatR w' F b (statTake l p m) := by
  obtain ⟨x, hx⟩ : ∃ x, l[p]? = some x := ⟨_, List.getElem?_eq_getElem hp⟩
  have e : turned l p ((1, some m), ((x.1 : Int) == 0)) = statTake l p m := by
    refine turned_eq hx _ _ ?_
    by_cases h0 : x.1 = 0 <;> simp [h0]
  rw [← e]
  have HX := Lib.hid hx
  have H := Lib.hid h
  clear h hx e
  go_enter Tryz.func53, Tryz.ntmps53
  go_wp2_with fail
  have hB := Blk.new w [natV m] 3
  refine (statBy_c (by exact H.out.upd0 ((Upd.refl _ _).alloc _)) hm HX.out 96 #[.pointer (some ⟨w.heap.size, 0, none⟩)] ((1, some m), ((x.1 : Int) == 0)) (fun _ _ => by kernel_rfl) (fun w1 hu1 => statTake1_c w1 x w.heap.size m (hu1.blk hB (fun x => x)))).mono ?_
  rintro e w2 ⟨⟨f, rfl⟩, hu, hr⟩
  have HU := Lib.hid hu.pre
  have HR := Lib.hid hr
  clear hu hr hB
  go_wp2
  go_ret
  exact ⟨⟨_, rfl⟩, HU.out, HR.out⟩

theorem statIs_c (w : World) (n : Nat) (h1 : 1 ≤ n) (h2 : n ≤ 256) : Calls Tryz.prog 92 #[natV n] w fun e w' => e = .returned (.bool true) ∧ Upd0 w w' := by
  have h3 : (1 : Int) ≤ n := by omega
  have h4 : (n : Int) ≤ 256 := by omega
  go_enter Tryz.func92, Tryz.ntmps92
  go_wp2
  go_ret
  exact ⟨rfl, Upd.refl _ _⟩
theorem infoPs : (Tryz.prog.info? 159).map (fun i => (i.zero, i.size, i.bytes)) = some (some (.agg #[.int .i64 0, .int .i64 0]), 2, 16) := by kernel_rfl

theorem statNew_c (w : World) (n : Nat) (h1 : 1 ≤ n) (h2 : n ≤ 256) :
    Calls Tryz.prog 47 #[natV n] w fun e w' => ∃ b, e = .returned (ptrV b) ∧ StatR w' (fun x => w.heap.size ≤ x) b (List.replicate n (0, none)) ∧ Upd0 w w' := by
  obtain ⟨i0, hi, hz0, hz1, hz2⟩ := info_parts infoPs
  have HI := Lib.hid hi
  have HZ := Lib.hid hz0
  clear hi hz0
  go_enter Tryz.func47, Tryz.ntmps47
  go_wp2_with fail
  refine (statIs_c _ n h1 h2).mono ?_
  rintro e w1 ⟨rfl, hu⟩
  have HU := Lib.hid hu
  clear hu
  go_wp2_with fail
  go_loopg [10] n (fun k x wr => ∃ j : Nat, j + k = n ∧ x = natV j ∧ Hid (StatR wr (fun x => w1.heap.size ≤ x) w1.heap.size (List.replicate j (0, none)) ∧ Upd0 w1 wr))
  case atStart => exact ⟨0, by omega, rfl, Lib.hid ⟨⟨.slice none 0 0, Nat.le_refl _, Blk.new w1 [.slice none 0 0] _, Row.nil _ _ _ _⟩, (Upd.refl _ _).alloc _⟩⟩
  case round =>
    obtain ⟨j, hj, rfl, HJ⟩ := hrel
    have Hj := Lib.hid hj
    have hgk : gk ≤ n := by omega
    clear hj
    by_cases hlt : j < n
    · obtain ⟨v, hF, B, hrow⟩ := HJ.out.1
      have Bc := B.cell
      have Bf := B.free
      have Bz := B.lt
      have hl : (List.replicate j ((0, none) : Nat × Option Nat)).length < 16777216 := by rw [List.length_replicate]; omega
      have hl2 : (List.replicate j ((0, none) : Nat × Option Nat)).length = j := List.length_replicate
      have HB := Lib.hid B
      have HROW := Lib.hid hrow.tight
      have Hs := Lib.hid (List.replicate_succ' (n := j) (a := ((0, none) : Nat × Option Nat)))
      clear hrow B
      generalize List.replicate j ((0, none) : Nat × Option Nat) = q at *
      go_wp2_with (at_builtin; refine wpList_app1 rfl rfl Tryz.underlying155 HI.out HZ.out hz1 hz2 rfl (by decide) rfl rfl HROW.out (us := statC (0, none)) rfl (by simp [statC, Value.oneCell']) hl (by decide) ?_)
      rintro v' w' hrow hu
      have hsz := HJ.out.2.size
      have hbz := Bz
      obtain ⟨a2, c2, rfl⟩ := hrow.slice
      have B := hu.blk HB.out (fun x => x.1.2 rfl)
      have HB2 := Lib.hid B
      have HROW2 := Lib.hid hrow
      have HU2 := Lib.hid hu
      clear Bc Bf Bz hrow hu
      have Bc := B.cell
      have Bf := B.free
      have Bz := B.lt
      clear B
      have HJ2 : Hid (StatR (w'.setCell ⟨w1.heap.size, 0, none⟩ (.slice a2 (j + 1) c2)) (fun x => w1.heap.size ≤ x) w1.heap.size (List.replicate (j + 1) (0, none)) ∧ Upd0 w1 (w'.setCell ⟨w1.heap.size, 0, none⟩ (.slice a2 (j + 1) c2))) := Lib.hid (by
        have hu3 : Upd (· = w1.heap.size) w' (w'.setCell ⟨w1.heap.size, 0, none⟩ (.slice a2 (j + 1) c2)) := (Upd.refl _ _).setb _ _
        refine ⟨⟨_, Nat.le_refl _, HB2.out.set 0 (.slice a2 (j + 1) c2), ?_⟩, ?_⟩
        · rw [Hs.out, List.length_append, hl2, List.flatMap_append]
          have hr : Row w' (fun x => w1.heap.size ≤ x ∧ x ≠ w1.heap.size) 159 2 (.slice a2 (j + 1) c2) (j + 1) (q.flatMap statC ++ [((0, none) : Nat × Option Nat)].flatMap statC) := by
            simpa using HROW2.out.mono (G := fun x => w1.heap.size ≤ x ∧ x ≠ w1.heap.size) (fun x _ hx => hx.elim (fun q => q.1) (fun q => ⟨by omega, by omega⟩))
          exact hr.upd hu3 (fun x h1 h2 => h1.2 h2)
        · exact HJ.out.2.trans' ((HU2.out.mono (fun x _ h => .inr h.1.1)).trans (hu3.mono (fun x _ h => .inr (Nat.le_of_eq (Eq.symm h))))))
      go_wp2
      go_roundg (gk - 1)
      case measure => have := Hj.out; omega
      case rel => exact ⟨j + 1, by have := Hj.out; omega, by go_num, HJ2⟩
    · have hjn : j = n := by have := Hj.out; omega
      subst hjn
      go_wp2
      go_ret
      have s1 := HU.out.size
      exact ⟨_, rfl, HJ.out.1.keep (fun _ _ _ => rfl) (fun x _ h => Nat.le_trans s1 h), HU.out.trans HJ.out.2⟩
end Go.Proofs.YtlljmbkfeemgfaaGreatDoor.Wk
