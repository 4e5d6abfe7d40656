/- num, isa: what they answer. -/
import Derived.Test.YtlljmbkfeemgfaaGreatDoorProg
import Derived.Test.YtlljmbkfeemgfaaGreatDoorFlds
import Derived.Test.YtlljmbkfeemgfaaGreatDoorBase
import Derived.Test.YtlljmbkfeemgfaaGreatDoorModel
import Derived.Test.YtlljmbkfeemgfaaGreatDoorFlds
import Derived.WalkSpells
import Derived.Outline
import Derived.WalkMore
import Derived.Deep.LoopGhost
import Derived.Deep.DeepFit
namespace Go.Proofs.YtlljmbkfeemgfaaGreatDoor.Wk
open Go Go.RowKit Esc

theorem emod_of (i n : Int) (hn : 1 ≤ n) (h2 : n ≤ 4611686018427387904) : (wrap64 (i.tmod n + n)).tmod n = i % n := by
  have h := Int.tmod_lt_of_pos i (show 0 < n by omega)
  have h' := Int.lt_tmod_of_pos i (show 0 < n by omega)
  have e : wrap64 (i.tmod n + n) = i.tmod n + n := by unfold wrap64; omega
  rw [e, Int.tmod_eq_emod_of_nonneg (by omega)]
  rw [Int.add_emod_right]
  have := Int.tmod_eq_emod (a := i) (b := n)
  rw [Int.tmod_eq_emod]
  split
  · simp
  · rw [Int.sub_emod]
    simp [Int.natAbs_of_nonneg (show (0:Int) ≤ n by omega)]

theorem mod_c (i n : Int) (w : World) (h2 : n ≤ 4611686018427387904) (hi : -9223372036854775808 ≤ i) (hi2 : i ≤ 9223372036854775807) :
    Calls Tryz.prog 57 #[.int .i64 i, .int .i64 n] w fun e w' => e = .returned (.int .i64 (mod i n)) ∧ w = w' := by
  by_cases hn : n < 1
  · go_enter Tryz.func57, Tryz.ntmps57
    go_wp2
    go_ret
    exact ⟨by simp [mod, hn], rfl⟩
  · have hn' : 1 ≤ n := by omega
    have h := emod_of i n hn' h2
    have hm : mod i n = i % n := by simp [mod, hn]
    rw [hm, ← h]
    clear h hm
    go_enter Tryz.func57, Tryz.ntmps57
    go_wp2
    go_ret
    exact ⟨rfl, rfl⟩

/-- What the table of the ops holds. -/
def nmL (op : Nat) : List UInt8 := match op with
  | 0 => [110, 111, 112] | 1 => [99, 111, 110, 115, 116] | 2 => [97, 100, 100] | 3 => [115, 117, 98] | 4 => [109, 117, 108] | 5 => [108, 101, 115, 115]
  | 6 => [106, 117, 109, 112] | 7 => [105, 102] | 8 => [99, 97, 108, 108] | 9 => [114, 101, 116] | 10 => [115, 112, 97, 119, 110] | 11 => [121, 105, 101, 108, 100]
  | 12 => [98, 108, 111, 99, 107] | 13 => [114, 101, 97, 100, 121] | 14 => [101, 120, 105, 116] | 15 => [101, 109, 105, 116] | 16 => [115, 121, 115]
  | 17 => [115, 116, 111, 112] | 18 => [115, 116, 97, 114, 116] | 19 => [98, 97, 114, 114, 105, 101, 114] | 20 => [115, 117, 115, 112, 101, 110, 100]
  | 21 => [114, 101, 115, 117, 109, 101] | 22 => [114, 101, 115, 105, 122, 101] | 23 => [115, 101, 108, 102] | _ => []
def nmOf (op : Nat) : ByteArray := ⟨(nmL op).toArray⟩

structure TabAt (w : World) (op : Nat) : Prop where
  name : w.cell? ⟨0, op * 7, none⟩ = some (.string (nmOf op))
  regs : w.cell? ⟨0, op * 7 + 1, none⟩ = some (.int .i64 (regsOf op))
  target : w.cell? ⟨0, op * 7 + 2, none⟩ = some (.int .i64 (targetOf op))
  number : w.cell? ⟨0, op * 7 + 3, none⟩ = some (.bool (op == 1))
  waits : w.cell? ⟨0, op * 7 + 4, none⟩ = some (.bool (waitsOp op))
  ends : w.cell? ⟨0, op * 7 + 5, none⟩ = some (.bool (endsOp op))
  asks : w.cell? ⟨0, op * 7 + 6, none⟩ = some (.bool (asksOp op))

structure Tab (w : World) : Prop where
  lt : 0 < w.heap.size
  at_ : ∀ op, op < 24 → TabAt w op

theorem Tab.of_heap {w w' : World} (h : Tab w) (hs : w.heap.size ≤ w'.heap.size) (e : w'.heap[0]? = w.heap[0]?) : Tab w' := by
  refine ⟨Nat.lt_of_lt_of_le h.lt hs, fun op hop => ?_⟩
  have k : ∀ o, w'.cell? ⟨0, o, none⟩ = w.cell? ⟨0, o, none⟩ := fun o => World.cell?_of_block e
  have t := h.at_ op hop
  exact ⟨(k _).trans t.name, (k _).trans t.regs, (k _).trans t.target, (k _).trans t.number, (k _).trans t.waits, (k _).trans t.ends, (k _).trans t.asks⟩
theorem Tab.upd {F : Nat → Prop} {w w' : World} (h : Tab w) (u : Upd F w w') (hF : ¬ F 0) : Tab w' := h.of_heap u.size (u.heap h.lt hF)

/-- A row of the table, as a value. -/
def rowV (op : Int) : Value := if 0 ≤ op ∧ op < 24 then
    .agg #[.string (nmOf op.toNat), .int .i64 (regsOf op), .int .i64 (targetOf op), .bool (op == 1), .bool (waitsOp op), .bool (endsOp op), .bool (asksOp op)]
  else .agg #[.string ⟨#[]⟩, .int .i64 0, .int .i64 0, .bool false, .bool false, .bool false, .bool false]

theorem of_c (w : World) (op : Int) (hT : Tab w) :
    Calls Tryz.prog 171 #[.int .i64 op] w fun e w' => e = .returned (rowV op) ∧ Upd0 w w' := by
  by_cases h : 0 ≤ op ∧ op < 24
  · obtain ⟨k, rfl⟩ := Int.eq_ofNat_of_zero_le h.1
    have hk : k < 24 := by omega
    obtain ⟨h0, h1, h2, h3, h4, h5, h6⟩ := hT.at_ k hk
    have hz := hT.lt
    have hv : rowV k = .agg #[.string (nmOf k), .int .i64 (regsOf k), .int .i64 (targetOf k), .bool (k == 1), .bool (waitsOp k), .bool (endsOp k), .bool (asksOp k)] := by
      unfold rowV; rw [if_pos h]
      by_cases e : k = 1
      · subst e; rfl
      · have e1 : ((k : Int) == 1) = false := by simp; omega
        have e2 : (k == 1) = false := by simpa using e
        rw [e1, e2]; rfl
    have hv' := Lib.hid hv
    clear hv hT
    go_enter Tryz.func171, Tryz.ntmps171
    go_wp2
    refine bodyPost_ret (v := rowV k) ?_ rfl ⟨rfl, ?_⟩
    · rw [hv'.out]; simp [results, Tryz.results171, go_sem]
    · exact ((Upd.refl _ _).alloc _)
  · have hv : rowV op = .agg #[.string ⟨#[]⟩, .int .i64 0, .int .i64 0, .bool false, .bool false, .bool false, .bool false] := by unfold rowV; rw [if_neg h]
    rw [hv]
    clear hv hT
    have h' : op < 0 ∨ (¬ op < 0 ∧ 24 ≤ op) := by omega
    clear h
    rcases h' with h | ⟨h0, h⟩
    all_goals
      go_enter Tryz.func171, Tryz.ntmps171
      go_wp2
      refine bodyPost_ret (v := .agg #[.string ⟨#[]⟩, .int .i64 0, .int .i64 0, .bool false, .bool false, .bool false, .bool false]) ?_ rfl ⟨rfl, ?_⟩
      · simp [results, Tryz.results171, go_sem]
      · exact ((Upd.refl _ _).alloc _)

theorem rowV_in {op : Int} (h : 0 ≤ op ∧ op < 24) :
    rowV op = .agg #[.string (nmOf op.toNat), .int .i64 (regsOf op), .int .i64 (targetOf op), .bool (op == 1), .bool (waitsOp op), .bool (endsOp op), .bool (asksOp op)] := by unfold rowV; rw [if_pos h]
theorem rowV_out {op : Int} (h : ¬ (0 ≤ op ∧ op < 24)) :
    rowV op = .agg #[.string ⟨#[]⟩, .int .i64 0, .int .i64 0, .bool false, .bool false, .bool false, .bool false] := by unfold rowV; rw [if_neg h]
/-- Of an op, and of none: the row's parts. -/
theorem rowV_eq (op : Int) : ∃ s, rowV op = .agg #[.string s, .int .i64 (regsOf op), .int .i64 (targetOf op), .bool (op == 1), .bool (waitsOp op), .bool (endsOp op), .bool (asksOp op)] ∧
    (s.toList.isEmpty = !isOp op) := by
  by_cases h : 0 ≤ op ∧ op < 24
  · refine ⟨_, rowV_in h, ?_⟩
    obtain ⟨k, rfl⟩ := Int.eq_ofNat_of_zero_le h.1
    have hk : k < 24 := by omega
    have e1 : isOp (k : Int) = true := by simp [isOp]; omega
    rw [e1]
    simp only [Int.toNat_natCast]
    have : ∀ j, j < 24 → (nmOf j).toList.isEmpty = false := by decide +kernel
    simpa using this k hk
  · refine ⟨⟨#[]⟩, ?_, ?_⟩
    · rw [rowV_out h]
      have e1 : regsOf op = 0 := by simp only [regsOf]; rw [if_neg (by simp; omega), if_neg (by simp; omega)]
      have e2 : targetOf op = 0 := by simp only [targetOf]; rw [if_neg (by simp; omega), if_neg (by simp; omega)]
      have e3 : (op == 1) = false := by simp; omega
      have e4 : waitsOp op = false := by simp [waitsOp]; omega
      have e5 : endsOp op = false := by simp [endsOp]; omega
      have e6 : asksOp op = false := by simp [asksOp]; omega
      rw [e1, e2, e3, e4, e5, e6]; rfl
    · have e1 : isOp op = false := by simp [isOp]; omega
      rw [e1]; decide +kernel

theorem waits_c (w : World) (op : Int) (hT : Tab w) : Calls Tryz.prog 169 #[.int .i64 op] w fun e w' => e = .returned (.bool (waitsOp op)) ∧ Upd0 w w' := by
  obtain ⟨s, hv, _⟩ := rowV_eq op
  go_enter Tryz.func169, Tryz.ntmps169
  go_wp2_with fail
  refine (of_c w op hT).mono ?_
  rintro e w' ⟨rfl, hu⟩
  rw [hv]; clear hv
  go_wp2
  go_ret
  exact ⟨rfl, hu⟩
theorem ends_c (w : World) (op : Int) (hT : Tab w) : Calls Tryz.prog 125 #[.int .i64 op] w fun e w' => e = .returned (.bool (endsOp op)) ∧ Upd0 w w' := by
  obtain ⟨s, hv, _⟩ := rowV_eq op
  go_enter Tryz.func125, Tryz.ntmps125
  go_wp2_with fail
  refine (of_c w op hT).mono ?_
  rintro e w' ⟨rfl, hu⟩
  rw [hv]; clear hv
  go_wp2
  go_ret
  exact ⟨rfl, hu⟩
theorem asks_c (w : World) (op : Int) (hT : Tab w) : Calls Tryz.prog 239 #[.int .i64 op] w fun e w' => e = .returned (.bool (asksOp op)) ∧ Upd0 w w' := by
  obtain ⟨s, hv, _⟩ := rowV_eq op
  go_enter Tryz.func239, Tryz.ntmps239
  go_wp2_with fail
  refine (of_c w op hT).mono ?_
  rintro e w' ⟨rfl, hu⟩
  rw [hv]; clear hv
  go_wp2
  go_ret
  exact ⟨rfl, hu⟩

def instrV (i : Instr) : Value := .agg #[.int .i64 i.op, .int .i64 i.a, .int .i64 i.b, .int .i64 i.c, .int .i64 i.n]

/-- Of the three registers: the j-th. -/
def abc (a b c : Int) (j : Nat) : Int := if j = 0 then a else if j = 1 then b else c
def badR (r : Int) (a b c : Int) (j : Nat) : Bool := decide ((j : Int) < r) && (decide (abc a b c j < 0) || decide (8 ≤ abc a b c j))
def spareR (r : Int) (a b c : Int) : Nat → Bool
  | 0 => false
  | j + 1 => spareR r a b c j || (decide (r ≤ (j : Int)) && (abc a b c j != 0))
theorem check_eq (op a b c n : Int) (places funcs : Nat) (hop : isOp op = true) :
    checkInstr ⟨op, a, b, c, n⟩ places funcs = if badR (regsOf op) a b c 0 = true ∨ badR (regsOf op) a b c 1 = true ∨ badR (regsOf op) a b c 2 = true then 2 else if spareR (regsOf op) a b c 3 = true then 9
      else if targetOf op = 0 then (if n ≠ 0 ∧ op ≠ 1 then 9 else 0) else if n < 0 ∨ (if targetOf op = 2 then (funcs : Int) else places) ≤ n then 2 else 0 := by
  have hr : regsOf op = 0 ∨ regsOf op = 1 ∨ regsOf op = 3 := by
    unfold regsOf
    repeat' split
    all_goals simp
  simp only [checkInstr, hop, badR, spareR, abc]
  rcases hr with h | h | h <;> simp [h, or_assoc]

theorem bad_res {r : Int} {a b c : Int} {res z : Nat} (h : res = if badR r a b c 0 = true ∨ badR r a b c 1 = true ∨ badR r a b c 2 = true then 2 else z) (j : Nat) (hj : j < 3) (hb : badR r a b c j = true) : 2 = res := by
  have : j = 0 ∨ j = 1 ∨ j = 2 := by omega
  rw [h, if_pos]
  rcases this with rfl | rfl | rfl <;> simp [hb]
theorem more {r : Int} {a b c : Int} {j : Nat} (h : ∀ i, i < j → badR r a b c i = false) (hb : badR r a b c j = false) : ∀ i, i < j + 1 → badR r a b c i = false := by
  intro i hi
  by_cases e : i = j
  · rw [e]; exact hb
  · exact h i (by omega)
theorem ret_int {k : IntKind} {a b : Int} (h : a = b) : Ending.returned (.int k a) = .returned (.int k b) := by rw [h]

set_option maxHeartbeats 2000000 in
theorem check_c (w : World) (op a b c n : Int) (places funcs : Nat) (hT : Tab w) :
    Calls Tryz.prog 168 #[.agg #[.int .i64 op, .int .i64 a, .int .i64 b, .int .i64 c, .int .i64 n], .int .i64 places, .int .i64 funcs] w fun e w' => e = .returned (.int .i64 (checkInstr ⟨op, a, b, c, n⟩ places funcs)) ∧ Upd0 w w' := by
  obtain ⟨s, hv, hs⟩ := rowV_eq op
  by_cases hop : isOp op = true
  · have hs' : s.toList.isEmpty = false := by rw [hs, hop]; rfl
    have heq := check_eq op a b c n places funcs hop
    clear hs
    generalize hr : ((regsOf op : Nat) : Int) = r at *
    generalize htg : targetOf op = tg at *
    generalize checkInstr ⟨op, a, b, c, n⟩ places funcs = res at *
    have Heq := Lib.hid heq
    clear hr htg heq
    go_enter Tryz.func168, Tryz.ntmps168
    go_wp2_with fail
    refine (of_c _ op (hT.upd ((Upd.refl (fun _ => False) _).alloc _) (fun x => x))).mono ?_
    rintro e w' ⟨rfl, hu⟩
    rw [hv]; clear hv hT
    have B := hu.new
    have Bc := B.cell
    have Bf := B.free
    have Bz := B.lt
    go_wp2_with fail
    clear Bc Bf Bz
    have HU := Lib.hid hu
    clear hu
    go_loop [25, 8] (fun k sp => ∃ j : Nat, j ≤ 3 ∧ k = .int .i64 j ∧ sp = .bool (spareR r a b c j) ∧ Hid (∀ i, i < j → badR r a b c i = false)) (fun k _ => (3 - intOf k).toNat)
    case atStart => exact ⟨0, by omega, rfl, rfl, Lib.hid (fun i hi => by omega)⟩
    case round =>
      obtain ⟨j, hj, rfl, rfl, HB⟩ := hrel
      have hj' : j = 0 ∨ j = 1 ∨ j = 2 ∨ j = 3 := by omega
      rcases hj' with rfl | rfl | rfl | rfl
      · have h_in : ∀ i, i < 0 → badR r a b c i = false := HB.out
        have Hin := Lib.hid h_in
        clear h_in HB
        go_wp2
        all_goals first
          | (have key : badR r a b c 0 = true := (by simp [badR, abc]; omega)
             go_ret; exact ⟨ret_int (congrArg Nat.cast (bad_res Heq.out (0) (by omega) key)), HU.out.pre.alloc _⟩)
          | (have key : badR r a b c 0 = false := (by simp [badR, abc]; omega)
             have ks : spareR r a b c 1 = (spareR r a b c 0 || (decide (r ≤ 0) && (a != 0))) := (by simp [spareR, abc])
             have HK := Lib.hid (more Hin.out key)
             first
             | (go_round
                case rel => exact ⟨1, by omega, rfl, congrArg Value.bool (by rw [ks]; simp_all; try omega), HK⟩
                case measure => simp [intOf])
             | exact ⟨⟨1, by omega, rfl, congrArg Value.bool (by rw [ks]; simp_all; try omega), HK⟩, by simp [intOf]⟩)
          | trace_state
      · have h_in : ∀ i, i < 1 → badR r a b c i = false := HB.out
        have Hin := Lib.hid h_in
        clear h_in HB
        go_wp2
        all_goals first
          | (have key : badR r a b c 1 = true := (by simp [badR, abc]; omega)
             go_ret; exact ⟨ret_int (congrArg Nat.cast (bad_res Heq.out (1) (by omega) key)), HU.out.pre.alloc _⟩)
          | (have key : badR r a b c 1 = false := (by simp [badR, abc]; omega)
             have ks : spareR r a b c 2 = (spareR r a b c 1 || (decide (r ≤ 1) && (b != 0))) := (by simp [spareR, abc])
             have HK := Lib.hid (more Hin.out key)
             first
             | (go_round
                case rel => exact ⟨2, by omega, rfl, congrArg Value.bool (by rw [ks]; simp_all; try omega), HK⟩
                case measure => simp [intOf])
             | exact ⟨⟨2, by omega, rfl, congrArg Value.bool (by rw [ks]; simp_all; try omega), HK⟩, by simp [intOf]⟩)
          | trace_state
      · have h_in : ∀ i, i < 2 → badR r a b c i = false := HB.out
        have Hin := Lib.hid h_in
        clear h_in HB
        go_wp2
        all_goals first
          | (have key : badR r a b c 2 = true := (by simp [badR, abc]; omega)
             go_ret; exact ⟨ret_int (congrArg Nat.cast (bad_res Heq.out (2) (by omega) key)), HU.out.pre.alloc _⟩)
          | (have key : badR r a b c 2 = false := (by simp [badR, abc]; omega)
             have ks : spareR r a b c 3 = (spareR r a b c 2 || (decide (r ≤ 2) && (c != 0))) := (by simp [spareR, abc])
             have HK := Lib.hid (more Hin.out key)
             first
             | (go_round
                case rel => exact ⟨3, by omega, rfl, congrArg Value.bool (by rw [ks]; simp_all; try omega), HK⟩
                case measure => simp [intOf])
             | exact ⟨⟨3, by omega, rfl, congrArg Value.bool (by rw [ks]; simp_all; try omega), HK⟩, by simp [intOf]⟩)
          | trace_state
      · have h_in : badR r a b c 0 = false ∧ badR r a b c 1 = false ∧ badR r a b c 2 = false := ⟨HB.out 0 (by omega), HB.out 1 (by omega), HB.out 2 (by omega)⟩
        have heq : res = if spareR r a b c 3 = true then 9 else if tg = 0 then (if n ≠ 0 ∧ op ≠ 1 then 9 else 0) else if n < 0 ∨ (if tg = 2 then (funcs : Int) else places) ≤ n then 2 else 0 := by
          rw [Heq.out, if_neg]; simp [h_in]
        have Heq2 := Lib.hid heq
        clear heq h_in HB Heq
        have Bc := B.cell
        have Bz := B.lt
        go_wp2
        clear Bc Bz B
        all_goals
          go_ret
          refine ⟨ret_int ?_, HU.out.pre.alloc _⟩
          rw [Heq2.out]; clear Heq2
          first
          | (simp_all; done)
          | (simp_all
             repeat' split
             all_goals omega)
  · have hs' : s.toList.isEmpty = true := by rw [hs]; simpa using hop
    have heq : checkInstr ⟨op, a, b, c, n⟩ places funcs = 1 := by simp [checkInstr, hop]
    rw [heq]
    clear hs heq
    go_enter Tryz.func168, Tryz.ntmps168
    go_wp2_with fail
    refine (of_c _ op (hT.upd ((Upd.refl (fun _ => False) _).alloc _) (fun x => x))).mono ?_
    rintro e w' ⟨rfl, hu⟩
    rw [hv]; clear hv hT
    go_wp2
    go_ret
    exact ⟨rfl, hu.pre.alloc _⟩
end Go.Proofs.YtlljmbkfeemgfaaGreatDoor.Wk
