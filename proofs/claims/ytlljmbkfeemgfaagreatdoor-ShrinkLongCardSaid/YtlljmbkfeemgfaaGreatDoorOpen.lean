/- What comes in: the table of the ops, lists of entries. -/
import Derived.Test.YtlljmbkfeemgfaaGreatDoorCards
import Derived.Test.YtlljmbkfeemgfaaGreatDoorTie
import Derived.Test.YtlljmbkfeemgfaaGreatDoorLists
import Derived.ProofKit
import Derived.OpenShut
import Derived.Deep.DeepHandedRow
import Derived.Deep.Slices
import Derived.Deep.Strs
import Derived.Lib.LaidTab
namespace Go.Proofs.YtlljmbkfeemgfaaGreatDoor.Wk
open Go Go.RowKit Esc
open Go.ChangeShapes Go.WideShapes Go.ChangeAt

theorem own : ownKnob Tryz.prog.godebug = none := by kernel_rfl
theorem laidOut : laidOutB Tryz.prog = true := by kernel_rfl
theorem gRows : Tryz.prog.globalNamed "escapement/isa.rows" = some 0 := by kernel_rfl
theorem gRowsType : (Tryz.prog.globals[0]?).map (·.type) = some 256 := by kernel_rfl
theorem cellsRow : Tryz.prog.cellsOf 237 = 7 := by kernel_rfl
theorem cellsInt : Tryz.prog.cellsOf 3 = 1 := by kernel_rfl
theorem cellsBool : Tryz.prog.cellsOf 4 = 1 := by kernel_rfl
theorem cellsString : Tryz.prog.cellsOf 9 = 1 := by kernel_rfl

def rowD (op : Nat) : DataW Unit := .agg [.lit (.string (nmL op)), .lit (.int .i64 (regsOf op)), .lit (.int .i64 (targetOf op)), .lit (.bool (op == 1)), .lit (.bool (waitsOp op)), .lit (.bool (endsOp op)), .lit (.bool (asksOp op))]
theorem laid_eq : (Rows.laid_escapement_isa_rows : DataW Unit) = .agg ((List.range 24).map rowD) := by kernel_rfl

section
variable {H : Type} {enc : TypeId × Value → H} {w : World} {base : Nat} {spare : Nat → Bool} {held : Bool} {fuel : Nat} {cs : List Value} {x : DataW H × List MemPlace}
theorem take_one {l : List Value} {i : Nat} {v : Value} (h : (l.drop i).take 1 = [v]) : l[i]? = some v := by
  have := congrArg (fun x => x[0]?) h
  simpa [List.getElem?_take, List.getElem?_drop] using this
end

theorem tabAt_of (W : World) (op : Nat) {spare : Nat → Bool} {held : Bool} {fuel : Nat} {cs : List Value} {pl : List MemPlace} {enc : TypeId × Value → Unit} {base : Nat}
    (hc : ∀ i u, cs[i]? = some u → W.cell? ⟨0, op * 7 + i, none⟩ = some u) (h : DataW.trod enc Tryz.prog W base spare held fuel 237 cs = some (rowD op, pl)) : TabAt W op := by
  obtain ⟨xs, n, _, hx, hl, hlen, hf⟩ := DataW.trod_struct Tryz.underlying237 h
  simp only [rowD, Prod.mk.injEq, DataW.agg.injEq] at hx
  obtain ⟨hx, _⟩ := hx
  have hlen' : xs.length = 7 := by rw [hlen]; rfl
  match xs, hlen' with
  | [y0, y1, y2, y3, y4, y5, y6], _ =>
    simp only [List.map_cons, List.map_nil, List.cons.injEq, and_true] at hx
    obtain ⟨e0, e1, e2, e3, e4, e5, e6⟩ := hx
    have f0 : DataW.trod enc Tryz.prog W base spare held n 9 ((cs.drop 0).take (Tryz.prog.cellsOf 9)) = some y0 := hf 0 _ rfl
    rw [cellsString] at f0
    have f1 : DataW.trod enc Tryz.prog W base spare held n 3 ((cs.drop 1).take (Tryz.prog.cellsOf 3)) = some y1 := hf 1 _ rfl
    rw [cellsInt] at f1
    have f2 : DataW.trod enc Tryz.prog W base spare held n 3 ((cs.drop 2).take (Tryz.prog.cellsOf 3)) = some y2 := hf 2 _ rfl
    rw [cellsInt] at f2
    have f3 : DataW.trod enc Tryz.prog W base spare held n 4 ((cs.drop 3).take (Tryz.prog.cellsOf 4)) = some y3 := hf 3 _ rfl
    rw [cellsBool] at f3
    have f4 : DataW.trod enc Tryz.prog W base spare held n 4 ((cs.drop 4).take (Tryz.prog.cellsOf 4)) = some y4 := hf 4 _ rfl
    rw [cellsBool] at f4
    have f5 : DataW.trod enc Tryz.prog W base spare held n 4 ((cs.drop 5).take (Tryz.prog.cellsOf 4)) = some y5 := hf 5 _ rfl
    rw [cellsBool] at f5
    have f6 : DataW.trod enc Tryz.prog W base spare held n 4 ((cs.drop 6).take (Tryz.prog.cellsOf 4)) = some y6 := hf 6 _ rfl
    rw [cellsBool] at f6
    obtain ⟨s, c0, z0, _⟩ := DataW.trod_string Tryz.underlying9 f0
    obtain ⟨n1, c1, z1, _⟩ := DataW.trod_int Tryz.underlying3 f1
    obtain ⟨n2, c2, z2, _⟩ := DataW.trod_int Tryz.underlying3 f2
    obtain ⟨b3, c3, z3⟩ := DataW.trod_bool Tryz.underlying4 f3
    obtain ⟨b4, c4, z4⟩ := DataW.trod_bool Tryz.underlying4 f4
    obtain ⟨b5, c5, z5⟩ := DataW.trod_bool Tryz.underlying4 f5
    obtain ⟨b6, c6, z6⟩ := DataW.trod_bool Tryz.underlying4 f6
    simp only [z0, z1, z2, z3, z4, z5, z6, DataW.lit.injEq, Lit.string.injEq, Lit.int.injEq, Lit.bool.injEq, true_and] at e0 e1 e2 e3 e4 e5 e6
    subst e1 e2 e3 e4 e5 e6
    have es : s = nmOf op := by
      unfold nmOf
      rcases s with ⟨⟨l⟩⟩
      simp at e0
      rw [e0]
    subst es
    exact ⟨hc 0 _ (take_one c0), hc 1 _ (take_one c1), hc 2 _ (take_one c2), hc 3 _ (take_one c3), hc 4 _ (take_one c4), hc 5 _ (take_one c5), hc 6 _ (take_one c6)⟩

theorem tab_of {W : World} (h : laidMetH Tryz.prog [("escapement/isa.rows", Rows.laid_escapement_isa_rows)] W) : Tab W := by
  have h' : laidMet Tryz.prog [("escapement/isa.rows", Rows.laid_escapement_isa_rows)] W := h
  obtain ⟨ps, ⟨g', t', cs, fuel, p, q, hg', ht', hvar, hd, _, _⟩, _⟩ := h'
  obtain rfl := Option.some.inj (gRows.symm.trans hg')
  obtain rfl := Option.some.inj (gRowsType.symm.trans ht')
  rw [laid_eq] at hd
  obtain ⟨xs, m, _, hx, hl, hlen, hf⟩ := DataW.trod_array Tryz.underlying256 hd
  simp only [Prod.mk.injEq, DataW.agg.injEq] at hx
  obtain ⟨hx, _⟩ := hx
  have hcell := World.var?_cell hg' hvar
  have hl' : cs.size = 168 := by
    have e : Tryz.prog.cellsOf 256 = 168 := by kernel_rfl
    rw [← e, ← hl]; simp
  refine ⟨World.block_lt_of_cell? W ⟨0, 0, none⟩ (u := cs[0]) ((hcell 0).trans (by simp [hl'])), fun op hop => ?_⟩
  have hi := hf op (by omega)
  rw [cellsRow] at hi
  have hxo : ∃ y, xs[op]? = some y ∧ y.1 = rowD op := by
    have := congrArg (fun l => l[op]?) hx
    simp only [List.getElem?_map, List.getElem?_range hop, Option.map_some] at this
    cases hq : xs[op]? with
    | none => rw [hq] at this; cases this
    | some y => rw [hq] at this; exact ⟨y, rfl, (Option.some.inj this).symm⟩
  obtain ⟨y, hy, hy1⟩ := hxo
  rw [hy] at hi
  refine tabAt_of W op (pl := y.2) (fun i u hu => ?_) (by rw [← hy1]; exact hi)
  rw [hcell]
  rw [List.getElem?_take] at hu
  split at hu
  · rw [List.getElem?_drop] at hu
    simpa using hu
  · cases hu

/-! ### Lists that come in -/
section
variable {H : Type} {enc : TypeId × Value → H} {W : World} {base : Nat} {spare : Nat → Bool} {held : Bool} {fuel : Nat}

theorem choose_list {α : Type} (n : Nat) (p : Nat → α → Prop) (h : ∀ i, i < n → ∃ a, p i a) : ∃ l : List α, l.length = n ∧ ∀ i (hi : i < l.length), p i l[i] := by
  induction n with
  | zero => exact ⟨[], rfl, fun i hi => by simp at hi⟩
  | succ n ih =>
    obtain ⟨l, hl, hp⟩ := ih (fun i hi => h i (by omega))
    obtain ⟨a, ha⟩ := h n (by omega)
    refine ⟨l ++ [a], by simp [hl], fun i hi => ?_⟩
    by_cases e : i < l.length
    · rw [List.getElem_append_left e]; exact hp i e
    · have : i = n := by simp at hi; omega
      subst this
      simp only [← hl]
      rw [List.getElem_append_right (by omega)]
      simpa [hl] using ha

theorem open_list {α : Type} {T E : TypeId} {sz : Nat} {encA : α → List Value} {P : α → Prop} (hT : Tryz.prog.underlying T = some (.slice E)) (hE : Tryz.prog.cellsOf E = sz) (hs : ∀ a, (encA a).length = sz) (hsz : 0 < sz)
    (elem : ∀ (fuel : Nat) (cs : List Value) (x : DataW H × List MemPlace), DataW.trod enc Tryz.prog W base spare held fuel E cs = some x → ∃ a : α, cs = encA a ∧ P a)
    {cs : List Value} {x : DataW H × List MemPlace} (h : DataW.trod enc Tryz.prog W base spare held fuel T cs = some x) :
    ∃ v l, cs = [v] ∧ Sl W (fun b => b < W.heap.size) E sz encA v l ∧ ∀ a ∈ l, P a := by
  rcases Go.Deep.open_slice hT h with ⟨rfl, _⟩ | ⟨a, len, cap, m, n, D, Pl, rfl, _, hl, hm, rfl, _, hel⟩
  · exact ⟨_, [], rfl, Sl.nil _ _ _ _ _, fun a ha => by simp at ha⟩
  · have hlm : len ≤ (if spare a.block then cap else len) := by split <;> omega
    obtain ⟨l, hll, hp⟩ := choose_list len (fun i b => W.cells? base (a.add (i * sz)) sz = some (encA b) ∧ P b) (fun i hi => by
      obtain ⟨cs', h1, h2⟩ := hel i (by omega)
      obtain ⟨b, rfl, hb⟩ := elem _ _ _ h2
      rw [hE] at h1
      exact ⟨b, h1, hb⟩)
    obtain ⟨g, off, spot⟩ := a
    have hcell : ∀ i (hi : i < l.length) (k : Nat) (u : Value), (encA l[i])[k]? = some u → W.cell? ((⟨g, off, spot⟩ : Addr).add (i * sz) |>.add k) = some u := by
      intro i hi k u hu
      have h1 := (hp i hi).1
      unfold World.cells? at h1
      split at h1
      · have := mapM_some_get h1 k k (by
          have : k < sz := by rw [← hs l[i]]; exact (List.getElem?_eq_some_iff.1 hu).1
          simp [this])
        rw [this]; exact hu
      · cases h1
    have hspot : l.length ≠ 0 → spot = none := by
      intro hne
      have h0 : 0 < l.length := by omega
      obtain ⟨u, hu⟩ : ∃ u, (encA l[0])[0]? = some u := ⟨(encA l[0])[0]'(by rw [hs]; exact hsz), by rw [List.getElem?_eq_getElem]⟩
      have := hcell 0 h0 0 u hu
      simpa [Addr.add] using World.cell?_spot this
    refine ⟨_, l, rfl, ⟨length_flatMap_const encA sz hs l, .inr ⟨g, off, spot, cap, by rw [hll], by omega, hm, fun hne => ?_, fun j u hj => ?_⟩⟩, fun b hb => ?_⟩
    · have hsp := hspot hne
      subst hsp
      have h0 : 0 < l.length := by omega
      obtain ⟨u, hu⟩ : ∃ u, (encA l[0])[0]? = some u := ⟨(encA l[0])[0]'(by rw [hs]; exact hsz), by rw [List.getElem?_eq_getElem]⟩
      have := World.block_lt_of_cell? W _ (hcell 0 h0 0 u hu)
      rw [addr_add, addr_add] at this
      exact ⟨rfl, this, this⟩
    · have hj' : j < l.length * sz := by
        rw [← length_flatMap_const encA sz hs l]
        exact (List.getElem?_eq_some_iff.1 hj).1
      have hq : j / sz < l.length := Nat.div_lt_of_lt_mul (by rw [Nat.mul_comm]; exact hj')
      have hdm : j = (j / sz) * sz + j % sz := by rw [Nat.mul_comm]; exact (Nat.div_add_mod j sz).symm
      have hr : j % sz < sz := Nat.mod_lt _ hsz
      have hsp := hspot (Nat.ne_of_gt (Nat.lt_of_le_of_lt (Nat.zero_le _) hq))
      subst hsp
      rw [hdm] at hj
      rw [getElem?_flatMap_const encA sz hs l _ _ hr, List.getElem?_eq_getElem hq] at hj
      have := hcell _ hq _ u (by simpa using hj)
      rw [addr_add, addr_add] at this
      rw [hdm, ← Nat.add_assoc]
      exact this
    · obtain ⟨i, hi, rfl⟩ := List.getElem_of_mem hb
      exact (hp i hi).2

/-- An entry whose numbers its types bear. -/
def entOk (e : Entry) : Prop := (-9223372036854775808 ≤ e.pick ∧ e.pick ≤ 9223372036854775807) ∧ (-9223372036854775808 ≤ e.delay ∧ e.delay ≤ 9223372036854775807) ∧ (-9223372036854775808 ≤ e.draw ∧ e.draw ≤ 9223372036854775807)
set_option maxRecDepth 100000 in
theorem open_ent (fuel : Nat) (cs : List Value) (x : DataW H × List MemPlace) (h : DataW.trod enc Tryz.prog W base spare held fuel 40 cs = some x) : ∃ e : Entry, cs = entC e ∧ entOk e := by
  obtain ⟨y0, y1, y2, n, _, hl, f0, f1, f2⟩ := Go.Deep.trod_struct3 Tryz.underlying40 h
  have g0 : DataW.trod enc Tryz.prog W base spare held n 3 ((cs.drop 0).take (Tryz.prog.cellsOf 3)) = some y0 := f0
  have g1 : DataW.trod enc Tryz.prog W base spare held n 3 ((cs.drop 1).take (Tryz.prog.cellsOf 3)) = some y1 := f1
  have g2 : DataW.trod enc Tryz.prog W base spare held n 3 ((cs.drop 2).take (Tryz.prog.cellsOf 3)) = some y2 := f2
  rw [cellsInt] at g0 g1 g2
  obtain ⟨n0, c0, _, w0⟩ := DataW.trod_int Tryz.underlying3 g0
  obtain ⟨n1, c1, _, w1⟩ := DataW.trod_int Tryz.underlying3 g1
  obtain ⟨n2, c2, _, w2⟩ := DataW.trod_int Tryz.underlying3 g2
  have e3 : Tryz.prog.cellsOf 40 = 3 := by kernel_rfl
  rw [e3] at hl
  match cs, hl with
  | [a, b, c], _ =>
    simp at c0 c1 c2
    subst c0 c1 c2
    exact ⟨⟨n0, n1, n2⟩, rfl, bounds_i64 w0, bounds_i64 w1, bounds_i64 w2⟩
theorem cellsEnt : Tryz.prog.cellsOf 40 = 3 := by kernel_rfl
/-- A list of entries that came in. -/
theorem open_ents {v : Value} {d : DataW H} {p : List MemPlace} (hv : ∃ a n c, v = .slice a n c) (h : DataW.Trod enc Tryz.prog W base spare held 27 v d p) :
    ∃ l, EntM W (fun b => b < W.heap.size) v l ∧ ∀ e ∈ l, entOk e := by
  obtain ⟨a, n, c, rfl⟩ := hv
  obtain ⟨fuel, hf⟩ := h
  obtain ⟨v, l, hc, hl, ho⟩ := open_list Tryz.underlying27 cellsEnt (fun _ => rfl) (by decide) open_ent hf
  simp [Value.cells] at hc
  subst hc
  exact ⟨l, hl, ho⟩
end

/-! ### A world for the witness: the table of the ops as its initialiser lays it. -/
def tabCells : Array Value := ((List.range 24).flatMap fun op => [.string (nmOf op), .int .i64 (regsOf op), .int .i64 (targetOf op), .bool (op == 1), .bool (waitsOp op), .bool (endsOp op), .bool (asksOp op)]).toArray
noncomputable def laidWorld (os : Os) : World :=
  { World.holding Tryz.prog os ⟨#[], #[], []⟩ with heap := (World.holding Tryz.prog os ⟨#[], #[], []⟩).heap.modify 0 fun
      | .cells _ t frozen => .cells tabCells t frozen
      | o => o }
theorem laid_met (os : Os) (args : Array Value) : laidMet Tryz.prog [("escapement/isa.rows", Rows.laid_escapement_isa_rows)] ((laidWorld os).forCall (fun _ _ => 0) ⟨#[], args, []⟩).memory :=
  laidMet_of_run' 8 (by kernel_rfl) (by kernel_rfl)
end Go.Proofs.YtlljmbkfeemgfaaGreatDoor.Wk
