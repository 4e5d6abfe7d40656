/- Lists in memory, and a program in memory. -/
import Derived.Test.YtlljmbkfeemgfaaGreatDoorBase
import Derived.Test.YtlljmbkfeemgfaaGreatDoorModel
namespace Esc
open Go Go.RowKit

theorem getElem?_flatMap_const {α β : Type} (f : α → List β) (s : Nat) (hf : ∀ x, (f x).length = s) : ∀ (l : List α) (k i : Nat), i < s → (l.flatMap f)[k * s + i]? = (l[k]?).bind fun x => (f x)[i]?
  | [], k, i, _ => by simp
  | x :: l, 0, i, h => by simp [List.getElem?_append, hf x, h]
  | x :: l, k + 1, i, h => by
    have e : (k + 1) * s + i = s + (k * s + i) := by rw [Nat.add_mul]; omega
    rw [e, List.flatMap_cons, List.getElem?_append_right (by rw [hf x]; omega), hf x, Nat.add_sub_cancel_left]
    simpa using getElem?_flatMap_const f s hf l k i h

theorem length_flatMap_const {α β : Type} (f : α → List β) (s : Nat) (hf : ∀ x, (f x).length = s) : ∀ (l : List α), (l.flatMap f).length = l.length * s
  | [] => by simp
  | x :: l => by rw [List.flatMap_cons, List.length_append, hf x, length_flatMap_const f s hf l, List.length_cons, Nat.add_mul]; omega

/-- A slice that reads as a list (to be read alone). The element's type is a remark. -/
def Sl {α : Type} (w : World) (F : Nat → Prop) (_E : TypeId) (sz : Nat) (enc : α → List Value) (v : Value) (l : List α) : Prop := RowR w F sz v l.length (l.flatMap enc)

section
variable {α : Type} {w w' : World} {F : Nat → Prop} {E : TypeId} {sz : Nat} {enc : α → List Value} {v : Value} {l : List α}
theorem Sl.nil (w : World) (F : Nat → Prop) (E : TypeId) (sz : Nat) (enc : α → List Value) : Sl w F E sz enc (.slice none 0 0) [] := RowR.nil w F sz
theorem Sl.upd {H : Nat → Prop} (h : Sl w F E sz enc v l) (u : Upd H w w') (hd : ∀ b, F b → ¬ H b) : Sl w' F E sz enc v l := RowR.upd h u hd
theorem Sl.upd0 (h : Sl w F E sz enc v l) (u : Upd0 w w') : Sl w' F E sz enc v l := h.upd u (fun _ _ x => x)
theorem Sl.mono {G : Nat → Prop} (h : Sl w F E sz enc v l) (hG : ∀ b, F b → G b) : Sl w G E sz enc v l := RowR.mono h hG
/-- An element's cells. -/
theorem Sl.at_ (h : Sl w F E sz enc v l) (henc : ∀ x, (enc x).length = sz) {k : Nat} (hk : k < l.length) :
    ∃ g off cap, v = .slice (some ⟨g, off, none⟩) l.length cap ∧ F g ∧ l.length ≤ cap ∧ g < w.heap.size ∧ (∀ i u, (enc l[k])[i]? = some u → w.cell? ⟨g, off + k * sz + i, none⟩ = some u) := by
  rcases h.2 with ⟨_, h0⟩ | ⟨g, off, spot, cap, rfl, hc, _, r3, r4⟩
  · omega
  · obtain ⟨rfl, hg, hF⟩ := r3 (by omega)
    refine ⟨g, off, cap, rfl, hF, hc, hg, fun i u hi => ?_⟩
    have hi' : i < sz := by
      rw [← henc l[k]]
      exact (List.getElem?_eq_some_iff.1 hi).1
    have := r4 (k * sz + i) u (by rw [getElem?_flatMap_const enc sz henc l k i hi', List.getElem?_eq_getElem hk]; simpa using hi)
    rw [show off + k * sz + i = off + (k * sz + i) by omega]
    exact this
/-- The value's shape. -/
theorem Sl.val (h : Sl w F E sz enc v l) : ∃ a c, v = .slice a l.length c ∧ l.length ≤ c := by
  rcases h.2 with ⟨e, e2⟩ | ⟨g, off, spot, cap, e, hc, _⟩
  · exact ⟨none, 0, by rw [e, e2], by omega⟩
  · exact ⟨_, _, e, hc⟩
/-- Of one that is not empty. -/
theorem Sl.shape (h : Sl w F E sz enc v l) (hl : l.length ≠ 0) : ∃ g off cap, v = .slice (some ⟨g, off, none⟩) l.length cap ∧ F g ∧ l.length ≤ cap ∧ g < w.heap.size := by
  rcases h.2 with ⟨_, h0⟩ | ⟨g, off, spot, cap, rfl, hc, _, r3, _⟩
  · exact absurd h0 hl
  · obtain ⟨rfl, hg, hF⟩ := r3 hl
    exact ⟨g, off, cap, rfl, hF, hc, hg⟩
theorem Sl.slice (h : Sl w F E sz enc v l) : ∃ a n c, v = .slice a n c := by
  obtain ⟨a, c, e, _⟩ := h.val; exact ⟨_, _, _, e⟩
theorem Sl.le_max (h : Sl w F E sz enc v l) : l.length ≤ maxLen := RowR.le_max h
theorem Sl.of_row (h : Row w F E sz v l.length (l.flatMap enc)) : Sl w F E sz enc v l := RowR.of_row h
/-- A piece of a list. -/
theorem Sl.piece (h : Sl w F E sz enc v l) (henc : ∀ x, (enc x).length = sz) (lo hi mx : Nat) (h1 : lo ≤ hi) (h2 : hi ≤ l.length) (h3 : hi ≤ mx) (h4 : mx ≤ capOf v) :
    Sl w F E sz enc (Esc.cut v lo hi mx sz) ((l.drop lo).take (hi - lo)) := by
  have hr := RowR.cut h lo hi mx h1 h2 h3 h4
  have e1 : ((l.drop lo).take (hi - lo)).length = hi - lo := by simp; omega
  have e2 : ((l.flatMap enc).drop (lo * sz)).take ((hi - lo) * sz) = ((l.drop lo).take (hi - lo)).flatMap enc := by
    have hd : ∀ (k : Nat) (l : List α), (l.flatMap enc).drop (k * sz) = (l.drop k).flatMap enc := by
      intro k
      induction k with
      | zero => intro l; simp
      | succ k ih =>
        intro l
        cases l with
        | nil => simp
        | cons x l =>
          rw [List.flatMap_cons, Nat.add_mul, Nat.one_mul, Nat.add_comm, ← List.drop_drop]
          rw [show (enc x ++ l.flatMap enc).drop sz = l.flatMap enc from by rw [← henc x]; simp]
          rw [ih l]; rfl
    have ht : ∀ (k : Nat) (l : List α), (l.flatMap enc).take (k * sz) = (l.take k).flatMap enc := by
      intro k
      induction k with
      | zero => intro l; simp
      | succ k ih =>
        intro l
        cases l with
        | nil => simp
        | cons x l =>
          rw [List.flatMap_cons, Nat.add_mul, Nat.one_mul, Nat.add_comm, List.take_append, List.take_of_length_le (by rw [henc x]; omega), henc x, Nat.add_sub_cancel_left, ih l]; rfl
    rw [hd, ht]
  unfold Sl
  rw [e1, ← e2]
  exact hr
end

def instrC (i : Instr) : List Value := [.int .i64 i.op, .int .i64 i.a, .int .i64 i.b, .int .i64 i.c, .int .i64 i.n]
def boolC (b : Bool) : List Value := [.bool b]
def intC (n : Int) : List Value := [.int .i64 n]
def natC (n : Nat) : List Value := [.int .i64 n]
def pairC (x : Value × Value) : List Value := [x.1, x.2]
/-- Numbers that the types bear. -/
def Instr.fits (i : Instr) : Prop := IntKind.i64.has i.op ∧ IntKind.i64.has i.a ∧ IntKind.i64.has i.b ∧ IntKind.i64.has i.c ∧ IntKind.i64.has i.n

/-- A function in memory. TI, TB: the types of an instruction, of a truth. -/
structure FnAt (w : World) (F : Nat → Prop) (TI TB : TypeId) (c s : Value) (f : FnD) : Prop where
  code : Sl w F TI 5 instrC c f.code
  safe : Sl w F TB 1 boolC s f.safe
  fits : ∀ i ∈ f.code, i.fits

/-- A program in memory. -/
def ProgAt (w : World) (F : Nat → Prop) (TF TI TB : TypeId) (v : Value) (p : Prog) : Prop :=
  ∃ vs : List (Value × Value), vs.length = p.length ∧ Sl w F TF 2 pairC v vs ∧ ∀ k (h : k < vs.length) (h' : k < p.length), FnAt w F TI TB vs[k].1 vs[k].2 p[k]

section
variable {w w' : World} {F H : Nat → Prop} {TF TI TB : TypeId}
theorem FnAt.upd {c s : Value} {f : FnD} (h : FnAt w F TI TB c s f) (u : Upd H w w') (hd : ∀ b, F b → ¬ H b) : FnAt w' F TI TB c s f := ⟨h.code.upd u hd, h.safe.upd u hd, h.fits⟩
theorem FnAt.upd0 {c s : Value} {f : FnD} (h : FnAt w F TI TB c s f) (u : Upd0 w w') : FnAt w' F TI TB c s f := h.upd u (fun _ _ x => x)
theorem ProgAt.upd {v : Value} {p : Prog} (h : ProgAt w F TF TI TB v p) (u : Upd H w w') (hd : ∀ b, F b → ¬ H b) : ProgAt w' F TF TI TB v p := by
  obtain ⟨vs, h1, h2, h3⟩ := h
  exact ⟨vs, h1, h2.upd u hd, fun k a b => (h3 k a b).upd u hd⟩
theorem ProgAt.upd0 {v : Value} {p : Prog} (h : ProgAt w F TF TI TB v p) (u : Upd0 w w') : ProgAt w' F TF TI TB v p := h.upd u (fun _ _ x => x)
/-- The k-th function. -/
theorem ProgAt.fn {v : Value} {p : Prog} (h : ProgAt w F TF TI TB v p) {k : Nat} (hk : k < p.length) :
    ∃ g off cap c s, v = .slice (some ⟨g, off, none⟩) p.length cap ∧ p.length ≤ cap ∧ g < w.heap.size ∧ w.cell? ⟨g, off + k * 2, none⟩ = some c ∧ w.cell? ⟨g, off + k * 2 + 1, none⟩ = some s ∧ FnAt w F TI TB c s (fnAt p k) := by
  obtain ⟨vs, h1, h2, h3⟩ := h
  obtain ⟨g, off, cap, rfl, _, hc, hg, hcell⟩ := h2.at_ (fun _ => rfl) (k := k) (by omega)
  refine ⟨g, off, cap, vs[k].1, vs[k].2, by rw [h1], by omega, hg, hcell 0 _ rfl, hcell 1 _ rfl, ?_⟩
  have := h3 k (by omega) hk
  rw [show fnAt p k = p[k] from by simp [fnAt, List.getD, hk]]
  exact this
theorem ProgAt.val {v : Value} {p : Prog} (h : ProgAt w F TF TI TB v p) : ∃ a c, v = .slice a p.length c ∧ p.length ≤ c := by
  obtain ⟨vs, h1, h2, h3⟩ := h
  rw [← h1]; exact h2.val
theorem ProgAt.shape {v : Value} {p : Prog} (h : ProgAt w F TF TI TB v p) (hp : p.length ≠ 0) : ∃ g off cap, v = .slice (some ⟨g, off, none⟩) p.length cap ∧ p.length ≤ cap := by
  obtain ⟨vs, h1, h2, h3⟩ := h
  obtain ⟨g, off, cap, e, _, hc, _⟩ := h2.shape (by omega)
  exact ⟨g, off, cap, by rw [e, h1], by omega⟩
theorem ProgAt.le_max {v : Value} {p : Prog} (h : ProgAt w F TF TI TB v p) : p.length ≤ maxLen := by
  obtain ⟨vs, h1, h2, _⟩ := h; rw [← h1]; exact h2.le_max
/-- An instruction's cells. -/
theorem FnAt.instr {c s : Value} {f : FnD} (h : FnAt w F TI TB c s f) {k : Nat} (hk : k < f.code.length) :
    ∃ g off cap, c = .slice (some ⟨g, off, none⟩) f.code.length cap ∧ f.code.length ≤ cap ∧ g < w.heap.size ∧
      w.cell? ⟨g, off + k * 5, none⟩ = some (.int .i64 (f.code.getD k default).op) ∧ w.cell? ⟨g, off + k * 5 + 1, none⟩ = some (.int .i64 (f.code.getD k default).a) ∧
      w.cell? ⟨g, off + k * 5 + 2, none⟩ = some (.int .i64 (f.code.getD k default).b) ∧ w.cell? ⟨g, off + k * 5 + 3, none⟩ = some (.int .i64 (f.code.getD k default).c) ∧
      w.cell? ⟨g, off + k * 5 + 4, none⟩ = some (.int .i64 (f.code.getD k default).n) := by
  obtain ⟨g, off, cap, rfl, _, hc, hg, hcell⟩ := h.code.at_ (fun _ => rfl) hk
  have e : f.code.getD k default = f.code[k] := by simp [List.getD, hk]
  rw [e]
  exact ⟨g, off, cap, rfl, hc, hg, hcell 0 _ rfl, hcell 1 _ rfl, hcell 2 _ rfl, hcell 3 _ rfl, hcell 4 _ rfl⟩
theorem FnAt.truth {c s : Value} {f : FnD} (h : FnAt w F TI TB c s f) {k : Nat} (hk : k < f.safe.length) :
    ∃ g off cap, s = .slice (some ⟨g, off, none⟩) f.safe.length cap ∧ f.safe.length ≤ cap ∧ g < w.heap.size ∧ w.cell? ⟨g, off + k, none⟩ = some (.bool (safeAt f k)) := by
  obtain ⟨g, off, cap, rfl, _, hc, hg, hcell⟩ := h.safe.at_ (fun _ => rfl) hk
  have e : safeAt f k = f.safe[k] := by simp [safeAt, List.getD, hk]
  rw [e]
  exact ⟨g, off, cap, rfl, hc, hg, by have := hcell 0 _ rfl; simpa using this⟩
end
end Esc
