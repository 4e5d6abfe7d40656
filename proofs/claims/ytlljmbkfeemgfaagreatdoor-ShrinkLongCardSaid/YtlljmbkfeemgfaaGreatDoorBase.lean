/- What every walk of ours leans on: whole blocks of memory, what a call may change, rows of a slice. No program is in sight here. -/
import Derived.WalkKit
import Derived.Lib.Hide
import Derived.Deep.QuietTactic
import Derived.BigQuiet
namespace Esc
open Go Go.RowKit

/-- Block b holds these cells. -/
def Blk (w : World) (b : Nat) (cs : List Value) (T : TypeId) : Prop := w.heap[b]? = some (.cells cs.toArray T (0, 0))

section
variable {w w' : World} {b : Nat} {cs : List Value} {T : TypeId}

theorem Blk.cell (h : Blk w b cs T) (i : Nat) : w.cell? ⟨b, i, none⟩ = cs[i]? := by
  unfold Blk at h; simp [World.cell?, h]
theorem Blk.free (h : Blk w b cs T) (i : Nat) : w.frozen? ⟨b, i, none⟩ = false := by
  unfold Blk at h; simp [World.frozen?, h]
theorem Blk.lt (h : Blk w b cs T) : b < w.heap.size := by
  unfold Blk at h
  rcases Nat.lt_or_ge b w.heap.size with h' | h'
  · exact h'
  · simp [Array.getElem?_eq_none h'] at h
theorem Blk.of_heap (h : Blk w b cs T) (e : w'.heap[b]? = w.heap[b]?) : Blk w' b cs T := by unfold Blk at *; rw [e]; exact h
theorem Blk.alloc (h : Blk w b cs T) (o : Obj) : Blk (w.alloc o) b cs T := h.of_heap (Below.heap_alloc w o b h.lt)
theorem Blk.drew (h : Blk w b cs T) : Blk w.drew b cs T := h
theorem Blk.set_other (h : Blk w b cs T) {a : Addr} (hne : a.block ≠ b) (v : Value) : Blk (w.setCell a v) b cs T :=
  h.of_heap (Below.heap_setCell w a v b (fun e => hne e.symm))
theorem Blk.set (h : Blk w b cs T) (i : Nat) (v : Value) : Blk (w.setCell ⟨b, i, none⟩ v) b (cs.set i v) T := by
  have hlt := h.lt
  unfold Blk at *
  have h' : w.heap[b] = .cells cs.toArray T (0, 0) := by simpa [Array.getElem?_eq_getElem hlt] using h
  show (w.heap.modify b _)[b]? = _
  rw [Array.getElem?_eq_getElem (by simpa using hlt), Array.getElem_modify_self, h']
  simp
theorem Blk.new (w : World) (cs : List Value) (T : TypeId) : Blk (w.alloc (.cells cs.toArray T)) w.heap.size cs T := by
  unfold Blk World.alloc; simp
theorem Blk.inj {cs' : List Value} {T' : TypeId} (h : Blk w b cs T) (h' : Blk w b cs' T') : cs = cs' ∧ T = T' := by
  unfold Blk at *; rw [h] at h'; simpa using h'
end

/-- Behind a call: of what was there only blocks of F may have turned. -/
structure Upd (F : Nat → Prop) (w w' : World) : Prop where
  os : w'.os = w.os
  tape : w'.tape = w.tape
  output : w'.output = w.output
  size : w.heap.size ≤ w'.heap.size
  block : ∀ b, b < w.heap.size → ¬ F b → w'.heap[b]? = w.heap[b]?

/-- Nothing that was there has turned. -/
abbrev Upd0 := Upd (fun _ => False)

namespace Upd
variable {F G : Nat → Prop} {a w w' : World}
theorem refl (F : Nat → Prop) (w : World) : Upd F w w := ⟨rfl, rfl, rfl, Nat.le_refl _, fun _ _ _ => rfl⟩
theorem trans {c : World} (h : Upd F a w) (k : Upd F w c) : Upd F a c :=
  ⟨k.os.trans h.os, k.tape.trans h.tape, k.output.trans h.output, Nat.le_trans h.size k.size,
   fun b hb hF => (k.block b (Nat.lt_of_lt_of_le hb h.size) hF).trans (h.block b hb hF)⟩
/-- What was new to the first step may turn in the second. -/
theorem trans' {c : World} (h : Upd F a w) (k : Upd (fun b => F b ∨ a.heap.size ≤ b) w c) : Upd F a c :=
  ⟨k.os.trans h.os, k.tape.trans h.tape, k.output.trans h.output, Nat.le_trans h.size k.size,
   fun b hb hF => (k.block b (Nat.lt_of_lt_of_le hb h.size) (fun x => x.elim hF (fun y => by omega))).trans (h.block b hb hF)⟩
theorem mono (h : Upd F a w) (hF : ∀ b, b < a.heap.size → F b → G b) : Upd G a w := ⟨h.os, h.tape, h.output, h.size, fun b hb hG => h.block b hb (fun x => hG (hF b hb x))⟩
theorem of0 (h : Upd0 a w) : Upd F a w := h.mono (fun _ _ x => x.elim)
theorem drew (h : Upd F a w) : Upd F a w.drew := ⟨h.os, h.tape, h.output, h.size, h.block⟩
theorem drewN (h : Upd F a w) (n : Nat) : Upd F a (w.drewN n) := ⟨h.os, h.tape, h.output, h.size, h.block⟩
theorem alloc (h : Upd F a w) (o : Obj) : Upd F a (w.alloc o) :=
  h.trans ⟨rfl, rfl, rfl, by simp, fun b hb _ => Below.heap_alloc _ _ _ hb⟩
theorem set (h : Upd F a w) {p : Addr} (hp : F p.block ∨ a.heap.size ≤ p.block) (v : Value) : Upd F a (w.setCell p v) :=
  h.trans' ⟨rfl, rfl, rfl, by simp [World.setCell], fun b _ hF => Below.heap_setCell _ _ _ _ (fun e => hF (e ▸ hp))⟩
theorem heap (h : Upd F a w) {b : Nat} (hb : b < a.heap.size) (hF : ¬ F b) : w.heap[b]? = a.heap[b]? := h.block b hb hF
theorem blk (h : Upd F a w) {b : Nat} {cs : List Value} {T : TypeId} (hB : Blk a b cs T) (hF : ¬ F b) : Blk w b cs T := hB.of_heap (h.block b hB.lt hF)
theorem cell (h : Upd F a w) {p : Addr} (hp : p.block < a.heap.size) (hF : ¬ F p.block) : w.cell? p = a.cell? p := World.cell?_of_block (w := a) (h.block p.block hp hF)
theorem below (h : Upd0 a w) : Below a.heap.size a w := ⟨h.os, h.tape, h.output, h.size, fun b hb => h.block b hb (fun x => x)⟩
theorem of_below {B : Nat} (h : Below B a w) (hB : ∀ b, b < a.heap.size → ¬ F b → b < B) : Upd F a w := ⟨h.os, h.tape, h.output, h.size, fun b hb hF => h.block b (hB b hb hF)⟩
theorem of_grown {r : Option Nat} (h : a.grownBy w r) (hr : ∀ b, r = some b → F b) : Upd F a w := ⟨h.os, h.tape, h.output, h.size, fun b hb hF => h.block b hb (fun e => hF (hr b e.symm))⟩
end Upd

/-- A block that was made just ahead of a call that leaves it alone. -/
theorem Upd.new {F : Nat → Prop} {w w' : World} {cs : List Value} {T : TypeId} (h : Upd F (w.alloc (.cells cs.toArray T)) w') (hF : ¬ F w.heap.size) : Blk w' w.heap.size cs T :=
  h.blk (Blk.new w cs T) hF
theorem Upd0.new {w w' : World} {cs : List Value} {T : TypeId} (h : Upd0 (w.alloc (.cells cs.toArray T)) w') : Blk w' w.heap.size cs T := Upd.new h (fun x => x)
/-- Ahead of a new block. -/
theorem Upd.pre {F : Nat → Prop} {w w' : World} {o : Obj} (h : Upd F (w.alloc o) w') : Upd F w w' := ((Upd.refl F w).alloc o).trans h

/-- What a call comes to: this value, in a world of which Q holds. -/
def Ret (v : Value) (Q : World → Prop) : Ending → World → Prop := fun e w' => e = .returned v ∧ Q w'

/-- A slice of n elements of sz cells each, that reads as the cells xs; its row, if it has one, is one of F. -/
def Row (w : World) (F : Nat → Prop) (E : TypeId) (sz : Nat) (v : Value) (n : Nat) (xs : List Value) : Prop :=
  xs.length = n * sz ∧
  ((v = .slice none 0 0 ∧ n = 0) ∨
   ∃ g off cap cur, v = .slice (some ⟨g, off, none⟩) n cap ∧ F g ∧ Blk w g cur E ∧ n ≤ cap ∧ cap ≤ maxLen ∧ off + cap * sz ≤ cur.length ∧ (cur.drop off).take (n * sz) = xs)

namespace Row
variable {w w' : World} {F G : Nat → Prop} {E : TypeId} {sz : Nat} {v : Value} {n : Nat} {xs : List Value}

theorem nil (w : World) (F : Nat → Prop) (E : TypeId) (sz : Nat) : Row w F E sz (.slice none 0 0) 0 [] := ⟨by simp, .inl ⟨rfl, rfl⟩⟩

theorem keep (h : Row w F E sz v n xs) (hb : ∀ b, F b → b < w.heap.size → w'.heap[b]? = w.heap[b]?) (hG : ∀ b, b < w.heap.size → F b → G b) : Row w' G E sz v n xs := by
  refine ⟨h.1, ?_⟩
  rcases h.2 with hn | ⟨g, off, cap, cur, rfl, hF, hB, r⟩
  · exact .inl hn
  · exact .inr ⟨g, off, cap, cur, rfl, hG g hB.lt hF, hB.of_heap (hb g hF hB.lt), r⟩
theorem upd {H : Nat → Prop} (h : Row w F E sz v n xs) (u : Upd H w w') (hd : ∀ b, F b → ¬ H b) : Row w' F E sz v n xs :=
  h.keep (fun b hF hb => u.block b hb (hd b hF)) (fun _ _ x => x)
theorem mono (h : Row w F E sz v n xs) (hG : ∀ b, b < w.heap.size → F b → G b) : Row w G E sz v n xs := h.keep (fun _ _ _ => rfl) hG
theorem len (h : Row w F E sz v n xs) : xs.length = n * sz := h.1
theorem le_max (h : Row w F E sz v n xs) : n ≤ maxLen := by
  rcases h.2 with ⟨_, rfl⟩ | ⟨g, off, cap, cur, rfl, _, _, r1, r2, _⟩
  · simp [maxLen]
  · omega

/-- The shape of the value: nil, or a place. -/
theorem shape (h : Row w F E sz v n xs) : (v = .slice none 0 0 ∧ n = 0 ∧ xs = []) ∨ ∃ g off cap, v = .slice (some ⟨g, off, none⟩) n cap ∧ F g ∧ n ≤ cap ∧
    (∀ j u, xs[j]? = some u → w.cell? ⟨g, off + j, none⟩ = some u) ∧ (∀ j, w.frozen? ⟨g, off + j, none⟩ = false) ∧ g < w.heap.size := by
  rcases h.2 with ⟨rfl, rfl⟩ | ⟨g, off, cap, cur, rfl, hF, hB, r1, r2, r3, r4⟩
  · exact .inl ⟨rfl, rfl, List.eq_nil_of_length_eq_zero (by simpa using h.1)⟩
  · refine .inr ⟨g, off, cap, rfl, hF, r1, fun j u hj => ?_, fun j => hB.free _, hB.lt⟩
    rw [hB.cell]
    rw [← r4, List.getElem?_take] at hj
    split at hj
    · rw [List.getElem?_drop] at hj; exact hj
    · cases hj

/-- A store into the row. -/
theorem set {g off cap : Nat} (h : Row w F E sz (.slice (some ⟨g, off, none⟩) n cap) n xs) (i : Nat) (hi : i < xs.length) (u : Value) :
    Row (w.setCell ⟨g, off + i, none⟩ u) F E sz (.slice (some ⟨g, off, none⟩) n cap) n (xs.set i u) := by
  refine ⟨by simpa using h.1, ?_⟩
  rcases h.2 with ⟨hv, _⟩ | ⟨g', off', cap', cur, hv, hF, hB, r1, r2, r3, r4⟩
  · cases hv
  · injection hv with h1 h2 h3
    injection h1 with h1
    injection h1 with h4 h5
    subst h4 h5 h3
    refine .inr ⟨g, off, cap, cur.set (off + i) u, rfl, hF, hB.set _ _, r1, r2, by simpa using r3, ?_⟩
    rw [← r4] at hi ⊢
    apply List.ext_getElem?
    intro j
    simp only [List.getElem?_take, List.getElem?_drop, List.getElem?_set, List.length_take, List.length_drop]
    simp only [List.length_take, List.length_drop] at hi
    by_cases hj : i = j
    · subst hj
      have e1 : i < n * sz := by omega
      have e2 : off + i < cur.length := by omega
      have e3 : i < min (n * sz) (cur.length - off) := by omega
      simp [e1, e2, e3]
    · simp [hj]
end Row

theorem addr_add (g off j : Nat) : (⟨g, off, none⟩ : Addr).add j = ⟨g, off + j, none⟩ := by unfold Addr.add; split <;> simp_all

section
variable {P : Program} {w : World}
theorem Row.add_cells {F : Nat → Prop} {E : TypeId} {sz : Nat} {g off n cap : Nat} {xs : List Value} (h : Row w F E sz (.slice (some ⟨g, off, none⟩) n cap) n xs) :
    ∀ j u, xs[j]? = some u → w.cell? ((⟨g, off, none⟩ : Addr).add j) = some u := by
  intro j u hj
  rw [addr_add]
  rcases h.shape with ⟨hv, _⟩ | ⟨g', off', cap', hv, _, _, hc, _⟩
  · cases hv
  · injection hv with h1 h2 h3
    injection h1 with h1
    injection h1 with h4 h5
    subst h4 h5
    exact hc j u hj

/-- 'append': where there is room, the row is written; else there is a new one. -/
theorem run_append_row {F : Nat → Prop} (t ty e : TypeId) (i : TypeInfo) (z : Value) (size bytes : Nat) (ht : P.underlying t = some (.slice e)) (hi : P.info? e = some i) (hz : i.zero = some z)
    (hsize : i.size = size) (hby : i.bytes = bytes) (hzs : z.cells.size = size) (hsz : 0 < size)
    (v : Value) (n : Nat) (xs : List Value) (hrow : Row w F e size v n xs)
    (a : Addr) (m c : Nat) (news : List Value) (hl : news.length = m * size) (hnews : ∀ j u, news[j]? = some u → w.cell? (a.add j) = some u) (h1 : ∀ u ∈ news, u.oneCell' = true)
    (h63 : n + m ≤ maxLen) (hbytes : (n + m) * bytes ≤ 140737488355328) :
    ∃ v' w', (Builtin.append_ #[t, t] ty #[v, .slice (some a) m c]).run P w = .ok v' w' ∧ Row w' (fun b => F b ∨ w.heap.size ≤ b) e size v' (n + m) (xs ++ news) ∧ Upd F w w' := by
  subst hsize
  subst hby
  have hsmall : n + m ≤ 9223372036854775807 := by simp only [maxLen] at h63; omega
  have hlen : (xs ++ news).length = (n + m) * i.size := by rw [List.length_append, hrow.1, hl, Nat.add_mul]
  have grown : ∀ (old : Nat), old < n + m →
      Row (w.drew.alloc (.cells (xs.toArray ++ news.toArray ++ Builtin.zeroCells z.cells (grownCap w (n + m) old e - (n + m))) e)) (fun b => F b ∨ w.heap.size ≤ b) e i.size
        (.slice (some ⟨w.heap.size, 0, none⟩) (n + m) (grownCap w (n + m) old e)) (n + m) (xs ++ news) ∧
      Upd F w (w.drew.alloc (.cells (xs.toArray ++ news.toArray ++ Builtin.zeroCells z.cells (grownCap w (n + m) old e - (n + m))) e)) := by
    intro old ho
    have hge := grownCap_ge w (n + m) old e
    have hcm : grownCap w (n + m) old e ≤ maxLen := grownCap_le_maxLen w (n + m) old e h63
    refine ⟨⟨hlen, .inr ⟨w.heap.size, 0, _, xs ++ news ++ (Builtin.zeroCells z.cells (grownCap w (n + m) old e - (n + m))).toList, rfl, .inr (Nat.le_refl _), ?_, hge, hcm, ?_, ?_⟩⟩, ((Upd.refl F w).drew).alloc _⟩
    · have := Blk.new w.drew (xs ++ news ++ (Builtin.zeroCells z.cells (grownCap w (n + m) old e - (n + m))).toList) e
      have e1 : (xs ++ news ++ (Builtin.zeroCells z.cells (grownCap w (n + m) old e - (n + m))).toList).toArray = xs.toArray ++ news.toArray ++ Builtin.zeroCells z.cells (grownCap w (n + m) old e - (n + m)) := by
        apply Array.ext'; simp
      rw [e1] at this
      exact this
    · simp only [List.length_append, hrow.1, hl, Array.length_toList, size_zeroCells, hzs, ← Nat.add_mul]
      simp only [Nat.zero_add]
      apply Nat.le_of_eq
      congr 1
      omega
    · rw [List.drop_zero, ← hlen]
      exact List.take_left
  rcases hrow.2 with ⟨rfl, rfl⟩ | ⟨g, off, cap, cur, rfl, hF, hB, hnc, hcm, hcs, htake⟩
  · have hx : xs = [] := List.eq_nil_of_length_eq_zero (by simpa using hrow.1)
    subst hx
    by_cases hm : m = 0
    · subst hm
      have hn : news = [] := List.eq_nil_of_length_eq_zero (by simpa using hl)
      subst hn
      refine ⟨.slice none 0 0, w, ?_, Row.nil w _ e i.size, Upd.refl _ _⟩
      simp [Builtin.append_, run_underlying ht, Go.sizeOf, typeInfo, hi, Builtin.lenOf, Builtin.firstCells, loadCells, loadCellsFrom]
    · have hr := run_append_nil (P := P) w t ty e i z ht hi hz a m c news hl hnews (by omega) (by omega) (by have hb := hbytes; simp only [Nat.zero_add] at hb; omega)
      have hgr := grown 0 (by omega)
      simp only [Nat.zero_add, List.nil_append, Array.empty_append] at hgr ⊢
      exact ⟨_, _, hr, hgr.1, hgr.2⟩
  · by_cases hroom : n + m ≤ cap
    · have hfit : off + n * i.size + 0 + news.length ≤ cur.toArray.size := by
        have h1' : n * i.size + news.length ≤ cap * i.size := by rw [hl, ← Nat.add_mul]; exact Nat.mul_le_mul_right _ hroom
        simp; omega
      have hf := run_firstCells_some (P := P) w i.size m a m c news hl hnews
      have hst := run_storeCells_at P g (off + n * i.size) e news 0 cur.toArray w hB hfit h1
      simp only [Nat.add_zero] at hst
      refine ⟨.slice (some ⟨g, off, none⟩) (n + m) cap, w.setRow g (cur.take (off + n * i.size) ++ news ++ cur.drop (off + n * i.size + news.length)).toArray, ?_, ⟨hlen, .inr ⟨g, off, cap, cur.take (off + n * i.size) ++ news ++ cur.drop (off + n * i.size + news.length), rfl, .inl hF, ?_, hroom, hcm, ?_, ?_⟩⟩, ?_⟩
      · simp [Builtin.append_, run_underlying ht, Go.sizeOf, typeInfo, hi, Builtin.lenOf, hroom, hf, addr_add, hst]
      · exact setRow_heap w g cur.toArray _ e _ hB
      · simp only [List.length_append, List.length_take, List.length_drop]
        simp at hfit
        omega
      · simp at hfit
        have h2 : off ≤ cur.length := by omega
        rw [List.append_assoc, List.drop_append_of_le_length (by simp; omega), List.drop_take]
        have h3 : off + n * i.size - off = n * i.size := by omega
        rw [h3, htake, ← List.append_assoc, ← hlen]
        exact List.take_left
      · exact ⟨rfl, rfl, rfl, by simp, fun b _ hb => setRow_other w g b _ (fun x => hb (x ▸ hF))⟩
    · have hr := run_append_grow (P := P) w t ty e i z ht hi hz ⟨g, off, none⟩ n cap xs hrow.1 hrow.add_cells a m c news hl hnews (by omega) (by omega) (growslice_fits (by omega) hbytes)
      have hgr := grown cap (by omega)
      exact ⟨_, _, hr, hgr.1, hgr.2⟩

theorem wp_append_row {F : Nat → Prop} {o : Oper} {a : Act} {K : Act → World → Prop} {Q : Exit → Act → World → Prop} (s x : Operand) (t : TypeId)
    (ho : o.op = .call { callee := .builtin .append, args := #[s, x], argTypes := #[t, t] })
    (e : TypeId) (i : TypeInfo) (z : Value) (size bytes : Nat) (ht : P.underlying t = some (.slice e)) (hi : P.info? e = some i) (hz : i.zero = some z)
    (hsize : i.size = size) (hby : i.bytes = bytes) (hzs : z.cells.size = size) (hsz : 0 < size)
    (v : Value) (n : Nat) (xs : List Value) (hs : a.eval s = v) (hrow : Row w F e size v n xs)
    (ad : Addr) (m c : Nat) (news : List Value) (hx : a.eval x = .slice (some ad) m c) (hl : news.length = m * size) (hnews : ∀ j u, news[j]? = some u → w.cell? (ad.add j) = some u) (h1 : ∀ u ∈ news, u.oneCell' = true)
    (h63 : n + m ≤ maxLen) (hbytes : (n + m) * bytes ≤ 140737488355328)
    (h : ∀ v' w', Row w' (fun b => F b ∨ w.heap.size ≤ b) e size v' (n + m) (xs ++ news) → Upd F w w' → K (a.put o.dst v') w') : o.wp P a w K Q := by
  obtain ⟨v', w', hr, h2, h3⟩ := run_append_row (P := P) t o.type e i z size bytes ht hi hz hsize hby hzs hsz v n xs hrow ad m c news hl hnews h1 h63 hbytes
  unfold Oper.wp execOp
  simp only [ho, resolve, invoke, builtin, Sem.run_bind, Sem.run_pure, Result.andThen_ok, List.map_toArray, List.map_cons, List.map_nil, hs, hx, hr]
  exact h v' w' h2 h3

theorem wpList_append_row {F : Nat → Prop} {ops : Array Oper} {rest : List Oper} {o : Oper} {a : Act} {Q : Exit → Act → World → Prop} (hgd : o.guard = none) (s x : Operand) (t : TypeId)
    (ho : o.op = .call { callee := .builtin .append, args := #[s, x], argTypes := #[t, t] })
    (e : TypeId) (i : TypeInfo) (z : Value) (size bytes : Nat) (ht : P.underlying t = some (.slice e)) (hi : P.info? e = some i) (hz : i.zero = some z)
    (hsize : i.size = size) (hby : i.bytes = bytes) (hzs : z.cells.size = size) (hsz : 0 < size)
    (v : Value) (n : Nat) (xs : List Value) (hs : a.eval s = v) (hrow : Row w F e size v n xs)
    (ad : Addr) (m c : Nat) (news : List Value) (hx : a.eval x = .slice (some ad) m c) (hl : news.length = m * size) (hnews : ∀ j u, news[j]? = some u → w.cell? (ad.add j) = some u) (h1 : ∀ u ∈ news, u.oneCell' = true)
    (h63 : n + m ≤ maxLen) (hbytes : (n + m) * bytes ≤ 140737488355328)
    (h : ∀ v' w', Row w' (fun b => F b ∨ w.heap.size ≤ b) e size v' (n + m) (xs ++ news) → Upd F w w' → wpList P ops Q rest (a.put o.dst v') w') : wpList P ops Q (o :: rest) a w :=
  wpList_plain hgd fun _ hK => wp_append_row s x t ho e i z size bytes ht hi hz hsize hby hzs hsz v n xs hs hrow ad m c news hx hl hnews h1 h63 hbytes fun v' w' h2 h3 => hK _ _ (h v' w' h2 h3)
end


/-- The same, to be read alone: nothing is said of the block but its cells. (What comes in as an argument is so.) -/
def RowR (w : World) (F : Nat → Prop) (sz : Nat) (v : Value) (n : Nat) (xs : List Value) : Prop :=
  xs.length = n * sz ∧
  ((v = .slice none 0 0 ∧ n = 0) ∨
   ∃ g off spot cap, v = .slice (some ⟨g, off, spot⟩) n cap ∧ n ≤ cap ∧ cap ≤ maxLen ∧ (n ≠ 0 → spot = none ∧ g < w.heap.size ∧ F g) ∧ ∀ j u, xs[j]? = some u → w.cell? ⟨g, off + j, none⟩ = some u)

namespace RowR
variable {w w' : World} {F G : Nat → Prop} {sz : Nat} {v : Value} {n : Nat} {xs : List Value}
theorem nil (w : World) (F : Nat → Prop) (sz : Nat) : RowR w F sz (.slice none 0 0) 0 [] := ⟨by simp, .inl ⟨rfl, rfl⟩⟩
theorem of_row {E : TypeId} (h : Row w F E sz v n xs) : RowR w F sz v n xs := by
  refine ⟨h.1, ?_⟩
  rcases h.2 with hn | ⟨g, off, cap, cur, rfl, hF, hB, r1, r2, r3, r4⟩
  · exact .inl hn
  · refine .inr ⟨g, off, none, cap, rfl, r1, r2, fun _ => ⟨rfl, hB.lt, hF⟩, fun j u hj => ?_⟩
    rw [hB.cell]
    rw [← r4, List.getElem?_take] at hj
    split at hj
    · rw [List.getElem?_drop] at hj; exact hj
    · cases hj
theorem keep (h : RowR w F sz v n xs) (hs : w.heap.size ≤ w'.heap.size) (hb : ∀ b, F b → b < w.heap.size → w'.heap[b]? = w.heap[b]?) (hG : ∀ b, F b → G b) : RowR w' G sz v n xs := by
  refine ⟨h.1, ?_⟩
  rcases h.2 with hn | ⟨g, off, spot, cap, rfl, r1, r2, r3, r4⟩
  · exact .inl hn
  · refine .inr ⟨g, off, spot, cap, rfl, r1, r2, fun hn => ⟨(r3 hn).1, Nat.lt_of_lt_of_le (r3 hn).2.1 hs, hG g (r3 hn).2.2⟩, fun j u hj => ?_⟩
    have hc := r4 j u hj
    have hlt := World.block_lt_of_cell? w _ hc
    have hn : n ≠ 0 := by
      rintro rfl
      have := h.1
      simp at this
      subst this
      simp at hj
    rw [World.cell?_of_block (w := w) (hb g (r3 hn).2.2 hlt)]
    exact hc
theorem upd {H : Nat → Prop} (h : RowR w F sz v n xs) (u : Upd H w w') (hd : ∀ b, F b → ¬ H b) : RowR w' F sz v n xs :=
  h.keep u.size (fun b hF hb => u.block b hb (hd b hF)) (fun _ x => x)
theorem mono (h : RowR w F sz v n xs) (hG : ∀ b, F b → G b) : RowR w G sz v n xs := h.keep (Nat.le_refl _) (fun _ _ _ => rfl) hG
theorem le_max (h : RowR w F sz v n xs) : n ≤ maxLen := by
  rcases h.2 with ⟨_, rfl⟩ | ⟨g, off, spot, cap, rfl, r1, r2, _⟩
  · simp [maxLen]
  · omega
theorem add_cells {g off n cap : Nat} (h : RowR w F sz (.slice (some ⟨g, off, none⟩) n cap) n xs) : ∀ j u, xs[j]? = some u → w.cell? ((⟨g, off, none⟩ : Addr).add j) = some u := by
  intro j u hj
  rw [addr_add]
  rcases h.2 with ⟨hv, _⟩ | ⟨g', off', spot', cap', hv, _, _, _, hc⟩
  · cases hv
  · injection hv with h1 h2 h3
    injection h1 with h1
    injection h1 with h4 h5
    subst h4 h5
    exact hc j u hj
end RowR

section
variable {P : Program} {w : World}
/-- 'append' as one step of a region that draws its order. -/
theorem step_append_row {F : Nat → Prop} {ops : Array Oper} {o : Oper} {a : Act} {K : Act → World → Prop} {Q : Exit → Act → World → Prop} {E : Prop} (hgd : o.guard = none) (s x : Operand) (t : TypeId)
    (ho : o.op = .call { callee := .builtin .append, args := #[s, x], argTypes := #[t, t] })
    (e : TypeId) (i : TypeInfo) (z : Value) (size bytes : Nat) (ht : P.underlying t = some (.slice e)) (hi : P.info? e = some i) (hz : i.zero = some z)
    (hsize : i.size = size) (hby : i.bytes = bytes) (hzs : z.cells.size = size) (hsz : 0 < size)
    (v : Value) (n : Nat) (xs : List Value) (hs : a.eval s = v) (hrow : Row w F e size v n xs)
    (v2 : Value) (G : Nat → Prop) (m : Nat) (news : List Value) (hx : a.eval x = v2) (hrow2 : RowR w G size v2 m news) (h1 : ∀ u ∈ news, u.oneCell' = true)
    (h63 : n + m ≤ maxLen) (hbytes : (n + m) * bytes ≤ 140737488355328)
    (h : ∀ v' w', Row w' (fun b => F b ∨ w.heap.size ≤ b) e size v' (n + m) (xs ++ news) → Upd F w w' → K (a.put o.dst v') w') :
    if Region.wanted o (yielded ops a.tmps) = true then Oper.wp P o a w K Q else E := by
  rw [if_pos (by simp [Region.wanted, hgd])]
  by_cases hm0 : m = 0
  · subst hm0
    obtain rfl : news = [] := List.eq_nil_of_length_eq_zero (by simpa using hrow2.1)
    simp only [Nat.add_zero, List.append_nil] at h
    obtain ⟨a2, c2, rfl⟩ : ∃ a c, v2 = .slice a 0 c := by
      rcases hrow2.2 with ⟨e, _⟩ | ⟨g, off, spot, cap, e, _⟩
      · exact ⟨_, _, e⟩
      · exact ⟨_, _, e⟩
    have hrun : (Builtin.append_ #[t, t] o.type #[v, .slice a2 0 c2]).run P w = .ok v w := by
      subst hsize
      rcases hrow.2 with ⟨rfl, rfl⟩ | ⟨g, off, cap, cur, rfl, hF, hB, r1, _⟩
      · cases a2 <;> simp [Builtin.append_, run_underlying ht, Go.sizeOf, typeInfo, hi, Builtin.lenOf, Builtin.firstCells, loadCells, loadCellsFrom]
      · cases a2 <;> simp [Builtin.append_, run_underlying ht, Go.sizeOf, typeInfo, hi, Builtin.lenOf, Builtin.firstCells, r1, storeCells, loadCells, loadCellsFrom]
    unfold Oper.wp execOp
    simp only [ho, resolve, invoke, builtin, Sem.run_bind, Sem.run_pure, Result.andThen_ok, List.map_toArray, List.map_cons, List.map_nil, hs, hx, hrun]
    exact h v w (hrow.mono fun _ _ x => .inl x) (Upd.refl _ _)
  · rcases hrow2.2 with ⟨_, h0⟩ | ⟨g, off, spot, cap, rfl, _, _, r3, r4⟩
    · exact absurd h0 hm0
    obtain ⟨rfl, _⟩ := r3 hm0
    exact wp_append_row s x t ho e i z size bytes ht hi hz hsize hby hzs hsz v n xs hs hrow ⟨g, off, none⟩ m cap news hx hrow2.1 (fun j u hj => by rw [addr_add]; exact r4 j u hj) h1 h63 hbytes h
end

/-- A piece of a slice, as a value. -/
def cut (v : Value) (lo hi mx sz : Nat) : Value := match v with
  | .slice a _ _ => .slice (if mx = lo then a else a.map (·.add (lo * sz))) (hi - lo) (mx - lo)
  | v => v
def capOf : Value → Nat | .slice _ _ c => c | _ => 0

theorem Row.cut {w : World} {F : Nat → Prop} {E : TypeId} {sz : Nat} {v : Value} {n : Nat} {xs : List Value} (h : Row w F E sz v n xs) (lo hi mx : Nat) (h1 : lo ≤ hi) (h2 : hi ≤ n) (h3 : hi ≤ mx) (h4 : mx ≤ capOf v) :
    Row w F E sz (Esc.cut v lo hi mx sz) (hi - lo) ((xs.drop (lo * sz)).take ((hi - lo) * sz)) := by
  have hlen : ((xs.drop (lo * sz)).take ((hi - lo) * sz)).length = (hi - lo) * sz := by
    rw [List.length_take, List.length_drop, h.1]
    have e1 : hi * sz ≤ n * sz := Nat.mul_le_mul_right _ h2
    have e2 : (hi - lo) * sz = hi * sz - lo * sz := Nat.sub_mul _ _ _
    rw [e2]; omega
  refine ⟨hlen, ?_⟩
  rcases h.2 with ⟨rfl, rfl⟩ | ⟨g, off, cap, cur, rfl, hF, hB, r1, r2, r3, r4⟩
  · simp [capOf] at h4
    obtain rfl : lo = 0 := by omega
    obtain rfl : hi = 0 := by omega
    subst h4
    exact .inl ⟨rfl, rfl⟩
  · simp only [capOf] at h4
    have e2 : (hi - lo) * sz = hi * sz - lo * sz := Nat.sub_mul _ _ _
    have e3 : lo * sz ≤ hi * sz := Nat.mul_le_mul_right _ h1
    have e1 : hi * sz ≤ n * sz := Nat.mul_le_mul_right _ h2
    have e4 : hi * sz ≤ mx * sz := Nat.mul_le_mul_right _ h3
    have e5 : mx * sz ≤ cap * sz := Nat.mul_le_mul_right _ h4
    by_cases hm : mx = lo
    · obtain rfl : hi = lo := by omega
      refine .inr ⟨g, off, 0, cur, by simp [Esc.cut, hm], hF, hB, by omega, by simp, by omega, by simp⟩
    · refine .inr ⟨g, off + lo * sz, mx - lo, cur, by simp [Esc.cut, hm, addr_add], hF, hB, by omega, by omega, ?_, ?_⟩
      · rw [Nat.sub_mul]; omega
      · rw [← r4, List.drop_take, List.take_take, List.drop_drop]
        congr 1
        rw [e2]; omega

theorem run_bound {P : Program} (w : World) (k : IntKind) (j y : Nat) (code : BoundsCode) (h : j ≤ y) : (Instr.sliceBound (.int k (j : Int)) y code).run P w = .ok j w := by
  have := run_sliceBound (P := P) (w := w) k (j : Int) y code (by omega) (by omega)
  simpa using this

theorem RowR.cut {w : World} {F : Nat → Prop} {sz : Nat} {v : Value} {n : Nat} {xs : List Value} (h : RowR w F sz v n xs) (lo hi mx : Nat) (h1 : lo ≤ hi) (h2 : hi ≤ n) (h3 : hi ≤ mx) (h4 : mx ≤ capOf v) :
    RowR w F sz (Esc.cut v lo hi mx sz) (hi - lo) ((xs.drop (lo * sz)).take ((hi - lo) * sz)) := by
  have hlen : ((xs.drop (lo * sz)).take ((hi - lo) * sz)).length = (hi - lo) * sz := by
    rw [List.length_take, List.length_drop, h.1]
    have e1 : hi * sz ≤ n * sz := Nat.mul_le_mul_right _ h2
    have e2 : (hi - lo) * sz = hi * sz - lo * sz := Nat.sub_mul _ _ _
    rw [e2]; omega
  refine ⟨hlen, ?_⟩
  rcases h.2 with ⟨rfl, rfl⟩ | ⟨g, off, spot, cap, rfl, r1, r2, r3, r4⟩
  · simp [capOf] at h4
    obtain rfl : lo = 0 := by omega
    obtain rfl : hi = 0 := by omega
    subst h4
    exact .inl ⟨rfl, rfl⟩
  · simp only [capOf] at h4
    by_cases hm : mx = lo
    · obtain rfl : hi = lo := by omega
      refine .inr ⟨g, off, spot, 0, by simp [Esc.cut, hm], by omega, by simp, fun hn => absurd (Nat.sub_self hi) hn, fun j u hj => by simp at hj⟩
    · by_cases hn : n = 0
      · obtain rfl : hi = 0 := by omega
        obtain rfl : lo = 0 := by omega
        refine .inr ⟨g, off, spot, mx, by simp [Esc.cut, hm, Addr.add], by omega, by omega, fun hn => absurd rfl hn, fun j u hj => by simp at hj⟩
      · obtain ⟨rfl, hg, hF⟩ := r3 hn
        refine .inr ⟨g, off + lo * sz, none, mx - lo, by simp [Esc.cut, hm, addr_add], by omega, by omega, fun _ => ⟨rfl, hg, hF⟩, fun j u hj => ?_⟩
        rw [List.getElem?_take] at hj
        split at hj
        · rw [List.getElem?_drop] at hj
          rw [Nat.add_assoc]
          exact r4 _ _ hj
        · cases hj

section
variable {P : Program} (w : World) (t E : TypeId) (sz : Nat) (i : TypeInfo) (ht : P.underlying t = some (.slice E)) (hi : P.info? E = some i) (hs : i.size = sz)
include ht hi hs
theorem run_cut_l (a : Option Addr) (n c lo : Nat) (k : IntKind) (h1 : lo ≤ n) :
    (Instr.slice t (.slice a n c) (some (.int k lo)) none none).run P w = .ok (cut (.slice a n c) lo n c sz) w := by
  simp [Instr.slice, run_underlying ht, Instr.sliceBounds, Go.sizeOf, typeInfo, hi, hs, cut, run_bound _ _ _ _ _ h1]
omit hs in
theorem run_cut_h (a : Option Addr) (n c hh : Nat) (k : IntKind) (h1 : hh ≤ c) :
    (Instr.slice t (.slice a n c) none (some (.int k hh)) none).run P w = .ok (cut (.slice a n c) 0 hh c sz) w := by
  simp [Instr.slice, run_underlying ht, Instr.sliceBounds, Go.sizeOf, typeInfo, hi, cut, run_bound _ _ _ _ _ h1, Addr.add]
theorem run_cut_lh (a : Option Addr) (n c lo hh : Nat) (k k' : IntKind) (h1 : lo ≤ hh) (h2 : hh ≤ c) :
    (Instr.slice t (.slice a n c) (some (.int k lo)) (some (.int k' hh)) none).run P w = .ok (cut (.slice a n c) lo hh c sz) w := by
  simp [Instr.slice, run_underlying ht, Instr.sliceBounds, Go.sizeOf, typeInfo, hi, hs, cut, run_bound _ _ _ _ _ h1, run_bound _ _ _ _ _ h2]
theorem run_cut_lhm (a : Option Addr) (n c lo hh mm : Nat) (k k' k'' : IntKind) (h1 : lo ≤ hh) (h2 : hh ≤ mm) (h3 : mm ≤ c) :
    (Instr.slice t (.slice a n c) (some (.int k lo)) (some (.int k' hh)) (some (.int k'' mm))).run P w = .ok (cut (.slice a n c) lo hh mm sz) w := by
  simp [Instr.slice, run_underlying ht, Instr.sliceBounds, Go.sizeOf, typeInfo, hi, hs, cut, run_bound _ _ _ _ _ h1, run_bound _ _ _ _ _ h2, run_bound _ _ _ _ _ h3]
omit hs in
theorem run_cut_hm (a : Option Addr) (n c hh mm : Nat) (k' k'' : IntKind) (h2 : hh ≤ mm) (h3 : mm ≤ c) :
    (Instr.slice t (.slice a n c) none (some (.int k' hh)) (some (.int k'' mm))).run P w = .ok (cut (.slice a n c) 0 hh mm sz) w := by
  simp [Instr.slice, run_underlying ht, Instr.sliceBounds, Go.sizeOf, typeInfo, hi, cut, run_bound _ _ _ _ _ h2, run_bound _ _ _ _ _ h3, Addr.add]
end

end Esc
