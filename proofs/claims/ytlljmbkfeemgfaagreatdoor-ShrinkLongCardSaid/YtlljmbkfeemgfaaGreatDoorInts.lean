/- Rows of ints, of pointers, of small structs: appending one; reading one. -/
import Derived.Test.YtlljmbkfeemgfaaGreatDoorLists
import Derived.Laws.MakeOwn
namespace Go.Proofs.YtlljmbkfeemgfaaGreatDoor.Wk
open Go Go.RowKit Esc
set_option maxRecDepth 100000

abbrev natV (n : Nat) : Value := .int .i64 n
/-- A list of ints that a call made itself, or owns. -/
abbrev IntO (w : World) (F : Nat → Prop) (v : Value) (l : List Nat) : Prop := Row w F 3 1 v l.length (l.map natV)
/-- A list of ints, to be read. -/
abbrev IntM (w : World) (F : Nat → Prop) (v : Value) (l : List Nat) : Prop := RowR w F 1 v l.length (l.map natV)

theorem u32_in (x : Int) (h : 0 ≤ x ∧ x < 4294967296) : IntKind.u32.wrap x = x := by
  simp [IntKind.wrap, IntKind.bits, IntKind.signed]; omega

section
variable {P : Program} {wr : World}
/-- 'append(v, x)': x lies in a block that was built just ahead. -/
theorem wpList_app1 {F : Nat → Prop} {ops : Array Oper} {rest : List Oper} {o : Oper} {a : Act} {Q : Exit → Act → World → Prop} (hgd : o.guard = none) {s x : Operand} {t : TypeId}
    (ho : o.op = .call { callee := .builtin .append, args := #[s, x], argTypes := #[t, t] })
    {e : TypeId} {i : TypeInfo} {z : Value} {size bytes : Nat} (ht : P.underlying t = some (.slice e)) (hi : P.info? e = some i) (hz : i.zero = some z)
    (hsize : i.size = size) (hby : i.bytes = bytes) (hzs : z.cells.size = size) (hsz : 0 < size)
    {v : Value} {n : Nat} {xs us : List Value} (hs : a.eval s = v) (hx : a.eval x = .slice (some ⟨wr.heap.size, 0, none⟩) 1 1)
    (hrow : Row wr F e size v n xs) (hus : us.length = size) (h1 : ∀ u ∈ us, u.oneCell' = true) (h63 : n < 16777216) (hb : bytes ≤ 64)
    (h : ∀ v' w', Row w' (fun b => F b ∨ wr.heap.size ≤ b) e size v' (n + 1) (xs ++ us) → Upd F wr w' → wpList P ops Q rest (a.put o.dst v') w') : wpList P ops Q (o :: rest) a (wr.alloc (.cells us.toArray e)) := by
  have hrow2 : Row (wr.alloc (.cells us.toArray e)) F e size v n xs := by
    exact hrow.keep (fun b _ hb => Below.heap_alloc _ _ _ hb) (fun _ _ x => x)
  refine wpList_append_row hgd s x t ho e i z size bytes ht hi hz hsize hby hzs hsz v n xs hs hrow2 _ 1 1 us hx (by omega) (fun j u hj => ?_) h1 (by simp only [maxLen]; omega) (by have : (n + 1) * bytes ≤ (n + 1) * 64 := Nat.mul_le_mul_left _ hb; omega) fun v' w' h2 h3 => h v' w' ?_ ?_
  · rw [addr_add, Nat.zero_add]
    exact ((Blk.new wr us e).cell j).trans hj
  · exact h2.mono fun b _ hb => hb.elim .inl (fun y => .inr (by have := World.size_alloc wr (.cells us.toArray e); omega))
  · exact ((Upd.refl F wr).alloc _).trans h3
end

section
variable {P : Program} {wr : World}
/-- The same as one step of a region that draws its order. -/
theorem step_app1 {F : Nat → Prop} {ops : Array Oper} {o : Oper} {a : Act} {K : Act → World → Prop} {Q : Exit → Act → World → Prop} {E : Prop} (hgd : o.guard = none) {s x : Operand} {t : TypeId}
    (ho : o.op = .call { callee := .builtin .append, args := #[s, x], argTypes := #[t, t] })
    {e : TypeId} {i : TypeInfo} {z : Value} {size bytes : Nat} (ht : P.underlying t = some (.slice e)) (hi : P.info? e = some i) (hz : i.zero = some z)
    (hsize : i.size = size) (hby : i.bytes = bytes) (hzs : z.cells.size = size) (hsz : 0 < size)
    {v : Value} {n : Nat} {xs us : List Value} (hs : a.eval s = v) (hx : a.eval x = .slice (some ⟨wr.heap.size, 0, none⟩) 1 1)
    (hrow : Row wr F e size v n xs) (hus : us.length = size) (h1 : ∀ u ∈ us, u.oneCell' = true) (h63 : n < 16777216) (hb : bytes ≤ 64)
    (h : ∀ v' w', Row w' (fun b => F b ∨ wr.heap.size ≤ b) e size v' (n + 1) (xs ++ us) → Upd F wr w' → K (a.put o.dst v') w') :
    if Region.wanted o (yielded ops a.tmps) = true then Oper.wp P o a (wr.alloc (.cells us.toArray e)) K Q else E := by
  have hrow2 : Row (wr.alloc (.cells us.toArray e)) F e size v n xs := by
    exact hrow.keep (fun b _ hb => Below.heap_alloc _ _ _ hb) (fun _ _ x => x)
  have hr2 : RowR (wr.alloc (.cells us.toArray e)) (fun _ => True) size (.slice (some ⟨wr.heap.size, 0, none⟩) 1 1) 1 us := by
    refine ⟨by omega, .inr ⟨wr.heap.size, 0, none, 1, rfl, by decide, by decide, fun _ => ⟨rfl, by simp, trivial⟩, fun j u hj => ?_⟩⟩
    rw [Nat.zero_add]
    exact ((Blk.new wr us e).cell j).trans hj
  refine step_append_row hgd s x t ho e i z size bytes ht hi hz hsize hby hzs hsz v n xs hs hrow2 _ _ 1 us hx hr2 h1 (by simp only [maxLen]; omega) (by have : (n + 1) * bytes ≤ (n + 1) * 64 := Nat.mul_le_mul_left _ hb; omega) fun v' w' h2 h3 => h v' w' ?_ ?_
  · exact h2.mono fun b _ hb => hb.elim .inl (fun y => .inr (by have := World.size_alloc wr (.cells us.toArray e); omega))
  · exact ((Upd.refl F wr).alloc _).trans h3
end
theorem _root_.Esc.Row.slice {w : World} {F : Nat → Prop} {E : TypeId} {sz : Nat} {v : Value} {n : Nat} {xs : List Value} (h : Row w F E sz v n xs) : ∃ a c, v = .slice a n c := by
  rcases h.2 with ⟨rfl, e⟩ | ⟨g, off, cap, cur, rfl, _⟩
  · exact ⟨_, _, by rw [e]⟩
  · exact ⟨_, _, rfl⟩
theorem _root_.Esc.RowR.slice {w : World} {F : Nat → Prop} {sz : Nat} {v : Value} {n : Nat} {xs : List Value} (h : RowR w F sz v n xs) : ∃ a c, v = .slice a n c := by
  rcases h.2 with ⟨rfl, e⟩ | ⟨g, off, spot, cap, rfl, _⟩
  · exact ⟨_, _, by rw [e]⟩
  · exact ⟨_, _, rfl⟩
theorem _root_.Esc.Row.tight {w : World} {F : Nat → Prop} {E : TypeId} {sz : Nat} {v : Value} {n : Nat} {xs : List Value} (h : Row w F E sz v n xs) : Row w (fun x => F x ∧ x < w.heap.size) E sz v n xs := h.mono fun _ hb hF => ⟨hF, hb⟩
theorem _root_.Esc.Upd.setb {a w : World} {b : Nat} (h : Upd (· = b) a w) (i : Nat) (v : Value) : Upd (· = b) a (w.setCell ⟨b, i, none⟩ v) := h.set (.inl rfl) v
theorem take_snoc {l : List Nat} {j x : Nat} (h : l[j]? = some x) : l.take (j + 1) = l.take j ++ [x] := by rw [List.take_add_one, h]; rfl
theorem natV_one (l : List Nat) : ∀ u ∈ l.map natV, u.oneCell' = true := by
  intro u hu
  obtain ⟨n, _, rfl⟩ := List.mem_map.1 hu
  rfl
theorem IntO.snoc {w : World} {F : Nat → Prop} {v : Value} {l : List Nat} {n : Nat} (h : Row w F 3 1 v (l.length + 1) (l.map natV ++ [natV n])) : IntO w F v (l ++ [n]) := by
  unfold IntO; rw [List.length_append, List.map_append]; exact h

theorem flat_rep_get (l : List Value) (n j : Nat) (h : j < n * l.length) : ((List.replicate n l).flatten)[j]? = l[j % l.length]? := by
  induction n generalizing j with
  | zero => simp at h
  | succ n ih =>
    rw [List.replicate_succ, List.flatten_cons]
    rcases Nat.lt_or_ge j l.length with q | q
    · rw [List.getElem?_append_left q, Nat.mod_eq_of_lt q]
    · rw [List.getElem?_append_right q, ih _ (by rw [Nat.succ_mul] at h; omega), Nat.mod_eq_sub_mod q]

theorem made_eq (z : Array Value) (n : Nat) (hz : 0 < z.size) : madeCells z (n * z.size) = ((List.replicate n z.toList).flatten).toArray := by
  apply Array.ext'
  apply List.ext_getElem?
  intro j
  simp only [madeCells, Array.toList_map, Array.toList_range, List.getElem?_map]
  rcases Nat.lt_or_ge j (n * z.size) with h | h
  · rw [List.getElem?_range h, flat_rep_get _ _ _ (by simpa using h)]
    have hm : j % z.size < z.size := Nat.mod_lt _ hz
    simp [hm, getElem!_pos, hm]
  · rw [List.getElem?_eq_none (by simpa using h), List.getElem?_eq_none (by simp; exact h)]
    rfl

/-- 'make([]T, n)'. -/
theorem run_mk {P : Program} {t e : TypeId} {i : TypeInfo} {z : Value} {size bytes : Nat} (ht : P.underlying t = some (.slice e)) (hi : P.info? e = some i) (hz : i.zero = some z)
    (hs : i.size = size) (hb : i.bytes = bytes) (hzs : z.cells.size = size) (hsz : 0 < size) (hby : bytes ≤ 64) (n : Nat) (hn : n < 16777216) (w : World) :
    (Instr.makeSlice t (.int .i64 (n : Int)) (.int .i64 (n : Int))).run P w = .ok (.slice (some ⟨w.heap.size, 0, none⟩) n n) (w.alloc (.cells ((List.replicate n z.cells.toList).flatten).toArray e)) := by
  have h1 : bytes * n ≤ 64 * n := Nat.mul_le_mul_right _ hby
  have h2 : (i.bytes : Int) * (n : Int) ≤ 281474976710656 := by
    have : ((i.bytes * n : Nat) : Int) ≤ 281474976710656 := by rw [hb]; omega
    rwa [Int.natCast_mul] at this
  have hr := run_make (P := P) w t e i z ht hi hz .i64 .i64 n n (by omega) (by omega) h2 (by omega)
  simp only [Int.toNat_natCast] at hr
  rw [hr, hs, ← hzs, made_eq _ _ (by omega)]
theorem rep_flat1 (v : Value) (n : Nat) : (List.replicate n [v]).flatten = List.replicate n v := by
  induction n with
  | zero => rfl
  | succ n ih => rw [List.replicate_succ, List.flatten_cons, ih]; rfl
theorem run_mk_int (n : Nat) (hn : n < 16777216) (w : World) :
    (Instr.makeSlice 41 (.int .i64 (n : Int)) (.int .i64 (n : Int))).run Tryz.prog w = .ok (.slice (some ⟨w.heap.size, 0, none⟩) n n) (w.alloc (.cells (List.replicate n (natV 0)).toArray 3)) := by
  obtain ⟨i0, hi, hz0, hz1, hz2⟩ := info_parts infoInt
  have := run_mk Tryz.underlying41 hi hz0 hz1 hz2 rfl (by decide) (by decide) n hn w
  rw [this]
  have : (Value.int .i64 0).cells.toList = [natV 0] := rfl
  rw [this, rep_flat1]
end Go.Proofs.YtlljmbkfeemgfaaGreatDoor.Wk
