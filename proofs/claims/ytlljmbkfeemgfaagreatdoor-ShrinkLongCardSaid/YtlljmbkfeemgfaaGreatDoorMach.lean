/- A machine in memory: what it is, and who owns which block. -/
import Derived.Test.YtlljmbkfeemgfaaGreatDoorGor
namespace Go.Proofs.YtlljmbkfeemgfaaGreatDoor.Wk
open Go Go.RowKit Esc
set_option maxRecDepth 100000

/-- The addresses among a machine's cells. -/
structure Lay where
  procs : Nat
  p : Value
  gs : Value
  ms : Value
  asked : Value
  stat : Nat
  all : Nat
  idleM : Nat
  idleP : Nat
  world : Nat
  box : Nat

def gptr (gb : List Nat) : Option Nat → Value
  | none => .pointer none
  | some k => ptrV (gb.getD k 0)
def mcells (L : Lay) (C : Cfg) (gb : List Nat) (s : St) : List Value :=
  [ptrV L.procs, L.p, intV C.c.procs, intV C.c.gs, intV C.c.ms, L.gs, L.ms, L.asked, ptrV L.stat, ptrV L.all, ptrV L.idleM, ptrV L.idleP, ptrV L.world, ptrV L.box,
   intV s.e.pick, intV s.e.delay, intV s.e.draw, natV s.now, .bool s.stopped, intV s.wait, gptr gb s.holder, intV s.event.kind, intV s.event.g, intV s.event.fn, intV s.event.pc, intV s.event.n, .bool s.seen]
def thC (t : Th) (st : Value) : List Value :=
  [natV t.fn, natV t.pc, intV (t.regs.getD 0 0), intV (t.regs.getD 1 0), intV (t.regs.getD 2 0), intV (t.regs.getD 3 0), intV (t.regs.getD 4 0), intV (t.regs.getD 5 0), intV (t.regs.getD 6 0), intV (t.regs.getD 7 0), st, .bool t.done]
def frC (f : Nat × Nat) : List Value := [natV f.1, natV f.2]
def gC (k : Nat) (x : Esc.G) (st : Value) : List Value :=
  intV ((k : Int) + 1) :: natV x.word :: (thC x.th st ++ [.bool x.blocked, .bool x.token, .bool x.sema, .bool x.begun, natV x.asker])
def mC (gb : List Nat) (i : Nat) (x : Esc.M) : List Value := [natV i, intV (whoI x.p), gptr gb x.g, natV x.phase, .bool x.armed, natV x.used, natV x.left, natV x.looks]
def askC (x : Esc.A) : List Value := [.bool x.preempt, .bool x.barrier, natV x.count]

/-- A goroutine. -/
def GR (w : World) (F : Nat → Prop) (b k : Nat) (x : Esc.G) : Prop :=
  ∃ st : Value, F b ∧ Blk w b (gC k x st) 118 ∧ Row w (fun y => F y ∧ y ≠ b) 186 2 st x.th.stack.length (x.th.stack.flatMap frC) ∧ x.th.regs.length = 8
theorem GR.keep {w w' : World} {F H : Nat → Prop} {b k : Nat} {x : Esc.G} (h : GR w F b k x) (hb : ∀ b, F b → b < w.heap.size → w'.heap[b]? = w.heap[b]?) (hG : ∀ b, b < w.heap.size → F b → H b) : GR w' H b k x := by
  obtain ⟨st, h1, h2, h3, h4⟩ := h
  exact ⟨st, hG _ h2.lt h1, h2.of_heap (hb _ h1 h2.lt), h3.keep (fun b q hl => hb b q.1 hl) (fun b hl q => ⟨hG b hl q.1, q.2⟩), h4⟩

/-- Who owns which block; where the goroutines, the Ms and the rings lie. -/
structure Gh where
  ow : Nat → Nat
  pf : Nat → Prop
  a : Nat
  gb : List Nat
  mb : List Nat
  rb : List Nat
  L : Lay

structure MachR (w : World) (γ : Gh) (C : Cfg) (s : St) : Prop where
  own : γ.ow γ.a = 1
  mach : Blk w γ.a (mcells γ.L C γ.gb s) 109
  pfs : ∀ x, γ.pf x → γ.ow x = 0
  prog : ProgM w γ.pf γ.L.p C.P
  procs : ProcsR w (γ.ow · = 2) γ.L.procs γ.rb s.rings
  stat : StatR w (γ.ow · = 3) γ.L.stat s.stat
  all : GlobR w (γ.ow · = 4) γ.L.all s.all
  idleM : IdleR w (γ.ow · = 5) γ.L.idleM 64 s.idleM
  idleP : IdleR w (γ.ow · = 6) γ.L.idleP 256 s.idleP
  world : SemaR w (γ.ow · = 7) γ.L.world s.owner s.waits
  box : BoxR w (γ.ow · = 8) γ.L.box s.box
  gs : Row w (γ.ow · = 9) 107 1 γ.L.gs γ.gb.length (γ.gb.map ptrV)
  gsl : γ.gb.length = s.gs.length
  gor : ∀ (k b : Nat) (x : Esc.G), γ.gb[k]? = some b → s.gs[k]? = some x → GR w (γ.ow · = 12 + 2 * k) b k x
  ms : Row w (γ.ow · = 10) 111 1 γ.L.ms γ.mb.length (γ.mb.map ptrV)
  msl : γ.mb.length = s.ms.length
  m1s : ∀ (i b : Nat) (x : Esc.M), γ.mb[i]? = some b → s.ms[i]? = some x → γ.ow b = 13 + 2 * i ∧ Blk w b (mC γ.gb i x) 113
  asked : Row w (γ.ow · = 11) 129 3 γ.L.asked s.asked.length (s.asked.flatMap askC)

/-- From one state to another one: what was not the machine's, is not (but for new blocks). -/
structure Ext (w : World) (γ γ' : Gh) : Prop where
  a : γ'.a = γ.a
  gb : γ.gb <+: γ'.gb
  mb : γ.mb <+: γ'.mb
  ow : ∀ x, x < w.heap.size → γ'.ow x ≠ 0 → γ.ow x ≠ 0
  pf : γ'.pf = γ.pf
end Go.Proofs.YtlljmbkfeemgfaaGreatDoor.Wk
