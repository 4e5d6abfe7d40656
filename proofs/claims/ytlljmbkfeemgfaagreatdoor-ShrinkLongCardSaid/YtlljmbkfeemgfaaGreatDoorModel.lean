/- The plain model: what the packages of the program compute, as functions on lists and numbers. No program is in sight here. -/
namespace Esc

/-- An int of 64 bits, gone round. -/
def w64 (n : Int) : Int := (n + 9223372036854775808) % 18446744073709551616 - 9223372036854775808

structure Instr where
  op : Int
  a : Int
  b : Int
  c : Int
  n : Int
deriving DecidableEq, Inhabited

structure FnD where
  code : List Instr
  safe : List Bool
deriving DecidableEq, Inhabited

abbrev Prog := List FnD

structure Entry where
  pick : Int
  delay : Int
  draw : Int
deriving DecidableEq, Inhabited

structure Conf where
  procs : Int
  gs : Int
  ms : Int
deriving DecidableEq, Inhabited

structure Ev where
  kind : Int
  g : Int
  fn : Int
  pc : Int
  n : Int
deriving DecidableEq, Inhabited

structure Th where
  fn : Nat
  pc : Nat
  regs : List Int
  stack : List (Nat × Nat)
  done : Bool
deriving DecidableEq, Inhabited

/-! ### num -/
def mod (i n : Int) : Int := if n < 1 then 0 else i % n

/-! ### isa -/
def isOp (op : Int) : Bool := 0 ≤ op && op < 24
def regsOf (op : Int) : Nat :=
  if op == 2 || op == 3 || op == 4 || op == 5 then 3
  else if op == 1 || op == 7 || op == 10 || op == 13 || op == 15 || op == 16 || op == 20 || op == 21 || op == 22 || op == 23 then 1
  else 0
def targetOf (op : Int) : Nat := if op == 6 || op == 7 then 1 else if op == 8 || op == 10 then 2 else 0
def waitsOp (op : Int) : Bool := op == 11 || op == 12 || op == 16 || op == 17 || op == 19 || op == 20
def endsOp (op : Int) : Bool := op == 6 || op == 9 || op == 14
def asksOp (op : Int) : Bool := op == 10 || op == 13 || op == 20 || op == 21 || op == 22 || op == 23

def checkInstr (i : Instr) (places funcs : Nat) : Nat :=
  if !isOp i.op then 1
  else if (0 < regsOf i.op && (i.a < 0 || 8 ≤ i.a)) || (1 < regsOf i.op && (i.b < 0 || 8 ≤ i.b)) || (2 < regsOf i.op && (i.c < 0 || 8 ≤ i.c)) then 2
  else if (regsOf i.op < 1 && i.a != 0) || (regsOf i.op < 2 && i.b != 0) || (regsOf i.op < 3 && i.c != 0) then 9
  else if targetOf i.op == 0 then (if i.n != 0 && i.op != 1 then 9 else 0)
  else if i.n < 0 || (if targetOf i.op == 2 then (funcs : Int) else places) ≤ i.n then 2
  else 0

/-! ### valid -/
def safeAt (f : FnD) (pc : Nat) : Bool := f.safe.getD pc false
def placeFault (f : FnD) (pc funcs : Nat) : Nat :=
  let e := checkInstr (f.code.getD pc default) f.code.length funcs
  if e != 0 then e
  else if waitsOp (f.code.getD pc default).op && !(safeAt f pc && safeAt f (pc + 1)) then 10
  else 0
/-- The first place from pc on that is wrong. -/
def firstBad (f : FnD) (funcs : Nat) : Nat → Nat → Option (Nat × Nat)
  | 0, _ => none
  | n + 1, pc => if placeFault f pc funcs != 0 then some (pc, placeFault f pc funcs) else firstBad f funcs n (pc + 1)
def fnFault (f : FnD) (funcs : Nat) : Int × Nat :=
  if f.code.length = 0 then (-1, 6)
  else if 64 < f.code.length then (-1, 5)
  else if f.code.length ≠ f.safe.length then (-1, 9)
  else match firstBad f funcs f.code.length 0 with
    | some (pc, e) => (pc, e)
    | none => if !endsOp (f.code.getD (f.code.length - 1) default).op then (f.code.length - 1, 11) else (-1, 0)
def firstFn (funcs : Nat) : List FnD → Nat → Int × Int × Nat
  | [], _ => (-1, -1, 0)
  | f :: l, i => if (fnFault f funcs).2 != 0 then (i, (fnFault f funcs).1, (fnFault f funcs).2) else firstFn funcs l (i + 1)
def check (p : Prog) : Int × Int × Nat :=
  if p.length = 0 then (-1, -1, 6)
  else if 16 < p.length then (-1, -1, 5)
  else firstFn p.length p 0
def confFault (c : Conf) : Nat :=
  if c.procs < 1 || 256 < c.procs || c.gs < 1 || 64 < c.gs || c.ms < 1 || 64 < c.ms then 2 else 0
def stopsAt (f : FnD) (pc : Nat) : Bool := (pc == 0 && 0 < f.code.length) || (pc < f.code.length && safeAt f pc)

/-! ### vm -/
def thNew (fn : Nat) (arg : Int) : Th := ⟨fn, 0, [arg, 0, 0, 0, 0, 0, 0, 0], [], false⟩
def thDone : Th := ⟨0, 0, [0, 0, 0, 0, 0, 0, 0, 0], [], true⟩
def fnAt (p : Prog) (fn : Nat) : FnD := p.getD fn default
def instrAt (p : Prog) (t : Th) : Instr := (fnAt p t.fn).code.getD t.pc default
def reg (t : Th) (a : Int) : Int := t.regs.getD a.toNat 0
def setReg (t : Th) (a v : Int) : Th := { t with regs := t.regs.set a.toNat v }
def less (b c : Int) : Int := if b < c then 1 else 0
/-- What an instruction writes, and tells. -/
def reckon (t : Th) (i : Instr) (answer : Int) : Th × Int :=
  if i.op == 2 then (setReg t i.a (w64 (reg t i.b + reg t i.c)), 0)
  else if i.op == 3 then (setReg t i.a (w64 (reg t i.b - reg t i.c)), 0)
  else if i.op == 4 then (setReg t i.a (w64 (reg t i.b * reg t i.c)), 0)
  else if i.op == 5 then (setReg t i.a (less (reg t i.b) (reg t i.c)), 0)
  else if i.op == 1 then (setReg t i.a i.n, 0)
  else if i.op == 15 then (t, reg t i.a)
  else if asksOp i.op then (setReg t i.a answer, answer)
  else (t, 0)
/-- To where it goes; none: the thread is done. -/
def moves (t : Th) (i : Instr) : Option Th :=
  if i.op == 7 then (if reg t i.a = 0 then some { t with pc := t.pc + 1 } else some { t with pc := i.n.toNat })
  else if i.op == 6 then some { t with pc := i.n.toNat }
  else if i.op == 8 then (if t.stack.length = 16 then none else some { t with fn := i.n.toNat, pc := 0, stack := t.stack ++ [(t.fn, t.pc + 1)] })
  else if i.op == 9 then (match t.stack.getLast? with
    | none => none
    | some f => some { t with fn := f.1, pc := f.2, stack := t.stack.dropLast })
  else if i.op == 14 then none
  else some { t with pc := t.pc + 1 }
def vmDo (p : Prog) (t : Th) (answer : Int) : Th × Int :=
  if t.done then (t, 0)
  else match moves (reckon t (instrAt p t) answer).1 (instrAt p t) with
    | none => (thDone, 0)
    | some t' => (t', (reckon t (instrAt p t) answer).2)

/-! ### gstat -/
def locks (s : Nat) : Bool := s == 1 || s == 3 || s == 4 || s == 5
def isW (w : Nat) : Bool := w ≤ 6 || (8 ≤ w && w ≤ 14 && locks (w - 8))
def baseW (w : Nat) : Nat := if isW w then w % 8 else 0
def scanned (w : Nat) : Bool := isW w && 8 ≤ w
def may (s t : Nat) : Bool :=
  if s == 0 || s == 4 || s == 5 then t == 1
  else if s == 1 then t == 2 || t == 5
  else if s == 2 then t == 1 || t == 3 || t == 4 || t == 5 || t == 6
  else if s == 3 then t == 1 || t == 2
  else false
def moveW (w t : Nat) : Option Nat :=
  if !isW w || 6 < t then none
  else if !may (w % 8) t then none
  else if 8 ≤ w && t != 1 then none
  else some (t + w / 8 * 8)
def gis (w t : Nat) : Nat := (moveW w t).getD w

/-! ### ring -/
structure Ring where
  next : Nat
  row : List Nat
deriving DecidableEq, Inhabited

def Ring.len (r : Ring) : Nat := if 0 < r.next then r.row.length + 1 else r.row.length
def Ring.list (r : Ring) : List Nat := if 0 < r.next then r.next :: r.row else r.row
def Ring.behind (r : Ring) (g : Nat) : Ring := { r with row := r.row ++ [g] }
def Ring.put (r : Ring) (g : Nat) (first : Bool) : Ring :=
  if g < 1 then r
  else if !first then r.behind g
  else if r.next = 0 then { r with next := g }
  else { next := g, row := r.row ++ [r.next] }
def Ring.get (r : Ring) : Nat × Ring :=
  if 0 < r.next then (r.next, { r with next := 0 })
  else match r.row with
    | [] => (0, r)
    | g :: l => (g, { r with row := l })
def Ring.grab (r : Ring) : List Nat × Ring :=
  if 0 < r.row.length then (r.row.take (r.row.length - r.row.length / 2), { r with row := r.row.drop (r.row.length - r.row.length / 2) })
  else if 0 < r.next then ([r.next], { r with next := 0 })
  else ([], r)
def Ring.fill (r : Ring) (l : List Nat) : Ring := { r with row := r.row ++ l }
def Ring.empty : Ring := ⟨0, []⟩

/-! ### glob -/
def many (len procs most : Int) : Int := if procs < 1 || most < 1 || len < 1 then 0 else min (min len most) (min (len / procs) (len - 1) + 1)

/-! ### deal -/
def coprimes (n : Nat) : List Nat := (List.range' 1 n).filter fun i => Nat.gcd i n == 1
def walk (n step : Nat) : Nat → Nat → List Nat
  | 0, _ => []
  | k + 1, at_ => at_ :: walk n step k ((at_ + step) % n)
def order (n : Nat) (draw : Int) : List Nat :=
  let steps := coprimes n
  let d := (mod draw (n * steps.length)).toNat
  walk n (steps.getD (d / n) 0) n (d % n)
def others (n self : Nat) (draw : Int) : List Nat := (order n draw).filter fun p => p != self

/-! ### pstat -/
abbrev Stat := List (Nat × Option Nat)
def statTake (l : Stat) (p m : Nat) : Stat := l.modify p fun x => if x.1 = 0 then (1, some m) else x
def statRelease (l : Stat) (p : Nat) : Stat := l.modify p fun x => if x.1 = 1 then (0, none) else x
def statEnter (l : Stat) (p : Nat) : Stat := l.modify p fun x => if x.1 = 1 then (2, x.2) else x
def statLeave (l : Stat) (p m : Nat) : Stat := l.modify p fun x => if x = (2, some m) then (1, some m) else x
def statStop (l : Stat) (p : Nat) : Stat := l.modify p fun x => if x.1 = 2 then (3, none) else if x.1 = 0 ∨ x.1 = 1 then (3, x.2) else x
def statGo (l : Stat) (p : Nat) : Stat := l.modify p fun x => if x.1 = 3 then (match x.2 with | none => (0, none) | some m => (1, some m)) else x
def statGet (l : Stat) (p : Nat) : Nat := match l[p]? with | some x => x.1 | none => 4
def statWho (l : Stat) (p : Nat) : Option Nat := match l[p]? with | some x => x.2 | none => none
def statAll (l : Stat) : Bool := l.all fun x => x.1 == 3 || x.1 == 4
def statResize (l : Stat) (n : Nat) : Stat :=
  if statAll l then (l ++ List.replicate (n - l.length) ((4, none) : Nat × Option Nat)).mapIdx fun p (x : Nat × Option Nat) => if n ≤ p then (4, none) else if x.1 = 4 then (3, none) else x
  else l

/-! ### decide, susp, spread -/
structure Flags where
  armed : Bool
  preempt : Bool
  barrier : Bool
  stopping : Bool
  suspend : Bool
  spent : Bool
deriving DecidableEq, Inhabited
def behindF (x : Flags) : Nat := if x.barrier then 1 else if x.suspend then 2 else if x.stopping || x.spent then 3 else 4
def decideF (f : FnD) (pc : Nat) (x : Flags) : Nat :=
  if !(x.armed || (x.preempt && (pc == 0 && 0 < f.code.length))) || !stopsAt f pc then 0 else behindF x
def clears (action : Nat) : Bool := action == 2 || action == 3 || action == 4

def lockOk (w : Nat) : Bool := isW w && !(8 ≤ w) && locks w
/-- 0 refuse, 1 dead, 2 wait, 3 ask, 4 lock. -/
def suspNext (w : Nat) (self holder : Bool) : Nat :=
  if self || !isW w then 0
  else if 8 ≤ w then (if holder then 0 else 2)
  else if locks w then 4
  else if w = 6 then 1
  else 3
/-- 0 nothing, 1 unlock, 2 ready. -/
def suspResume (w : Nat) (ready : Bool) : Nat :=
  if !scanned w then 0
  else if w % 8 = 4 then (if ready then 2 else 1)
  else if w % 8 = 5 then 2
  else 1
def suspAnswer (action : Nat) : Int := if action = 0 then -1 else if action = 1 then 0 else if action = 4 then 1 else 0

/-- Who goes on, and who is idle. -/
def spreadW (self : Nat) : List Nat → Nat → Int → List Nat × List Nat
  | [], _, _ => ([], [])
  | n :: l, i, k =>
    if i = self then spreadW self l (i + 1) k
    else if 0 < n ∧ 0 < k then let r := spreadW self l (i + 1) (k - 1); (i :: r.1, r.2)
    else let r := spreadW self l (i + 1) k; (r.1, i :: r.2)

/-! ### machine -/
structure G where
  word : Nat
  th : Th
  blocked : Bool
  token : Bool
  sema : Bool
  begun : Bool
  asker : Nat
deriving DecidableEq, Inhabited

/-- Phases: 0 parked, 1 looking, 2 running, 3 stopping, 4 barring, 5 calling. -/
structure M where
  p : Option Nat
  g : Option Nat
  phase : Nat
  armed : Bool
  used : Nat
  left : Nat
  looks : Nat
deriving DecidableEq, Inhabited

structure A where
  preempt : Bool
  barrier : Bool
  count : Nat
deriving DecidableEq, Inhabited

structure Cfg where
  P : Prog
  c : Conf
deriving DecidableEq, Inhabited

structure St where
  rings : List Ring
  gs : List G
  ms : List M
  asked : List A
  stat : Stat
  all : List Nat
  idleM : List Nat
  idleP : List Nat
  owner : Nat
  waits : List Nat
  box : List (Option Int)
  e : Entry
  now : Nat
  stopped : Bool
  wait : Int
  holder : Option Nat
  event : Ev
  seen : Bool
deriving DecidableEq, Inhabited

namespace St

def m (s : St) (i : Nat) : M := s.ms.getD i default
def g (s : St) (k : Nat) : G := s.gs.getD k default
def setM (s : St) (i : Nat) (f : M → M) : St := { s with ms := s.ms.modify i f }
def setG (s : St) (k : Nat) (f : G → G) : St := { s with gs := s.gs.modify k f }
def setA (s : St) (p : Nat) (f : A → A) : St := { s with asked := s.asked.modify p f }

def is (s : St) (k to : Nat) : St := s.setG k fun x => { x with word := gis x.word to }

def see (s : St) (kind : Int) (k : Nat) (n : Int) : St :=
  { s with event := ⟨kind, k + 1, (s.g k).th.fn, (s.g k).th.pc, n⟩, seen := true }

def send (s : St) (i : Nat) (due : Int) : St :=
  { s with box := s.box.modify i fun x => match x with | none => some due | some d => some (if due < d then due else d) }

def preempt (s : St) (p : Option Nat) : St := match p with
  | none => s
  | some p => s.setA p fun a => { a with preempt := true }

def asks (s : St) (i : Nat) : St := (s.preempt (s.m i).p).send i (s.now + mod s.e.delay 65)

def who (s : St) (p : Nat) : Option Nat := match statWho s.stat p with
  | none => none
  | some i => if i < s.ms.length then some i else none

def free (C : Cfg) (s : St) : Int := s.idleM.length + C.c.ms - s.ms.length

/-- An M that had nothing to do has a processor; the state then, and whether there was one. -/
def begins (C : Cfg) (s : St) (p : Nat) : St × Bool := match s.idleM with
  | i :: l => ({ s with idleM := l, stat := statTake s.stat p i }.setM i fun x => { x with p := some p, g := none, phase := 1 }, true)
  | [] => if C.c.ms ≤ s.ms.length then (s, false)
    else ({ s with ms := s.ms ++ [⟨some p, none, 1, false, 0, 0, 0⟩], stat := statTake s.stat p s.ms.length }, true)

def park (s : St) (i : Nat) : St :=
  { s.setM i (fun x => { x with p := none, g := none, phase := 0, armed := false }) with idleM := i :: s.idleM }

def serve (s : St) (p : Nat) : St :=
  { s.setA p (fun a => { a with barrier := false, count := a.count + 1 }) with wait := s.wait - 1 }

def total (s : St) : Nat := (s.rings.map Ring.len).sum
def looking (s : St) : Nat := s.ms.countP fun x => x.phase == 1

def wake (C : Cfg) (s : St) : St :=
  if s.stopped then s
  else match s.idleP with
    | [] => s
    | p :: _ =>
      if s.looking = 0 ∧ 0 < s.total + s.all.length then
        (if (begins C s p).2 then { (begins C s p).1 with idleP := (begins C s p).1.idleP.erase p } else (begins C s p).1)
      else s

def ring (s : St) (p : Nat) : Ring := s.rings.getD p default
def setRing (s : St) (p : Nat) (r : Ring) : St := { s with rings := s.rings.set p r }

/-- Somebody waits: at a processor, or (none) for all. -/
def enqueue (s : St) (p : Option Nat) (k : Nat) (first : Bool) : St := match p with
  | none => { s with all := s.all ++ [k + 1] }
  | some p => s.setRing p ((s.ring p).put (k + 1) first)

def queue (C : Cfg) (s : St) (p : Option Nat) (k : Nat) (first : Bool) : St := wake C ((s.is k 1).enqueue p k first)

/-- Those that are stolen, of the first one of the processors at which somebody waits. -/
def steal (s : St) : List Nat → List Nat × St
  | [] => ([], s)
  | p :: l => if (s.ring p).grab.1 ≠ [] then ((s.ring p).grab.1, s.setRing p (s.ring p).grab.2) else steal s l

/-- The first of those that were got; the others are put into the ring. -/
def share (s : St) (p : Nat) (l : List Nat) : Nat × St := match l with
  | [] => (0, s)
  | g :: l => (g, s.setRing p ((s.ring p).fill l))

def found2 (s : St) (p : Nat) : Nat × St :=
  if (s.ring p).get.1 ≠ 0 then ((s.ring p).get.1, s.setRing p (s.ring p).get.2)
  else
    let n := (many s.all.length s.rings.length 128).toNat
    if 0 < n then share { s with all := s.all.drop n } p (s.all.take n)
    else
      let r := steal s (others s.rings.length p s.e.draw)
      if r.1 ≠ [] then share r.2 p r.1 else (0, r.2)

def found (s : St) (i p : Nat) : Nat × St :=
  let s := s.setM i fun x => { x with looks := x.looks + 1 }
  if (s.m i).looks % 4 = 0 then
    match s.all with
    | g :: l => (g, { s with all := l })
    | [] => found2 s p
  else found2 s p

/-- Whoever was asked by one is asked no more, from the k-th on, n of them. -/
def unaskFrom (C : Cfg) (by_ : Nat) : Nat → Nat → St → St
  | 0, _, s => s
  | n + 1, k, s =>
    if (s.g k).asker ≠ by_ then unaskFrom C by_ n (k + 1) s
    else
      let s := s.setG k fun x => { x with asker := 0 }
      unaskFrom C by_ n (k + 1) (if (s.g k).word = 5 then queue C s none k false else s)

def unask (C : Cfg) (s : St) (k : Nat) : St := unaskFrom C (k + 1) s.gs.length 0 s

def execute (C : Cfg) (s : St) (i k : Nat) : St :=
  if scanned (s.g k).word then { s with all := s.all ++ [k + 1] }
  else if (s.g k).asker ≠ 0 then unask C (s.is k 5) k
  else wake C ((s.is k 2).setM i fun x => { x with g := some k, phase := 2, used := 0 })

/-- An M with a processor, that runs nothing. -/
def look (C : Cfg) (s : St) (i : Nat) : St := match (s.m i).p with
  | none => s
  | some p =>
    if (s.asked.getD p default).barrier then s.serve p
    else if s.stopped then { s with stat := statStop (statRelease s.stat p) p, wait := s.wait - 1 }.park i
    else
      let r := s.found i p
      if r.1 = 0 then { r.2 with stat := statRelease r.2.stat p, idleP := p :: r.2.idleP }.park i
      else execute C r.2 i (r.1 - 1)

def off (s : St) (i : Nat) : St := s.setM i fun x => { x with g := none, phase := 1 }

/-- The goroutine of an M waits for all, behind them. -/
def back (C : Cfg) (s : St) (i k : Nat) : St := queue C (s.off i) none k false

def call (C : Cfg) (s : St) (i k : Nat) : St :=
  let x := s.m i
  if 0 < x.left then s.setM i fun x => { x with left := x.left - 1 }
  else match x.p with
    | some p =>
      let s := { s with stat := statLeave s.stat p i }
      if scanned (s.g k).word then s.back C i k else (s.is k 2).setM i fun x => { x with phase := 2 }
    | none => match s.idleP, s.stopped with
      | p :: l, false =>
        let s := { s with idleP := l, stat := statTake s.stat p i }.setM i fun x => { x with p := some p }
        if scanned (s.g k).word then s.back C i k else (s.is k 2).setM i fun x => { x with phase := 2 }
      | _, _ => queue C ((s.off i).park i) none k false

def flags (s : St) (x : M) (k : Nat) : Flags :=
  let a := s.asked.getD (x.p.getD 0) default
  ⟨x.armed, a.preempt, a.barrier, s.stopped, (s.g k).asker != 0, 20 ≤ x.used⟩

/-- The flags behind an action that clears them. -/
def clear (s : St) (i : Nat) : St :=
  let s' := s.setM i fun x => { x with armed := false }
  match (s.m i).p with
  | none => s'
  | some p => s'.setA p fun a => { a with preempt := false }

/-- The next one may touch the world. -/
def release (C : Cfg) (s : St) (k : Nat) : St :=
  if s.owner ≠ k + 1 then s
  else match s.waits with
    | [] => { s with owner := 0 }
    | t :: l =>
      let s := { s with owner := t, waits := l }.setG (t - 1) fun x => { x with sema := false }
      if scanned (s.g (t - 1)).word then s else queue C s none (t - 1) false

def startGo (C : Cfg) : List Nat → St → St
  | [], s => s
  | p :: l, s => startGo C l (begins C { s with stat := statGo s.stat p } p).1

def startIdle : List Nat → St → St
  | [], s => s
  | p :: l, s => startIdle l { s with stat := statGo s.stat p, idleP := p :: s.idleP, all := s.all ++ (s.ring p).list, rings := s.rings.set p Ring.empty }

/-- The world goes on. -/
def start (C : Cfg) (s : St) (p : Nat) : St := match s.holder with
  | none => s
  | some k =>
    let s := { s with holder := none, stopped := false }
    let plan := spreadW p (s.rings.map fun r => r.list.length) 0 (free C s)
    let s := startIdle plan.2 (startGo C plan.1 s)
    wake C (release C { s with stat := statGo s.stat p } k)

/-- The instruction is done. -/
def commit (C : Cfg) (s : St) (i k : Nat) (answer : Int) : St :=
  let r := vmDo C.P (s.g k).th answer
  let s := s.see 2 k r.2
  let s := s.setG k fun x => { x with th := r.1, begun := false }
  let s := s.setM i fun x => { x with used := x.used + 1 }
  let s := if (s.m i).used = 20 then s.asks i else s
  if !r.1.done then s
  else
    let s := if s.holder = some k then start C s ((s.m i).p.getD 0) else s
    (s.off i).is k 6

def stopsAll (i : Nat) : Nat → Nat → St → St
  | 0, _, s => s
  | n + 1, p, s =>
    let s' :=
      if statGet s.stat p = 2 then
        { (match s.who p with | some j => s.setM j fun x => { x with p := none } | none => s) with stat := statStop s.stat p, idleP := s.idleP.erase p }
      else if statGet s.stat p = 0 then { s with stat := statStop s.stat p, idleP := s.idleP.erase p }
      else if statGet s.stat p = 1 then
        (if (s.m i).p = some p then { s with stat := statStop s.stat p }
         else match s.who p with
          | some j => { s with wait := s.wait + 1 }.asks j
          | none => { s with wait := s.wait + 1 })
      else s
    stopsAll i n (p + 1) s'

def againAll (i : Nat) : Nat → Nat → St → St
  | 0, _, s => s
  | n + 1, p, s =>
    againAll i n (p + 1) (match s.who p with
      | some j => if j ≠ i ∧ statGet s.stat p = 1 then s.asks j else s
      | none => s)

def again (s : St) (i : Nat) : St := againAll i s.rings.length 0 s

def barsAll (i : Nat) : Nat → Nat → St → St
  | 0, _, s => s
  | n + 1, p, s =>
    barsAll i n (p + 1)
      (if (s.m i).p = some p ∨ statGet s.stat p ≠ 1 then s.setA p fun a => { a with count := a.count + 1 }
       else
        let s := { s.setA p (fun a => { a with barrier := true }) with wait := s.wait + 1 }
        match s.who p with | some j => s.asks j | none => s)

/-- A stop, or a barrier, begins, when it is the caller's turn. -/
def enter (s : St) (i k : Nat) (op : Int) : St :=
  if s.owner = 0 ∨ s.owner = k + 1 then
    let s := { s with owner := k + 1 }.see 1 k 0
    let s := { s.setG k (fun x => { x with begun := true }) with wait := 0 }
    if op = 19 then barsAll i s.rings.length 0 (s.setM i fun x => { x with phase := 4 })
    else stopsAll i s.rings.length 0 { s.setM i (fun x => { x with phase := 3 }) with stopped := true }
  else
    let s := if s.waits.contains (k + 1) then s else { s with waits := s.waits ++ [k + 1] }
    ((s.setG k fun x => { x with sema := true }).off i).is k 4

def stop (C : Cfg) (s : St) (i k : Nat) : St :=
  if 0 < s.wait then s.again i
  else { s.setM i (fun x => { x with phase := 2 }) with holder := some k }.commit C i k 0

def bar (C : Cfg) (s : St) (i k : Nat) : St :=
  if 0 < s.wait then s.again i
  else release C ((s.setM i fun x => { x with phase := 2 }).commit C i k 0) k

def drainFrom (n : Nat) (l : List Ring) : List Nat := (l.drop n).reverse.foldl (fun acc r => acc ++ r.list) []

/-- To so many processors. -/
def resize (s : St) (i k : Nat) (n : Int) : St × Bool :=
  if s.holder ≠ some k ∨ n < 1 ∨ 256 < n then (s, false)
  else
    let to := n.toNat
    let s := { s with
      stat := statResize s.stat to
      all := drainFrom to s.rings ++ s.all
      rings := s.rings.take to ++ List.replicate (to - s.rings.length) Ring.empty
      asked := (s.asked ++ List.replicate (to - s.asked.length) (⟨false, false, 0⟩ : A)).take to }
    match (s.m i).p with
    | some p => if to ≤ p then ({ s with stat := statStop (statTake (statGo s.stat 0) 0 i) 0 }.setM i fun x => { x with p := some 0 }, true) else (s, true)
    | none => (s, true)

def target (s : St) (k : Nat) (i : Instr) : Option Nat :=
  let r := reg (s.g k).th i.a
  if r < 1 ∨ s.gs.length < r then none else some (r.toNat - 1)

def ready (C : Cfg) (s : St) (p : Option Nat) (t : Option Nat) : St × Int := match t with
  | none => (s, 0)
  | some t =>
    if (s.g t).word = 6 then (s, 0)
    else if !(s.g t).blocked then (s.setG t fun x => { x with token := true }, 1)
    else
      let s := s.setG t fun x => { x with blocked := false }
      (if scanned (s.g t).word then s else queue C s p t true, 1)

def resume (C : Cfg) (s : St) (p : Option Nat) (t : Option Nat) : St × Int := match t with
  | none => (s, 0)
  | some t =>
    let act := suspResume (s.g t).word (!(s.g t).blocked && !(s.g t).sema)
    if act = 0 then (s, 0)
    else
      let s := s.setG t fun x => { x with word := x.word % 8 }
      (if act = 2 then queue C s p t false else s, 1)

/-- The answer of what asks the world, done. -/
def answer (C : Cfg) (s : St) (i k : Nat) (x : Instr) : St × Int :=
  if x.op = 10 then
    (if C.c.gs ≤ s.gs.length then (s, -1)
     else
      let s' := { s with gs := s.gs ++ [⟨1, thNew x.n.toNat (reg (s.g k).th x.a), false, false, false, false, 0⟩] }
      (queue C s' (s'.m i).p s.gs.length true, s.gs.length + 1))
  else if x.op = 13 then ready C s (s.m i).p (s.target k x)
  else if x.op = 21 then resume C s (s.m i).p (s.target k x)
  else if x.op = 22 then (let r := resize s i k (reg (s.g k).th x.a); (r.1, if r.2 then 1 else 0))
  else if x.op = 23 then (s, k + 1)
  else (s, 0)

def block (C : Cfg) (s : St) (i k : Nat) (alone : Bool) : St :=
  let s := s.commit C i k 0
  if alone then s
  else if (s.g k).token then s.setG k fun x => { x with token := false }
  else ((s.setG k fun x => { x with blocked := true }).off i).is k 4

def sys (C : Cfg) (s : St) (i k : Nat) (x : Instr) (alone : Bool) : St :=
  if alone then s.commit C i k 0
  else
    let p := (s.m i).p.getD 0
    if (s.asked.getD p default).barrier then s.serve p
    else if s.stopped then s.back C i k
    else
      let left := (mod (reg (s.g k).th x.a) 8).toNat
      let s := (s.setM i fun y => { y with left := left }).commit C i k 0
      { (s.is k 3).setM i (fun y => { y with phase := 5 }) with stat := statEnter s.stat p }

/-- What comes of one that is to be suspended. -/
def next (s : St) (k : Nat) (t : Option Nat) : Nat := match t with
  | none => 0
  | some t => suspNext (s.g t).word (t == k) (s.holder == some k)

/-- One that does not run is suspended. -/
def lock (C : Cfg) (s : St) (t : Nat) : St :=
  let s := s.setG t fun x => { x with word := if x.word < 8 then x.word + 8 else x.word, asker := 0 }
  let s := unask C s t
  let s := if (s.g t).sema then { s.setG t (fun x => { x with sema := false }) with waits := s.waits.erase (t + 1) } else s
  if s.owner = t + 1 ∧ !(s.g t).begun then release C s t else s

def asksWhoAll (t : Nat) : Nat → Nat → St → St
  | 0, _, s => s
  | n + 1, j, s => asksWhoAll t n (j + 1) (if (s.m j).g = some t then s.asks j else s)

def suspend (C : Cfg) (s : St) (i k : Nat) (x : Instr) (alone : Bool) : St :=
  let t := s.target k x
  if !alone && t.isSome && t != some k && !(s.g k).begun then (s.see 1 k 0).setG k fun y => { y with begun := true }
  else
    let act := s.next k t
    if act = 3 then (match t with
      | none => s
      | some t => let s := s.setG t fun y => { y with asker := k + 1 }; asksWhoAll t s.ms.length 0 s)
    else if act = 2 then s.back C i k
    else
      let s := if act = 4 then (match t with | none => s | some t => lock C s t) else s
      s.commit C i k (suspAnswer act)

/-- An instruction. -/
def doInstr (C : Cfg) (s : St) (i k : Nat) (x : Instr) : St :=
  let alone := s.holder == some k
  if x.op = 17 ∨ x.op = 19 then (if alone then s.commit C i k 0 else s.enter i k x.op)
  else if x.op = 18 then (let s := s.commit C i k 0; if alone then start C s ((s.m i).p.getD 0) else s)
  else if x.op = 11 then (let s := s.commit C i k 0; if alone then s else s.back C i k)
  else if x.op = 12 then s.block C i k alone
  else if x.op = 16 then s.sys C i k x alone
  else if x.op = 20 then s.suspend C i k x alone
  else let r := s.answer C i k x; r.1.commit C i k r.2

def isLock (s : St) (k : Nat) (x : Instr) : Bool :=
  x.op == 20 && (s.g k).begun && s.next k (s.target k x) != 3 && s.next k (s.target k x) != 2

/-- An M with a goroutine. -/
def run (C : Cfg) (s : St) (i k : Nat) : St :=
  let x := instrAt C.P (s.g k).th
  if s.holder = some k then s.doInstr C i k x
  else
    let s := if (s.g k).begun then s.setM i fun y => { y with used := min y.used 19 } else s
    let act := decideF (fnAt C.P (s.g k).th.fn) (s.g k).th.pc (s.flags (s.m i) k)
    if act = 2 && s.isLock k x then s.doInstr C i k x
    else if act = 1 then s.serve ((s.m i).p.getD 0)
    else if act = 2 then unask C (((s.clear i).off i).is k 5) k
    else if act = 3 then (s.clear i).back C i k
    else if act = 4 then s.clear i
    else s.doInstr C i k x

/-- A signal that is due comes. -/
def due (s : St) (i : Nat) : St := match s.box.getD i none with
  | some d => if d ≤ s.now then { s with box := s.box.set i none }.setM i fun x => { x with armed := true } else s
  | none => s

def act (C : Cfg) (s : St) (i : Nat) : St :=
  if (s.m i).phase = 0 then s
  else
    let s := s.due i
    if (s.m i).phase = 1 then s.look C i
    else match (s.m i).g with
      | none => s
      | some k =>
        if (s.m i).phase = 2 then s.run C i k
        else if (s.m i).phase = 3 then s.stop C i k
        else if (s.m i).phase = 4 then s.bar C i k
        else s.call C i k

def noEv : Ev := ⟨0, 0, 0, 0, 0⟩

/-- A step: the state then; what is seen of it stands in it. -/
def step (C : Cfg) (s : St) (e : Entry) : St :=
  act C { s with now := s.now + 1, e := e, event := noEv, seen := false } (mod e.pick s.ms.length).toNat

def init (C : Cfg) : St :=
  { rings := (⟨0, [1]⟩ : Ring) :: List.replicate (C.c.procs.toNat - 1) Ring.empty
    gs := [⟨1, thNew 0 0, false, false, false, false, 0⟩]
    ms := [⟨some 0, none, 1, false, 0, 0, 0⟩]
    asked := List.replicate C.c.procs.toNat ⟨false, false, 0⟩
    stat := (1, some 0) :: List.replicate (C.c.procs.toNat - 1) (0, none)
    all := []
    idleM := []
    idleP := List.range' 1 (C.c.procs.toNat - 1)
    owner := 0
    waits := []
    box := List.replicate 64 none
    e := ⟨0, 0, 0⟩
    now := 0
    stopped := false
    wait := 0
    holder := none
    event := noEv
    seen := false }

def runs (C : Cfg) (s : St) : List Entry → St × List Ev
  | [] => (s, [])
  | e :: l =>
    let s' := step C s e
    let r := runs C s' l
    (r.1, if s'.seen then s'.event :: r.2 else r.2)

def quiet (s : St) : Bool := s.ms.all fun x => x.phase == 0

end St
end Esc
