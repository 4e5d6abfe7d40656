/- A field of a struct that is a value: what it is. -/
import Derived.Test.YtlljmbkfeemgfaaGreatDoorProg
import Derived.Test.YtlljmbkfeemgfaaGreatDoorBase
namespace Go.Proofs.YtlljmbkfeemgfaaGreatDoor.Wk
open Go Esc
theorem sz27_40 : (Tryz.prog.info? 40).map (fun i => (i.zero, i.size, i.bytes)) = some (some ((Tryz.prog.info? 40).bind (·.zero) |>.getD undef), 3, ((Tryz.prog.info? 40).map (·.bytes)).getD 0) := by kernel_rfl
@[go_sem high] theorem cutL_27 (a : Option Addr) (n c : Nat) (xl : Int) (kl : IntKind) (w : World) (pl : 0 ≤ xl) (h : xl ≤ n) : (Instr.slice 27 (.slice a n c) (some (.int kl xl)) none none).run Tryz.prog w = .ok (Esc.cut (.slice a n c) xl.toNat n c 3) w := by
  obtain ⟨xl, rfl⟩ := Int.eq_ofNat_of_zero_le pl
  obtain ⟨i, hi, _, hs, _⟩ := info_parts sz27_40
  simp only [Int.toNat_natCast]
  exact run_cut_l w 27 40 3 i Tryz.underlying27 hi hs a n c xl kl (by omega)
@[go_sem high] theorem cutH_27 (a : Option Addr) (n c : Nat) (xh : Int) (kh : IntKind) (w : World) (ph : 0 ≤ xh) (h : xh ≤ c) : (Instr.slice 27 (.slice a n c) none (some (.int kh xh)) none).run Tryz.prog w = .ok (Esc.cut (.slice a n c) 0 xh.toNat c 3) w := by
  obtain ⟨xh, rfl⟩ := Int.eq_ofNat_of_zero_le ph
  obtain ⟨i, hi, _, hs, _⟩ := info_parts sz27_40
  simp only [Int.toNat_natCast]
  exact run_cut_h w 27 40 3 i Tryz.underlying27 hi a n c xh kh (by omega)
@[go_sem high] theorem cutLH_27 (a : Option Addr) (n c : Nat) (xl : Int) (kl : IntKind) (xh : Int) (kh : IntKind) (w : World) (pl : 0 ≤ xl) (ph : 0 ≤ xh) (h : xl ≤ xh) (h' : xh ≤ c) : (Instr.slice 27 (.slice a n c) (some (.int kl xl)) (some (.int kh xh)) none).run Tryz.prog w = .ok (Esc.cut (.slice a n c) xl.toNat xh.toNat c 3) w := by
  obtain ⟨xl, rfl⟩ := Int.eq_ofNat_of_zero_le pl
  obtain ⟨xh, rfl⟩ := Int.eq_ofNat_of_zero_le ph
  obtain ⟨i, hi, _, hs, _⟩ := info_parts sz27_40
  simp only [Int.toNat_natCast]
  exact run_cut_lh w 27 40 3 i Tryz.underlying27 hi hs a n c xl xh kl kh (by omega) (by omega)
@[go_sem high] theorem cutLHM_27 (a : Option Addr) (n c : Nat) (xl : Int) (kl : IntKind) (xh : Int) (kh : IntKind) (xm : Int) (km : IntKind) (w : World) (pl : 0 ≤ xl) (ph : 0 ≤ xh) (pm : 0 ≤ xm) (h : xl ≤ xh) (h' : xh ≤ xm) (h'' : xm ≤ c) : (Instr.slice 27 (.slice a n c) (some (.int kl xl)) (some (.int kh xh)) (some (.int km xm))).run Tryz.prog w = .ok (Esc.cut (.slice a n c) xl.toNat xh.toNat xm.toNat 3) w := by
  obtain ⟨xl, rfl⟩ := Int.eq_ofNat_of_zero_le pl
  obtain ⟨xh, rfl⟩ := Int.eq_ofNat_of_zero_le ph
  obtain ⟨xm, rfl⟩ := Int.eq_ofNat_of_zero_le pm
  obtain ⟨i, hi, _, hs, _⟩ := info_parts sz27_40
  simp only [Int.toNat_natCast]
  exact run_cut_lhm w 27 40 3 i Tryz.underlying27 hi hs a n c xl xh xm kl kh km (by omega) (by omega) (by omega)
@[go_sem high] theorem cutHM_27 (a : Option Addr) (n c : Nat) (xh : Int) (kh : IntKind) (xm : Int) (km : IntKind) (w : World) (ph : 0 ≤ xh) (pm : 0 ≤ xm) (h' : xh ≤ xm) (h'' : xm ≤ c) : (Instr.slice 27 (.slice a n c) none (some (.int kh xh)) (some (.int km xm))).run Tryz.prog w = .ok (Esc.cut (.slice a n c) 0 xh.toNat xm.toNat 3) w := by
  obtain ⟨xh, rfl⟩ := Int.eq_ofNat_of_zero_le ph
  obtain ⟨xm, rfl⟩ := Int.eq_ofNat_of_zero_le pm
  obtain ⟨i, hi, _, hs, _⟩ := info_parts sz27_40
  simp only [Int.toNat_natCast]
  exact run_cut_hm w 27 40 3 i Tryz.underlying27 hi a n c xh xm kh km (by omega) (by omega)
theorem sz41_3 : (Tryz.prog.info? 3).map (fun i => (i.zero, i.size, i.bytes)) = some (some ((Tryz.prog.info? 3).bind (·.zero) |>.getD undef), 1, ((Tryz.prog.info? 3).map (·.bytes)).getD 0) := by kernel_rfl
@[go_sem high] theorem cutL_41 (a : Option Addr) (n c : Nat) (xl : Int) (kl : IntKind) (w : World) (pl : 0 ≤ xl) (h : xl ≤ n) : (Instr.slice 41 (.slice a n c) (some (.int kl xl)) none none).run Tryz.prog w = .ok (Esc.cut (.slice a n c) xl.toNat n c 1) w := by
  obtain ⟨xl, rfl⟩ := Int.eq_ofNat_of_zero_le pl
  obtain ⟨i, hi, _, hs, _⟩ := info_parts sz41_3
  simp only [Int.toNat_natCast]
  exact run_cut_l w 41 3 1 i Tryz.underlying41 hi hs a n c xl kl (by omega)
@[go_sem high] theorem cutH_41 (a : Option Addr) (n c : Nat) (xh : Int) (kh : IntKind) (w : World) (ph : 0 ≤ xh) (h : xh ≤ c) : (Instr.slice 41 (.slice a n c) none (some (.int kh xh)) none).run Tryz.prog w = .ok (Esc.cut (.slice a n c) 0 xh.toNat c 1) w := by
  obtain ⟨xh, rfl⟩ := Int.eq_ofNat_of_zero_le ph
  obtain ⟨i, hi, _, hs, _⟩ := info_parts sz41_3
  simp only [Int.toNat_natCast]
  exact run_cut_h w 41 3 1 i Tryz.underlying41 hi a n c xh kh (by omega)
@[go_sem high] theorem cutLH_41 (a : Option Addr) (n c : Nat) (xl : Int) (kl : IntKind) (xh : Int) (kh : IntKind) (w : World) (pl : 0 ≤ xl) (ph : 0 ≤ xh) (h : xl ≤ xh) (h' : xh ≤ c) : (Instr.slice 41 (.slice a n c) (some (.int kl xl)) (some (.int kh xh)) none).run Tryz.prog w = .ok (Esc.cut (.slice a n c) xl.toNat xh.toNat c 1) w := by
  obtain ⟨xl, rfl⟩ := Int.eq_ofNat_of_zero_le pl
  obtain ⟨xh, rfl⟩ := Int.eq_ofNat_of_zero_le ph
  obtain ⟨i, hi, _, hs, _⟩ := info_parts sz41_3
  simp only [Int.toNat_natCast]
  exact run_cut_lh w 41 3 1 i Tryz.underlying41 hi hs a n c xl xh kl kh (by omega) (by omega)
@[go_sem high] theorem cutLHM_41 (a : Option Addr) (n c : Nat) (xl : Int) (kl : IntKind) (xh : Int) (kh : IntKind) (xm : Int) (km : IntKind) (w : World) (pl : 0 ≤ xl) (ph : 0 ≤ xh) (pm : 0 ≤ xm) (h : xl ≤ xh) (h' : xh ≤ xm) (h'' : xm ≤ c) : (Instr.slice 41 (.slice a n c) (some (.int kl xl)) (some (.int kh xh)) (some (.int km xm))).run Tryz.prog w = .ok (Esc.cut (.slice a n c) xl.toNat xh.toNat xm.toNat 1) w := by
  obtain ⟨xl, rfl⟩ := Int.eq_ofNat_of_zero_le pl
  obtain ⟨xh, rfl⟩ := Int.eq_ofNat_of_zero_le ph
  obtain ⟨xm, rfl⟩ := Int.eq_ofNat_of_zero_le pm
  obtain ⟨i, hi, _, hs, _⟩ := info_parts sz41_3
  simp only [Int.toNat_natCast]
  exact run_cut_lhm w 41 3 1 i Tryz.underlying41 hi hs a n c xl xh xm kl kh km (by omega) (by omega) (by omega)
@[go_sem high] theorem cutHM_41 (a : Option Addr) (n c : Nat) (xh : Int) (kh : IntKind) (xm : Int) (km : IntKind) (w : World) (ph : 0 ≤ xh) (pm : 0 ≤ xm) (h' : xh ≤ xm) (h'' : xm ≤ c) : (Instr.slice 41 (.slice a n c) none (some (.int kh xh)) (some (.int km xm))).run Tryz.prog w = .ok (Esc.cut (.slice a n c) 0 xh.toNat xm.toNat 1) w := by
  obtain ⟨xh, rfl⟩ := Int.eq_ofNat_of_zero_le ph
  obtain ⟨xm, rfl⟩ := Int.eq_ofNat_of_zero_le pm
  obtain ⟨i, hi, _, hs, _⟩ := info_parts sz41_3
  simp only [Int.toNat_natCast]
  exact run_cut_hm w 41 3 1 i Tryz.underlying41 hi a n c xh xm kh km (by omega) (by omega)
theorem sz62_186 : (Tryz.prog.info? 186).map (fun i => (i.zero, i.size, i.bytes)) = some (some ((Tryz.prog.info? 186).bind (·.zero) |>.getD undef), 2, ((Tryz.prog.info? 186).map (·.bytes)).getD 0) := by kernel_rfl
@[go_sem high] theorem cutL_62 (a : Option Addr) (n c : Nat) (xl : Int) (kl : IntKind) (w : World) (pl : 0 ≤ xl) (h : xl ≤ n) : (Instr.slice 62 (.slice a n c) (some (.int kl xl)) none none).run Tryz.prog w = .ok (Esc.cut (.slice a n c) xl.toNat n c 2) w := by
  obtain ⟨xl, rfl⟩ := Int.eq_ofNat_of_zero_le pl
  obtain ⟨i, hi, _, hs, _⟩ := info_parts sz62_186
  simp only [Int.toNat_natCast]
  exact run_cut_l w 62 186 2 i Tryz.underlying62 hi hs a n c xl kl (by omega)
@[go_sem high] theorem cutH_62 (a : Option Addr) (n c : Nat) (xh : Int) (kh : IntKind) (w : World) (ph : 0 ≤ xh) (h : xh ≤ c) : (Instr.slice 62 (.slice a n c) none (some (.int kh xh)) none).run Tryz.prog w = .ok (Esc.cut (.slice a n c) 0 xh.toNat c 2) w := by
  obtain ⟨xh, rfl⟩ := Int.eq_ofNat_of_zero_le ph
  obtain ⟨i, hi, _, hs, _⟩ := info_parts sz62_186
  simp only [Int.toNat_natCast]
  exact run_cut_h w 62 186 2 i Tryz.underlying62 hi a n c xh kh (by omega)
@[go_sem high] theorem cutLH_62 (a : Option Addr) (n c : Nat) (xl : Int) (kl : IntKind) (xh : Int) (kh : IntKind) (w : World) (pl : 0 ≤ xl) (ph : 0 ≤ xh) (h : xl ≤ xh) (h' : xh ≤ c) : (Instr.slice 62 (.slice a n c) (some (.int kl xl)) (some (.int kh xh)) none).run Tryz.prog w = .ok (Esc.cut (.slice a n c) xl.toNat xh.toNat c 2) w := by
  obtain ⟨xl, rfl⟩ := Int.eq_ofNat_of_zero_le pl
  obtain ⟨xh, rfl⟩ := Int.eq_ofNat_of_zero_le ph
  obtain ⟨i, hi, _, hs, _⟩ := info_parts sz62_186
  simp only [Int.toNat_natCast]
  exact run_cut_lh w 62 186 2 i Tryz.underlying62 hi hs a n c xl xh kl kh (by omega) (by omega)
@[go_sem high] theorem cutLHM_62 (a : Option Addr) (n c : Nat) (xl : Int) (kl : IntKind) (xh : Int) (kh : IntKind) (xm : Int) (km : IntKind) (w : World) (pl : 0 ≤ xl) (ph : 0 ≤ xh) (pm : 0 ≤ xm) (h : xl ≤ xh) (h' : xh ≤ xm) (h'' : xm ≤ c) : (Instr.slice 62 (.slice a n c) (some (.int kl xl)) (some (.int kh xh)) (some (.int km xm))).run Tryz.prog w = .ok (Esc.cut (.slice a n c) xl.toNat xh.toNat xm.toNat 2) w := by
  obtain ⟨xl, rfl⟩ := Int.eq_ofNat_of_zero_le pl
  obtain ⟨xh, rfl⟩ := Int.eq_ofNat_of_zero_le ph
  obtain ⟨xm, rfl⟩ := Int.eq_ofNat_of_zero_le pm
  obtain ⟨i, hi, _, hs, _⟩ := info_parts sz62_186
  simp only [Int.toNat_natCast]
  exact run_cut_lhm w 62 186 2 i Tryz.underlying62 hi hs a n c xl xh xm kl kh km (by omega) (by omega) (by omega)
@[go_sem high] theorem cutHM_62 (a : Option Addr) (n c : Nat) (xh : Int) (kh : IntKind) (xm : Int) (km : IntKind) (w : World) (ph : 0 ≤ xh) (pm : 0 ≤ xm) (h' : xh ≤ xm) (h'' : xm ≤ c) : (Instr.slice 62 (.slice a n c) none (some (.int kh xh)) (some (.int km xm))).run Tryz.prog w = .ok (Esc.cut (.slice a n c) 0 xh.toNat xm.toNat 2) w := by
  obtain ⟨xh, rfl⟩ := Int.eq_ofNat_of_zero_le ph
  obtain ⟨xm, rfl⟩ := Int.eq_ofNat_of_zero_le pm
  obtain ⟨i, hi, _, hs, _⟩ := info_parts sz62_186
  simp only [Int.toNat_natCast]
  exact run_cut_hm w 62 186 2 i Tryz.underlying62 hi a n c xh xm kh km (by omega) (by omega)
@[go_sem] theorem fld237_0 (c0 c1 c2 c3 c4 c5 c6 : Value) (w : World) : (Instr.field 237 (.agg #[c0, c1, c2, c3, c4, c5, c6]) 0).run Tryz.prog w = .ok (c0) w := by kernel_rfl
@[go_sem] theorem fld237_1 (c0 c1 c2 c3 c4 c5 c6 : Value) (w : World) : (Instr.field 237 (.agg #[c0, c1, c2, c3, c4, c5, c6]) 1).run Tryz.prog w = .ok (c1) w := by kernel_rfl
@[go_sem] theorem fld237_2 (c0 c1 c2 c3 c4 c5 c6 : Value) (w : World) : (Instr.field 237 (.agg #[c0, c1, c2, c3, c4, c5, c6]) 2).run Tryz.prog w = .ok (c2) w := by kernel_rfl
@[go_sem] theorem fld237_3 (c0 c1 c2 c3 c4 c5 c6 : Value) (w : World) : (Instr.field 237 (.agg #[c0, c1, c2, c3, c4, c5, c6]) 3).run Tryz.prog w = .ok (c3) w := by kernel_rfl
@[go_sem] theorem fld237_4 (c0 c1 c2 c3 c4 c5 c6 : Value) (w : World) : (Instr.field 237 (.agg #[c0, c1, c2, c3, c4, c5, c6]) 4).run Tryz.prog w = .ok (c4) w := by kernel_rfl
@[go_sem] theorem fld237_5 (c0 c1 c2 c3 c4 c5 c6 : Value) (w : World) : (Instr.field 237 (.agg #[c0, c1, c2, c3, c4, c5, c6]) 5).run Tryz.prog w = .ok (c5) w := by kernel_rfl
@[go_sem] theorem fld237_6 (c0 c1 c2 c3 c4 c5 c6 : Value) (w : World) : (Instr.field 237 (.agg #[c0, c1, c2, c3, c4, c5, c6]) 6).run Tryz.prog w = .ok (c6) w := by kernel_rfl
@[go_sem] theorem fld83_0 (c0 c1 c2 c3 c4 : Value) (w : World) : (Instr.field 83 (.agg #[c0, c1, c2, c3, c4]) 0).run Tryz.prog w = .ok (c0) w := by kernel_rfl
@[go_sem] theorem fld83_1 (c0 c1 c2 c3 c4 : Value) (w : World) : (Instr.field 83 (.agg #[c0, c1, c2, c3, c4]) 1).run Tryz.prog w = .ok (c1) w := by kernel_rfl
@[go_sem] theorem fld83_2 (c0 c1 c2 c3 c4 : Value) (w : World) : (Instr.field 83 (.agg #[c0, c1, c2, c3, c4]) 2).run Tryz.prog w = .ok (c2) w := by kernel_rfl
@[go_sem] theorem fld83_3 (c0 c1 c2 c3 c4 : Value) (w : World) : (Instr.field 83 (.agg #[c0, c1, c2, c3, c4]) 3).run Tryz.prog w = .ok (c3) w := by kernel_rfl
@[go_sem] theorem fld83_4 (c0 c1 c2 c3 c4 : Value) (w : World) : (Instr.field 83 (.agg #[c0, c1, c2, c3, c4]) 4).run Tryz.prog w = .ok (c4) w := by kernel_rfl
@[go_sem] theorem fld86_0 (c0 c1 : Value) (w : World) : (Instr.field 86 (.agg #[c0, c1]) 0).run Tryz.prog w = .ok (c0) w := by kernel_rfl
@[go_sem] theorem fld86_1 (c0 c1 : Value) (w : World) : (Instr.field 86 (.agg #[c0, c1]) 1).run Tryz.prog w = .ok (c1) w := by kernel_rfl
@[go_sem] theorem fld24_0 (c0 : Value) (w : World) : (Instr.field 24 (.agg #[c0]) 0).run Tryz.prog w = .ok (c0) w := by kernel_rfl
@[go_sem] theorem fld26_0 (c0 c1 c2 : Value) (w : World) : (Instr.field 26 (.agg #[c0, c1, c2]) 0).run Tryz.prog w = .ok (c0) w := by kernel_rfl
@[go_sem] theorem fld26_1 (c0 c1 c2 : Value) (w : World) : (Instr.field 26 (.agg #[c0, c1, c2]) 1).run Tryz.prog w = .ok (c1) w := by kernel_rfl
@[go_sem] theorem fld26_2 (c0 c1 c2 : Value) (w : World) : (Instr.field 26 (.agg #[c0, c1, c2]) 2).run Tryz.prog w = .ok (c2) w := by kernel_rfl
@[go_sem] theorem fld40_0 (c0 c1 c2 : Value) (w : World) : (Instr.field 40 (.agg #[c0, c1, c2]) 0).run Tryz.prog w = .ok (c0) w := by kernel_rfl
@[go_sem] theorem fld40_1 (c0 c1 c2 : Value) (w : World) : (Instr.field 40 (.agg #[c0, c1, c2]) 1).run Tryz.prog w = .ok (c1) w := by kernel_rfl
@[go_sem] theorem fld40_2 (c0 c1 c2 : Value) (w : World) : (Instr.field 40 (.agg #[c0, c1, c2]) 2).run Tryz.prog w = .ok (c2) w := by kernel_rfl
@[go_sem] theorem fld36_0 (c0 c1 c2 c3 c4 : Value) (w : World) : (Instr.field 36 (.agg #[c0, c1, c2, c3, c4]) 0).run Tryz.prog w = .ok (c0) w := by kernel_rfl
@[go_sem] theorem fld36_1 (c0 c1 c2 c3 c4 : Value) (w : World) : (Instr.field 36 (.agg #[c0, c1, c2, c3, c4]) 1).run Tryz.prog w = .ok (c1) w := by kernel_rfl
@[go_sem] theorem fld36_2 (c0 c1 c2 c3 c4 : Value) (w : World) : (Instr.field 36 (.agg #[c0, c1, c2, c3, c4]) 2).run Tryz.prog w = .ok (c2) w := by kernel_rfl
@[go_sem] theorem fld36_3 (c0 c1 c2 c3 c4 : Value) (w : World) : (Instr.field 36 (.agg #[c0, c1, c2, c3, c4]) 3).run Tryz.prog w = .ok (c3) w := by kernel_rfl
@[go_sem] theorem fld36_4 (c0 c1 c2 c3 c4 : Value) (w : World) : (Instr.field 36 (.agg #[c0, c1, c2, c3, c4]) 4).run Tryz.prog w = .ok (c4) w := by kernel_rfl
@[go_sem] theorem fld186_0 (c0 c1 : Value) (w : World) : (Instr.field 186 (.agg #[c0, c1]) 0).run Tryz.prog w = .ok (c0) w := by kernel_rfl
@[go_sem] theorem fld186_1 (c0 c1 : Value) (w : World) : (Instr.field 186 (.agg #[c0, c1]) 1).run Tryz.prog w = .ok (c1) w := by kernel_rfl
@[go_sem] theorem fld64_0 (c0 c1 c2 c3 c4 c5 c6 c7 c8 c9 c10 c11 : Value) (w : World) : (Instr.field 64 (.agg #[c0, c1, c2, c3, c4, c5, c6, c7, c8, c9, c10, c11]) 0).run Tryz.prog w = .ok (c0) w := by kernel_rfl
@[go_sem] theorem fld64_1 (c0 c1 c2 c3 c4 c5 c6 c7 c8 c9 c10 c11 : Value) (w : World) : (Instr.field 64 (.agg #[c0, c1, c2, c3, c4, c5, c6, c7, c8, c9, c10, c11]) 1).run Tryz.prog w = .ok (c1) w := by kernel_rfl
@[go_sem] theorem fld64_2 (c0 c1 c2 c3 c4 c5 c6 c7 c8 c9 c10 c11 : Value) (w : World) : (Instr.field 64 (.agg #[c0, c1, c2, c3, c4, c5, c6, c7, c8, c9, c10, c11]) 2).run Tryz.prog w = .ok (.agg #[c2, c3, c4, c5, c6, c7, c8, c9]) w := by kernel_rfl
@[go_sem] theorem fld64_3 (c0 c1 c2 c3 c4 c5 c6 c7 c8 c9 c10 c11 : Value) (w : World) : (Instr.field 64 (.agg #[c0, c1, c2, c3, c4, c5, c6, c7, c8, c9, c10, c11]) 3).run Tryz.prog w = .ok (c10) w := by kernel_rfl
@[go_sem] theorem fld64_4 (c0 c1 c2 c3 c4 c5 c6 c7 c8 c9 c10 c11 : Value) (w : World) : (Instr.field 64 (.agg #[c0, c1, c2, c3, c4, c5, c6, c7, c8, c9, c10, c11]) 4).run Tryz.prog w = .ok (c11) w := by kernel_rfl
@[go_sem] theorem fld129_0 (c0 c1 c2 : Value) (w : World) : (Instr.field 129 (.agg #[c0, c1, c2]) 0).run Tryz.prog w = .ok (c0) w := by kernel_rfl
@[go_sem] theorem fld129_1 (c0 c1 c2 : Value) (w : World) : (Instr.field 129 (.agg #[c0, c1, c2]) 1).run Tryz.prog w = .ok (c1) w := by kernel_rfl
@[go_sem] theorem fld129_2 (c0 c1 c2 : Value) (w : World) : (Instr.field 129 (.agg #[c0, c1, c2]) 2).run Tryz.prog w = .ok (c2) w := by kernel_rfl
@[go_sem] theorem idx3_0 (a b c : Value) (w : World) : (Instr.index 255 (.agg #[a, b, c]) (.int .i64 0)).run Tryz.prog w = .ok a w := by kernel_rfl
@[go_sem] theorem idx3_1 (a b c : Value) (w : World) : (Instr.index 255 (.agg #[a, b, c]) (.int .i64 1)).run Tryz.prog w = .ok b w := by kernel_rfl
@[go_sem] theorem idx3_2 (a b c : Value) (w : World) : (Instr.index 255 (.agg #[a, b, c]) (.int .i64 2)).run Tryz.prog w = .ok c w := by kernel_rfl
end Go.Proofs.YtlljmbkfeemgfaaGreatDoor.Wk
