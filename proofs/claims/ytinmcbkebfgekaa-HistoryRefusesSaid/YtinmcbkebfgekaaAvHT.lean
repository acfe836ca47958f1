/- The program's functions are the given ones without types; the library's look for overlaps. -/
import Derived.Test.YtinmcbkebfgekaaAvH9
import Derived.Test.YtinmcbkebfgekaaChecked
import Derived.KernelRfl
set_option linter.all false
set_option linter.unusedVariables false
set_option linter.unusedSimpArgs false
namespace Go.Av
theorem tied_of {P : Program} {T : List Nat} {k n : Nat} {fn : Func} {F : AFun} (hT : T[k]? = some n) (hf : P.funcs[n]? = some fn) (hc : compF P T fn = some F) (hm : (fn.name == "runtime.NumGoroutine") = false) : Tied P T k F := by
  intro m hq
  rw [hT] at hq
  injection hq with hq
  subst hq
  exact ⟨fn, hf, hc, hm⟩
def TH : List Nat := [3, 4, 5, 6, 7, 8, 9, 10, 11, 12, 13, 14, 15, 16, 17, 18, 19, 20, 21, 22, 23, 24, 25, 26, 27, 28, 29, 30, 31, 32, 33, 999999, 999999, 999999, 999999, 999999, 999999, 999999, 999999, 999999, 999999, 999999, 999999, 999999, 999999, 999999, 999999, 999999, 999999, 999999, 999999, 999999, 999999, 999999, 999999, 999999, 999999, 999999, 999999, 999999, 999999, 999999, 999999, 999999, 999999, 999999, 999999, 999999, 999999, 999999, 999999, 999999, 999999, 999999, 999999, 999999, 999999, 999999, 999999, 999999, 999999, 999999, 999999, 999999, 999999, 999999, 999999, 999999, 999999, 999999, 999999, 999999, 999999, 999999, 999999, 999999, 999999, 999999, 999999, 999999, 999999, 999999, 999999, 999999, 999999, 999999, 999999, 999999, 999999, 999999, 999999, 999999, 999999, 999999, 999999, 999999, 999999, 999999, 999999, 999999, 999999, 999999, 999999, 999999, 999999, 999999, 999999, 999999, 999999, 999999, 999999, 999999, 999999, 999999, 999999, 999999, 999999, 999999, 999999, 999999, 999999, 999999, 999999, 999999, 999999, 999999, 999999, 999999, 999999, 999999, 999999, 999999, 999999, 999999, 999999, 999999, 999999, 999999, 999999, 999999, 999999, 999999, 999999, 999999, 999999, 999999]
theorem wt_pandectlaw29_HistoryOrders : Tied Go.Proofs.Try.prog TH 0 (c_pandectlaw29_HistoryOrders) := tied_of (n := 3) (fn := Go.Proofs.Try.f3) (by kernel_rfl) Go.Proofs.Try.func3 (by kernel_rfl) (by kernel_rfl)
theorem wt_pandectlaw29_HistoryArrives : Tied Go.Proofs.Try.prog TH 1 (c_pandectlaw29_HistoryArrives) := tied_of (n := 4) (fn := Go.Proofs.Try.f4) (by kernel_rfl) Go.Proofs.Try.func4 (by kernel_rfl) (by kernel_rfl)
theorem wt_pandectlaw29_HistoryLater : Tied Go.Proofs.Try.prog TH 2 (c_pandectlaw29_HistoryLater) := tied_of (n := 5) (fn := Go.Proofs.Try.f5) (by kernel_rfl) Go.Proofs.Try.func5 (by kernel_rfl) (by kernel_rfl)
theorem wt_pandectlaw29_HistorySince : Tied Go.Proofs.Try.prog TH 3 (c_pandectlaw29_HistorySince) := tied_of (n := 6) (fn := Go.Proofs.Try.f6) (by kernel_rfl) Go.Proofs.Try.func6 (by kernel_rfl) (by kernel_rfl)
theorem wt_pandectlaw29_HistoryRefuses : Tied Go.Proofs.Try.prog TH 4 (c_pandectlaw29_HistoryRefuses) := tied_of (n := 7) (fn := Go.Proofs.Try.f7) (by kernel_rfl) Go.Proofs.Try.func7 (by kernel_rfl) (by kernel_rfl)
theorem wt_pandectlaw29_head : Tied Go.Proofs.Try.prog TH 5 (c_pandectlaw29_head) := tied_of (n := 8) (fn := Go.Proofs.Try.f8) (by kernel_rfl) Go.Proofs.Try.func8 (by kernel_rfl) (by kernel_rfl)
theorem wt_pandectlaw29_added : Tied Go.Proofs.Try.prog TH 6 (c_pandectlaw29_added) := tied_of (n := 9) (fn := Go.Proofs.Try.f9) (by kernel_rfl) Go.Proofs.Try.func9 (by kernel_rfl) (by kernel_rfl)
theorem wt_history_History_At : Tied Go.Proofs.Try.prog TH 7 (c_history_History_At) := tied_of (n := 10) (fn := Go.Proofs.Try.f10) (by kernel_rfl) Go.Proofs.Try.func10 (by kernel_rfl) (by kernel_rfl)
theorem wt_history_History_Order : Tied Go.Proofs.Try.prog TH 8 (c_history_History_Order) := tied_of (n := 11) (fn := Go.Proofs.Try.f11) (by kernel_rfl) Go.Proofs.Try.func11 (by kernel_rfl) (by kernel_rfl)
theorem wt_pandectref29_Equal : Tied Go.Proofs.Try.prog TH 9 (c_pandectref29_Equal) := tied_of (n := 12) (fn := Go.Proofs.Try.f12) (by kernel_rfl) Go.Proofs.Try.func12 (by kernel_rfl) (by kernel_rfl)
theorem wt_pandectref29_Same : Tied Go.Proofs.Try.prog TH 10 (c_pandectref29_Same) := tied_of (n := 13) (fn := Go.Proofs.Try.f13) (by kernel_rfl) Go.Proofs.Try.func13 (by kernel_rfl) (by kernel_rfl)
theorem wt_history_History_Since : Tied Go.Proofs.Try.prog TH 11 (c_history_History_Since) := tied_of (n := 14) (fn := Go.Proofs.Try.f14) (by kernel_rfl) Go.Proofs.Try.func14 (by kernel_rfl) (by kernel_rfl)
theorem wt_pandectlaw29_has : Tied Go.Proofs.Try.prog TH 12 (c_pandectlaw29_has) := tied_of (n := 15) (fn := Go.Proofs.Try.f15) (by kernel_rfl) Go.Proofs.Try.func15 (by kernel_rfl) (by kernel_rfl)
theorem wt_history_History_Add : Tied Go.Proofs.Try.prog TH 13 (c_history_History_Add (TH.getD · 0)) := tied_of (n := 16) (fn := Go.Proofs.Try.f16) (by kernel_rfl) Go.Proofs.Try.func16 (by kernel_rfl) (by kernel_rfl)
theorem wt_history_New : Tied Go.Proofs.Try.prog TH 14 (c_history_New) := tied_of (n := 17) (fn := Go.Proofs.Try.f17) (by kernel_rfl) Go.Proofs.Try.func17 (by kernel_rfl) (by kernel_rfl)
theorem wt_pandectlaw29_act : Tied Go.Proofs.Try.prog TH 15 (c_pandectlaw29_act) := tied_of (n := 18) (fn := Go.Proofs.Try.f18) (by kernel_rfl) Go.Proofs.Try.func18 (by kernel_rfl) (by kernel_rfl)
theorem wt_history_list_Order : Tied Go.Proofs.Try.prog TH 16 (c_history_list_Order) := tied_of (n := 19) (fn := Go.Proofs.Try.f19) (by kernel_rfl) Go.Proofs.Try.func19 (by kernel_rfl) (by kernel_rfl)
theorem wt_pandectref29_Order : Tied Go.Proofs.Try.prog TH 17 (c_pandectref29_Order) := tied_of (n := 20) (fn := Go.Proofs.Try.f20) (by kernel_rfl) Go.Proofs.Try.func20 (by kernel_rfl) (by kernel_rfl)
theorem wt_history_of : Tied Go.Proofs.Try.prog TH 18 (c_history_of) := tied_of (n := 21) (fn := Go.Proofs.Try.f21) (by kernel_rfl) Go.Proofs.Try.func21 (by kernel_rfl) (by kernel_rfl)
theorem wt_history_place_valid : Tied Go.Proofs.Try.prog TH 19 (c_history_place_valid) := tied_of (n := 22) (fn := Go.Proofs.Try.f22) (by kernel_rfl) Go.Proofs.Try.func22 (by kernel_rfl) (by kernel_rfl)
theorem wt_slices_BinarySearchFunc : Tied Go.Proofs.Try.prog TH 20 (c_slices_BinarySearchFunc) := tied_of (n := 23) (fn := Go.Proofs.Try.f23) (by kernel_rfl) Go.Proofs.Try.func23 (by kernel_rfl) (by kernel_rfl)
theorem wt_history_History_Add_d1 : Tied Go.Proofs.Try.prog TH 21 (c_history_History_Add_d1) := tied_of (n := 24) (fn := Go.Proofs.Try.f24) (by kernel_rfl) Go.Proofs.Try.func24 (by kernel_rfl) (by kernel_rfl)
theorem wt_slices_Insert : Tied Go.Proofs.Try.prog TH 22 (c_slices_Insert (opsOf Go.Proofs.Try.prog TH 22)) := tied_of (n := 25) (fn := Go.Proofs.Try.f25) (by kernel_rfl) Go.Proofs.Try.func25 (by kernel_rfl) (by kernel_rfl)
theorem wt_history_compare_int_ : Tied Go.Proofs.Try.prog TH 23 (c_history_compare_int_) := tied_of (n := 26) (fn := Go.Proofs.Try.f26) (by kernel_rfl) Go.Proofs.Try.func26 (by kernel_rfl) (by kernel_rfl)
theorem wt_pandectref29_sign : Tied Go.Proofs.Try.prog TH 24 (c_pandectref29_sign) := tied_of (n := 27) (fn := Go.Proofs.Try.f27) (by kernel_rfl) Go.Proofs.Try.func27 (by kernel_rfl) (by kernel_rfl)
theorem wt_slices_rotateRight : Tied Go.Proofs.Try.prog TH 26 (c_slices_rotateRight) := tied_of (n := 29) (fn := Go.Proofs.Try.f29) (by kernel_rfl) Go.Proofs.Try.func29 (by kernel_rfl) (by kernel_rfl)
theorem wt_cmp_Compare_int_ : Tied Go.Proofs.Try.prog TH 27 (c_cmp_Compare_int_) := tied_of (n := 30) (fn := Go.Proofs.Try.f30) (by kernel_rfl) Go.Proofs.Try.func30 (by kernel_rfl) (by kernel_rfl)
theorem wt_slices_rotateLeft : Tied Go.Proofs.Try.prog TH 28 (c_slices_rotateLeft) := tied_of (n := 31) (fn := Go.Proofs.Try.f31) (by kernel_rfl) Go.Proofs.Try.func31 (by kernel_rfl) (by kernel_rfl)
theorem wt_cmp_isNaN_int_ : Tied Go.Proofs.Try.prog TH 29 (c_cmp_isNaN_int_) := tied_of (n := 32) (fn := Go.Proofs.Try.f32) (by kernel_rfl) Go.Proofs.Try.func32 (by kernel_rfl) (by kernel_rfl)
theorem wt_slices_Reverse : Tied Go.Proofs.Try.prog TH 30 (c_slices_Reverse) := tied_of (n := 33) (fn := Go.Proofs.Try.f33) (by kernel_rfl) Go.Proofs.Try.func33 (by kernel_rfl) (by kernel_rfl)
set_option maxRecDepth 100000 in
theorem layH : Lay Go.Proofs.Try.prog TH := ⟨Nat.le_of_ble_eq_true (by kernel_rfl), wt_pandectlaw29_HistoryOrders, wt_pandectlaw29_HistoryArrives, wt_pandectlaw29_HistoryLater, wt_pandectlaw29_HistorySince, wt_pandectlaw29_HistoryRefuses, wt_pandectlaw29_head, wt_pandectlaw29_added, wt_history_History_At, wt_history_History_Order, wt_pandectref29_Equal, wt_pandectref29_Same, wt_history_History_Since, wt_pandectlaw29_has, wt_history_History_Add, wt_history_New, wt_pandectlaw29_act, wt_history_list_Order, wt_pandectref29_Order, wt_history_of, wt_history_place_valid, wt_slices_BinarySearchFunc, wt_history_History_Add_d1, wt_slices_Insert, wt_history_compare_int_, wt_pandectref29_sign, wt_slices_rotateRight, wt_cmp_Compare_int_, wt_slices_rotateLeft, wt_cmp_isNaN_int_, wt_slices_Reverse⟩
theorem ovlH : Ovl Go.Proofs.Try.prog TH :=
  ⟨28, Go.Proofs.Try.f28, ((match opsOf Go.Proofs.Try.prog TH 22 14 6 with | .call c => c.argTypes | _ => #[])), 70, 76, ((Go.Proofs.Try.prog.info? 76).getD default), by kernel_rfl, Go.Proofs.Try.func28, by kernel_rfl, by kernel_rfl, by kernel_rfl, by kernel_rfl, by kernel_rfl, by kernel_rfl, by kernel_rfl⟩
end Go.Av
