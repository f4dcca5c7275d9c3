/- Layer 26 (tally): what an aggregate of copies is, by the reference: walked (1). -/
import Derived.Test.YtnidaahimofppaaGreatQpbo
import Derived.Test.YtnidaahimofppaaGreatQpbi
import Derived.Test.YtnidaahimofppaaGreatQpbh
import Derived.Test.YtnidaahimofppaaGreatQpat
namespace Go.Proofs.YtnidaahimofppaaGreat
open Go.RowKit
set_option linter.unusedVariables false
set_option linter.unusedSimpArgs false

def OneR (w : World) (start : Int) (p : Pt) (e : Ending) (w' : World) : Prop := e = .returned (.tuple #[va (tellP start p).1.k (tellP start p).1.n (tellP start p).1.s, .int .i64 (tellP start p).2]) ∧ Below w.heap.size w w'
set_option maxRecDepth 100000 in
set_option maxHeartbeats 1000000 in
theorem one_cnt (n : Int) (s : ByteArray) (v : Value) (Ks : List Pv) (start : Int) (w : World) (H : HasP w w.heap.size v Ks) (hk : KsOk Ks) :
    Calls Tryz.prog 24 #[va 1 n s, v, .int .i64 start] w (OneR w start (.cnt (cntC (toC Ks)))) := by
  have HP := Kept.mk H
  have HK := Kept.mk hk
  clear H hk
  go_enter Tryz.func24, Tryz.ntmps24
  go_wp2_with (first
    | (go_at_call 10; refine (rCount_any v Ks _ (HP.out.to ?c1) HK.out).mono ?_; (case c1 => (repeat' (first | (with_reducible exact Below.refl _ _) | (with_reducible assumption) | (with_reducible refine below_xw ?_ ?_ _ _) | (with_reducible refine below_drewN ?_ _) | (with_reducible refine Below.drew ?_) | (with_reducible refine Below.setCell ?_ ?_ _) | (with_reducible refine Below.alloc ?_ ?_ _) | (simp [xw_size]; done) | (simp [xw_size]; omega) | (dsimp only; omega)))); rintro e w1 ⟨rfl, hb1⟩; obtain ⟨r1, d1, rfl⟩ := xw_of hb1; clear hb1)
    | (go_at_call 36; refine (rnum_any _ _).mono ?_; rintro e w2 ⟨rfl, hb2⟩; obtain ⟨r2, d2, rfl⟩ := xw_of hb2; clear hb2))
  go_returns
  exact ⟨rfl, by (repeat' (first | (with_reducible exact Below.refl _ _) | (with_reducible assumption) | (with_reducible refine below_xw ?_ ?_ _ _) | (with_reducible refine below_drewN ?_ _) | (with_reducible refine Below.drew ?_) | (with_reducible refine Below.setCell ?_ ?_ _) | (with_reducible refine Below.alloc ?_ ?_ _) | (simp [xw_size]; done) | (simp [xw_size]; omega) | (dsimp only; omega)))⟩
set_option maxRecDepth 100000 in
set_option maxHeartbeats 1000000 in
theorem one_sta (n : Int) (s : ByteArray) (v : Value) (start : Int) (w : World) :
    Calls Tryz.prog 24 #[va 7 n s, v, .int .i64 start] w (OneR w start .sta) := by
  go_enter Tryz.func24, Tryz.ntmps24
  go_wp2_with (first
    | (go_at_call 36; refine (rnum_any _ _).mono ?_; rintro e w2 ⟨rfl, hb2⟩; obtain ⟨r2, d2, rfl⟩ := xw_of hb2; clear hb2))
  go_returns
  exact ⟨rfl, by (repeat' (first | (with_reducible exact Below.refl _ _) | (with_reducible assumption) | (with_reducible refine below_xw ?_ ?_ _ _) | (with_reducible refine below_drewN ?_ _) | (with_reducible refine Below.drew ?_) | (with_reducible refine Below.setCell ?_ ?_ _) | (with_reducible refine Below.alloc ?_ ?_ _) | (simp [xw_size]; done) | (simp [xw_size]; omega) | (dsimp only; omega)))⟩
set_option maxRecDepth 100000 in
set_option maxHeartbeats 1000000 in
theorem one_tot (n : Int) (s : ByteArray) (v : Value) (Ks : List Pv) (start : Int) (w : World) (H : HasP w w.heap.size v Ks) (hk : ColOk Ks n) :
    Calls Tryz.prog 24 #[va 2 n s, v, .int .i64 start] w (OneR w start (.tot (sumC (toC Ks) (colF n)))) := by
  have HP := Kept.mk H
  have HK := Kept.mk hk
  clear H hk
  obtain ⟨T, hT⟩ : ∃ T, T = sumC (toC Ks) (colF n) := ⟨_, rfl⟩
  rw [← hT]
  have HT := Kept.mk hT.symm
  clear hT
  by_cases c : in64 T
  · have h1 : Kept (intN T = T) := ⟨if_pos c⟩
    have h2 : Kept (intE T = 0) := ⟨if_pos c⟩
    have hv : Kept (tellP start (.tot T) = (⟨1, T, ⟨#[]⟩⟩, 0)) := ⟨if_pos c⟩
    unfold OneR
    rw [hv.out]
    clear c
    go_enter Tryz.func24, Tryz.ntmps24
    go_wp2_with (first
      | (go_at_call 37; refine (rTotal_any v Ks n _ (HP.out.to ?c1) HK.out).mono ?_; (case c1 => (repeat' (first | (with_reducible exact Below.refl _ _) | (with_reducible assumption) | (with_reducible refine below_xw ?_ ?_ _ _) | (with_reducible refine below_drewN ?_ _) | (with_reducible refine Below.drew ?_) | (with_reducible refine Below.setCell ?_ ?_ _) | (with_reducible refine Below.alloc ?_ ?_ _) | (simp [xw_size]; done) | (simp [xw_size]; omega) | (dsimp only; omega)))); rintro e w1 ⟨rfl, hb1⟩; rewrite [HT.out, h1.out, h2.out]; obtain ⟨r1, d1, rfl⟩ := xw_of hb1; clear hb1)
      | (go_at_call 36; refine (rnum_any _ _).mono ?_; rintro e w2 ⟨rfl, hb2⟩; obtain ⟨r2, d2, rfl⟩ := xw_of hb2; clear hb2))
    go_returns
    exact ⟨rfl, by (repeat' (first | (with_reducible exact Below.refl _ _) | (with_reducible assumption) | (with_reducible refine below_xw ?_ ?_ _ _) | (with_reducible refine below_drewN ?_ _) | (with_reducible refine Below.drew ?_) | (with_reducible refine Below.setCell ?_ ?_ _) | (with_reducible refine Below.alloc ?_ ?_ _) | (simp [xw_size]; done) | (simp [xw_size]; omega) | (dsimp only; omega)))⟩
  · have h1 : Kept (intN T = 0) := ⟨if_neg c⟩
    have h2 : Kept (intE T = 10) := ⟨if_neg c⟩
    have hv : Kept (tellP start (.tot T) = (⟨0, 0, ⟨#[]⟩⟩, 10)) := ⟨if_neg c⟩
    unfold OneR
    rw [hv.out]
    clear c
    go_enter Tryz.func24, Tryz.ntmps24
    go_wp2_with (first
      | (go_at_call 37; refine (rTotal_any v Ks n _ (HP.out.to ?c1) HK.out).mono ?_; (case c1 => (repeat' (first | (with_reducible exact Below.refl _ _) | (with_reducible assumption) | (with_reducible refine below_xw ?_ ?_ _ _) | (with_reducible refine below_drewN ?_ _) | (with_reducible refine Below.drew ?_) | (with_reducible refine Below.setCell ?_ ?_ _) | (with_reducible refine Below.alloc ?_ ?_ _) | (simp [xw_size]; done) | (simp [xw_size]; omega) | (dsimp only; omega)))); rintro e w1 ⟨rfl, hb1⟩; rewrite [HT.out, h1.out, h2.out]; obtain ⟨r1, d1, rfl⟩ := xw_of hb1; clear hb1))
    go_returns
    exact ⟨rfl, by (repeat' (first | (with_reducible exact Below.refl _ _) | (with_reducible assumption) | (with_reducible refine below_xw ?_ ?_ _ _) | (with_reducible refine below_drewN ?_ _) | (with_reducible refine Below.drew ?_) | (with_reducible refine Below.setCell ?_ ?_ _) | (with_reducible refine Below.alloc ?_ ?_ _) | (simp [xw_size]; done) | (simp [xw_size]; omega) | (dsimp only; omega)))⟩
end Go.Proofs.YtnidaahimofppaaGreat
