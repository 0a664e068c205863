/- The contracts at the seat's tree. -/
import Derived.Test.YtmdidmoffcinjaaGreatDC
import Derived.Test.YtmdidmoffcinjaaGreatDX
import Derived.Test.YtmdidmoffcinjaaGreatDJ
import Derived.Test.YtmdidmoffcinjaaGreatDI
import Derived.Test.YtmdidmoffcinjaaGreatL26o
namespace Go.Proofs
open Go Go.Vw Go.Vw.Ev
set_option linter.unusedVariables false
noncomputable section
section
variable {cl : Cl} {H : AH} {K : AV → AH → Bool}
theorem run_ {b : Cl → AH → (AV → AH → Bool) → Bool} : PK.run [] b cl [] H K = b cl H K := rfl
theorem run_p {b : Cl → AP → AH → (AV → AH → Bool) → Bool} {p : AP} : PK.run [.ptr] b cl [.s (.ptr p)] H K = b cl p H K := rfl
theorem run_a {b : Cl → List AS → AH → (AV → AH → Bool) → Bool} {p : List AS} : PK.run [.agg] b cl [.agg p] H K = b cl p H K := rfl
theorem run_aa {b : Cl → List AS → List AS → AH → (AV → AH → Bool) → Bool} {p q : List AS} : PK.run [.agg, .agg] b cl [.agg p, .agg q] H K = b cl p q H K := rfl
theorem run_ai {b : Cl → List AS → Int → AH → (AV → AH → Bool) → Bool} {p : List AS} {i : Int} : PK.run [.agg, .int .i64] b cl [.agg p, .s (.int .i64 i)] H K = b cl p i H K := rfl
theorem run_pi {b : Cl → AP → Int → AH → (AV → AH → Bool) → Bool} {p : AP} {i : Int} : PK.run [.ptr, .int .i64] b cl [.s (.ptr p), .s (.int .i64 i)] H K = b cl p i H K := rfl
theorem run_ip {b : Cl → Int → AP → AH → (AV → AH → Bool) → Bool} {p : AP} {i : Int} : PK.run [.int .i64, .ptr] b cl [.s (.int .i64 i), .s (.ptr p)] H K = b cl i p H K := rfl
theorem run_pa {b : Cl → AP → List AS → AH → (AV → AH → Bool) → Bool} {p : AP} {i : List AS} : PK.run [.ptr, .agg] b cl [.s (.ptr p), .agg i] H K = b cl p i H K := rfl
theorem run_pia {b : Cl → AP → Int → List AS → AH → (AV → AH → Bool) → Bool} {p : AP} {i : Int} {q : List AS} : PK.run [.ptr, .int .i64, .agg] b cl [.s (.ptr p), .s (.int .i64 i), .agg q] H K = b cl p i q H K := rfl
theorem run_s {b : Cl → AP → Nat → ACap → Nat → AH → (AV → AH → Bool) → Bool} {p : AP} {n z : Nat} {c : ACap} : PK.run [.slice] b cl [.s (.slice p n c z)] H K = b cl p n c z H K := rfl
theorem run_sv {b : Cl → AP → Nat → ACap → Nat → AV → AH → (AV → AH → Bool) → Bool} {p : AP} {n z : Nat} {c : ACap} {v : AV} : PK.run [.slice, .val] b cl [.s (.slice p n c z), v] H K = b cl p n c z v H K := rfl
theorem run_ppai {b : Cl → AP → AP → List AS → Int → AH → (AV → AH → Bool) → Bool} {p q : AP} {r : List AS} {i : Int} : PK.run [.ptr, .ptr, .agg, .int .i64] b cl [.s (.ptr p), .s (.ptr q), .agg r, .s (.int .i64 i)] H K = b cl p q r i H K := rfl
theorem run_ppaii {b : Cl → AP → AP → List AS → Int → Int → AH → (AV → AH → Bool) → Bool} {p q : AP} {r : List AS} {i j : Int} : PK.run [.ptr, .ptr, .agg, .int .i64, .int .i64] b cl [.s (.ptr p), .s (.ptr q), .agg r, .s (.int .i64 i), .s (.int .i64 j)] H K = b cl p q r i j H K := rfl
theorem run_pspaa {b : Cl → AP → AP → Nat → ACap → Nat → AP → List AS → List AS → AH → (AV → AH → Bool) → Bool} {t p q : AP} {n z : Nat} {c : ACap} {r s : List AS} : PK.run [.ptr, .slice, .ptr, .agg, .agg] b cl [.s (.ptr t), .s (.slice p n c z), .s (.ptr q), .agg r, .agg s] H K = b cl t p n c z q r s H K := rfl
end
theorem LF_ge : 1000000 ≤ LF := by unfold LF; omega
theorem lf20 : 20000 ≤ LF := Nat.le_trans (by omega) LF_ge
theorem lf1000 : 1000 ≤ LF := Nat.le_trans (by omega) LF_ge
theorem lf100 : 100 ≤ LF := Nat.le_trans (by omega) LF_ge
theorem lf10 : 10 ≤ LF := Nat.le_trans (by omega) LF_ge
theorem up {n k : Nat} (h : k + 1 ≤ n) : ∃ m, k ≤ m ∧ n = m + 1 := ⟨n - 1, by omega, by omega⟩
theorem cOn {n : Nat} (h : 1 ≤ n) : CPtB i_geom_On On (C n) := by obtain ⟨m, hm, rfl⟩ := up h; intro p H K h; rw [f_geom_On, run_a]; exact B_geom_On_ h
theorem cInR {n : Nat} (h : 1 ≤ n) : CRcPtB i_geom_In RIn (C n) := by obtain ⟨m, hm, rfl⟩ := up h; intro r p H K h; rw [f_geom_In, run_aa]; exact B_geom_In_ h
theorem cEmpty {n : Nat} (h : 1 ≤ n) : CRcB i_geom_Empty REmpty (C n) := by obtain ⟨m, hm, rfl⟩ := up h; intro r H K h; rw [f_geom_Empty, run_a]; exact B_geom_Empty_ h
theorem cTidy {n : Nat} (h : 2 ≤ n) : CRc1 i_geom_tidy tidy (C n) := by obtain ⟨m, hm, rfl⟩ := up h; intro r H K h; rw [f_geom_tidy, run_a]; exact B_geom_tidy_ (cEmpty hm) h
theorem cMeet {n : Nat} (h : 3 ≤ n) : CRcRc i_geom_Meet RMeet (C n) := by obtain ⟨m, hm, rfl⟩ := up h; intro r s H K h; rw [f_geom_Meet, run_aa]; exact B_geom_Meet_ (cTidy hm) h
theorem cWhole {n : Nat} (h : 1 ≤ n) : CRc0 i_quad_whole ⟨0, 0, 64, 64⟩ (C n) := by obtain ⟨m, hm, rfl⟩ := up h; intro H K h; rw [f_quad_whole, run_]; exact B_quad_whole_ h
theorem cWhich {n : Nat} (h : 1 ≤ n) : CWhich (C n) := by obtain ⟨m, hm, rfl⟩ := up h; intro x y d p H K hg hd h; rw [f_quad_which, run_aa]; exact B_quad_which_ hg hd h
theorem cQuarter {n : Nat} (h : 1 ≤ n) : CQuarter (C n) := by obtain ⟨m, hm, rfl⟩ := up h; intro x y d i H K hg hd hi h; rw [f_quad_quarter, run_ai]; exact B_quad_quarter_ hg hd hi h
theorem cAdd : ∀ {n d : Nat}, 6 ≤ n + d → d ≤ 4 → CAdd d (C n) := by
 intro n
 induction n with
 | zero => intro d h1 h2; omega
 | succ n ih =>
  intro d h1 h2 H tg m L a o cs q x y id K pre post
  rw [f_quad_Tree_add, run_ppaii]
  exact B_quad_Tree_add_ lf100 (cWhich (by omega)) (cQuarter (by omega)) (fun e h3 h4 => ih (by omega) h4) pre post
theorem cClone {n : Nat} (h : 1 ≤ n) : CClone (C n) := by
 obtain ⟨m, hm, rfl⟩ := up h
 intro H p n z c ks K his hn hk
 rw [f_slices_Clone_int, run_s]
 exact B_slices_Clone_int_ his hn hk
theorem cAll : ∀ {n h : Nat}, h + 2 ≤ n → CAll h (C n) := by
 intro n
 induction n with
 | zero => intro d h1; omega
 | succ n ih =>
  intro h h1 H a o cs q K sq lo len hk
  rw [f_quad_square_all, run_p]
  exact B_quad_square_all_ lf10 (cClone (by omega)) (fun g hg => ih (by omega)) sq lo len hk
theorem remF_pred {n : Nat} (h : 1 ≤ n) {g : Pn} {id : Int} {H : AH} (hg : H.get g = some (.row [.int .i64 id])) : PredI (C n) (remF g) (fun x => x == id) H := by
 obtain ⟨m, hm, rfl⟩ := up h
 intro x K hk
 refine callV_bool (t := 4) (by kernel_rfl) (by kernel_rfl) ?_
 show C (m + 1) i_quad_Tree_remove_1 [.s (.int .i64 x), .s (.ptr (.at g 0))] H _ = true
 rw [f_quad_Tree_remove_1, run_ip]
 exact B_quad_Tree_remove_1_ hg (arB_w hk)
theorem cIndexI {n : Nat} : CIndexI (PredI (C n)) (C (n + 1)) := by
 intro H p m z c v ks P K his hm pr h1 h2
 rw [f_slices_IndexFunc_int, run_sv]
 exact B_slices_IndexFunc_int_ his (Nat.lt_of_lt_of_le hm LF_ge) hm pr h1 h2
theorem cDelRem {n : Nat} (h : 3 ≤ n) : CDelRem (C n) := by
 obtain ⟨m, hm, rfl⟩ := up h
 obtain ⟨k, hk, rfl⟩ := up hm
 intro H p n z c g id ks K his hc hn hh hg ho post
 rw [f_slices_DeleteFunc_int, run_sv]
 refine B_slices_DeleteFunc_int_ cIndexI his hc (Nat.lt_of_lt_of_le hn LF_ge) hn (fun H' fr => remF_pred (by omega) ?_) (remF_pred (by omega) hg) post
 exact (fr.get _ hh ho).trans hg
theorem cRem : ∀ {n d : Nat}, 11 ≤ n + d → d ≤ 4 → CRem d (C n) := by
 intro n
 induction n with
 | zero => intro d h1 h2; omega
 | succ n ih =>
  intro d h1 h2 H tg m L a o cs q x y id K pre post
  rw [f_quad_Tree_remove, run_ppai]
  exact B_quad_Tree_remove_ (cWhich (by omega)) (cQuarter (by omega)) (cDelRem (by omega)) (fun h hh => cAll (by omega)) (fun e h3 h4 => ih (by omega) h4) pre post
theorem cIn : ∀ {n h : Nat}, h + 4 ≤ n → CIn h (C n) := by
 intro n
 induction n with
 | zero => intro d h1; omega
 | succ n ih =>
  intro h h1 H tg m L a o cs q x y d r p k z c ks K tc sq his hcap pa pt pm pq hg hd4 hinv hlow hlen hk
  rw [f_quad_Tree_in, run_pspaa]
  exact B_quad_Tree_in_ lf20 (cQuarter (by omega)) (cMeet (by omega)) (cEmpty (by omega)) (cInR (by omega)) (fun g hg => ih (by omega)) tc sq his hcap pa pt pm pq hg hd4 hinv hlow hlen hk
theorem cSortI {n : Nat} (h : 1 ≤ n) : CSortI (C n) := by
 obtain ⟨m, hm, rfl⟩ := up h
 intro H p n z c ks K his hn hk
 rw [f_slices_Sort_int]
 exact sortB_ his hn hk
theorem cLay {n : Nat} (h : 7 ≤ n) : CLay (C n) := by
 obtain ⟨m, hm, rfl⟩ := up h
 intro H g L ids O id p K tr h1 h2 h3 h4 h5 hk
 rw [f_quad_Tree_Lay, run_pia]
 exact B_quad_Tree_Lay_ (cWhole (by omega)) (cAdd (by omega) (by omega)) tr h1 h2 h3 h4 h5 hk
theorem cNewQ {n : Nat} (h : 1 ≤ n) : CNewQ (C n) := by
 obtain ⟨m, hm, rfl⟩ := up h
 intro H K hk
 rw [f_quad_New, run_]
 exact B_quad_New_ hk
theorem cDrop {n : Nat} (h : 12 ≤ n) : CDrop (C n) := by
 obtain ⟨m, hm, rfl⟩ := up h
 intro H g L O id K tr hk
 rw [f_quad_Tree_Drop, run_pi]
 exact B_quad_Tree_Drop_ (cWhole (by omega)) (cRem (by omega) (by omega)) tr hk
theorem cInT {n : Nat} (h : 9 ≤ n) : CInT (C n) := by
 obtain ⟨m, hm, rfl⟩ := up h
 intro H g L O r K tr hk
 rw [f_quad_Tree_In, run_pa]
 exact B_quad_Tree_In_ (cWhole (by omega)) (cIn (by omega)) (cSortI (by omega)) tr hk
theorem run_ps {cl : Cl} {H : AH} {K : AV → AH → Bool} {b : Cl → AP → AP → Nat → ACap → Nat → AH → (AV → AH → Bool) → Bool} {q p : AP} {n z : Nat} {c : ACap} : PK.run [.ptr, .slice] b cl [.s (.ptr q), .s (.slice p n c z)] H K = b cl q p n c z H K := rfl
theorem cIsF {n : Nat} (h : 1 ≤ n) : CIsF (C n) := by obtain ⟨m, hm, rfl⟩ := up h; intro f H K h; rw [f_fields_IsField, run_a]; exact B_fields_IsField_ h
theorem cTh1 {n : Nat} (h : 2 ≤ n) : CTh1 (C n) := by obtain ⟨m, hm, rfl⟩ := up h; intro f H K h; rw [f_thing_Is_1, run_a]; exact B_thing_Is_1_ (cIsF hm) h
theorem predF {n : Nat} (h : 2 ≤ n) : PredF (C n) (.s (.func i_thing_Is_1 [] [])) (fun f => !IsF f) := by
 intro f H K hk
 refine callV_bool (t := 4) (by kernel_rfl) (by kernel_rfl) ?_
 show C n i_thing_Is_1 [.agg (fdC f)] H _ = true
 exact cTh1 h _ _ _ fun H' hL => arB_w (hk H' hL)
theorem cIndexF {n : Nat} : CIndexF (PredF (C n)) (C (n + 1)) := by
 intro H g o c v fs cs P K h1 h2 h3 h4 h5 h6
 rw [f_slices_IndexFunc_Field, run_sv]
 exact B_slices_IndexFunc_Field_ lf10 h1 h2 h3 h4 h5 h6
theorem cContF {n : Nat} : CContF (PredF (C n)) (C (n + 2)) := by
 intro H g o c v fs cs P K h1 h2 h3 h4 h5 h6
 rw [f_slices_ContainsFunc_Field, run_sv]
 exact B_slices_ContainsFunc_Field_ cIndexF h1 h2 h3 h4 h5 h6
theorem cThIs {n : Nat} (h : 5 ≤ n) : CThIs (C n) := by
 obtain ⟨m, hm, rfl⟩ := up h
 obtain ⟨k, hk, rfl⟩ : ∃ k, 2 ≤ k ∧ m = k + 2 := ⟨m - 2, by omega, by omega⟩
 intro t H K h
 rw [f_thing_Is, run_a]
 exact B_thing_Is_ (lf := LF) (cOn (by omega)) cContF (predF hk) h
theorem cTNew {n : Nat} (h : 2 ≤ n) : CTNew (C n) := by
 obtain ⟨m, hm, rfl⟩ := up h
 intro H K hk
 rw [f_table_New, run_]
 exact B_table_New_ (lf := LF) (cNewQ (by omega)) hk
theorem cTLay {n : Nat} (h : 13 ≤ n) : CTLay (C n) := by
 obtain ⟨m, hm, rfl⟩ := up h
 intro H g L O t K h1 h2 h3 h4 h5 h6
 rw [f_table_Table_Lay, run_pa]
 exact B_table_Table_Lay_ (lf := LF) (cDrop (by omega)) (cLay (by omega)) h1 h2 h3 h4 h5 h6
theorem cTDrop {n : Nat} (h : 13 ≤ n) : CTDrop (C n) := by
 obtain ⟨m, hm, rfl⟩ := up h
 intro H g L O id K h1 h2
 rw [f_table_Table_Drop, run_pi]
 exact B_table_Table_Drop_ (lf := LF) (cDrop (by omega)) h1 h2
theorem cTGet {n : Nat} (h : 1 ≤ n) : CTGet (C n) := by
 obtain ⟨m, hm, rfl⟩ := up h
 intro H g L O id K h1 h2
 rw [f_table_Table_Get, run_pi]
 exact B_table_Table_Get_ (lf := LF) h1 h2
theorem cTLen {n : Nat} (h : 1 ≤ n) : CTLen (C n) := by
 obtain ⟨m, hm, rfl⟩ := up h
 intro H g L O K h1 h2
 rw [f_table_Table_Len, run_p]
 exact B_table_Table_Len_ (lf := LF) h1 h2
theorem cOf {n : Nat} (h : 1 ≤ n) : COf (C n) := by
 obtain ⟨m, hm, rfl⟩ := up h
 intro H g L O ks p c z K h1 h2 h3 h4
 rw [f_table_Table_of, run_ps]
 exact B_table_Table_of_ lf20 h1 h2 h3 h4
theorem cTIn {n : Nat} (h : 10 ≤ n) : CTIn (C n) := by
 obtain ⟨m, hm, rfl⟩ := up h
 intro H g L O r K h1 h2 h3
 rw [f_table_Table_In, run_pa]
 exact B_table_Table_In_ (lf := LF) (cInT (by omega)) (cOf (by omega)) h1 h2 h3
theorem run_i {cl : Cl} {H : AH} {K : AV → AH → Bool} {b : Cl → Int → AH → (AV → AH → Bool) → Bool} {n : Int} : PK.run [.int .i64] b cl [.s (.int .i64 n)] H K = b cl n H K := rfl
theorem run_ii {cl : Cl} {H : AH} {K : AV → AH → Bool} {b : Cl → Int → Int → AH → (AV → AH → Bool) → Bool} {n m : Int} : PK.run [.int .i64, .int .i64] b cl [.s (.int .i64 n), .s (.int .i64 m)] H K = b cl n m H K := rfl
theorem run_u {cl : Cl} {H : AH} {K : AV → AH → Bool} {b : Cl → Int → AH → (AV → AH → Bool) → Bool} {n : Int} : PK.run [.int .u32] b cl [.s (.int .u32 n)] H K = b cl n H K := rfl
theorem run_uu {cl : Cl} {H : AH} {K : AV → AH → Bool} {b : Cl → Int → Int → AH → (AV → AH → Bool) → Bool} {n m : Int} : PK.run [.int .u16, .int .u16] b cl [.s (.int .u16 n), .s (.int .u16 m)] H K = b cl n m H K := rfl
theorem run_pai {cl : Cl} {H : AH} {K : AV → AH → Bool} {b : Cl → AP → List AS → Int → AH → (AV → AH → Bool) → Bool} {p : AP} {q : List AS} {n : Int} : PK.run [.ptr, .agg, .int .i64] b cl [.s (.ptr p), .agg q, .s (.int .i64 n)] H K = b cl p q n H K := rfl
theorem cGather {n : Nat} (h : 1 ≤ n) : CGather (C n) := by obtain ⟨m, hm, rfl⟩ := up h; intro k H K h; rw [f_morton_gather, run_u]; exact B_morton_gather_ lf10 h
theorem cSpread {n : Nat} (h : 1 ≤ n) : CSpread (C n) := by obtain ⟨m, hm, rfl⟩ := up h; intro k H K h; rw [f_morton_spread, run_u]; exact B_morton_spread_ lf10 h
theorem cWeave {n : Nat} (h : 2 ≤ n) : CWeave (C n) := by obtain ⟨m, hm, rfl⟩ := up h; intro a b H K h; rw [f_morton_Weave, run_uu]; exact B_morton_Weave_ (lf := LF) (cSpread (by omega)) h
theorem cSplit {n : Nat} (h : 2 ≤ n) : CSplit (C n) := by obtain ⟨m, hm, rfl⟩ := up h; intro a H K h; rw [f_morton_Split, run_u]; exact B_morton_Split_ (lf := LF) (cGather (by omega)) h
theorem cPlace {n : Nat} (h : 3 ≤ n) : CPlace (C n) := by obtain ⟨m, hm, rfl⟩ := up h; intro c H K h0 h1 h; rw [f_cells_place, run_i]; exact B_cells_place_ (lf := LF) (cSplit (by omega)) h0 h1 h
theorem cIsC {n : Nat} (h : 1 ≤ n) : CIsC (C n) := by obtain ⟨m, hm, rfl⟩ := up h; intro c H K h; rw [f_cells_Is, run_i]; exact B_cells_Is_ (lf := LF) h
theorem cRectC {n : Nat} (h : 4 ≤ n) : CRectC (C n) := by obtain ⟨m, hm, rfl⟩ := up h; intro c H K h; rw [f_cells_Rect, run_i]; exact B_cells_Rect_ (lf := LF) (cIsC (by omega)) (cPlace (by omega)) h
theorem cAtC {n : Nat} (h : 3 ≤ n) : CAtC (C n) := by obtain ⟨m, hm, rfl⟩ := up h; intro x y H K h0 h1 h2 h3 h; rw [f_cells_at, run_ii]; exact B_cells_at_ (lf := LF) (cWeave (by omega)) h0 h1 h2 h3 h
theorem cOfC {n : Nat} (h : 4 ≤ n) : COfC (C n) := by obtain ⟨m, hm, rfl⟩ := up h; intro p H K h; rw [f_cells_Of, run_a]; exact B_cells_Of_ (lf := LF) (cOn (by omega)) (cAtC (by omega)) h
theorem cTCell {n : Nat} (h : 11 ≤ n) : CTCell (C n) := by obtain ⟨m, hm, rfl⟩ := up h; intro H g L O c K h1 h2 h; rw [f_table_Table_Cell, run_pi]; exact B_table_Table_Cell_ (lf := LF) (cRectC (by omega)) (cTIn (by omega)) h1 h2 h
theorem cKeysT {n : Nat} (h : 1 ≤ n) {H : AH} {m : Pn} {es : List (Int × AV)} {K : AV → AH → Bool} (h1 : H.get m = some (.imap es)) (h2 : H.has m) (h3 : ∀ k ∈ keysOf es, 0 ≤ k ∧ k ≤ 9223372036854775807) (h4 : es.length ≤ 1000000)
  (h5 : ∀ H' p c z, Le H H' → IS H' p (srtI (keysOf es)).length z (srtI (keysOf es)) → K (.s (.slice p (srtI (keysOf es)).length c z)) H' = true) : C n i_maps_Keys_int_Thing [.s (.map (some m))] H (fun r h => C n i_slices_Sorted_int [r] h K) = true := by
 obtain ⟨m, hm, rfl⟩ := up h
 rw [f_maps_Keys_int_Thing]
 simp only [f_slices_Sorted_int]
 exact keys_sorted_ rfl h1 h2 h3 h4 h5
theorem cTAll {n : Nat} (h : 2 ≤ n) : CTAll (C n) := by obtain ⟨m, hm, rfl⟩ := up h; intro H g L O K h1 h2 h; rw [f_table_Table_All, run_p]; exact B_table_Table_All_ (lf := LF) (fun H m es K h1 h2 h3 h4 h5 => cKeysT hm h1 h2 h3 h4 h5) (cOf (by omega)) h1 h2 h
theorem cCore {n : Nat} (h : 1 ≤ n) : CCore (C n) := by obtain ⟨m, hm, rfl⟩ := up h; intro c H K h; rw [f_cmd_core, run_a]; exact B_cmd_core_ (lf := LF) h
theorem cNear {n : Nat} (h : 1 ≤ n) : CNear (C n) := by obtain ⟨m, hm, rfl⟩ := up h; intro H g l K h1 h2 h3 h; rw [f_cmd_near, run_s]; exact B_cmd_near_ lf100 rfl h1 h2 h3 h
theorem cIsCm {n : Nat} (h : 2 ≤ n) : CIsCm (C n) := by obtain ⟨m, hm, rfl⟩ := up h; intro c H K h; rw [f_cmd_Is, run_a]; exact B_cmd_Is_ lf100 (cIsF (by omega)) (cCore (by omega)) (cNear (by omega)) h
theorem cFull {n : Nat} (h : 12 ≤ n) : CFull (C n) := by obtain ⟨m, hm, rfl⟩ := up h; intro H g L O p K h1 h2 h; rw [f_act_full, run_pa]; exact B_act_full_ (lf := LF) (cOfC (by omega)) (cTCell (by omega)) h1 h2 h
theorem cAway {n : Nat} (h : 5 ≤ n) : CAway (C n) := by obtain ⟨m, hm, rfl⟩ := up h; intro a b H K h; rw [f_act_away, run_aa]; exact B_act_away_ (lf := LF) (cOfC (by omega)) h
theorem cCheck {n : Nat} (h : 13 ≤ n) : CCheck (C n) := by obtain ⟨m, hm, rfl⟩ := up h; intro H g L O c K h1 h2 h; rw [f_act_Check, run_pa]; exact B_act_Check_ (lf := LF) (cIsCm (by omega)) (cTGet (by omega)) (cOfC (by omega)) (cTLen (by omega)) (cFull (by omega)) (cAway (by omega)) h1 h2 h
theorem cDone {n : Nat} (h : 14 ≤ n) : CDone (C n) := by obtain ⟨m, hm, rfl⟩ := up h; intro H g L O c id K h1 h2 h3 h; rw [f_act_Done, run_pai]; exact B_act_Done_ (lf := LF) (cTGet (by omega)) (cTLay (by omega)) (cTDrop (by omega)) h1 h2 h3 h
theorem lfG : 100000 ≤ LF := Nat.le_trans (by omega) LF_ge
section
variable {cl : Cl} {H : AH} {K : AV → AH → Bool}
theorem run_apG {b : Cl → List AS → AP → AH → (AV → AH → Bool) → Bool} {p : List AS} {i : AP} : PK.run [.agg, .ptr] b cl [.agg p, .s (.ptr i)] H K = b cl p i H K := rfl
theorem run_siG {b : Cl → AP → Nat → ACap → Nat → Int → AH → (AV → AH → Bool) → Bool} {p : AP} {n z : Nat} {c : ACap} {i : Int} : PK.run [.slice, .int .i64] b cl [.s (.slice p n c z), .s (.int .i64 i)] H K = b cl p n c z i H K := rfl
end
theorem bHanded1 : BoolF i_region_handed_1 := ⟨4, by kernel_rfl, by kernel_rfl⟩
theorem cHanded1 {n : Nat} (h : 1 ≤ n) : CHanded1 (C n) := by obtain ⟨m, hm, rfl⟩ := up h; intro a g k H K h1 h2 h3; rw [f_region_handed_1, run_apG]; exact B_region_handed_1_ (lf := LF) h1 h2 h3
theorem cIndexH {n : Nat} (h : 2 ≤ n) : CIndexH isH (C n) := by obtain ⟨m, hm, rfl⟩ := up h; intro H p a c z hs v P K h1 h2 h3 h4; rw [f_slices_IndexFunc_Hand, run_sv]; exact B_slices_IndexFunc_Hand_ lfG h1 h2 (isH_pred bHanded1 (cHanded1 (by omega)) h3) h4
theorem cContH {n : Nat} (h : 3 ≤ n) : CContH isH (C n) := by obtain ⟨m, hm, rfl⟩ := up h; intro H p a c z hs v P K h1 h2 h3 h4; rw [f_slices_ContainsFunc_Hand, run_sv]; exact B_slices_ContainsFunc_Hand_ (lf := LF) (cIndexH (by omega)) h1 h2 h3 h4
theorem cHanded {n : Nat} (h : 4 ≤ n) : CHanded (C n) := by obtain ⟨m, hm, rfl⟩ := up h; intro H p a c z hs k K h1 h2 h3; rw [f_region_handed, run_siG]; exact B_region_handed_ (lf := LF) (cContH (by omega)) h1 h2 h3
theorem cOwOf {n : Nat} (h : 2 ≤ n) : COwOf (C n) := by obtain ⟨m, hm, rfl⟩ := up h; intro H g a l c K h1 h2; rw [f_owner_Map_Of, run_pi]; exact B_owner_Map_Of_ (lf := LF) (cIsC (by omega)) h1 h2
theorem cOwNew {n : Nat} (h : 1 ≤ n) : COwNew (C n) := by obtain ⟨m, hm, rfl⟩ := up h; intro a H K h1; rw [f_owner_New, run_i]; exact B_owner_New_ lf1000 h1
theorem cNumber {n : Nat} (h : 1 ≤ n) : CNumber (C n) := by obtain ⟨m, hm, rfl⟩ := up h; intro a b H K h1; rw [f_thing_Number, run_ii]; exact B_thing_Number_ (lf := LF) h1
theorem cWat {n : Nat} (h : 1 ≤ n) : CWat (C n) := by obtain ⟨m, hm, rfl⟩ := up h; intro c H K h1; rw [f_cmd_Watches, run_a]; exact B_cmd_Watches_ (lf := LF) h1
theorem cBkNew {n : Nat} (h : 1 ≤ n) : CBkNew (C n) := by obtain ⟨m, hm, rfl⟩ := up h; intro H K h1; rw [f_watch_New, run_]; exact B_watch_New_ (lf := LF) h1
theorem cHas {n : Nat} (h : 3 ≤ n) : CHas (C n) := by obtain ⟨m, hm, rfl⟩ := up h; intro H g s O c K h1 h2; rw [f_region_Region_has, run_pi]; exact B_region_Region_has_ (lf := LF) (cOwOf (by omega)) h1 h2
theorem cMine {n : Nat} (h : 5 ≤ n) : CMine (C n) := by obtain ⟨m, hm, rfl⟩ := up h; intro H g s O c K h1 h2 h3; rw [f_region_Region_Mine, run_pi]; exact B_region_Region_Mine_ (lf := LF) (cHas (by omega)) (cHanded (by omega)) h1 h2 h3
theorem cDoes {n : Nat} (h : 16 ≤ n) : CDoes (C n) := by obtain ⟨m, hm, rfl⟩ := up h; intro H g s O c K h1 h2 h3; rw [f_region_Region_does, run_pa]; exact B_region_Region_does_ (lf := LF) (cOfC (by omega)) (cMine (by omega)) (cNumber (by omega)) (cCheck (by omega)) (cTLay (by omega)) (cDone (by omega)) h1 h2 h3
theorem cTakeD {n : Nat} (h : 17 ≤ n) : CTakeD (C n) := by obtain ⟨m, hm, rfl⟩ := up h; intro H g s O c K h1 h2 h3 h4 h5; rw [f_region_Region_Take, run_pa]; exact B_region_Region_Take_ (lf := LF) (cIsCm (by omega)) (cWat (by omega)) (cDoes (by omega)) h1 h2 h3 h4 h5
theorem cRgNew {n : Nat} (h : 6 ≤ n) : CRgNew (C n) := by obtain ⟨m, hm, rfl⟩ := up h; intro a b H K h1; rw [f_region_New, run_ii]; exact B_region_New_ (lf := LF) (cOwNew (by omega)) (cTNew (by omega)) (cBkNew (by omega)) h1
section
variable {cl : Cl} {H : AH} {K : AV → AH → Bool}
theorem run_sii {b : Cl → AP → Nat → ACap → Nat → Int → Int → AH → (AV → AH → Bool) → Bool} {p : AP} {n z : Nat} {c : ACap} {i j : Int} : PK.run [.slice, .int .i64, .int .i64] b cl [.s (.slice p n c z), .s (.int .i64 i), .s (.int .i64 j)] H K = b cl p n c z i j H K := rfl
theorem run_ssbG {b : Cl → AP → Nat → ACap → Nat → AP → Nat → ACap → Nat → Bool → AH → (AV → AH → Bool) → Bool} {p q : AP} {n z n' z' : Nat} {c c' : ACap} {w : Bool} : PK.run [.slice, .slice, .bool] b cl [.s (.slice p n c z), .s (.slice q n' c' z'), .s (.bool w)] H K = b cl p n c z q n' c' z' w H K := by cases w <;> rfl
theorem run_psG {b : Cl → AP → AP → Nat → ACap → Nat → AH → (AV → AH → Bool) → Bool} {q p : AP} {n z : Nat} {c : ACap} : PK.run [.ptr, .slice] b cl [.s (.ptr q), .s (.slice p n c z)] H K = b cl q p n c z H K := rfl
theorem run_pasG {b : Cl → AP → List AS → AP → Nat → ACap → Nat → AH → (AV → AH → Bool) → Bool} {q p : AP} {l : List AS} {n z : Nat} {c : ACap} : PK.run [.ptr, .agg, .slice] b cl [.s (.ptr q), .agg l, .s (.slice p n c z)] H K = b cl q l p n c z H K := rfl
theorem run_siiv {b : Cl → AP → Nat → ACap → Nat → Int → Int → AV → AH → (AV → AH → Bool) → Bool} {p : AP} {n z : Nat} {c : ACap} {i j : Int} {v : AV} : PK.run [.slice, .int .i64, .int .i64, .val] b cl [.s (.slice p n c z), .s (.int .i64 i), .s (.int .i64 j), v] H K = b cl p n c z i j v H K := rfl
theorem run_siiiv {b : Cl → AP → Nat → ACap → Nat → Int → Int → Int → AV → AH → (AV → AH → Bool) → Bool} {p : AP} {n z : Nat} {c : ACap} {i j k : Int} {v : AV} : PK.run [.slice, .int .i64, .int .i64, .int .i64, .val] b cl [.s (.slice p n c z), .s (.int .i64 i), .s (.int .i64 j), .s (.int .i64 k), v] H K = b cl p n c z i j k v H K := rfl
theorem run_sivv {b : Cl → AP → Nat → ACap → Nat → Int → AV → AH → (AV → AH → Bool) → Bool} {p : AP} {n z : Nat} {c : ACap} {i : Int} {v : AV} : PK.run [.slice, .int .i64, .val] b cl [.s (.slice p n c z), .s (.int .i64 i), v] H K = b cl p n c z i v H K := rfl
theorem run_u64 {b : Cl → Int → AH → (AV → AH → Bool) → Bool} {i : Int} : PK.run [.int .u64] b cl [.s (.int .u64 i)] H K = b cl i H K := rfl
end
theorem bIs1 : BoolF i_note_Is_1 := ⟨4, by kernel_rfl, by kernel_rfl⟩
theorem bHandedN : BoolF i_note_isThings_1 := ⟨4, by kernel_rfl, by kernel_rfl⟩
theorem iHeard1 : IntF i_region_Region_heard_1 := ⟨3, by kernel_rfl, by kernel_rfl⟩
theorem cClT {n : Nat} (h : 1 ≤ n) : CCl 11 i_slices_Clone_Thing (C n) := by obtain ⟨m, hm, rfl⟩ := up h; intro H p n c z cs K h1 h2 h3; rw [f_slices_Clone_Thing, run_s]; exact B_slices_Clone_Thing_ (lf := LF) h1 h2 h3
theorem cClH {n : Nat} (h : 1 ≤ n) : CCl 2 i_slices_Clone_Hand (C n) := by obtain ⟨m, hm, rfl⟩ := up h; intro H p n c z cs K h1 h2 h3; rw [f_slices_Clone_Hand, run_s]; exact B_slices_Clone_Hand_ (lf := LF) h1 h2 h3
theorem cClC {n : Nat} (h : 1 ≤ n) : CCl 22 i_slices_Clone_Command (C n) := by obtain ⟨m, hm, rfl⟩ := up h; intro H p n c z cs K h1 h2 h3; rw [f_slices_Clone_Command, run_s]; exact B_slices_Clone_Command_ (lf := LF) h1 h2 h3
theorem cClN {n : Nat} (h : 1 ≤ n) : CCl 6 i_slices_Clone_Note (C n) := by obtain ⟨m, hm, rfl⟩ := up h; intro H p n c z cs K h1 h2 h3; rw [f_slices_Clone_Note, run_s]; exact B_slices_Clone_Note_ (lf := LF) h1 h2 h3
theorem cClTk {n : Nat} (h : 1 ≤ n) : CCl 25 i_slices_Clone_Taken (C n) := by obtain ⟨m, hm, rfl⟩ := up h; intro H p n c z cs K h1 h2 h3; rw [f_slices_Clone_Taken, run_s]; exact B_slices_Clone_Taken_ (lf := LF) h1 h2 h3
theorem cBkAll {n : Nat} (h : 1 ≤ n) : CBkAll (C n) := by obtain ⟨m, hm, rfl⟩ := up h; intro H g l K h1 h2; rw [f_watch_Book_All, run_p]; exact B_watch_Book_All_ (lf := LF) h1 h2
theorem cHandedN {n : Nat} (h : 1 ≤ n) : CHandedN (C n) := by obtain ⟨m, hm, rfl⟩ := up h; intro h g k H K h1 h2 h3; rw [f_note_isThings_1, run_apG]; exact B_note_isThings_1_ (lf := LF) h1 h2 h3
theorem cIndexN {n : Nat} (h : 2 ≤ n) : CIndexH isN (C n) := by obtain ⟨m, hm, rfl⟩ := up h; intro H p a c z hs v P K h1 h2 h3 h4; rw [f_slices_IndexFunc_Hand, run_sv]; exact B_slices_IndexFunc_Hand_ lfG h1 h2 (isN_pred bHandedN (cHandedN (by omega)) h3) h4
theorem cContN {n : Nat} (h : 3 ≤ n) : CContH isN (C n) := by obtain ⟨m, hm, rfl⟩ := up h; intro H p a c z hs v P K h1 h2 h3 h4; rw [f_slices_ContainsFunc_Hand, run_sv]; exact B_slices_ContainsFunc_Hand_ (lf := LF) (cIndexN (by omega)) h1 h2 h3 h4
theorem cWrong {n : Nat} (h : 3 ≤ n) : CWrong (C n) := by obtain ⟨m, hm, rfl⟩ := up h; intro c H K h1; rw [f_note_Is_1, run_a]; exact B_note_Is_1_ (lf := LF) (cIsCm (by omega)) (cWat (by omega)) h1
theorem cIndexC {n : Nat} (h : 4 ≤ n) : CIndexC (C n) := by obtain ⟨m, hm, rfl⟩ := up h; intro H p n c z l K h1 h2 h3; rw [f_slices_IndexFunc_Command, run_sv]; exact B_slices_IndexFunc_Command_ lfG bIs1 (cWrong (by omega)) h1 h2 h3
theorem cContC {n : Nat} (h : 5 ≤ n) : CContC (C n) := by obtain ⟨m, hm, rfl⟩ := up h; intro H p n c z l K h1 h2 h3; rw [f_slices_ContainsFunc_Command, run_sv]; exact B_slices_ContainsFunc_Command_ (lf := LF) (cIndexC (by omega)) h1 h2 h3
theorem cIsHands {n : Nat} (h : 2 ≤ n) : CIsHands (C n) := by obtain ⟨m, hm, rfl⟩ := up h; intro H p n c z hs src k K h1 h2 h3; rw [f_note_isHands, run_sii]; exact B_note_isHands_ lfG (cIsC (by omega)) h1 h2 h3
theorem cIsThings {n : Nat} (h : 6 ≤ n) : CIsThings (C n) := by obtain ⟨m, hm, rfl⟩ := up h; intro H p n c z ts p' n' c' z' hs inn K h1 h2 h3 h4 h5; rw [f_note_isThings, run_ssbG]; exact B_note_isThings_ lfG (cOfC (by omega)) (cContN (by omega)) (cThIs (by omega)) h1 h2 h3 h4 h5
theorem cIsNote {n : Nat} (h : 7 ≤ n) : CIsNote (C n) := by obtain ⟨m, hm, rfl⟩ := up h; intro H r nt k K h1 h2 h3; rw [f_note_Is, run_ai]; exact B_note_Is_ (lf := LF) (cIsHands (by omega)) (cIsThings (by omega)) (cContC (by omega)) h1 h2 h3
theorem cNCopy {n : Nat} (h : 2 ≤ n) : CNCopy (C n) := by obtain ⟨m, hm, rfl⟩ := up h; intro H r nt K h1 h2 h3; rw [f_note_Copy, run_a]; exact B_note_Copy_ (lf := LF) (cClT (by omega)) (cClH (by omega)) (cClC (by omega)) h1 h2 h3
theorem cCmpN {n : Nat} (h : 1 ≤ n) : CCmpN (C n) := by obtain ⟨m, hm, rfl⟩ := up h; intro a b H K h1; rw [f_region_Region_heard_1, run_aa]; exact B_region_Region_heard_1_ (lf := LF) h1
theorem cInsN {n : Nat} (h : 2 ≤ n) : CInsN (C n) := by obtain ⟨m, hm, rfl⟩ := up h; intro H b n c l K h1 h2 h3 h4 h5 h6; rw [f_slices_insertionSortCmpFunc_Note, run_siiv]; exact B_slices_insertionSortCmpFunc_Note_ lfG iHeard1 (cCmpN (by omega)) h1 h2 h3 h4 h5 h6
theorem cStbN {n : Nat} (h : 3 ≤ n) : CStbN (C n) := by obtain ⟨m, hm, rfl⟩ := up h; intro H b n c l K h1 h2 h3 h4 h5 h6; rw [f_slices_stableCmpFunc_Note, run_sivv]; exact B_slices_stableCmpFunc_Note_ lfG (cInsN (by omega)) h1 h2 h3 h4 h5 h6
theorem cSrtN {n : Nat} (h : 4 ≤ n) : CSrtN (C n) := by obtain ⟨m, hm, rfl⟩ := up h; intro H b n c l K h1 h2 h3 h4 h5 h6; rw [f_slices_SortStableFunc_Note, run_sv]; exact B_slices_SortStableFunc_Note_ (lf := LF) (cStbN (by omega)) h1 h2 h3 h4 h5 h6
theorem cHeard {n : Nat} (h : 8 ≤ n) : CHeard (C n) := by obtain ⟨m, hm, rfl⟩ := up h; intro H g s f Q p n c z l K h1 h2 h3 h4 h5 h6 h7 h8 h9 h10; rw [f_region_Region_heard, run_psG]; exact B_region_Region_heard_ lfG (cClN (by omega)) (cSrtN (by omega)) (cIsNote (by omega)) h1 h2 h3 h4 h5 h6 h7 h8 h9 h10
theorem cComes {n : Nat} (h : 5 ≤ n) : CComes (C n) := by obtain ⟨m, hm, rfl⟩ := up h; intro H g s O p n c z l K h1 h2 h3 h4 h5; rw [f_region_Region_comes, run_psG]; exact B_region_Region_comes_ lfG (cClT (by omega)) (cOfC (by omega)) (cHas (by omega)) h1 h2 h3 h4 h5
theorem cLen64 {n : Nat} (h : 1 ≤ n) : CLen64 (C n) := by obtain ⟨m, hm, rfl⟩ := up h; intro H K h1; rw [f_math_bits_Len64, run_u64]; exact B_math_bits_Len64_ (lf := LF) h1
theorem cLen0 {n : Nat} (h : 2 ≤ n) : CLen0 (C n) := by obtain ⟨m, hm, rfl⟩ := up h; intro H K h1; rw [f_math_bits_Len, run_u64]; exact B_math_bits_Len_ (lf := LF) (cLen64 (by omega)) h1
theorem cIns0 {n : Nat} (h : 1 ≤ n) : CIns0 (C n) := by obtain ⟨m, hm, rfl⟩ := up h; intro H p c z K h1; rw [f_slices_insertionSortCmpFunc_Hand, run_siiv]; exact B_slices_insertionSortCmpFunc_Hand_ lf10 h1
theorem cPdq0 {n : Nat} (h : 2 ≤ n) : CPdq0 (C n) := by obtain ⟨m, hm, rfl⟩ := up h; intro H p c z K h1; rw [f_slices_pdqsortCmpFunc_Hand, run_siiiv]; exact B_slices_pdqsortCmpFunc_Hand_ lf10 (cIns0 (by omega)) h1
theorem cSrt0 {n : Nat} (h : 3 ≤ n) : CSrt0 (C n) := by obtain ⟨m, hm, rfl⟩ := up h; intro H p c z K h1; rw [f_slices_SortFunc_Hand, run_sv]; exact B_slices_SortFunc_Hand_ (lf := LF) (cLen0 (by omega)) (cPdq0 (by omega)) h1
theorem cLeaves {n : Nat} (h : 14 ≤ n) : CLeaves (C n) := by obtain ⟨m, hm, rfl⟩ := up h; intro H g s O K h1 h2 h3 h4 h5; rw [f_region_Region_leaves, run_p]; exact B_region_Region_leaves_ lfG (cSrt0 (by omega)) (cTAll (by omega)) (cOfC (by omega)) (cHas (by omega)) (cHanded (by omega)) (cClT (by omega)) (cTDrop (by omega)) h1 h2 h3 h4 h5
theorem cFrames0 {n : Nat} (h : 3 ≤ n) : CFrames0 (C n) := by obtain ⟨m, hm, rfl⟩ := up h; intro H g s O old p n c z K h1 h2 h3 h4; rw [f_region_Region_frames, run_pasG]; exact B_region_Region_frames_ lf10 (cTAll (by omega)) (cBkAll (by omega)) h1 h2 h3 h4
theorem cEnd0 {n : Nat} (h : 15 ≤ n) : CEnd0 (C n) := by obtain ⟨m, hm, rfl⟩ := up h; intro H g s O p n c z l K h1 h2 h3 h4 h5 h6 h7 h8 h9 h10 h11 h12 h13 h14; rw [f_region_Region_End, run_psG]; exact B_region_Region_End_ lfG (cHeard (by omega)) (cBkAll (by omega)) (cTNew (by omega)) (cTLay (by omega)) (cComes (by omega)) (cTAll (by omega)) (cFrames0 (by omega)) (cLeaves (by omega)) (cNCopy (by omega)) h1 h2 h3 h4 h5 h6 h7 h8 h9 h10 h11 h12 h13 h14
theorem cWNew {n : Nat} (h : 3 ≤ n) : CWNew (C n) := by obtain ⟨m, hm, rfl⟩ := up h; intro H K h; rw [f_world_New, run_]; exact B_world_New_ (lf := LF) (cTNew (by omega)) h
theorem cWAll {n : Nat} (h : 3 ≤ n) : CWAll (C n) := by obtain ⟨m, hm, rfl⟩ := up h; intro H w L O K h1 h2 h; rw [f_world_World_All, run_p]; exact B_world_World_All_ (lf := LF) (cTAll (by omega)) h1 h2 h
theorem cWDo {n : Nat} (h : 15 ≤ n) : CWDo (C n) := by obtain ⟨m, hm, rfl⟩ := up h; intro H w L O c id K h1 h2 h; rw [f_world_World_Do, run_pai]; exact B_world_World_Do_ (lf := LF) (cCheck (by omega)) (cDone (by omega)) (cTLen (by omega)) h1 h2 h
theorem run_siJ {cl : Cl} {H : AH} {K : AV → AH → Bool} {b : Cl → AP → Nat → ACap → Nat → Int → AH → (AV → AH → Bool) → Bool} {p : AP} {n z : Nat} {c : ACap} {i : Int} : PK.run [.slice, .int .i64] b cl [.s (.slice p n c z), .s (.int .i64 i)] H K = b cl p n c z i H K := rfl
theorem run_ssJ {cl : Cl} {H : AH} {K : AV → AH → Bool} {b : Cl → AP → Nat → ACap → Nat → AP → Nat → ACap → Nat → AH → (AV → AH → Bool) → Bool} {p q : AP} {n z m y : Nat} {c d : ACap} : PK.run [.slice, .slice] b cl [.s (.slice p n c z), .s (.slice q m d y)] H K = b cl p n c z q m d y H K := rfl
theorem cJWat {n : Nat} (h : 1 ≤ n) : CJWat (C n) := by obtain ⟨m, hm, rfl⟩ := up h; intro c H K h1; rw [f_judge_watches, run_a]; exact B_judge_watches_ (lf := LF) h1
theorem cWOfT {n : Nat} (h : 16 ≤ n) : CWOfT (C n) := by obtain ⟨m, hm, rfl⟩ := up h; intro H p n c z1 q m d z2 l K h1 h2 h3 h4; rw [f_world_Of, run_ssJ]; exact W_world_OfT_ lfG (cWNew (by omega)) (cWDo (by omega)) h1 h2 h3 h4
theorem cJWorld {n : Nat} (h : 17 ≤ n) : CJWorld (C n) := by obtain ⟨m, hm, rfl⟩ := up h; intro H p n c z os beat K h1 h2 h3; rw [f_judge_World, run_siJ]; exact B_judge_World_ lfG (cJWat (by omega)) (cWOfT (by omega)) (cWAll (by omega)) h1 h2 h3
theorem iOrder1 : IntF i_judge_Order_1 := ⟨3, by kernel_rfl, by kernel_rfl⟩
theorem run_iiJ {cl : Cl} {H : AH} {K : AV → AH → Bool} {b : Cl → Int → Int → AH → (AV → AH → Bool) → Bool} {i j : Int} : PK.run [.int .i64, .int .i64] b cl [.s (.int .i64 i), .s (.int .i64 j)] H K = b cl i j H K := rfl
theorem run_sJ {cl : Cl} {H : AH} {K : AV → AH → Bool} {b : Cl → AP → Nat → ACap → Nat → AH → (AV → AH → Bool) → Bool} {p : AP} {n z : Nat} {c : ACap} : PK.run [.slice] b cl [.s (.slice p n c z)] H K = b cl p n c z H K := rfl
theorem cIsNaN {n : Nat} (h : 1 ≤ n) : CIsNaN (C n) := by obtain ⟨m, hm, rfl⟩ := up h; intro a H K h1; rw [f_cmp_isNaN_int, run_i]; exact B_cmp_isNaN_int_ (lf := LF) h1
theorem cCmpI {n : Nat} (h : 2 ≤ n) : CCmpI (C n) := by obtain ⟨m, hm, rfl⟩ := up h; intro a b H K h1; rw [f_cmp_Compare_int, run_iiJ]; exact B_cmp_Compare_int_ (lf := LF) (cIsNaN (by omega)) h1
theorem cOrI {n : Nat} (h : 1 ≤ n) : COrI (C n) := by obtain ⟨m, hm, rfl⟩ := up h; intro a b g H K h1 h2; rw [f_cmp_Or_int, run_sJ]; exact B_cmp_Or_int_ lf10 h1 h2
theorem cCmpT {n : Nat} (h : 3 ≤ n) : CCmpT (C n) := by obtain ⟨m, hm, rfl⟩ := up h; intro a b H K h1; rw [f_judge_Order_1, run_aa]; exact B_judge_Order_1_ (lf := LF) (cCmpI (by omega)) (cOrI (by omega)) h1
theorem cInsT {n : Nat} (h : 4 ≤ n) : CInsT (C n) := by obtain ⟨m, hm, rfl⟩ := up h; intro H b n c l K h1 h2 h3 h4 h5 h6; rw [f_slices_insertionSortCmpFunc_Taken, run_siiv]; exact B_slices_insertionSortCmpFunc_Taken_ lfG iOrder1 (cCmpT (by omega)) h1 h2 h3 h4 h5 h6
theorem cInsZ {n : Nat} (h : 1 ≤ n) : CInsZ (C n) := by obtain ⟨m, hm, rfl⟩ := up h; intro H p n c z m v K h1 h2; rw [f_slices_insertionSortCmpFunc_Taken, run_siiv]; exact W_slices_insertionSortZ_ lf10 h1 h2
theorem cStbT {n : Nat} (h : 5 ≤ n) : CStbT (C n) := by obtain ⟨m, hm, rfl⟩ := up h; intro H p n c z l K h1 h2 h3; rw [f_slices_stableCmpFunc_Taken, run_sivv]; exact B_slices_stableCmpFunc_Taken_ lfG (cInsT (by omega)) (cInsZ (by omega)) h1 h2 h3
theorem cSrtT {n : Nat} (h : 6 ≤ n) : CSrtT (C n) := by obtain ⟨m, hm, rfl⟩ := up h; intro H p n c z l K h1 h2 h3; rw [f_slices_SortStableFunc_Taken, run_sv]; exact B_slices_SortStableFunc_Taken_ (lf := LF) (cStbT (by omega)) h1 h2 h3
theorem cOrdG {n : Nat} (h : 2 ≤ n) : COrdG (C n) := by obtain ⟨m, hm, rfl⟩ := up h; intro H g s O K h1 h2 h3; rw [f_region_Region_Order, run_p]; exact W_region_OrderG_ (lf := LF) (cClTk (by omega)) h1 h2 h3
theorem cJOrder2 {n : Nat} (h : 7 ≤ n) : CJOrder2 (C n) := by obtain ⟨m, hm, rfl⟩ := up h; intro H g ga sa Oa gb sb Ob K h1 h2 h3 h4 h5 h6; rw [f_judge_Order, run_sJ]; exact W_judge_Order2_ lf10 (cOrdG (by omega)) (cSrtT (by omega)) h1 h2 h3 h4 h5 h6
theorem cKnown {n : Nat} (h : 1 ≤ n) : ∀ H K, C n i_law26_known [] H K = K (.s (.bool true)) H := by
 obtain ⟨m, hm, rfl⟩ := up h
 intro H K
 rw [f_law26_known]
 rfl
end
end Go.Proofs
