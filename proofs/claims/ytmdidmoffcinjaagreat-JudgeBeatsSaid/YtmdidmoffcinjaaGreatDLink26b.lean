/- The contracts at the seat's tree. -/
import Derived.Test.YtmdidmoffcinjaaGreatDC
import Derived.Test.YtmdidmoffcinjaaGreatDX
import Derived.Test.YtmdidmoffcinjaaGreatDJ
import Derived.Test.YtmdidmoffcinjaaGreatDG
import Derived.Test.YtmdidmoffcinjaaGreatDG
import Derived.Test.YtmdidmoffcinjaaGreatL26b
namespace Go.Proofs
open Go Go.Vw Go.Vw.Ev
set_option linter.unusedVariables false
noncomputable section

section
variable {cl : Cl} {H : AH} {K : AV → AH → Bool}
theorem run_ {b : Cl → AH → (AV → AH → Bool) → Bool} : PK.run [] b cl [] H K = b cl H K := rfl
theorem run_p {b : Cl → AP → AH → (AV → AH → Bool) → Bool} {p : AP} : PK.run [.ptr] b cl [.s (.ptr p)] H K = b cl p H K := rfl
theorem run_a {b : Cl → List AS → AH → (AV → AH → Bool) → Bool} {p : List AS} : PK.run [.agg] b cl [.agg p] H K = b cl p H K := rfl
theorem run_aa {b : Cl → List AS → List AS → AH → (AV → AH → Bool) → Bool} {p q : List AS} : PK.run [.agg, .agg] b cl [.agg p, .agg q] H K = b cl p q H K := rfl
theorem run_ai {b : Cl → List AS → Int → AH → (AV → AH → Bool) → Bool} {p : List AS} {i : Int} : PK.run [.agg, .int .i64] b cl [.agg p, .s (.int .i64 i)] H K = b cl p i H K := rfl
theorem run_pi {b : Cl → AP → Int → AH → (AV → AH → Bool) → Bool} {p : AP} {i : Int} : PK.run [.ptr, .int .i64] b cl [.s (.ptr p), .s (.int .i64 i)] H K = b cl p i H K := rfl
theorem run_ip {b : Cl → Int → AP → AH → (AV → AH → Bool) → Bool} {p : AP} {i : Int} : PK.run [.int .i64, .ptr] b cl [.s (.int .i64 i), .s (.ptr p)] H K = b cl i p H K := rfl
theorem run_pa {b : Cl → AP → List AS → AH → (AV → AH → Bool) → Bool} {p : AP} {i : List AS} : PK.run [.ptr, .agg] b cl [.s (.ptr p), .agg i] H K = b cl p i H K := rfl
theorem run_pia {b : Cl → AP → Int → List AS → AH → (AV → AH → Bool) → Bool} {p : AP} {i : Int} {q : List AS} : PK.run [.ptr, .int .i64, .agg] b cl [.s (.ptr p), .s (.int .i64 i), .agg q] H K = b cl p i q H K := rfl
theorem run_s {b : Cl → AP → Nat → ACap → Nat → AH → (AV → AH → Bool) → Bool} {p : AP} {n z : Nat} {c : ACap} : PK.run [.slice] b cl [.s (.slice p n c z)] H K = b cl p n c z H K := rfl
theorem run_sv {b : Cl → AP → Nat → ACap → Nat → AV → AH → (AV → AH → Bool) → Bool} {p : AP} {n z : Nat} {c : ACap} {v : AV} : PK.run [.slice, .val] b cl [.s (.slice p n c z), v] H K = b cl p n c z v H K := rfl
theorem run_ppai {b : Cl → AP → AP → List AS → Int → AH → (AV → AH → Bool) → Bool} {p q : AP} {r : List AS} {i : Int} : PK.run [.ptr, .ptr, .agg, .int .i64] b cl [.s (.ptr p), .s (.ptr q), .agg r, .s (.int .i64 i)] H K = b cl p q r i H K := rfl
theorem run_ppaii {b : Cl → AP → AP → List AS → Int → Int → AH → (AV → AH → Bool) → Bool} {p q : AP} {r : List AS} {i j : Int} : PK.run [.ptr, .ptr, .agg, .int .i64, .int .i64] b cl [.s (.ptr p), .s (.ptr q), .agg r, .s (.int .i64 i), .s (.int .i64 j)] H K = b cl p q r i j H K := rfl
theorem run_pspaa {b : Cl → AP → AP → Nat → ACap → Nat → AP → List AS → List AS → AH → (AV → AH → Bool) → Bool} {t p q : AP} {n z : Nat} {c : ACap} {r s : List AS} : PK.run [.ptr, .slice, .ptr, .agg, .agg] b cl [.s (.ptr t), .s (.slice p n c z), .s (.ptr q), .agg r, .agg s] H K = b cl t p n c z q r s H K := rfl
end
theorem LF_ge : 1000000 ≤ LF := by unfold LF; omega
theorem lf20 : 20000 ≤ LF := Nat.le_trans (by omega) LF_ge
theorem lf1000 : 1000 ≤ LF := Nat.le_trans (by omega) LF_ge
theorem lf100 : 100 ≤ LF := Nat.le_trans (by omega) LF_ge
theorem lf10 : 10 ≤ LF := Nat.le_trans (by omega) LF_ge
theorem up {n k : Nat} (h : k + 1 ≤ n) : ∃ m, k ≤ m ∧ n = m + 1 := ⟨n - 1, by omega, by omega⟩
theorem cOn {n : Nat} (h : 1 ≤ n) : CPtB i_geom_On On (C n) := by obtain ⟨m, hm, rfl⟩ := up h; intro p H K h; rw [f_geom_On, run_a]; exact B_geom_On_ h
theorem cInR {n : Nat} (h : 1 ≤ n) : CRcPtB i_geom_In RIn (C n) := by obtain ⟨m, hm, rfl⟩ := up h; intro r p H K h; rw [f_geom_In, run_aa]; exact B_geom_In_ h
theorem cEmpty {n : Nat} (h : 1 ≤ n) : CRcB i_geom_Empty REmpty (C n) := by obtain ⟨m, hm, rfl⟩ := up h; intro r H K h; rw [f_geom_Empty, run_a]; exact B_geom_Empty_ h
theorem cTidy {n : Nat} (h : 2 ≤ n) : CRc1 i_geom_tidy tidy (C n) := by obtain ⟨m, hm, rfl⟩ := up h; intro r H K h; rw [f_geom_tidy, run_a]; exact B_geom_tidy_ (cEmpty hm) h
theorem cMeet {n : Nat} (h : 3 ≤ n) : CRcRc i_geom_Meet RMeet (C n) := by obtain ⟨m, hm, rfl⟩ := up h; intro r s H K h; rw [f_geom_Meet, run_aa]; exact B_geom_Meet_ (cTidy hm) h
theorem cWhole {n : Nat} (h : 1 ≤ n) : CRc0 i_quad_whole ⟨0, 0, 64, 64⟩ (C n) := by obtain ⟨m, hm, rfl⟩ := up h; intro H K h; rw [f_quad_whole, run_]; exact B_quad_whole_ h
theorem cWhich {n : Nat} (h : 1 ≤ n) : CWhich (C n) := by obtain ⟨m, hm, rfl⟩ := up h; intro x y d p H K hg hd h; rw [f_quad_which, run_aa]; exact B_quad_which_ hg hd h
theorem cQuarter {n : Nat} (h : 1 ≤ n) : CQuarter (C n) := by obtain ⟨m, hm, rfl⟩ := up h; intro x y d i H K hg hd hi h; rw [f_quad_quarter, run_ai]; exact B_quad_quarter_ hg hd hi h
theorem cAdd : ∀ {n d : Nat}, 6 ≤ n + d → d ≤ 4 → CAdd d (C n) := by
  intro n
  induction n with
  | zero => intro d h1 h2; omega
  | succ n ih =>
    intro d h1 h2 H tg m L a o cs q x y id K pre post
    rw [f_quad_Tree_add, run_ppaii]
    exact B_quad_Tree_add_ lf100 (cWhich (by omega)) (cQuarter (by omega)) (fun e h3 h4 => ih (by omega) h4) pre post
theorem cClone {n : Nat} (h : 1 ≤ n) : CClone (C n) := by
  obtain ⟨m, hm, rfl⟩ := up h
  intro H p n z c ks K his hn hk
  rw [f_slices_Clone_int, run_s]
  exact B_slices_Clone_int_ his hn hk
theorem cAll : ∀ {n h : Nat}, h + 2 ≤ n → CAll h (C n) := by
  intro n
  induction n with
  | zero => intro d h1; omega
  | succ n ih =>
    intro h h1 H a o cs q K sq lo len hk
    rw [f_quad_square_all, run_p]
    exact B_quad_square_all_ lf10 (cClone (by omega)) (fun g hg => ih (by omega)) sq lo len hk
theorem remF_pred {n : Nat} (h : 1 ≤ n) {g : Pn} {id : Int} {H : AH} (hg : H.get g = some (.row [.int .i64 id])) : PredI (C n) (remF g) (fun x => x == id) H := by
  obtain ⟨m, hm, rfl⟩ := up h
  intro x K hk
  refine callV_bool (t := 4) (by kernel_rfl) (by kernel_rfl) ?_
  show C (m + 1) i_quad_Tree_remove_1 [.s (.int .i64 x), .s (.ptr (.at g 0))] H _ = true
  rw [f_quad_Tree_remove_1, run_ip]
  exact B_quad_Tree_remove_1_ hg (arB_w hk)
theorem cIndexI {n : Nat} : CIndexI (PredI (C n)) (C (n + 1)) := by
  intro H p m z c v ks P K his hm pr h1 h2
  rw [f_slices_IndexFunc_int, run_sv]
  exact B_slices_IndexFunc_int_ his (Nat.lt_of_lt_of_le hm LF_ge) hm pr h1 h2
theorem cDelRem {n : Nat} (h : 3 ≤ n) : CDelRem (C n) := by
  obtain ⟨m, hm, rfl⟩ := up h
  obtain ⟨k, hk, rfl⟩ := up hm
  intro H p n z c g id ks K his hc hn hh hg ho post
  rw [f_slices_DeleteFunc_int, run_sv]
  refine B_slices_DeleteFunc_int_ cIndexI his hc (Nat.lt_of_lt_of_le hn LF_ge) hn (fun H' fr => remF_pred (by omega) ?_) (remF_pred (by omega) hg) post
  exact (fr.get _ hh ho).trans hg
theorem cRem : ∀ {n d : Nat}, 11 ≤ n + d → d ≤ 4 → CRem d (C n) := by
  intro n
  induction n with
  | zero => intro d h1 h2; omega
  | succ n ih =>
    intro d h1 h2 H tg m L a o cs q x y id K pre post
    rw [f_quad_Tree_remove, run_ppai]
    exact B_quad_Tree_remove_ (cWhich (by omega)) (cQuarter (by omega)) (cDelRem (by omega)) (fun h hh => cAll (by omega)) (fun e h3 h4 => ih (by omega) h4) pre post
theorem cIn : ∀ {n h : Nat}, h + 4 ≤ n → CIn h (C n) := by
  intro n
  induction n with
  | zero => intro d h1; omega
  | succ n ih =>
    intro h h1 H tg m L a o cs q x y d r p k z c ks K tc sq his hcap pa pt pm pq hg hd4 hinv hlow hlen hk
    rw [f_quad_Tree_in, run_pspaa]
    exact B_quad_Tree_in_ lf20 (cQuarter (by omega)) (cMeet (by omega)) (cEmpty (by omega)) (cInR (by omega)) (fun g hg => ih (by omega)) tc sq his hcap pa pt pm pq hg hd4 hinv hlow hlen hk
theorem cSortI {n : Nat} (h : 1 ≤ n) : CSortI (C n) := by
  obtain ⟨m, hm, rfl⟩ := up h
  intro H p n z c ks K his hn hk
  rw [f_slices_Sort_int]
  exact sortB_ his hn hk
theorem cLay {n : Nat} (h : 7 ≤ n) : CLay (C n) := by
  obtain ⟨m, hm, rfl⟩ := up h
  intro H g L ids O id p K tr h1 h2 h3 h4 h5 hk
  rw [f_quad_Tree_Lay, run_pia]
  exact B_quad_Tree_Lay_ (cWhole (by omega)) (cAdd (by omega) (by omega)) tr h1 h2 h3 h4 h5 hk
theorem cNewQ {n : Nat} (h : 1 ≤ n) : CNewQ (C n) := by
  obtain ⟨m, hm, rfl⟩ := up h
  intro H K hk
  rw [f_quad_New, run_]
  exact B_quad_New_ hk
theorem cDrop {n : Nat} (h : 12 ≤ n) : CDrop (C n) := by
  obtain ⟨m, hm, rfl⟩ := up h
  intro H g L O id K tr hk
  rw [f_quad_Tree_Drop, run_pi]
  exact B_quad_Tree_Drop_ (cWhole (by omega)) (cRem (by omega) (by omega)) tr hk
theorem cInT {n : Nat} (h : 9 ≤ n) : CInT (C n) := by
  obtain ⟨m, hm, rfl⟩ := up h
  intro H g L O r K tr hk
  rw [f_quad_Tree_In, run_pa]
  exact B_quad_Tree_In_ (cWhole (by omega)) (cIn (by omega)) (cSortI (by omega)) tr hk
theorem run_ps {cl : Cl} {H : AH} {K : AV → AH → Bool} {b : Cl → AP → AP → Nat → ACap → Nat → AH → (AV → AH → Bool) → Bool} {q p : AP} {n z : Nat} {c : ACap} : PK.run [.ptr, .slice] b cl [.s (.ptr q), .s (.slice p n c z)] H K = b cl q p n c z H K := rfl
theorem cIsF {n : Nat} (h : 1 ≤ n) : CIsF (C n) := by obtain ⟨m, hm, rfl⟩ := up h; intro f H K h; rw [f_fields_IsField, run_a]; exact B_fields_IsField_ h
theorem cTNew {n : Nat} (h : 2 ≤ n) : CTNew (C n) := by
  obtain ⟨m, hm, rfl⟩ := up h
  intro H K hk
  rw [f_table_New, run_]
  exact B_table_New_ (lf := LF) (cNewQ (by omega)) hk
theorem cTLay {n : Nat} (h : 13 ≤ n) : CTLay (C n) := by
  obtain ⟨m, hm, rfl⟩ := up h
  intro H g L O t K h1 h2 h3 h4 h5 h6
  rw [f_table_Table_Lay, run_pa]
  exact B_table_Table_Lay_ (lf := LF) (cDrop (by omega)) (cLay (by omega)) h1 h2 h3 h4 h5 h6
theorem cTDrop {n : Nat} (h : 13 ≤ n) : CTDrop (C n) := by
  obtain ⟨m, hm, rfl⟩ := up h
  intro H g L O id K h1 h2
  rw [f_table_Table_Drop, run_pi]
  exact B_table_Table_Drop_ (lf := LF) (cDrop (by omega)) h1 h2
theorem cTGet {n : Nat} (h : 1 ≤ n) : CTGet (C n) := by
  obtain ⟨m, hm, rfl⟩ := up h
  intro H g L O id K h1 h2
  rw [f_table_Table_Get, run_pi]
  exact B_table_Table_Get_ (lf := LF) h1 h2
theorem cTLen {n : Nat} (h : 1 ≤ n) : CTLen (C n) := by
  obtain ⟨m, hm, rfl⟩ := up h
  intro H g L O K h1 h2
  rw [f_table_Table_Len, run_p]
  exact B_table_Table_Len_ (lf := LF) h1 h2
theorem cOf {n : Nat} (h : 1 ≤ n) : COf (C n) := by
  obtain ⟨m, hm, rfl⟩ := up h
  intro H g L O ks p c z K h1 h2 h3 h4
  rw [f_table_Table_of, run_ps]
  exact B_table_Table_of_ lf20 h1 h2 h3 h4
theorem cTIn {n : Nat} (h : 10 ≤ n) : CTIn (C n) := by
  obtain ⟨m, hm, rfl⟩ := up h
  intro H g L O r K h1 h2 h3
  rw [f_table_Table_In, run_pa]
  exact B_table_Table_In_ (lf := LF) (cInT (by omega)) (cOf (by omega)) h1 h2 h3
theorem run_i {cl : Cl} {H : AH} {K : AV → AH → Bool} {b : Cl → Int → AH → (AV → AH → Bool) → Bool} {n : Int} : PK.run [.int .i64] b cl [.s (.int .i64 n)] H K = b cl n H K := rfl
theorem run_ii {cl : Cl} {H : AH} {K : AV → AH → Bool} {b : Cl → Int → Int → AH → (AV → AH → Bool) → Bool} {n m : Int} : PK.run [.int .i64, .int .i64] b cl [.s (.int .i64 n), .s (.int .i64 m)] H K = b cl n m H K := rfl
theorem run_u {cl : Cl} {H : AH} {K : AV → AH → Bool} {b : Cl → Int → AH → (AV → AH → Bool) → Bool} {n : Int} : PK.run [.int .u32] b cl [.s (.int .u32 n)] H K = b cl n H K := rfl
theorem run_uu {cl : Cl} {H : AH} {K : AV → AH → Bool} {b : Cl → Int → Int → AH → (AV → AH → Bool) → Bool} {n m : Int} : PK.run [.int .u16, .int .u16] b cl [.s (.int .u16 n), .s (.int .u16 m)] H K = b cl n m H K := rfl
theorem run_pai {cl : Cl} {H : AH} {K : AV → AH → Bool} {b : Cl → AP → List AS → Int → AH → (AV → AH → Bool) → Bool} {p : AP} {q : List AS} {n : Int} : PK.run [.ptr, .agg, .int .i64] b cl [.s (.ptr p), .agg q, .s (.int .i64 n)] H K = b cl p q n H K := rfl
theorem cGather {n : Nat} (h : 1 ≤ n) : CGather (C n) := by obtain ⟨m, hm, rfl⟩ := up h; intro k H K h; rw [f_morton_gather, run_u]; exact B_morton_gather_ lf10 h
theorem cSpread {n : Nat} (h : 1 ≤ n) : CSpread (C n) := by obtain ⟨m, hm, rfl⟩ := up h; intro k H K h; rw [f_morton_spread, run_u]; exact B_morton_spread_ lf10 h
theorem cWeave {n : Nat} (h : 2 ≤ n) : CWeave (C n) := by obtain ⟨m, hm, rfl⟩ := up h; intro a b H K h; rw [f_morton_Weave, run_uu]; exact B_morton_Weave_ (lf := LF) (cSpread (by omega)) h
theorem cSplit {n : Nat} (h : 2 ≤ n) : CSplit (C n) := by obtain ⟨m, hm, rfl⟩ := up h; intro a H K h; rw [f_morton_Split, run_u]; exact B_morton_Split_ (lf := LF) (cGather (by omega)) h
theorem cPlace {n : Nat} (h : 3 ≤ n) : CPlace (C n) := by obtain ⟨m, hm, rfl⟩ := up h; intro c H K h0 h1 h; rw [f_cells_place, run_i]; exact B_cells_place_ (lf := LF) (cSplit (by omega)) h0 h1 h
theorem cIsC {n : Nat} (h : 1 ≤ n) : CIsC (C n) := by obtain ⟨m, hm, rfl⟩ := up h; intro c H K h; rw [f_cells_Is, run_i]; exact B_cells_Is_ (lf := LF) h
theorem cRectC {n : Nat} (h : 4 ≤ n) : CRectC (C n) := by obtain ⟨m, hm, rfl⟩ := up h; intro c H K h; rw [f_cells_Rect, run_i]; exact B_cells_Rect_ (lf := LF) (cIsC (by omega)) (cPlace (by omega)) h
theorem cAtC {n : Nat} (h : 3 ≤ n) : CAtC (C n) := by obtain ⟨m, hm, rfl⟩ := up h; intro x y H K h0 h1 h2 h3 h; rw [f_cells_at, run_ii]; exact B_cells_at_ (lf := LF) (cWeave (by omega)) h0 h1 h2 h3 h
theorem cOfC {n : Nat} (h : 4 ≤ n) : COfC (C n) := by obtain ⟨m, hm, rfl⟩ := up h; intro p H K h; rw [f_cells_Of, run_a]; exact B_cells_Of_ (lf := LF) (cOn (by omega)) (cAtC (by omega)) h
theorem cTCell {n : Nat} (h : 11 ≤ n) : CTCell (C n) := by obtain ⟨m, hm, rfl⟩ := up h; intro H g L O c K h1 h2 h; rw [f_table_Table_Cell, run_pi]; exact B_table_Table_Cell_ (lf := LF) (cRectC (by omega)) (cTIn (by omega)) h1 h2 h
theorem cKeysT {n : Nat} (h : 1 ≤ n) {H : AH} {m : Pn} {es : List (Int × AV)} {K : AV → AH → Bool} (h1 : H.get m = some (.imap es)) (h2 : H.has m) (h3 : ∀ k ∈ keysOf es, 0 ≤ k ∧ k ≤ 9223372036854775807) (h4 : es.length ≤ 1000000)
    (h5 : ∀ H' p c z, Le H H' → IS H' p (srtI (keysOf es)).length z (srtI (keysOf es)) → K (.s (.slice p (srtI (keysOf es)).length c z)) H' = true) : C n i_maps_Keys_int_Thing [.s (.map (some m))] H (fun r h => C n i_slices_Sorted_int [r] h K) = true := by
  obtain ⟨m, hm, rfl⟩ := up h
  rw [f_maps_Keys_int_Thing]
  simp only [f_slices_Sorted_int]
  exact keys_sorted_ rfl h1 h2 h3 h4 h5
theorem cTAll {n : Nat} (h : 2 ≤ n) : CTAll (C n) := by obtain ⟨m, hm, rfl⟩ := up h; intro H g L O K h1 h2 h; rw [f_table_Table_All, run_p]; exact B_table_Table_All_ (lf := LF) (fun H m es K h1 h2 h3 h4 h5 => cKeysT hm h1 h2 h3 h4 h5) (cOf (by omega)) h1 h2 h
theorem cCore {n : Nat} (h : 1 ≤ n) : CCore (C n) := by obtain ⟨m, hm, rfl⟩ := up h; intro c H K h; rw [f_cmd_core, run_a]; exact B_cmd_core_ (lf := LF) h
theorem cNear {n : Nat} (h : 1 ≤ n) : CNear (C n) := by obtain ⟨m, hm, rfl⟩ := up h; intro H g l K h1 h2 h3 h; rw [f_cmd_near, run_s]; exact B_cmd_near_ lf100 rfl h1 h2 h3 h
theorem cIsCm {n : Nat} (h : 2 ≤ n) : CIsCm (C n) := by obtain ⟨m, hm, rfl⟩ := up h; intro c H K h; rw [f_cmd_Is, run_a]; exact B_cmd_Is_ lf100 (cIsF (by omega)) (cCore (by omega)) (cNear (by omega)) h
theorem cFull {n : Nat} (h : 12 ≤ n) : CFull (C n) := by obtain ⟨m, hm, rfl⟩ := up h; intro H g L O p K h1 h2 h; rw [f_act_full, run_pa]; exact B_act_full_ (lf := LF) (cOfC (by omega)) (cTCell (by omega)) h1 h2 h
theorem cAway {n : Nat} (h : 5 ≤ n) : CAway (C n) := by obtain ⟨m, hm, rfl⟩ := up h; intro a b H K h; rw [f_act_away, run_aa]; exact B_act_away_ (lf := LF) (cOfC (by omega)) h
theorem cCheck {n : Nat} (h : 13 ≤ n) : CCheck (C n) := by obtain ⟨m, hm, rfl⟩ := up h; intro H g L O c K h1 h2 h; rw [f_act_Check, run_pa]; exact B_act_Check_ (lf := LF) (cIsCm (by omega)) (cTGet (by omega)) (cOfC (by omega)) (cTLen (by omega)) (cFull (by omega)) (cAway (by omega)) h1 h2 h
theorem cDone {n : Nat} (h : 14 ≤ n) : CDone (C n) := by obtain ⟨m, hm, rfl⟩ := up h; intro H g L O c id K h1 h2 h3 h; rw [f_act_Done, run_pai]; exact B_act_Done_ (lf := LF) (cTGet (by omega)) (cTLay (by omega)) (cTDrop (by omega)) h1 h2 h3 h
theorem lfG : 100000 ≤ LF := Nat.le_trans (by omega) LF_ge
section
variable {cl : Cl} {H : AH} {K : AV → AH → Bool}
end
theorem cWat {n : Nat} (h : 1 ≤ n) : CWat (C n) := by obtain ⟨m, hm, rfl⟩ := up h; intro c H K h1; rw [f_cmd_Watches, run_a]; exact B_cmd_Watches_ (lf := LF) h1
theorem cBkNew {n : Nat} (h : 1 ≤ n) : CBkNew (C n) := by obtain ⟨m, hm, rfl⟩ := up h; intro H K h1; rw [f_watch_New, run_]; exact B_watch_New_ (lf := LF) h1
theorem cWNew {n : Nat} (h : 3 ≤ n) : CWNew (C n) := by obtain ⟨m, hm, rfl⟩ := up h; intro H K h; rw [f_world_New, run_]; exact B_world_New_ (lf := LF) (cTNew (by omega)) h
theorem cWAll {n : Nat} (h : 3 ≤ n) : CWAll (C n) := by obtain ⟨m, hm, rfl⟩ := up h; intro H w L O K h1 h2 h; rw [f_world_World_All, run_p]; exact B_world_World_All_ (lf := LF) (cTAll (by omega)) h1 h2 h
theorem cWDo {n : Nat} (h : 15 ≤ n) : CWDo (C n) := by obtain ⟨m, hm, rfl⟩ := up h; intro H w L O c id K h1 h2 h; rw [f_world_World_Do, run_pai]; exact B_world_World_Do_ (lf := LF) (cCheck (by omega)) (cDone (by omega)) (cTLen (by omega)) h1 h2 h
theorem run_siiiJ {cl : Cl} {H : AH} {K : AV → AH → Bool} {b : Cl → AP → Nat → ACap → Nat → Int → Int → Int → AH → (AV → AH → Bool) → Bool} {p : AP} {n z : Nat} {c : ACap} {i j k : Int} : PK.run [.slice, .int .i64, .int .i64, .int .i64] b cl [.s (.slice p n c z), .s (.int .i64 i), .s (.int .i64 j), .s (.int .i64 k)] H K = b cl p n c z i j k H K := rfl
theorem run_siJ {cl : Cl} {H : AH} {K : AV → AH → Bool} {b : Cl → AP → Nat → ACap → Nat → Int → AH → (AV → AH → Bool) → Bool} {p : AP} {n z : Nat} {c : ACap} {i : Int} : PK.run [.slice, .int .i64] b cl [.s (.slice p n c z), .s (.int .i64 i)] H K = b cl p n c z i H K := rfl
theorem run_ssJ {cl : Cl} {H : AH} {K : AV → AH → Bool} {b : Cl → AP → Nat → ACap → Nat → AP → Nat → ACap → Nat → AH → (AV → AH → Bool) → Bool} {p q : AP} {n z m y : Nat} {c d : ACap} : PK.run [.slice, .slice] b cl [.s (.slice p n c z), .s (.slice q m d y)] H K = b cl p n c z q m d y H K := rfl
theorem cJWat {n : Nat} (h : 1 ≤ n) : CJWat (C n) := by obtain ⟨m, hm, rfl⟩ := up h; intro c H K h1; rw [f_judge_watches, run_a]; exact B_judge_watches_ (lf := LF) h1
theorem cClip {n : Nat} (h : 4 ≤ n) : CClip (C n) := by obtain ⟨m, hm, rfl⟩ := up h; intro r H K h1; rw [f_watch_Clip, run_a]; exact B_watch_Clip_ (lf := LF) (cMeet (by omega)) h1
theorem cBkDo {n : Nat} (h : 5 ≤ n) : CBkDo (C n) := by obtain ⟨m, hm, rfl⟩ := up h; intro H g l c beat K h1 h2; rw [f_watch_Book_Do, run_pai]; exact B_watch_Book_Do_ (lf := LF) (cIsCm (by omega)) (cWat (by omega)) (cClip (by omega)) h1 h2
theorem cBkOf {n : Nat} (h : 1 ≤ n) : CBkOf (C n) := by obtain ⟨m, hm, rfl⟩ := up h; intro H g l q K h1 h2; rw [f_watch_Book_Of, run_pi]; exact B_watch_Book_Of_ (lf := LF) h1 h2
theorem cJRect {n : Nat} (h : 6 ≤ n) : CJRect (C n) := by obtain ⟨m, hm, rfl⟩ := up h; intro H p n c z os client ses beat K h1 h2 h3 h4 h5; rw [f_judge_Rect, run_siiiJ]; exact B_judge_Rect_ lfG (cBkNew (by omega)) (cJWat (by omega)) (cBkDo (by omega)) (cBkOf (by omega)) h1 h2 h3 h4 h5
theorem cWOfT {n : Nat} (h : 16 ≤ n) : CWOfT (C n) := by obtain ⟨m, hm, rfl⟩ := up h; intro H p n c z1 q m d z2 l K h1 h2 h3 h4; rw [f_world_Of, run_ssJ]; exact W_world_OfT_ lfG (cWNew (by omega)) (cWDo (by omega)) h1 h2 h3 h4
theorem cJWorld {n : Nat} (h : 17 ≤ n) : CJWorld (C n) := by obtain ⟨m, hm, rfl⟩ := up h; intro H p n c z os beat K h1 h2 h3; rw [f_judge_World, run_siJ]; exact B_judge_World_ lfG (cJWat (by omega)) (cWOfT (by omega)) (cWAll (by omega)) h1 h2 h3
theorem cKnown {n : Nat} (h : 1 ≤ n) : ∀ H K, C n i_law26_known [] H K = K (.s (.bool true)) H := by
  obtain ⟨m, hm, rfl⟩ := up h
  intro H K
  rw [f_law26_known]
  rfl
end
end Go.Proofs
