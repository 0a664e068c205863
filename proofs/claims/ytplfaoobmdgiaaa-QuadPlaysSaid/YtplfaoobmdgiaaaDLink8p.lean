/- The contracts at the seat's tree. -/
import Derived.Test.YtplfaoobmdgiaaaDC
import Derived.Test.YtplfaoobmdgiaaaDD
import Derived.Test.YtplfaoobmdgiaaaDV
import Derived.Test.YtplfaoobmdgiaaaL8p
namespace Go.Proofs
open Go Go.Vw Go.Vw.Ev
set_option linter.unusedVariables false
noncomputable section

section
variable {cl : Cl} {H : AH} {K : AV → AH → Bool}
theorem run_ {b : Cl → AH → (AV → AH → Bool) → Bool} : PK.run [] b cl [] H K = b cl H K := rfl
theorem run_p {b : Cl → AP → AH → (AV → AH → Bool) → Bool} {p : AP} : PK.run [.ptr] b cl [.s (.ptr p)] H K = b cl p H K := rfl
theorem run_a {b : Cl → List AS → AH → (AV → AH → Bool) → Bool} {p : List AS} : PK.run [.agg] b cl [.agg p] H K = b cl p H K := rfl
theorem run_aa {b : Cl → List AS → List AS → AH → (AV → AH → Bool) → Bool} {p q : List AS} : PK.run [.agg, .agg] b cl [.agg p, .agg q] H K = b cl p q H K := rfl
theorem run_ai {b : Cl → List AS → Int → AH → (AV → AH → Bool) → Bool} {p : List AS} {i : Int} : PK.run [.agg, .int .i64] b cl [.agg p, .s (.int .i64 i)] H K = b cl p i H K := rfl
theorem run_pi {b : Cl → AP → Int → AH → (AV → AH → Bool) → Bool} {p : AP} {i : Int} : PK.run [.ptr, .int .i64] b cl [.s (.ptr p), .s (.int .i64 i)] H K = b cl p i H K := rfl
theorem run_ip {b : Cl → Int → AP → AH → (AV → AH → Bool) → Bool} {p : AP} {i : Int} : PK.run [.int .i64, .ptr] b cl [.s (.int .i64 i), .s (.ptr p)] H K = b cl i p H K := rfl
theorem run_pa {b : Cl → AP → List AS → AH → (AV → AH → Bool) → Bool} {p : AP} {i : List AS} : PK.run [.ptr, .agg] b cl [.s (.ptr p), .agg i] H K = b cl p i H K := rfl
theorem run_pia {b : Cl → AP → Int → List AS → AH → (AV → AH → Bool) → Bool} {p : AP} {i : Int} {q : List AS} : PK.run [.ptr, .int .i64, .agg] b cl [.s (.ptr p), .s (.int .i64 i), .agg q] H K = b cl p i q H K := rfl
theorem run_s {b : Cl → AP → Nat → ACap → Nat → AH → (AV → AH → Bool) → Bool} {p : AP} {n z : Nat} {c : ACap} : PK.run [.slice] b cl [.s (.slice p n c z)] H K = b cl p n c z H K := rfl
theorem run_sv {b : Cl → AP → Nat → ACap → Nat → AV → AH → (AV → AH → Bool) → Bool} {p : AP} {n z : Nat} {c : ACap} {v : AV} : PK.run [.slice, .val] b cl [.s (.slice p n c z), v] H K = b cl p n c z v H K := rfl
theorem run_ppai {b : Cl → AP → AP → List AS → Int → AH → (AV → AH → Bool) → Bool} {p q : AP} {r : List AS} {i : Int} : PK.run [.ptr, .ptr, .agg, .int .i64] b cl [.s (.ptr p), .s (.ptr q), .agg r, .s (.int .i64 i)] H K = b cl p q r i H K := rfl
theorem run_ppaii {b : Cl → AP → AP → List AS → Int → Int → AH → (AV → AH → Bool) → Bool} {p q : AP} {r : List AS} {i j : Int} : PK.run [.ptr, .ptr, .agg, .int .i64, .int .i64] b cl [.s (.ptr p), .s (.ptr q), .agg r, .s (.int .i64 i), .s (.int .i64 j)] H K = b cl p q r i j H K := rfl
theorem run_pspaa {b : Cl → AP → AP → Nat → ACap → Nat → AP → List AS → List AS → AH → (AV → AH → Bool) → Bool} {t p q : AP} {n z : Nat} {c : ACap} {r s : List AS} : PK.run [.ptr, .slice, .ptr, .agg, .agg] b cl [.s (.ptr t), .s (.slice p n c z), .s (.ptr q), .agg r, .agg s] H K = b cl t p n c z q r s H K := rfl
end
theorem LF_ge : 1000000 ≤ LF := by unfold LF; omega
theorem lf20 : 20000 ≤ LF := Nat.le_trans (by omega) LF_ge
theorem lf1000 : 1000 ≤ LF := Nat.le_trans (by omega) LF_ge
theorem lf100 : 100 ≤ LF := Nat.le_trans (by omega) LF_ge
theorem lf10 : 10 ≤ LF := Nat.le_trans (by omega) LF_ge
theorem up {n k : Nat} (h : k + 1 ≤ n) : ∃ m, k ≤ m ∧ n = m + 1 := ⟨n - 1, by omega, by omega⟩
theorem cOn {n : Nat} (h : 1 ≤ n) : CPtB i_geom_On On (C n) := by obtain ⟨m, hm, rfl⟩ := up h; intro p H K h; rw [f_geom_On, run_a]; exact B_geom_On_ h
theorem cInR {n : Nat} (h : 1 ≤ n) : CRcPtB i_geom_In RIn (C n) := by obtain ⟨m, hm, rfl⟩ := up h; intro r p H K h; rw [f_geom_In, run_aa]; exact B_geom_In_ h
theorem cEmpty {n : Nat} (h : 1 ≤ n) : CRcB i_geom_Empty REmpty (C n) := by obtain ⟨m, hm, rfl⟩ := up h; intro r H K h; rw [f_geom_Empty, run_a]; exact B_geom_Empty_ h
theorem cTidy {n : Nat} (h : 2 ≤ n) : CRc1 i_geom_tidy tidy (C n) := by obtain ⟨m, hm, rfl⟩ := up h; intro r H K h; rw [f_geom_tidy, run_a]; exact B_geom_tidy_ (cEmpty hm) h
theorem cMeet {n : Nat} (h : 3 ≤ n) : CRcRc i_geom_Meet RMeet (C n) := by obtain ⟨m, hm, rfl⟩ := up h; intro r s H K h; rw [f_geom_Meet, run_aa]; exact B_geom_Meet_ (cTidy hm) h
theorem cWhole {n : Nat} (h : 1 ≤ n) : CRc0 i_quad_whole ⟨0, 0, 64, 64⟩ (C n) := by obtain ⟨m, hm, rfl⟩ := up h; intro H K h; rw [f_quad_whole, run_]; exact B_quad_whole_ h
theorem cWhich {n : Nat} (h : 1 ≤ n) : CWhich (C n) := by obtain ⟨m, hm, rfl⟩ := up h; intro x y d p H K hg hd h; rw [f_quad_which, run_aa]; exact B_quad_which_ hg hd h
theorem cQuarter {n : Nat} (h : 1 ≤ n) : CQuarter (C n) := by obtain ⟨m, hm, rfl⟩ := up h; intro x y d i H K hg hd hi h; rw [f_quad_quarter, run_ai]; exact B_quad_quarter_ hg hd hi h
theorem cAdd : ∀ {n d : Nat}, 6 ≤ n + d → d ≤ 4 → CAdd d (C n) := by
  intro n
  induction n with
  | zero => intro d h1 h2; omega
  | succ n ih =>
    intro d h1 h2 H tg m L a o cs q x y id K pre post
    rw [f_quad_Tree_add, run_ppaii]
    exact B_quad_Tree_add_ lf100 (cWhich (by omega)) (cQuarter (by omega)) (fun e h3 h4 => ih (by omega) h4) pre post
theorem cClone {n : Nat} (h : 1 ≤ n) : CClone (C n) := by
  obtain ⟨m, hm, rfl⟩ := up h
  intro H p n z c ks K his hn hk
  rw [f_slices_Clone_int, run_s]
  exact B_slices_Clone_int_ his hn hk
theorem cAll : ∀ {n h : Nat}, h + 2 ≤ n → CAll h (C n) := by
  intro n
  induction n with
  | zero => intro d h1; omega
  | succ n ih =>
    intro h h1 H a o cs q K sq lo len hk
    rw [f_quad_square_all, run_p]
    exact B_quad_square_all_ lf10 (cClone (by omega)) (fun g hg => ih (by omega)) sq lo len hk
theorem cDep : ∀ {n h : Nat}, h + 1 ≤ n → h ≤ 100 → CDep h (C n) := by
  intro n
  induction n with
  | zero => intro d h1 _; omega
  | succ n ih =>
    intro h h1 h2 H a o cs q K sq lo hk
    rw [f_quad_square_depth, run_p]
    exact B_quad_square_depth_ lf10 h2 (fun g hg => ih (by omega) (by omega)) sq lo hk
theorem remF_pred {n : Nat} (h : 1 ≤ n) {g : Pn} {id : Int} {H : AH} (hg : H.get g = some (.row [.int .i64 id])) : PredI (C n) (remF g) (fun x => x == id) H := by
  obtain ⟨m, hm, rfl⟩ := up h
  intro x K hk
  refine callV_bool (t := 4) (by kernel_rfl) (by kernel_rfl) ?_
  show C (m + 1) i_quad_Tree_remove_1 [.s (.int .i64 x), .s (.ptr (.at g 0))] H _ = true
  rw [f_quad_Tree_remove_1, run_ip]
  exact B_quad_Tree_remove_1_ hg (arB_w hk)
theorem cIndexI {n : Nat} : CIndexI (PredI (C n)) (C (n + 1)) := by
  intro H p m z c v ks P K his hm pr h1 h2
  rw [f_slices_IndexFunc_int, run_sv]
  exact B_slices_IndexFunc_int_ his (Nat.lt_of_lt_of_le hm LF_ge) hm pr h1 h2
theorem cDelRem {n : Nat} (h : 3 ≤ n) : CDelRem (C n) := by
  obtain ⟨m, hm, rfl⟩ := up h
  obtain ⟨k, hk, rfl⟩ := up hm
  intro H p n z c g id ks K his hc hn hh hg ho post
  rw [f_slices_DeleteFunc_int, run_sv]
  refine B_slices_DeleteFunc_int_ cIndexI his hc (Nat.lt_of_lt_of_le hn LF_ge) hn (fun H' fr => remF_pred (by omega) ?_) (remF_pred (by omega) hg) post
  exact (fr.get _ hh ho).trans hg
theorem cRem : ∀ {n d : Nat}, 11 ≤ n + d → d ≤ 4 → CRem d (C n) := by
  intro n
  induction n with
  | zero => intro d h1 h2; omega
  | succ n ih =>
    intro d h1 h2 H tg m L a o cs q x y id K pre post
    rw [f_quad_Tree_remove, run_ppai]
    exact B_quad_Tree_remove_ (cWhich (by omega)) (cQuarter (by omega)) (cDelRem (by omega)) (fun h hh => cAll (by omega)) (fun e h3 h4 => ih (by omega) h4) pre post
theorem cIn : ∀ {n h : Nat}, h + 4 ≤ n → CIn h (C n) := by
  intro n
  induction n with
  | zero => intro d h1; omega
  | succ n ih =>
    intro h h1 H tg m L a o cs q x y d r p k z c ks K tc sq his hcap pa pt pm pq hg hd4 hinv hlow hlen hk
    rw [f_quad_Tree_in, run_pspaa]
    exact B_quad_Tree_in_ lf20 (cQuarter (by omega)) (cMeet (by omega)) (cEmpty (by omega)) (cInR (by omega)) (fun g hg => ih (by omega)) tc sq his hcap pa pt pm pq hg hd4 hinv hlow hlen hk
theorem cSortI {n : Nat} (h : 1 ≤ n) : CSortI (C n) := by
  obtain ⟨m, hm, rfl⟩ := up h
  intro H p n z c ks K his hn hk
  rw [f_slices_Sort_int]
  exact sortB_ his hn hk
theorem cLay {n : Nat} (h : 7 ≤ n) : CLay (C n) := by
  obtain ⟨m, hm, rfl⟩ := up h
  intro H g L ids O id p K tr h1 h2 h3 h4 h5 hk
  rw [f_quad_Tree_Lay, run_pia]
  exact B_quad_Tree_Lay_ (cWhole (by omega)) (cAdd (by omega) (by omega)) tr h1 h2 h3 h4 h5 hk
theorem cNewQ {n : Nat} (h : 1 ≤ n) : CNewQ (C n) := by
  obtain ⟨m, hm, rfl⟩ := up h
  intro H K hk
  rw [f_quad_New, run_]
  exact B_quad_New_ hk
theorem cPut {n : Nat} (h : 8 ≤ n) : CPut (C n) := by
  obtain ⟨m, hm, rfl⟩ := up h
  intro H g L O id p K tr h1 hk
  rw [f_quad_Tree_Put, run_pia]
  exact B_quad_Tree_Put_ (cOn (by omega)) (cLay (by omega)) tr h1 hk
theorem cDrop {n : Nat} (h : 12 ≤ n) : CDrop (C n) := by
  obtain ⟨m, hm, rfl⟩ := up h
  intro H g L O id K tr hk
  rw [f_quad_Tree_Drop, run_pi]
  exact B_quad_Tree_Drop_ (cWhole (by omega)) (cRem (by omega) (by omega)) tr hk
theorem cMove {n : Nat} (h : 12 ≤ n) : CMove (C n) := by
  obtain ⟨m, hm, rfl⟩ := up h
  intro H g L O id p K tr hk
  rw [f_quad_Tree_Move, run_pia]
  exact B_quad_Tree_Move_ (cOn (by omega)) (cWhole (by omega)) (cRem (by omega) (by omega)) (cLay (by omega)) tr hk
theorem cAt {n : Nat} (h : 1 ≤ n) : CAt (C n) := by
  obtain ⟨m, hm, rfl⟩ := up h
  intro H g L O id K tr hk
  rw [f_quad_Tree_At, run_pi]
  exact B_quad_Tree_At_ tr hk
theorem cLen {n : Nat} (h : 1 ≤ n) : CLen (C n) := by
  obtain ⟨m, hm, rfl⟩ := up h
  intro H g L O K tr hk
  rw [f_quad_Tree_Len, run_p]
  exact B_quad_Tree_Len_ tr hk
theorem cInT {n : Nat} (h : 9 ≤ n) : CInT (C n) := by
  obtain ⟨m, hm, rfl⟩ := up h
  intro H g L O r K tr hk
  rw [f_quad_Tree_In, run_pa]
  exact B_quad_Tree_In_ (cWhole (by omega)) (cIn (by omega)) (cSortI (by omega)) tr hk
theorem cOn3 {n : Nat} (h : 1 ≤ n) : CPtB i_ref3_On On (C n) := by obtain ⟨m, hm, rfl⟩ := up h; intro p H K h; rw [f_ref3_On, run_a]; exact B_ref3_On_ h
theorem cDepth {n : Nat} (h : 6 ≤ n) : CDepth (C n) := by obtain ⟨m, hm, rfl⟩ := up h; intro H g L O K tr hk; rw [f_quad_Tree_Depth, run_p]; exact B_quad_Tree_Depth_ (lf := LF) (cDep (by omega) (by omega)) tr hk
theorem cKeysP {n : Nat} (h : 1 ≤ n) : CKeysP (C n) := by
  obtain ⟨m, hm, rfl⟩ := up h
  intro H m es K h1 h2 h3 h4 h5
  rw [f_maps_Keys_int_Point]
  simp only [f_slices_Sorted_int]
  exact keys_sorted2_ rfl h1 h2 h3 h4 h5
theorem cQCopy {n : Nat} (h : 8 ≤ n) : CQCopy (C n) := by obtain ⟨m, hm, rfl⟩ := up h; intro H g L O K h1 h2; rw [f_quad_Tree_Copy, run_p]; exact B_quad_Tree_Copy_ lf20 (cNewQ (by omega)) (cKeysP (by omega)) (cLay (by omega)) h1 h2
theorem lf105 : 100000 ≤ LF := Nat.le_trans (by omega) LF_ge
section
variable {cl : Cl} {H : AH} {K : AV → AH → Bool}
theorem run_pai {b : Cl → AP → List AS → Int → AH → (AV → AH → Bool) → Bool} {p : AP} {i : List AS} {q : Int} : PK.run [.ptr, .agg, .int .i64] b cl [.s (.ptr p), .agg i, .s (.int .i64 q)] H K = b cl p i q H K := rfl
theorem run_ss8 {b : Cl → AP → Nat → ACap → Nat → AP → Nat → ACap → Nat → AH → (AV → AH → Bool) → Bool} {p q : AP} {n z m y : Nat} {c d : ACap} : PK.run [.slice, .slice] b cl [.s (.slice p n c z), .s (.slice q m d y)] H K = b cl p n c z q m d y H K := rfl
end
theorem cIn3m {n : Nat} (h : 1 ≤ n) : CRcPtB i_ref3_In RIn (C n) := by obtain ⟨m, hm, rfl⟩ := up h; intro r p H K h; rw [f_ref3_In, run_aa]; exact B_ref3_In_ (lf := LF) h
theorem cMap3 {n : Nat} (h : 1 ≤ n) : CRc0 i_ref3_Map ⟨0, 0, 64, 64⟩ (C n) := by obtain ⟨m, hm, rfl⟩ := up h; intro H K h; rw [f_ref3_Map, run_]; exact B_ref3_Map_ (lf := LF) h
theorem cMat {n : Nat} (h : 1 ≤ n) : CMat (C n) := by obtain ⟨m, hm, rfl⟩ := up h; intro H g M O id K h1 h2 h3; rw [f_ref8_Tree_at, run_pi]; exact B_ref8_Tree_at_ lf105 h1 h2 h3
theorem cMAt {n : Nat} (h : 2 ≤ n) : CMAt (C n) := by obtain ⟨m, hm, rfl⟩ := up h; intro H g M O id K h1 h2 h3; rw [f_ref8_Tree_At, run_pi]; exact B_ref8_Tree_At_ (lf := LF) (cMat (by omega)) h1 h2 h3
theorem cMIn {n : Nat} (h : 2 ≤ n) : CMIn (C n) := by obtain ⟨m, hm, rfl⟩ := up h; intro H g M O r K h1 h2 h3; rw [f_ref8_Tree_In, run_pa]; exact B_ref8_Tree_In_ lf105 (cIn3m (by omega)) h1 h2 h3
theorem cMPut {n : Nat} (h : 2 ≤ n) : CMPut (C n) := by obtain ⟨m, hm, rfl⟩ := up h; intro H g M O id p K h1 h2 h3; rw [f_ref8_Tree_Put, run_pia]; exact B_ref8_Tree_Put_ lf105 (cOn3 (by omega)) (cMat (by omega)) h1 h2 h3
theorem cMMove {n : Nat} (h : 2 ≤ n) : CMMove (C n) := by obtain ⟨m, hm, rfl⟩ := up h; intro H g M O id p K h1 h2 h3; rw [f_ref8_Tree_Move, run_pia]; exact B_ref8_Tree_Move_ (lf := LF) (cOn3 (by omega)) (cMat (by omega)) h1 h2 h3
theorem cMDrop {n : Nat} (h : 2 ≤ n) : CMDrop (C n) := by obtain ⟨m, hm, rfl⟩ := up h; intro H g M O id K h1 h2 h3 h4; rw [f_ref8_Tree_Drop, run_pi]; exact B_ref8_Tree_Drop_ (lf := LF) (cMat (by omega)) h1 h2 h3 h4
theorem cMDeep : ∀ {n h : Nat}, h + 4 ≤ n → CMDeep h (C n) := by
  intro n
  induction n with
  | zero => intro h h1; omega
  | succ n ih =>
    intro h h1 H g M O x y d K a1 a2 a3 a4 a5 a6
    rw [f_ref8_Tree_deep, run_pai]
    exact B_ref8_Tree_deep_ lf105 (cMIn (by omega)) (fun k hk => ih (by omega)) a1 a2 a3 a4 a5 a6
theorem cMDepth {n : Nat} (h : 10 ≤ n) : CMDepth (C n) := by obtain ⟨m, hm, rfl⟩ := up h; intro H g M O K h1 h2 h3 h4; rw [f_ref8_Tree_Depth, run_p]; exact B_ref8_Tree_Depth_ (lf := LF) (cMap3 (by omega)) (cMDeep (by omega)) h1 h2 h3 h4
theorem cSame8 {n : Nat} (h : 1 ≤ n) : CSame8 (C n) := by obtain ⟨m, hm, rfl⟩ := up h; intro H p a c z ks p' n' c' z' js K h1 h2 h3 h4; rw [f_law8_same, run_ss8]; exact B_law8_same_ lf105 h1 h2 h3 h4
theorem cKnown {n : Nat} (h : 1 ≤ n) : ∀ H K, C n i_law8_known [] H K = K (.s (.bool true)) H := by
  obtain ⟨m, hm, rfl⟩ := up h
  intro H K
  rw [f_law8_known]
  rfl
end
end Go.Proofs
