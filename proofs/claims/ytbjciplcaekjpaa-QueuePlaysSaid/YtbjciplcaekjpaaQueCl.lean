import Derived.Test.YtbjciplcaekjpaaQueLaws
import Derived.KernelRfl
namespace Go.Proofs
open Go Go.Vw Go.Vw.Ev
set_option linter.unusedVariables false
noncomputable section
def Tk (lf : Nat) : BT := (.node 13 (.node 11 (.leaf 10 (PK.run [] (B10 lf))) (.node 12 (.leaf 11 (PK.run [.int .i64] (B11 lf))) (.leaf 12 (PK.run [.ptr] (B12 lf))))) (.node 14 (.leaf 13 (PK.run [.ptr, .agg] (B13 lf))) (.node 15 (.leaf 14 (PK.run [.ptr] (B14 lf))) (.leaf 15 (PK.run [.ptr] (B15 lf))))))
theorem Tk_ok (lf : Nat) (w0 : World) : (Tk lf).ok Try.prog w0 := (okn (okn (okl (O10 lf w0)) (okn (okl (O11 lf w0)) (okl (O12 lf w0)))) (okn (okl (O13 lf w0)) (okn (okl (O14 lf w0)) (okl (O15 lf w0)))))
theorem known_ev : ((Tk 20000).call 8) 10 [] H0 isT = true := by kernel_rfl
def T (lf : Nat) : BT := (.node 13 (.node 11 (.leaf 10 knownB) (.node 12 (.leaf 11 (PK.run [.int .i64] (B11 lf))) (.leaf 12 (PK.run [.ptr] (B12 lf))))) (.node 14 (.leaf 13 (PK.run [.ptr, .agg] (B13 lf))) (.node 15 (.leaf 14 (PK.run [.ptr] (B14 lf))) (.leaf 15 (PK.run [.ptr] (B15 lf))))))
theorem T_ok (lf : Nat) (w0 : World) : (T lf).ok Try.prog w0 := (okn (okn (okl (okb_known (BT.call_ok (Tk_ok 20000 w0) 8) known_ev)) (okn (okl (O11 lf w0)) (okl (O12 lf w0)))) (okn (okl (O13 lf w0)) (okn (okl (O14 lf w0)) (okl (O15 lf w0)))))
theorem f10 (n : Nat) (args : List AV) (H : AH) (K : AV → AH → Bool) : (T 20000).call (n + 1) 10 args H K = knownB ((T 20000).call n) args H K := BT.call_find (b := knownB) (by kernel_rfl)
theorem f11 (n : Nat) (args : List AV) (H : AH) (K : AV → AH → Bool) : (T 20000).call (n + 1) 11 args H K = (PK.run [.int .i64] (B11 20000)) ((T 20000).call n) args H K := BT.call_find (b := (PK.run [.int .i64] (B11 20000))) (by kernel_rfl)
theorem f12 (n : Nat) (args : List AV) (H : AH) (K : AV → AH → Bool) : (T 20000).call (n + 1) 12 args H K = (PK.run [.ptr] (B12 20000)) ((T 20000).call n) args H K := BT.call_find (b := (PK.run [.ptr] (B12 20000))) (by kernel_rfl)
theorem f13 (n : Nat) (args : List AV) (H : AH) (K : AV → AH → Bool) : (T 20000).call (n + 1) 13 args H K = (PK.run [.ptr, .agg] (B13 20000)) ((T 20000).call n) args H K := BT.call_find (b := (PK.run [.ptr, .agg] (B13 20000))) (by kernel_rfl)
theorem f14 (n : Nat) (args : List AV) (H : AH) (K : AV → AH → Bool) : (T 20000).call (n + 1) 14 args H K = (PK.run [.ptr] (B14 20000)) ((T 20000).call n) args H K := BT.call_find (b := (PK.run [.ptr] (B14 20000))) (by kernel_rfl)
theorem f15 (n : Nat) (args : List AV) (H : AH) (K : AV → AH → Bool) : (T 20000).call (n + 1) 15 args H K = (PK.run [.ptr] (B15 20000)) ((T 20000).call n) args H K := BT.call_find (b := (PK.run [.ptr] (B15 20000))) (by kernel_rfl)
theorem run_pg (b : Cl → AP → List AS → AH → (AV → AH → Bool) → Bool) (cl : Cl) (p : AP) (cs : List AS) (H : AH) (K : AV → AH → Bool) : PK.run [.ptr, .agg] b cl [.s (.ptr p), .agg cs] H K = b cl p cs H K := rfl
theorem c10 (n : Nat) : C10 ((T 20000).call (n + 1)) := by
  intro H K
  rw [f10]
  rfl
theorem c11 (n : Nat) : C11 ((T 20000).call (n + 1)) := by
  intro H k K hk
  rw [f11, run_i]
  exact B11_ (lf := 20000) (cl := ((T 20000).call n)) hk
theorem c15 (n : Nat) : C15 ((T 20000).call (n + 1)) := by
  intro H g c cap l K h hk
  rw [f15, run_p]
  exact B15_ (lf := 20000) (cl := ((T 20000).call n)) h hk
theorem c13 (n : Nat) : C13 ((T 20000).call (n + 1)) := by
  intro H g c cap l x K h h1 h2
  rw [f13, run_pg]
  exact B13_ (lf := 20000) (cl := ((T 20000).call n)) h h1 h2
theorem c12 (n : Nat) : C12 ((T 20000).call (n + 1)) := by
  intro H g c cap l K h h1 h2
  rw [f12, run_p]
  exact B12_ (lf := 20000) (cl := ((T 20000).call n)) h h1 h2
theorem c14 (n : Nat) : C14 ((T 20000).call (n + 2)) := by
  intro H g c cap l K h hk
  rw [f14, run_p]
  exact B14_ (lf := 20000) (cl := ((T 20000).call (n + 1))) (by decide) (c12 n) (c13 n) (c15 n) h hk
end
end Go.Proofs
