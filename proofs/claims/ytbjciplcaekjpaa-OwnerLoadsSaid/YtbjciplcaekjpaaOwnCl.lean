import Derived.Test.YtbjciplcaekjpaaOwnDed3
import Derived.KernelRfl
namespace Go.Proofs
open Go Go.Vw Go.Vw.Ev
set_option linter.unusedVariables false
noncomputable section
def Tk (lf : Nat) : BT := (.node 25 (.node 19 (.node 17 (.leaf 16 (PK.run [] (B16 lf))) (.leaf 17 (PK.run [.int .i64] (B17 lf)))) (.node 20 (.leaf 19 (PK.run [.ptr] (B19 lf))) (.node 23 (.leaf 20 (PK.run [.ptr, .int .i64, .int .i64, .int .i64] (B20 lf))) (.leaf 23 (PK.run [.ptr, .int .i64] (B23 lf)))))) (.node 28 (.node 27 (.leaf 25 (PK.run [.int .i64, .slice] (B25 lf))) (.leaf 27 (PK.run [.ptr] (B27 lf)))) (.node 29 (.leaf 28 (PK.run [.ptr] (B28 lf))) (.node 30 (.leaf 29 (PK.run [.ptr, .int .i64] (B29 lf))) (.leaf 30 (PK.run [.int .i64] (B30 lf)))))))
theorem Tk_ok (lf : Nat) (w0 : World) : (Tk lf).ok Try.prog w0 := (okn (okn (okn (okl (O16 lf w0)) (okl (O17 lf w0))) (okn (okl (O19 lf w0)) (okn (okl (O20 lf w0)) (okl (O23 lf w0))))) (okn (okn (okl (O25 lf w0)) (okl (O27 lf w0))) (okn (okl (O28 lf w0)) (okn (okl (O29 lf w0)) (okl (O30 lf w0))))))
theorem known_ev : ((Tk 20000).call 8) 16 [] H0 isT = true := by kernel_rfl
def T (lf : Nat) : BT := (.node 24 (.node 20 (.node 18 (.node 17 (.leaf 16 knownB) (.leaf 17 (PK.run [.int .i64] (B17 lf)))) (.node 19 (.leaf 18 (PK.run [.int .i64] (B18 lf))) (.leaf 19 (PK.run [.ptr] (B19 lf))))) (.node 22 (.node 21 (.leaf 20 (PK.run [.ptr, .int .i64, .int .i64, .int .i64] (B20 lf))) (.leaf 21 (PK.run [.ptr, .int .i64, .int .i64, .int .i64] (B21 lf)))) (.node 23 (.leaf 22 (PK.run [.ptr, .ptr] (B22 lf))) (.leaf 23 (PK.run [.ptr, .int .i64] (B23 lf)))))) (.node 28 (.node 26 (.node 25 (.leaf 24 (PK.run [.ptr, .int .i64] (B24 lf))) (.leaf 25 (PK.run [.int .i64, .slice] (B25 lf)))) (.node 27 (.leaf 26 (PK.run [.int .i64, .slice] (B26 lf))) (.leaf 27 (PK.run [.ptr] (B27 lf))))) (.node 30 (.node 29 (.leaf 28 (PK.run [.ptr] (B28 lf))) (.leaf 29 (PK.run [.ptr, .int .i64] (B29 lf)))) (.node 31 (.leaf 30 (PK.run [.int .i64] (B30 lf))) (.leaf 31 (PK.run [.int .i64] (B31 lf)))))))
theorem T_ok (lf : Nat) (w0 : World) : (T lf).ok Try.prog w0 := (okn (okn (okn (okn (okl (okb_known (BT.call_ok (Tk_ok 20000 w0) 8) known_ev)) (okl (O17 lf w0))) (okn (okl (O18 lf w0)) (okl (O19 lf w0)))) (okn (okn (okl (O20 lf w0)) (okl (O21 lf w0))) (okn (okl (O22 lf w0)) (okl (O23 lf w0))))) (okn (okn (okn (okl (O24 lf w0)) (okl (O25 lf w0))) (okn (okl (O26 lf w0)) (okl (O27 lf w0)))) (okn (okn (okl (O28 lf w0)) (okl (O29 lf w0))) (okn (okl (O30 lf w0)) (okl (O31 lf w0))))))
theorem f16 (n : Nat) (args : List AV) (H : AH) (K : AV → AH → Bool) : (T 20000).call (n + 1) 16 args H K = knownB ((T 20000).call n) args H K := BT.call_find (b := knownB) (by kernel_rfl)
theorem f17 (n : Nat) (args : List AV) (H : AH) (K : AV → AH → Bool) : (T 20000).call (n + 1) 17 args H K = (PK.run [.int .i64] (B17 20000)) ((T 20000).call n) args H K := BT.call_find (b := (PK.run [.int .i64] (B17 20000))) (by kernel_rfl)
theorem f18 (n : Nat) (args : List AV) (H : AH) (K : AV → AH → Bool) : (T 20000).call (n + 1) 18 args H K = (PK.run [.int .i64] (B18 20000)) ((T 20000).call n) args H K := BT.call_find (b := (PK.run [.int .i64] (B18 20000))) (by kernel_rfl)
theorem f19 (n : Nat) (args : List AV) (H : AH) (K : AV → AH → Bool) : (T 20000).call (n + 1) 19 args H K = (PK.run [.ptr] (B19 20000)) ((T 20000).call n) args H K := BT.call_find (b := (PK.run [.ptr] (B19 20000))) (by kernel_rfl)
theorem f20 (n : Nat) (args : List AV) (H : AH) (K : AV → AH → Bool) : (T 20000).call (n + 1) 20 args H K = (PK.run [.ptr, .int .i64, .int .i64, .int .i64] (B20 20000)) ((T 20000).call n) args H K := BT.call_find (b := (PK.run [.ptr, .int .i64, .int .i64, .int .i64] (B20 20000))) (by kernel_rfl)
theorem f21 (n : Nat) (args : List AV) (H : AH) (K : AV → AH → Bool) : (T 20000).call (n + 1) 21 args H K = (PK.run [.ptr, .int .i64, .int .i64, .int .i64] (B21 20000)) ((T 20000).call n) args H K := BT.call_find (b := (PK.run [.ptr, .int .i64, .int .i64, .int .i64] (B21 20000))) (by kernel_rfl)
theorem f22 (n : Nat) (args : List AV) (H : AH) (K : AV → AH → Bool) : (T 20000).call (n + 1) 22 args H K = (PK.run [.ptr, .ptr] (B22 20000)) ((T 20000).call n) args H K := BT.call_find (b := (PK.run [.ptr, .ptr] (B22 20000))) (by kernel_rfl)
theorem f23 (n : Nat) (args : List AV) (H : AH) (K : AV → AH → Bool) : (T 20000).call (n + 1) 23 args H K = (PK.run [.ptr, .int .i64] (B23 20000)) ((T 20000).call n) args H K := BT.call_find (b := (PK.run [.ptr, .int .i64] (B23 20000))) (by kernel_rfl)
theorem f24 (n : Nat) (args : List AV) (H : AH) (K : AV → AH → Bool) : (T 20000).call (n + 1) 24 args H K = (PK.run [.ptr, .int .i64] (B24 20000)) ((T 20000).call n) args H K := BT.call_find (b := (PK.run [.ptr, .int .i64] (B24 20000))) (by kernel_rfl)
theorem f25 (n : Nat) (args : List AV) (H : AH) (K : AV → AH → Bool) : (T 20000).call (n + 1) 25 args H K = (PK.run [.int .i64, .slice] (B25 20000)) ((T 20000).call n) args H K := BT.call_find (b := (PK.run [.int .i64, .slice] (B25 20000))) (by kernel_rfl)
theorem f26 (n : Nat) (args : List AV) (H : AH) (K : AV → AH → Bool) : (T 20000).call (n + 1) 26 args H K = (PK.run [.int .i64, .slice] (B26 20000)) ((T 20000).call n) args H K := BT.call_find (b := (PK.run [.int .i64, .slice] (B26 20000))) (by kernel_rfl)
theorem f27 (n : Nat) (args : List AV) (H : AH) (K : AV → AH → Bool) : (T 20000).call (n + 1) 27 args H K = (PK.run [.ptr] (B27 20000)) ((T 20000).call n) args H K := BT.call_find (b := (PK.run [.ptr] (B27 20000))) (by kernel_rfl)
theorem f28 (n : Nat) (args : List AV) (H : AH) (K : AV → AH → Bool) : (T 20000).call (n + 1) 28 args H K = (PK.run [.ptr] (B28 20000)) ((T 20000).call n) args H K := BT.call_find (b := (PK.run [.ptr] (B28 20000))) (by kernel_rfl)
theorem f29 (n : Nat) (args : List AV) (H : AH) (K : AV → AH → Bool) : (T 20000).call (n + 1) 29 args H K = (PK.run [.ptr, .int .i64] (B29 20000)) ((T 20000).call n) args H K := BT.call_find (b := (PK.run [.ptr, .int .i64] (B29 20000))) (by kernel_rfl)
theorem f30 (n : Nat) (args : List AV) (H : AH) (K : AV → AH → Bool) : (T 20000).call (n + 1) 30 args H K = (PK.run [.int .i64] (B30 20000)) ((T 20000).call n) args H K := BT.call_find (b := (PK.run [.int .i64] (B30 20000))) (by kernel_rfl)
theorem f31 (n : Nat) (args : List AV) (H : AH) (K : AV → AH → Bool) : (T 20000).call (n + 1) 31 args H K = (PK.run [.int .i64] (B31 20000)) ((T 20000).call n) args H K := BT.call_find (b := (PK.run [.int .i64] (B31 20000))) (by kernel_rfl)
theorem c16 (n : Nat) : C16 ((T 20000).call (n + 1)) := by
  intro H K
  rw [f16]
  rfl
theorem c30 (n : Nat) : C30 ((T 20000).call (n + 1)) := by
  intro c H K
  rw [f30, run_i]
  exact B30_ 20000 ((T 20000).call n) c H K
theorem c31 (n : Nat) : C31 ((T 20000).call (n + 1)) := by
  intro c H K
  rw [f31, run_i]
  exact B31_ 20000 ((T 20000).call n) c H K
theorem c28 (n : Nat) : C28 ((T 20000).call (n + 1)) := by
  intro H g k l K h
  rw [f28, run_p]
  exact B28_ (lf := 20000) (cl := ((T 20000).call n)) h
theorem c27 (n : Nat) : C27 ((T 20000).call (n + 1)) := by
  intro H g k l K h hl hk
  rw [f27, run_p]
  exact B27_ (lf := 20000) (cl := ((T 20000).call n)) h hl hk
theorem c19 (n : Nat) : C19 ((T 20000).call (n + 1)) := by
  intro H g k l K h hl hk
  rw [f19, run_p]
  exact B19_ (lf := 20000) (cl := ((T 20000).call n)) h hl hk
theorem c29 (n : Nat) : C29 ((T 20000).call (n + 2)) := by
  intro H g k l c K h hl hk
  rw [f29, run_pi]
  exact B29_ (lf := 20000) (cl := ((T 20000).call (n + 1))) (c30 n) h hl hk
theorem c22 (n : Nat) : C22 ((T 20000).call (n + 3)) := by
  intro H g g' k l K h h' hl hk
  rw [f22, run_pp]
  exact B22_ (lf := 20000) (cl := ((T 20000).call (n + 2))) (by decide) (c27 (n + 1)) (c28 (n + 1)) (c29 n) h h' hl hk
theorem c17 (n : Nat) : CNew 17 ((T 20000).call (n + 1)) := by
  intro H k K hk
  rw [f17, run_i]
  exact B17_ (lf := 20000) (cl := ((T 20000).call n)) (by decide) hk
theorem c18 (n : Nat) : CNew 18 ((T 20000).call (n + 1)) := by
  intro H k K hk
  rw [f18, run_i]
  exact B18_ (lf := 20000) (cl := ((T 20000).call n)) (by decide) hk
theorem c23 (n : Nat) : CCells 23 ((T 20000).call (n + 1)) := by
  intro H g k l s K h hl hk
  rw [f23, run_pi]
  exact B23_ (lf := 20000) (cl := ((T 20000).call n)) (by decide) h hl hk
theorem c24 (n : Nat) : CCells 24 ((T 20000).call (n + 1)) := by
  intro H g k l s K h hl hk
  rw [f24, run_pi]
  exact B24_ (lf := 20000) (cl := ((T 20000).call n)) (by decide) h hl hk
theorem c25 (n : Nat) : C25 ((T 20000).call (n + 1)) := by
  intro H k p m c z l K h hk
  rw [f25, run_is]
  exact B25_ (lf := 20000) (cl := ((T 20000).call n)) (by decide) h hk
theorem c26 (n : Nat) : C26 ((T 20000).call (n + 1)) := by
  intro H k p m c z l K h hk
  rw [f26, run_is]
  exact B26_ (lf := 20000) (cl := ((T 20000).call n)) (by decide) h hk
theorem c20 (n : Nat) : C20 ((T 20000).call (n + 2)) := by
  intro H g k l c f t K h hl hs hk
  rw [f20, run_piii]
  exact B20_ (lf := 20000) (cl := ((T 20000).call (n + 1))) (c30 n) h hl hs hk
theorem c21 (n : Nat) : C21 ((T 20000).call (n + 2)) := by
  intro H g k l c f t K h hl hs hk
  rw [f21, run_piii]
  exact B21_ (lf := 20000) (cl := ((T 20000).call (n + 1))) (c31 n) h hl hs hk
end
end Go.Proofs
