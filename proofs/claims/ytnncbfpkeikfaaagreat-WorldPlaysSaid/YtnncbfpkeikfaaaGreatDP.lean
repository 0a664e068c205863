import Derived.Test.YtnncbfpkeikfaaaGreatDX
import Derived.Test.YtnncbfpkeikfaaaGreatVwRead3
import Derived.Test.YtnncbfpkeikfaaaGreatDZ
import Derived.Test.YtnncbfpkeikfaaaGreatDA
import Derived.Test.YtnncbfpkeikfaaaGreatVwRead
section
/- A command that comes in. -/
namespace Go.Proofs
open Go Go.Vw Go.Vw.Ev
set_option linter.unusedVariables false
theorem ag_cm {xs : List AS} (h : LeavesV [Leaf.int .i64, Leaf.int .i64, Leaf.int .i64, Leaf.int .i64, Leaf.int .i64, Leaf.int .i64, Leaf.int .i64, Leaf.str, Leaf.int .i64, Leaf.str, Leaf.int .i64, Leaf.str, Leaf.int .i64, Leaf.str, Leaf.int .i64, Leaf.str, Leaf.int .i64, Leaf.int .i64, Leaf.int .i64, Leaf.int .i64, Leaf.int .i64, Leaf.int .i64] xs) : ∃ c : Cm, xs = cmC c := by
  obtain ⟨x0, r0, e0, h0, t0⟩ := leaf_cons h
  obtain ⟨x1, r1, e1, h1, t1⟩ := leaf_cons t0
  obtain ⟨x2, r2, e2, h2, t2⟩ := leaf_cons t1
  obtain ⟨x3, r3, e3, h3, t3⟩ := leaf_cons t2
  obtain ⟨x4, r4, e4, h4, t4⟩ := leaf_cons t3
  obtain ⟨x5, r5, e5, h5, t5⟩ := leaf_cons t4
  obtain ⟨x6, r6, e6, h6, t6⟩ := leaf_cons t5
  obtain ⟨x7, r7, e7, h7, t7⟩ := leaf_cons t6
  obtain ⟨x8, r8, e8, h8, t8⟩ := leaf_cons t7
  obtain ⟨x9, r9, e9, h9, t9⟩ := leaf_cons t8
  obtain ⟨x10, r10, e10, h10, t10⟩ := leaf_cons t9
  obtain ⟨x11, r11, e11, h11, t11⟩ := leaf_cons t10
  obtain ⟨x12, r12, e12, h12, t12⟩ := leaf_cons t11
  obtain ⟨x13, r13, e13, h13, t13⟩ := leaf_cons t12
  obtain ⟨x14, r14, e14, h14, t14⟩ := leaf_cons t13
  obtain ⟨x15, r15, e15, h15, t15⟩ := leaf_cons t14
  obtain ⟨x16, r16, e16, h16, t16⟩ := leaf_cons t15
  obtain ⟨x17, r17, e17, h17, t17⟩ := leaf_cons t16
  obtain ⟨x18, r18, e18, h18, t18⟩ := leaf_cons t17
  obtain ⟨x19, r19, e19, h19, t19⟩ := leaf_cons t18
  obtain ⟨x20, r20, e20, h20, t20⟩ := leaf_cons t19
  obtain ⟨x21, r21, e21, h21, t21⟩ := leaf_cons t20
  obtain ⟨v0, w0⟩ := leaf_int h0
  obtain ⟨v1, w1⟩ := leaf_int h1
  obtain ⟨v2, w2⟩ := leaf_int h2
  obtain ⟨v3, w3⟩ := leaf_int h3
  obtain ⟨v4, w4⟩ := leaf_int h4
  obtain ⟨v5, w5⟩ := leaf_int h5
  obtain ⟨v6, w6⟩ := leaf_int h6
  obtain ⟨v7, w7⟩ := leaf_str h7
  obtain ⟨v8, w8⟩ := leaf_int h8
  obtain ⟨v9, w9⟩ := leaf_str h9
  obtain ⟨v10, w10⟩ := leaf_int h10
  obtain ⟨v11, w11⟩ := leaf_str h11
  obtain ⟨v12, w12⟩ := leaf_int h12
  obtain ⟨v13, w13⟩ := leaf_str h13
  obtain ⟨v14, w14⟩ := leaf_int h14
  obtain ⟨v15, w15⟩ := leaf_str h15
  obtain ⟨v16, w16⟩ := leaf_int h16
  obtain ⟨v17, w17⟩ := leaf_int h17
  obtain ⟨v18, w18⟩ := leaf_int h18
  obtain ⟨v19, w19⟩ := leaf_int h19
  obtain ⟨v20, w20⟩ := leaf_int h20
  obtain ⟨v21, w21⟩ := leaf_int h21
  have z : r21 = [] := by cases r21 with
    | nil => rfl
    | cons _ _ => exact t21.elim
  subst z
  refine ⟨⟨v0, v1, v2, v3, ⟨v4, v5⟩, ⟨v6, v7⟩, ⟨v8, v9⟩, ⟨v10, v11⟩, ⟨v12, v13⟩, ⟨v14, v15⟩, v16, v17, ⟨v18, v19, v20, v21⟩⟩, ?_⟩
  rw [e0, e1, e2, e3, e4, e5, e6, e7, e8, e9, e10, e11, e12, e13, e14, e15, e16, e17, e18, e19, e20, e21, w0, w1, w2, w3, w4, w5, w6, w7, w8, w9, w10, w11, w12, w13, w14, w15, w16, w17, w18, w19, w20, w21]
  rfl
end Go.Proofs
end
section
/- Rows of commands that come in. -/
namespace Go.Proofs
open Go Go.Vw Go.Vw.Ev
set_option linter.unusedVariables false
theorem sl_cm : ∀ (n : Nat) (cs : List AS), LeavesV (List.replicate n [Leaf.int .i64, Leaf.int .i64, Leaf.int .i64, Leaf.int .i64, Leaf.int .i64, Leaf.int .i64, Leaf.int .i64, Leaf.str, Leaf.int .i64, Leaf.str, Leaf.int .i64, Leaf.str, Leaf.int .i64, Leaf.str, Leaf.int .i64, Leaf.str, Leaf.int .i64, Leaf.int .i64, Leaf.int .i64, Leaf.int .i64, Leaf.int .i64, Leaf.int .i64]).flatten cs → ∃ l : List Cm, cs = cmsC l ∧ l.length = n
  | 0, [], _ => ⟨[], rfl, rfl⟩
  | 0, _ :: _, h => h.elim
  | n + 1, cs, h => by
    rw [List.replicate_succ, List.flatten_cons] at h
    obtain ⟨x0, r0, e0, h0, t0⟩ := leaf_cons h
    obtain ⟨x1, r1, e1, h1, t1⟩ := leaf_cons t0
    obtain ⟨x2, r2, e2, h2, t2⟩ := leaf_cons t1
    obtain ⟨x3, r3, e3, h3, t3⟩ := leaf_cons t2
    obtain ⟨x4, r4, e4, h4, t4⟩ := leaf_cons t3
    obtain ⟨x5, r5, e5, h5, t5⟩ := leaf_cons t4
    obtain ⟨x6, r6, e6, h6, t6⟩ := leaf_cons t5
    obtain ⟨x7, r7, e7, h7, t7⟩ := leaf_cons t6
    obtain ⟨x8, r8, e8, h8, t8⟩ := leaf_cons t7
    obtain ⟨x9, r9, e9, h9, t9⟩ := leaf_cons t8
    obtain ⟨x10, r10, e10, h10, t10⟩ := leaf_cons t9
    obtain ⟨x11, r11, e11, h11, t11⟩ := leaf_cons t10
    obtain ⟨x12, r12, e12, h12, t12⟩ := leaf_cons t11
    obtain ⟨x13, r13, e13, h13, t13⟩ := leaf_cons t12
    obtain ⟨x14, r14, e14, h14, t14⟩ := leaf_cons t13
    obtain ⟨x15, r15, e15, h15, t15⟩ := leaf_cons t14
    obtain ⟨x16, r16, e16, h16, t16⟩ := leaf_cons t15
    obtain ⟨x17, r17, e17, h17, t17⟩ := leaf_cons t16
    obtain ⟨x18, r18, e18, h18, t18⟩ := leaf_cons t17
    obtain ⟨x19, r19, e19, h19, t19⟩ := leaf_cons t18
    obtain ⟨x20, r20, e20, h20, t20⟩ := leaf_cons t19
    obtain ⟨x21, r21, e21, h21, t21⟩ := leaf_cons t20
    obtain ⟨v0, w0⟩ := leaf_int h0
    obtain ⟨v1, w1⟩ := leaf_int h1
    obtain ⟨v2, w2⟩ := leaf_int h2
    obtain ⟨v3, w3⟩ := leaf_int h3
    obtain ⟨v4, w4⟩ := leaf_int h4
    obtain ⟨v5, w5⟩ := leaf_int h5
    obtain ⟨v6, w6⟩ := leaf_int h6
    obtain ⟨v7, w7⟩ := leaf_str h7
    obtain ⟨v8, w8⟩ := leaf_int h8
    obtain ⟨v9, w9⟩ := leaf_str h9
    obtain ⟨v10, w10⟩ := leaf_int h10
    obtain ⟨v11, w11⟩ := leaf_str h11
    obtain ⟨v12, w12⟩ := leaf_int h12
    obtain ⟨v13, w13⟩ := leaf_str h13
    obtain ⟨v14, w14⟩ := leaf_int h14
    obtain ⟨v15, w15⟩ := leaf_str h15
    obtain ⟨v16, w16⟩ := leaf_int h16
    obtain ⟨v17, w17⟩ := leaf_int h17
    obtain ⟨v18, w18⟩ := leaf_int h18
    obtain ⟨v19, w19⟩ := leaf_int h19
    obtain ⟨v20, w20⟩ := leaf_int h20
    obtain ⟨v21, w21⟩ := leaf_int h21
    obtain ⟨l, el, hl⟩ := sl_cm n r21 t21
    refine ⟨⟨v0, v1, v2, v3, ⟨v4, v5⟩, ⟨v6, v7⟩, ⟨v8, v9⟩, ⟨v10, v11⟩, ⟨v12, v13⟩, ⟨v14, v15⟩, v16, v17, ⟨v18, v19, v20, v21⟩⟩ :: l, ?_, by simp [hl]⟩
    rw [e0, e1, e2, e3, e4, e5, e6, e7, e8, e9, e10, e11, e12, e13, e14, e15, e16, e17, e18, e19, e20, e21, el, w0, w1, w2, w3, w4, w5, w6, w7, w8, w9, w10, w11, w12, w13, w14, w15, w16, w17, w18, w19, w20, w21]
    rfl
theorem sl_i64 (n : Nat) (cs : List AS) (h : LeavesV (List.replicate n [Leaf.int .i64]).flatten cs) : ∃ l : List Int, cs = l.map (AS.int .i64) ∧ l.length = n := by
  obtain ⟨l, h1, h2, h3⟩ := sl_int .i64 n cs h
  exact ⟨l, h1, h2⟩
end Go.Proofs
end
section
/- A rectangle that comes in. -/
namespace Go.Proofs
open Go Go.Vw Go.Vw.Ev
set_option linter.unusedVariables false
theorem ag_rcR {xs : List AS} (h : LeavesV [Leaf.int .i64, Leaf.int .i64, Leaf.int .i64, Leaf.int .i64] xs) : ∃ r : Rc, xs = rcC r := by
  match xs, h with
  | [x0, x1, x2, x3], ⟨h0, h1, h2, h3, _⟩ =>
    cases x0 <;> first | exact h0.elim | skip
    cases x1 <;> first | exact h1.elim | skip
    cases x2 <;> first | exact h2.elim | skip
    cases x3 <;> first | exact h3.elim | skip
    obtain ⟨rfl, _⟩ := h0; obtain ⟨rfl, _⟩ := h1; obtain ⟨rfl, _⟩ := h2; obtain ⟨rfl, _⟩ := h3
    exact ⟨⟨_, _, _, _⟩, rfl⟩
end Go.Proofs
end
