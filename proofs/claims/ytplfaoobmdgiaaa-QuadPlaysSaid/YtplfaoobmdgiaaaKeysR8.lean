import Derived.Test.YtplfaoobmdgiaaaVwKeys
import Derived.Test.YtplfaoobmdgiaaaKeysR8L
import Derived.KernelRfl
import Derived.Test.YtplfaoobmdgiaaaChecked
namespace Go.Proofs
open Go Go.Vw Go.Vw.Ev Go.RowKit Go.Maps Go.Sort Go.Shelf
set_option maxRecDepth 100000
set_option linter.unusedVariables false
theorem okKeys52 (w0 : World) : OkB Try.prog w0 52 (keysB 76) := okb_keys (M := 85) fun mb w => (callsIn_wide (n := 5)).1 (AnyZI.keys_in Try.keys52 Fence.wide 5 trivial rfl mb w)
theorem Try.sorts52 (m : Nat) : AnyZI.SortsIn Try.prog Try.sorted52_ren Fence.wide m :=
  ⟨fun blk off cap ss W hH hblk hsz => callsIn_wide.2 (AnyM.slices_Sort_int Try.sort0 blk off cap ss W hH hblk hsz), fun p cap W => callsIn_wide.2 (AnyM.slices_Sort_int_none Try.sort0 p cap W)⟩
theorem sortedAt52 (w : World) (Bm b nn : Nat) (D0 : DataW Unit) (R : Value → Option (DataW Unit × List MemPlace)) (hb : Bm < w.heap.size) (hc : w.cell? ⟨Bm, 0, none⟩ = some (.map (some b))) (ho : w.ownsMap Try.prog 3 R b nn D0)
    (hmax : Maps.size D0 ≤ maxLen) (hbytes : Maps.size D0 * 8 ≤ 140737488355328) :
    Calls Try.prog 51 #[.func (.func 76) #[] #[.pointer (some ⟨Bm, 0, none⟩)]] w fun e w' => ∃ (v : Value) (ss : List Int), e = .returned v ∧ ss.Perm (intKeys D0) ∧
        w'.ownsRow w.heap.size 3 1 v ss.length ((ss.mergeSort (fun x y => decide (x ≤ y))).map encZ) ∧ (v = .slice none 0 0 ↔ ss = []) ∧ Below w.heap.size w w' := by
  have hseq : SeqGives Fence.wide 2 Try.prog 76 #[.pointer (some ⟨Bm, 0, none⟩)] encZ (fun ss => ss.Perm (intKeys D0)) (Maps.size D0) w :=
    AnyZI.keys_gives (ρ := Try.keys52_ren) { Try.keys52 with } Fence.wide _ trivial rfl (by omega) Bm b nn D0 _ hb hc ho
  have cS := AnyZI.sorted_in Try.sorted52 Fence.wide 5 trivial trivial trivial trivial rfl (by omega) (Try.sorts52 _) (enters_of Try.func59 (by kernel_rfl) rfl) 76 #[.pointer (some ⟨Bm, 0, none⟩)] trivial (enters_of Try.func76 (by kernel_rfl) rfl) _ _ hmax hbytes _ hseq
  exact (callsIn_wide (n := 5)).1 cS
theorem sortedNil52 (w : World) (Bm : Nat) (hb : Bm < w.heap.size) (hc : w.cell? ⟨Bm, 0, none⟩ = some (.map none)) :
    Calls Try.prog 51 #[.func (.func 76) #[] #[.pointer (some ⟨Bm, 0, none⟩)]] w fun e w' => ∃ (v : Value) (ss : List Int), e = .returned v ∧ ss = [] ∧ (v = .slice none 0 0 ↔ ss = []) ∧ Below w.heap.size w w' := by
  have hseq : SeqGives Fence.wide 2 Try.prog 76 #[.pointer (some ⟨Bm, 0, none⟩)] encZ (fun ss : List Int => ss = []) 0 w :=
    AnyZI.keys_gives_nil (ρ := Try.keys52_ren) { Try.keys52 with } Fence.wide _ trivial rfl Bm _ hb hc
  have cS := AnyZI.sorted_in Try.sorted52 Fence.wide 5 trivial trivial trivial trivial rfl (by omega) (Try.sorts52 _) (enters_of Try.func59 (by kernel_rfl) rfl) 76 #[.pointer (some ⟨Bm, 0, none⟩)] trivial (enters_of Try.func76 (by kernel_rfl) rfl) _ 0 (Nat.zero_le _) (by omega) _ hseq
  refine ((callsIn_wide (n := 5)).1 cS).mono ?_
  rintro e w' ⟨v, ss, h1, h2, h3, h4, h5⟩
  exact ⟨v, ss, h1, h2, h4, h5⟩
theorem okKeys73 (w0 : World) : OkB Try.prog w0 73 (keysB 94) := okb_keys (M := 107) fun mb w => (callsIn_wide (n := 5)).1 (AnyZI.keys_in Try.keys73 Fence.wide 5 trivial rfl mb w)
theorem Try.sorts73 (m : Nat) : AnyZI.SortsIn Try.prog Try.sorted73_ren Fence.wide m :=
  ⟨fun blk off cap ss W hH hblk hsz => callsIn_wide.2 (AnyM.slices_Sort_int Try.sort0 blk off cap ss W hH hblk hsz), fun p cap W => callsIn_wide.2 (AnyM.slices_Sort_int_none Try.sort0 p cap W)⟩
theorem sortedAt73 (w : World) (Bm b nn : Nat) (D0 : DataW Unit) (R : Value → Option (DataW Unit × List MemPlace)) (hb : Bm < w.heap.size) (hc : w.cell? ⟨Bm, 0, none⟩ = some (.map (some b))) (ho : w.ownsMap Try.prog 3 R b nn D0)
    (hmax : Maps.size D0 ≤ maxLen) (hbytes : Maps.size D0 * 8 ≤ 140737488355328) :
    Calls Try.prog 51 #[.func (.func 94) #[] #[.pointer (some ⟨Bm, 0, none⟩)]] w fun e w' => ∃ (v : Value) (ss : List Int), e = .returned v ∧ ss.Perm (intKeys D0) ∧
        w'.ownsRow w.heap.size 3 1 v ss.length ((ss.mergeSort (fun x y => decide (x ≤ y))).map encZ) ∧ (v = .slice none 0 0 ↔ ss = []) ∧ Below w.heap.size w w' := by
  have hseq : SeqGives Fence.wide 2 Try.prog 94 #[.pointer (some ⟨Bm, 0, none⟩)] encZ (fun ss => ss.Perm (intKeys D0)) (Maps.size D0) w :=
    AnyZI.keys_gives (ρ := Try.keys73_ren) { Try.keys73 with } Fence.wide _ trivial rfl (by omega) Bm b nn D0 _ hb hc ho
  have cS := AnyZI.sorted_in Try.sorted73 Fence.wide 5 trivial trivial trivial trivial rfl (by omega) (Try.sorts73 _) (enters_of Try.func59 (by kernel_rfl) rfl) 94 #[.pointer (some ⟨Bm, 0, none⟩)] trivial (enters_of Try.func94 (by kernel_rfl) rfl) _ _ hmax hbytes _ hseq
  exact (callsIn_wide (n := 5)).1 cS
theorem sortedNil73 (w : World) (Bm : Nat) (hb : Bm < w.heap.size) (hc : w.cell? ⟨Bm, 0, none⟩ = some (.map none)) :
    Calls Try.prog 51 #[.func (.func 94) #[] #[.pointer (some ⟨Bm, 0, none⟩)]] w fun e w' => ∃ (v : Value) (ss : List Int), e = .returned v ∧ ss = [] ∧ (v = .slice none 0 0 ↔ ss = []) ∧ Below w.heap.size w w' := by
  have hseq : SeqGives Fence.wide 2 Try.prog 94 #[.pointer (some ⟨Bm, 0, none⟩)] encZ (fun ss : List Int => ss = []) 0 w :=
    AnyZI.keys_gives_nil (ρ := Try.keys73_ren) { Try.keys73 with } Fence.wide _ trivial rfl Bm _ hb hc
  have cS := AnyZI.sorted_in Try.sorted73 Fence.wide 5 trivial trivial trivial trivial rfl (by omega) (Try.sorts73 _) (enters_of Try.func59 (by kernel_rfl) rfl) 94 #[.pointer (some ⟨Bm, 0, none⟩)] trivial (enters_of Try.func94 (by kernel_rfl) rfl) _ 0 (Nat.zero_le _) (by omega) _ hseq
  refine ((callsIn_wide (n := 5)).1 cS).mono ?_
  rintro e w' ⟨v, ss, h1, h2, h3, h4, h5⟩
  exact ⟨v, ss, h1, h2, h4, h5⟩
theorem okSorted (w0 : World) : OkB Try.prog w0 51 (sortedB [76, 94]) := by
  refine okb_sorted (kt := 3) Try.underlying3 ?_ ?_
  · intro g hg
    simp only [List.mem_cons, List.not_mem_nil, or_false] at hg
    rcases hg with rfl | rfl
    · exact sortedAt52
    · exact sortedAt73
  · intro g hg
    simp only [List.mem_cons, List.not_mem_nil, or_false] at hg
    rcases hg with rfl | rfl
    · exact sortedNil52
    · exact sortedNil73
end Go.Proofs
