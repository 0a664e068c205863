import Derived.Test.YtmdidmoffcinjaaGreatVwKeys
import Derived.Test.YtmdidmoffcinjaaGreatKeysJL
import Derived.KernelRfl
import Derived.Test.YtmdidmoffcinjaaGreatChecked
namespace Go.Proofs
open Go Go.Vw Go.Vw.Ev Go.RowKit Go.Maps Go.Sort Go.Shelf
set_option maxRecDepth 100000
set_option linter.unusedVariables false
theorem okKeys117 (w0 : World) : OkB Tryz.prog w0 117 (keysB 177) := okb_keys (M := 186) fun mb w => (callsIn_wide (n := 5)).1 (AnyZI.keys_in Tryz.keys117 Fence.wide 5 trivial rfl mb w)
theorem Tryz.sorts117 (m : Nat) : AnyZI.SortsIn Tryz.prog Tryz.sorted117_ren Fence.wide m :=
  ⟨fun blk off cap ss W hH hblk hsz => callsIn_wide.2 (AnyM.slices_Sort_int Tryz.sort0 blk off cap ss W hH hblk hsz), fun p cap W => callsIn_wide.2 (AnyM.slices_Sort_int_none Tryz.sort0 p cap W)⟩
theorem sortedAt117 (w : World) (Bm b nn : Nat) (D0 : DataW Unit) (R : Value → Option (DataW Unit × List MemPlace)) (hb : Bm < w.heap.size) (hc : w.cell? ⟨Bm, 0, none⟩ = some (.map (some b))) (ho : w.ownsMap Tryz.prog 3 R b nn D0)
    (hmax : Maps.size D0 ≤ maxLen) (hbytes : Maps.size D0 * 8 ≤ 140737488355328) :
    Calls Tryz.prog 116 #[.func (.func 177) #[] #[.pointer (some ⟨Bm, 0, none⟩)]] w fun e w' => ∃ (v : Value) (ss : List Int), e = .returned v ∧ ss.Perm (intKeys D0) ∧
        w'.ownsRow w.heap.size 3 1 v ss.length ((ss.mergeSort (fun x y => decide (x ≤ y))).map encZ) ∧ (v = .slice none 0 0 ↔ ss = []) ∧ Below w.heap.size w w' := by
  have hseq : SeqGives Fence.wide 2 Tryz.prog 177 #[.pointer (some ⟨Bm, 0, none⟩)] encZ (fun ss => ss.Perm (intKeys D0)) (Maps.size D0) w :=
    AnyZI.keys_gives (ρ := Tryz.keys117_ren) { Tryz.keys117 with } Fence.wide _ trivial rfl (by omega) Bm b nn D0 _ hb hc ho
  have cS := AnyZI.sorted_in Tryz.sorted117 Fence.wide 5 trivial trivial trivial trivial rfl (by omega) (Tryz.sorts117 _) (enters_of Tryz.func176 (by kernel_rfl) rfl) 177 #[.pointer (some ⟨Bm, 0, none⟩)] trivial (enters_of Tryz.func177 (by kernel_rfl) rfl) _ _ hmax hbytes _ hseq
  exact (callsIn_wide (n := 5)).1 cS
theorem sortedNil117 (w : World) (Bm : Nat) (hb : Bm < w.heap.size) (hc : w.cell? ⟨Bm, 0, none⟩ = some (.map none)) :
    Calls Tryz.prog 116 #[.func (.func 177) #[] #[.pointer (some ⟨Bm, 0, none⟩)]] w fun e w' => ∃ (v : Value) (ss : List Int), e = .returned v ∧ ss = [] ∧ (v = .slice none 0 0 ↔ ss = []) ∧ Below w.heap.size w w' := by
  have hseq : SeqGives Fence.wide 2 Tryz.prog 177 #[.pointer (some ⟨Bm, 0, none⟩)] encZ (fun ss : List Int => ss = []) 0 w :=
    AnyZI.keys_gives_nil (ρ := Tryz.keys117_ren) { Tryz.keys117 with } Fence.wide _ trivial rfl Bm _ hb hc
  have cS := AnyZI.sorted_in Tryz.sorted117 Fence.wide 5 trivial trivial trivial trivial rfl (by omega) (Tryz.sorts117 _) (enters_of Tryz.func176 (by kernel_rfl) rfl) 177 #[.pointer (some ⟨Bm, 0, none⟩)] trivial (enters_of Tryz.func177 (by kernel_rfl) rfl) _ 0 (Nat.zero_le _) (by omega) _ hseq
  refine ((callsIn_wide (n := 5)).1 cS).mono ?_
  rintro e w' ⟨v, ss, h1, h2, h3, h4, h5⟩
  exact ⟨v, ss, h1, h2, h4, h5⟩
theorem okSorted (w0 : World) : OkB Tryz.prog w0 116 (sortedB [177]) := by
  refine okb_sorted (kt := 3) Tryz.underlying3 ?_ ?_
  · intro g hg
    simp only [List.mem_cons, List.not_mem_nil, or_false] at hg
    rcases hg with rfl
    · exact sortedAt117
  · intro g hg
    simp only [List.mem_cons, List.not_mem_nil, or_false] at hg
    rcases hg with rfl
    · exact sortedNil117
end Go.Proofs
