import Derived.Test.YtmdidmoffcinjaaGreatDA
import Derived.Test.YtmdidmoffcinjaaGreatBQ
import Derived.Test.YtmdidmoffcinjaaGreatBslices
section
namespace Go.Vw.Ev
open Go Go.Vw
set_option linter.unusedVariables false
def plain : AS → Bool
 | .int _ _ => true
 | .bool _ => true
 | .str _ => true
 | .ptr (.edge _ _) => false
 | .ptr _ => true
 | .slice (.edge _ _) _ _ _ => false
 | .slice _ _ _ _ => true
 | .map _ => true
 | .chan _ => true
 | .nilFunc => true
 | .nilIface => true
 | _ => false
theorem Pn.beq_self (p : Pn) : p.beq p = true := Pn.beq_iff.2 rfl
theorem acEq_self (c : ACap) : acEq c c = true := by cases c <;> simp [acEq, Pn.beq_self]
theorem opEq_self (c : Option Pn) : opEq c c = true := by cases c <;> simp [opEq, Pn.beq_self]
theorem asEq_self {x : AS} (h : plain x = true) : asEq x x = true := by
 cases x with
 | int k n => simp only [asEq, ikEq_self, iEq_iff.2 rfl]; rfl
 | bool b => simp [asEq]
 | str s => simp only [asEq]; exact sEq_iff.2 rfl
 | ptr p => cases p <;> simp_all [plain, asEq, apEq, Pn.beq_self]
 | slice p n c z => cases p <;> simp_all [plain, asEq, apEq, Pn.beq_self, acEq_self]
 | map p => simp only [asEq, opEq_self]
 | chan p => simp only [asEq, opEq_self]
 | func f a c => simp [plain] at h
 | nilFunc => rfl
 | nilIface => rfl
theorem aslEq_self : ∀ {cs : List AS}, cs.all plain = true → aslEq cs cs = true
 | [], _ => rfl
 | x :: r, h => by
  simp only [List.all_cons, Bool.and_eq_true] at h
  simp only [aslEq, asEq_self h.1, aslEq_self h.2]; rfl
theorem kSame_p {S : Kept} {H : AH} {a : Pn} {cs : List AS} (hg : H.get a = some (.row cs)) (hl : cs.all plain = true) (hs : kSame S H = true) : kSame ((a, .row cs) :: S) H = true := by
 simp only [kSame, show H.t.get a = some (.row cs) from hg, abEq, aslEq_self hl, hs]; rfl
end Go.Vw.Ev
namespace Go.Proofs
open Go Go.Vw Go.Vw.Ev
set_option linter.unusedVariables false
set_option linter.unusedSimpArgs false
inductive QT where
 | leaf (p : AP) (c : ACap) (z : Nat) (ids : List Int)
 | node (b : Pn) (k : Nat → QT)
def QT.all : QT → List Int
 | .leaf _ _ _ ids => ids
 | .node _ k => (k 0).all ++ ((k 1).all ++ ((k 2).all ++ (k 3).all))
def QT.own : QT → Pn → Prop
 | .leaf p _ _ _, a => ownP p a
 | .node b k, a => a = b ∨ ((k 0).own a ∨ (k 1).own a ∨ (k 2).own a ∨ (k 3).own a)
def QT.ids : QT → AS
 | .leaf p c z ids => .slice p ids.length c z
 | .node _ _ => .slice .nil 0 (.lit 0) 1
def QT.kids : QT → AS
 | .leaf _ _ _ _ => .ptr .nil
 | .node b _ => .ptr (.at b 0)
def QT.cells (q : QT) : List AS := [.int .i64 q.all.length, q.ids, q.kids]
def c4 (k : Nat → QT) : List AS := (k 0).cells ++ ((k 1).cells ++ ((k 2).cells ++ (k 3).cells))
def QT.ok (H : AH) : QT → Prop
 | .leaf p c z ids => IS H p ids.length z ids ∧ CapOk c ids.length
 | .node b k => H.has b ∧ H.get b = some (.row (c4 k)) ∧ (k 0).ok H ∧ (k 1).ok H ∧ (k 2).ok H ∧ (k 3).ok H
def apart (f g : Pn → Prop) : Prop := ∀ a, f a → ¬ g a
def QT.sep : QT → Prop
 | .leaf _ _ _ _ => True
 | .node b k => (∀ i, i < 4 → ¬ (k i).own b) ∧ (∀ i j, i < 4 → j < 4 → i ≠ j → apart (k i).own (k j).own) ∧ (k 0).sep ∧ (k 1).sep ∧ (k 2).sep ∧ (k 3).sep
theorem lt4 {P : Nat → Prop} (h0 : P 0) (h1 : P 1) (h2 : P 2) (h3 : P 3) : ∀ i, i < 4 → P i
 | 0, _ => h0
 | 1, _ => h1
 | 2, _ => h2
 | 3, _ => h3
 | i + 4, h => absurd h (by omega)
theorem own_node {b : Pn} {k : Nat → QT} {a : Pn} : (QT.node b k).own a ↔ a = b ∨ ∃ i, i < 4 ∧ (k i).own a := by
 simp only [QT.own]
 constructor
 ·rintro (h | h | h | h | h)
  ·exact .inl h
  ·exact .inr ⟨0, by decide, h⟩
  ·exact .inr ⟨1, by decide, h⟩
  ·exact .inr ⟨2, by decide, h⟩
  ·exact .inr ⟨3, by decide, h⟩
 ·rintro (h | ⟨i, hi, h⟩)
  ·exact .inl h
  ·exact .inr (lt4 (P := fun i => (k i).own a → _) (fun h => .inl h) (fun h => .inr (.inl h)) (fun h => .inr (.inr (.inl h))) (fun h => .inr (.inr (.inr h))) i hi h)
theorem ok_node {H : AH} {b : Pn} {k : Nat → QT} : (QT.node b k).ok H ↔ H.has b ∧ H.get b = some (.row (c4 k)) ∧ ∀ i, i < 4 → (k i).ok H := by
 simp only [QT.ok]
 exact ⟨fun ⟨h1, h2, a, b, c, d⟩ => ⟨h1, h2, lt4 a b c d⟩, fun ⟨h1, h2, h⟩ => ⟨h1, h2, h 0 (by decide), h 1 (by decide), h 2 (by decide), h 3 (by decide)⟩⟩
theorem sep_node {b : Pn} {k : Nat → QT} : (QT.node b k).sep ↔ (∀ i, i < 4 → ¬ (k i).own b) ∧ (∀ i j, i < 4 → j < 4 → i ≠ j → apart (k i).own (k j).own) ∧ ∀ i, i < 4 → (k i).sep := by
 simp only [QT.sep]
 exact ⟨fun ⟨h1, h2, a, b, c, d⟩ => ⟨h1, h2, lt4 a b c d⟩, fun ⟨h1, h2, h⟩ => ⟨h1, h2, h 0 (by decide), h 1 (by decide), h 2 (by decide), h 3 (by decide)⟩⟩
theorem QT.ok.fr {F : Pn → Prop} {H H' : AH} (hk : Fr F H H') : ∀ {q : QT}, q.ok H → apart q.own F → q.ok H'
 | .leaf p c z ids, h, ha => ⟨IS.fr h.1 hk ha, h.2⟩
 | .node b k, h, ha => by
  obtain ⟨h1, h2, h3⟩ := ok_node.1 h
  refine ok_node.2 ⟨hk.has b h1, (hk.get b h1 (ha b (own_node.2 (.inl rfl)))).trans h2, ?_⟩
  have sub : ∀ i, i < 4 → apart (k i).own F := fun i hi a hx => ha a (own_node.2 (.inr ⟨i, hi, hx⟩))
  exact lt4 (QT.ok.fr hk (h3 0 (by decide)) (sub 0 (by decide))) (QT.ok.fr hk (h3 1 (by decide)) (sub 1 (by decide))) (QT.ok.fr hk (h3 2 (by decide)) (sub 2 (by decide))) (QT.ok.fr hk (h3 3 (by decide)) (sub 3 (by decide)))
theorem QT.ok.has {H : AH} : ∀ {q : QT}, q.ok H → ∀ a, q.own a → H.has a
 | .leaf p c z ids, h, a, ⟨o, ho⟩ => by
  rcases h.1.2 with ⟨hp, _⟩ | ⟨g, cs, hp, _, hh, _⟩
  ·rw [ho] at hp; cases hp
  ·rw [ho] at hp; cases hp; exact hh
 | .node b k, h, a, ha => by
  obtain ⟨h1, h2, h3⟩ := ok_node.1 h
  rcases own_node.1 ha with rfl | ⟨i, hi, hx⟩
  ·exact h1
  ·exact lt4 (P := fun i => (k i).own a → H.has a) (QT.ok.has (h3 0 (by decide)) a) (QT.ok.has (h3 1 (by decide)) a) (QT.ok.has (h3 2 (by decide)) a) (QT.ok.has (h3 3 (by decide)) a) i hi hx
theorem c4_get (k : Nat → QT) : ∀ i, i < 4 → (c4 k)[3 * i]? = some (.int .i64 (k i).all.length) ∧ (c4 k)[3 * i + 1]? = some (k i).ids ∧ (c4 k)[3 * i + 2]? = some (k i).kids :=
 lt4 ⟨rfl, rfl, rfl⟩ ⟨rfl, rfl, rfl⟩ ⟨rfl, rfl, rfl⟩ ⟨rfl, rfl, rfl⟩
def setSq (cs : List AS) (o : Nat) (q : QT) : List AS := ((cs.set o (.int .i64 q.all.length)).set (o + 1) q.ids).set (o + 2) q.kids
def updK4 (k : Nat → QT) (i : Nat) (q : QT) : Nat → QT := fun j => if j = i then q else k j
theorem c4_set (k : Nat → QT) (q : QT) : ∀ i, i < 4 → setSq (c4 k) (3 * i) q = c4 (updK4 k i q) := lt4 rfl rfl rfl rfl
theorem setSq_get {cs : List AS} {o : Nat} {q : QT} (h : o + 2 < cs.length) : (setSq cs o q)[o]? = some (.int .i64 q.all.length) ∧ (setSq cs o q)[o + 1]? = some q.ids ∧ (setSq cs o q)[o + 2]? = some q.kids := by
 simp only [setSq]
 refine ⟨?_, ?_, ?_⟩
 ·rw [List.getElem?_set_ne (by omega), List.getElem?_set_ne (by omega), List.getElem?_set_self (by omega)]
 ·rw [List.getElem?_set_ne (by omega), List.getElem?_set_self (by simp; omega)]
 ·rw [List.getElem?_set_self (by simp; omega)]
def sd (d : Nat) : Int := if d = 0 then 64 else if d = 1 then 32 else if d = 2 then 16 else if d = 3 then 8 else if d = 4 then 4 else 2
theorem sd_half {d : Nat} (h : d ≤ 4) : sd d = 2 * sd (d + 1) := by
 rcases (by omega : d = 0 ∨ d = 1 ∨ d = 2 ∨ d = 3 ∨ d = 4) with rfl | rfl | rfl | rfl | rfl <;> rfl
theorem sd_pos (d : Nat) : 2 ≤ sd d ∧ sd d ≤ 64 := by unfold sd; repeat' split <;> omega
def sqR (x y : Int) (d : Nat) : Rc := ⟨x, y, x + sd d, y + sd d⟩
def Good (x y : Int) (d : Nat) : Prop := 0 ≤ x ∧ x + sd d ≤ 64 ∧ 0 ≤ y ∧ y + sd d ≤ 64
def InSq (p : Pt) (x y : Int) (d : Nat) : Prop := x ≤ p.x ∧ p.x < x + sd d ∧ y ≤ p.y ∧ p.y < y + sd d
def kid (p : Pt) (x y : Int) (d : Nat) : Nat := (if x + sd (d + 1) ≤ p.x then 1 else 0) + (if y + sd (d + 1) ≤ p.y then 2 else 0)
theorem kid_lt (p : Pt) (x y : Int) (d : Nat) : kid p x y d < 4 := by unfold kid; split <;> split <;> omega
def kx (x : Int) (d i : Nat) : Int := x + sd (d + 1) * ((i % 2 : Nat) : Int)
def ky (y : Int) (d i : Nat) : Int := y + sd (d + 1) * ((i / 2 : Nat) : Int)
theorem Good.kid {x y : Int} {d i : Nat} (h : Good x y d) (hd : d ≤ 4) (hi : i < 4) : Good (kx x d i) (ky y d i) (d + 1) := by
 have := sd_half hd
 obtain ⟨h1, h2, h3, h4⟩ := h
 have hp := (sd_pos (d + 1)).1
 unfold Good kx ky
 rcases (by omega : i = 0 ∨ i = 1 ∨ i = 2 ∨ i = 3) with rfl | rfl | rfl | rfl <;> simp <;> omega
theorem InSq.kid {p : Pt} {x y : Int} {d : Nat} (h : InSq p x y d) (hd : d ≤ 4) : InSq p (kx x d (kid p x y d)) (ky y d (kid p x y d)) (d + 1) := by
 have := sd_half hd
 obtain ⟨h1, h2, h3, h4⟩ := h
 unfold InSq kx ky Go.Proofs.kid
 split <;> split <;> simp <;> omega
theorem InSq.up {p : Pt} {x y : Int} {d i : Nat} (hd : d ≤ 4) (hi : i < 4) (h : InSq p (kx x d i) (ky y d i) (d + 1)) : InSq p x y d ∧ Go.Proofs.kid p x y d = i := by
 have := sd_half hd
 have hp := (sd_pos (d + 1)).1
 obtain ⟨h1, h2, h3, h4⟩ := h
 unfold kx ky at *
 unfold InSq Go.Proofs.kid
 rcases (by omega : i = 0 ∨ i = 1 ∨ i = 2 ∨ i = 3) with rfl | rfl | rfl | rfl <;> simp at h1 h2 h3 h4 <;> refine ⟨⟨by omega, by omega, by omega, by omega⟩, ?_⟩ <;> (repeat' split) <;> omega
def Inv (pos : Int → Pt) : QT → Int → Int → Nat → Prop
 | .leaf _ _ _ ids, x, y, d => (ids.length ≤ 4 ∨ d = 4) ∧ ∀ id ∈ ids, InSq (pos id) x y d
 | .node b k, x, y, d => d < 4 ∧ 4 < (QT.node b k).all.length ∧ (Inv pos (k 0) (kx x d 0) (ky y d 0) (d + 1) ∧ Inv pos (k 1) (kx x d 1) (ky y d 1) (d + 1) ∧ Inv pos (k 2) (kx x d 2) (ky y d 2) (d + 1) ∧ Inv pos (k 3) (kx x d 3) (ky y d 3) (d + 1))
theorem inv_node {pos : Int → Pt} {b : Pn} {k : Nat → QT} {x y : Int} {d : Nat} : Inv pos (.node b k) x y d ↔ d < 4 ∧ 4 < (QT.node b k).all.length ∧ ∀ i, i < 4 → Inv pos (k i) (kx x d i) (ky y d i) (d + 1) := by
 simp only [Inv]
 exact ⟨fun ⟨h1, h2, a, b, c, d⟩ => ⟨h1, h2, lt4 a b c d⟩, fun ⟨h1, h2, h⟩ => ⟨h1, h2, h 0 (by decide), h 1 (by decide), h 2 (by decide), h 3 (by decide)⟩⟩
theorem mem_all {b : Pn} {k : Nat → QT} {id : Int} : id ∈ (QT.node b k).all ↔ ∃ i, i < 4 ∧ id ∈ (k i).all := by
 simp only [QT.all, List.mem_append]
 constructor
 ·rintro (h | h | h | h)
  ·exact ⟨0, by decide, h⟩
  ·exact ⟨1, by decide, h⟩
  ·exact ⟨2, by decide, h⟩
  ·exact ⟨3, by decide, h⟩
 ·rintro ⟨i, hi, h⟩
  exact lt4 (P := fun i => id ∈ (k i).all → _) (fun h => .inl h) (fun h => .inr (.inl h)) (fun h => .inr (.inr (.inl h))) (fun h => .inr (.inr (.inr h))) i hi h
theorem Inv.mem {pos : Int → Pt} : ∀ {q : QT} {x y : Int} {d : Nat}, Inv pos q x y d → ∀ id ∈ q.all, InSq (pos id) x y d
 | .leaf _ _ _ ids, x, y, d, h, id, hid => h.2 id hid
 | .node b k, x, y, d, h, id, hid => by
  obtain ⟨h1, h2, h3⟩ := inv_node.1 h
  obtain ⟨i, hi, hx⟩ := mem_all.1 hid
  have h0 := Inv.mem (h3 0 (by decide)) id
  have h1' := Inv.mem (h3 1 (by decide)) id
  have h2' := Inv.mem (h3 2 (by decide)) id
  have h3' := Inv.mem (h3 3 (by decide)) id
  exact (InSq.up (by omega) hi (lt4 (P := fun i => id ∈ (k i).all → InSq (pos id) (kx x d i) (ky y d i) (d + 1)) h0 h1' h2' h3' i hi hx)).1
theorem Inv.congr {pos pos' : Int → Pt} : ∀ {q : QT} {x y : Int} {d : Nat}, Inv pos q x y d → (∀ id ∈ q.all, pos' id = pos id) → Inv pos' q x y d
 | .leaf _ _ _ ids, x, y, d, h, he => ⟨h.1, fun id hid => by rw [he id hid]; exact h.2 id hid⟩
 | .node b k, x, y, d, h, he => by
  obtain ⟨h1, h2, h3⟩ := inv_node.1 h
  have he' : ∀ i, i < 4 → ∀ id ∈ (k i).all, pos' id = pos id := fun i hi id hid => he id (mem_all.2 ⟨i, hi, hid⟩)
  exact inv_node.2 ⟨h1, h2, lt4 (Inv.congr (h3 0 (by decide)) (he' 0 (by decide))) (Inv.congr (h3 1 (by decide)) (he' 1 (by decide))) (Inv.congr (h3 2 (by decide)) (he' 2 (by decide))) (Inv.congr (h3 3 (by decide)) (he' 3 (by decide)))⟩
theorem all_upd (k : Nat → QT) (q : QT) (b : Pn) (id : Int) : ∀ i, i < 4 → q.all.Perm (id :: (k i).all) → (QT.node b (updK4 k i q)).all.Perm (id :: (QT.node b k).all) := by
 have hm : ∀ (a b c : List Int), (a ++ (id :: b ++ c)).Perm (id :: (a ++ (b ++ c))) := fun a b c => by simp
 refine lt4 (P := fun i => q.all.Perm (id :: (k i).all) → _) ?_ ?_ ?_ ?_ <;> intro h <;> simp only [QT.all, updK4] <;> simp
 ·exact h.append_right _
 ·exact (((h.append_right _).append_left _).trans (hm _ _ _))
 ·refine ((((h.append_right _).append_left _).append_left _).trans ?_)
  refine ((hm _ _ _).append_left _).trans ?_
  simp
 ·refine (((h.append_left _).append_left _).append_left _).trans ?_
  have : ((k 0).all ++ ((k 1).all ++ ((k 2).all ++ id :: (k 3).all))) = ((k 0).all ++ ((k 1).all ++ (k 2).all)) ++ id :: (k 3).all := by simp
  rw [this]
  refine List.perm_middle.trans ?_
  simp
end Go.Proofs
end
section
namespace Go.Proofs
open Go Go.Vw Go.Vw.Ev
set_option linter.unusedVariables false
set_option linter.unusedSimpArgs false
def CWhich (cl : Cl) : Prop := ∀ x y d p H K, Good x y d → d < 4 → (∀ H', Le H H' → K (.s (.int .i64 (kid p x y d : Nat))) H' = true) → cl i_quad_which [.agg (rcC (sqR x y d)), .agg (ptC p)] H K = true
def CQuarter (cl : Cl) : Prop := ∀ x y d i H K, Good x y d → d < 4 → i < 4 → (∀ H', Le H H' → K (.agg (rcC (sqR (kx x d i) (ky y d i) (d + 1)))) H' = true) → cl i_quad_quarter [.agg (rcC (sqR x y d)), .s (.int .i64 (i : Nat))] H K = true
theorem td2 {n m : Int} (h : n = 2 * m) (h0 : 0 ≤ n) : Int.tdiv n 2 = m := by rw [Int.tdiv_eq_ediv_of_nonneg h0]; omega
theorem B_quad_whole_ {lf : Nat} {cl : Cl} {H : AH} {K : AV → AH → Bool} (hk : ∀ H', Le H H' → K (.agg (rcC ⟨0, 0, 64, 64⟩)) H' = true) : B_quad_whole lf cl H K = true := by
 unfold B_quad_whole
 exact newK_w (stoN_we (ds := rcC ⟨0, 0, 64, 64⟩) (get_new _ _) rfl (by simp) rfl (rowK_w (get_put _ _ _) (ldG_we (by simp [rcC]) (by decide) rfl (hk _ ((Le.new H _).put (not_has_nx H) _)))))
theorem B_quad_which_ {lf : Nat} {cl : Cl} {x y : Int} {d : Nat} {p : Pt} {H : AH} {K : AV → AH → Bool} (hg : Good x y d) (hd : d < 4) (hk : ∀ H', Le H H' → K (.s (.int .i64 (kid p x y d : Nat))) H' = true) :
  B_quad_which lf cl (rcC (sqR x y d)) (ptC p) H K = true := by
 have hs := sd_half (d := d) (by omega)
 have hp := sd_pos (d + 1)
 obtain ⟨g1, g2, g3, g4⟩ := hg
 have e1 : Int.tdiv (x + (x + sd d)) 2 = x + sd (d + 1) := td2 (by omega) (by omega)
 have e2 : Int.tdiv (y + (y + sd d)) 2 = y + sd (d + 1) := td2 (by omega) (by omega)
 have h := hk _ ((Le.new H (.row (rcC (sqR x y d)))).newr (.row (ptC p)))
 unfold B_quad_which
 simp only [newK_, joinX_, rowK_R, get_new, get_new1, rowR_row, ldI_R, rc0, rc1, rc2, rc3, pt0, pt1, ldIR_int, pR_, nilK_at, fN_eq, Nat.add_eq, Nat.zero_add, fB_eq, iLe_dec, iAdd_, Int.ofNat_eq_natCast, Int.cast_ofNat_Int, sqR]
 refine w64_w (by omega) (by omega) (w64_w (by rw [e1]; omega) (by rw [e1]; omega) ?_)
 rw [e1]
 unfold kid at h
 refine ifA_w (fun a => ?_) (fun a => ?_)
 ·have a := of_decide_eq_true a
  rw [if_pos a] at h
  refine w64_w (by decide) (by decide) (w64_w (by omega) (by omega) (w64_w (by rw [e2]; omega) (by rw [e2]; omega) ?_))
  rw [e2]
  refine ifA_w (fun b => ?_) (fun b => ?_)
  ·rw [if_pos (of_decide_eq_true b)] at h
   exact w64_w (by decide) (by decide) h
  ·rw [if_neg (of_decide_eq_false b)] at h
   exact h
 ·have a := of_decide_eq_false a
  rw [if_neg a] at h
  refine w64_w (by omega) (by omega) (w64_w (by rw [e2]; omega) (by rw [e2]; omega) ?_)
  rw [e2]
  refine ifA_w (fun b => ?_) (fun b => ?_)
  ·rw [if_pos (of_decide_eq_true b)] at h
   exact w64_w (by decide) (by decide) h
  ·rw [if_neg (of_decide_eq_false b)] at h
   exact h
theorem B_quad_quarter_ {lf : Nat} {cl : Cl} {x y : Int} {d i : Nat} {H : AH} {K : AV → AH → Bool} (hg : Good x y d) (hd : d < 4) (hi : i < 4) (hk : ∀ H', Le H H' → K (.agg (rcC (sqR (kx x d i) (ky y d i) (d + 1)))) H' = true) :
  B_quad_quarter lf cl (rcC (sqR x y d)) (i : Nat) H K = true := by
 have hs := sd_half (d := d) (by omega)
 have hp := sd_pos (d + 1)
 obtain ⟨g1, g2, g3, g4⟩ := hg
 have e1 : Int.tdiv (x + sd d - x) 2 = sd (d + 1) := td2 (by omega) (by omega)
 have m2 : Int.tmod (i : Int) 2 = ((i % 2 : Nat) : Int) := rfl
 have d2 : Int.tdiv (i : Int) 2 = ((i / 2 : Nat) : Int) := rfl
 have hm : i % 2 = 0 ∨ i % 2 = 1 := by omega
 have hdv : i / 2 = 0 ∨ i / 2 = 1 := by omega
 unfold B_quad_quarter
 simp only [newK_, rowK_R, get_new, get_new1, rowR_row, ldI_R, rc0, rc1, rc2, rc3, ldIR_int, fI_eq, fB_eq, iAdd_, iSub_, iMul_, Int.ofNat_eq_natCast, Int.cast_ofNat_Int, sqR, m2]
 refine w64_w (by omega) (by omega) (w64_w (by rw [e1]; omega) (by rw [e1]; omega) ?_)
 rw [e1]
 have b1 : 0 ≤ sd (d + 1) * ((i % 2 : Nat) : Int) ∧ sd (d + 1) * ((i % 2 : Nat) : Int) ≤ sd (d + 1) := by rcases hm with e | e <;> rw [e] <;> simp <;> omega
 have b2 : 0 ≤ sd (d + 1) * ((i / 2 : Nat) : Int) ∧ sd (d + 1) * ((i / 2 : Nat) : Int) ≤ sd (d + 1) := by rcases hdv with e | e <;> rw [e] <;> simp <;> omega
 refine w64_w (by omega) (by omega) (w64_w (by omega) (by omega) (w64_w (by rw [d2]; omega) (by rw [d2]; omega) ?_))
 rw [d2]
 refine w64_w (by omega) (by omega) (w64_w (by omega) (by omega) (w64_w (by omega) (by omega) (w64_w (by omega) (by omega) ?_)))
 exact stoN_we (ds := rcC (sqR (kx x d i) (ky y d i) (d + 1))) (get_new _ _) rfl (by simp) rfl (rowR_w (get_put _ _ _) (ldG_we (by simp [rcC]) (by decide) rfl (hk _ (((Le.new H _).newr _).put (Le.new H _).nx _))))
def ptV (p : Pt) : AV := .agg (ptC p)
def posOf (L : List (Int × Pt)) (id : Int) : Pt := (aGet L id).getD ⟨0, 0⟩
structure TC (H : AH) (tg m : Pn) (L : List (Int × Pt)) : Prop where
 has : H.has tg
 row : ∃ ts, H.get tg = some (.row ts) ∧ ts[0]? = some (.map (some m))
 hasm : H.has m
 map : H.get m = some (.imap (aImg ptV L))
theorem TC.fr {F : Pn → Prop} {H H' : AH} {tg m : Pn} {L : List (Int × Pt)} (h : TC H tg m L) (k : Fr F H H') (h1 : ¬ F tg) (h2 : ¬ F m) : TC H' tg m L := by
 obtain ⟨ts, a, b⟩ := h.row
 exact ⟨k.has _ h.has, ⟨ts, (k.get _ h.has h1).trans a, b⟩, k.has _ h.hasm, (k.get _ h.hasm h2).trans h.map⟩
structure SqAt (H : AH) (a : Pn) (o : Nat) (cs : List AS) (q : QT) : Prop where
 has : H.has a
 get : H.get a = some (.row cs)
 c0 : cs[o]? = some (.int .i64 q.all.length)
 c1 : cs[o + 1]? = some q.ids
 c2 : cs[o + 2]? = some q.kids
 ok : q.ok H
 sep : q.sep
 off : ¬ q.own a
 pl : cs.all plain = true
theorem SqAt.lt {H : AH} {a : Pn} {o : Nat} {cs : List AS} {q : QT} (h : SqAt H a o cs q) : o + 2 < cs.length := by
 have := h.c2
 rw [List.getElem?_eq_some_iff] at this
 exact this.1
theorem SqAt.fr {F : Pn → Prop} {H H' : AH} {a : Pn} {o : Nat} {cs : List AS} {q : QT} (h : SqAt H a o cs q) (k : Fr F H H') (h1 : ¬ F a) (h2 : apart q.own F) : SqAt H' a o cs q :=
 ⟨k.has _ h.has, (k.get _ h.has h1).trans h.get, h.c0, h.c1, h.c2, h.ok.fr k h2, h.sep, h.off, h.pl⟩
theorem SqAt.le {H H' : AH} {a : Pn} {o : Nat} {cs : List AS} {q : QT} (h : SqAt H a o cs q) (k : Le H H') : SqAt H' a o cs q := h.fr (k.fr fun _ => False) id fun _ _ => id
theorem TC.le {H H' : AH} {tg m : Pn} {L : List (Int × Pt)} (h : TC H tg m L) (k : Le H H') : TC H' tg m L := h.fr (k.fr fun _ => False) id id
theorem pos_w {L : List (Int × Pt)} {id : Int} {K : AV → Bool → Bool} (h : ∀ b, K (ptV (posOf L id)) b = true) : lkZ (aImg ptV L) id (.agg [.int .i64 (Int.ofNat 0), .int .i64 (Int.ofNat 0)]) K = true := by
 refine lkZ_w (fun v hv => ?_) (fun hn => ?_)
 ·have := h true; unfold posOf at this; rw [hv] at this; exact this
 ·have := h false; unfold posOf at this; rw [hn] at this; exact this
theorem cells_plain {H : AH} {q : QT} (h : q.ok H) : q.cells.all plain = true := by
 cases q with
 | leaf p c z ids =>
  rcases h.1.2 with ⟨rfl, _⟩ | ⟨g, cs, rfl, _⟩ <;> rfl
 | node b k => rfl
theorem c4_plain {H : AH} {b : Pn} {k : Nat → QT} (h : (QT.node b k).ok H) : (c4 k).all plain = true := by
 obtain ⟨_, _, h3⟩ := ok_node.1 h
 simp only [c4, List.all_append, cells_plain (h3 0 (by decide)), cells_plain (h3 1 (by decide)), cells_plain (h3 2 (by decide)), cells_plain (h3 3 (by decide))]; rfl
theorem set_plain {cs : List AS} {u : AS} (h : cs.all plain = true) (hu : plain u = true) (o : Nat) : (cs.set o u).all plain = true := by
 rw [List.all_eq_true] at h ⊢
 intro x hx
 rcases List.mem_or_eq_of_mem_set hx with h1 | h1
 ·exact h x h1
 ·rw [h1]; exact hu
theorem set_id {cs : List AS} {o : Nat} {u : AS} (h : cs[o]? = some u) : cs.set o u = cs := by
 apply List.ext_getElem?
 intro i
 by_cases e : o = i
 ·subst e
  rw [List.getElem?_set_self (List.getElem?_eq_some_iff.1 h).1, h]
 ·rw [List.getElem?_set_ne e]
theorem SqAt.kid {H : AH} {b : Pn} {k : Nat → QT} (h : (QT.node b k).ok H) (hs : (QT.node b k).sep) {i : Nat} (hi : i < 4) : SqAt H b (3 * i) (c4 k) (k i) := by
 obtain ⟨h1, h2, h3⟩ := ok_node.1 h
 obtain ⟨s1, s2, s3⟩ := sep_node.1 hs
 obtain ⟨c0, c1, c2⟩ := c4_get k i hi
 exact ⟨h1, h2, c0, c1, c2, h3 i hi, s3 i hi, s1 i hi, c4_plain h⟩
theorem node_upd {G : Pn → Prop} {H H' : AH} {b : Pn} {k : Nat → QT} {i : Nat} {q' : QT} (hi : i < 4) (h : (QT.node b k).ok H) (hs : (QT.node b k).sep) (hf : Fr (fun a => (a = b ∨ (k i).own a) ∨ G a) H H') (hG : ∀ c, G c → ¬ (QT.node b k).own c) (hq : SqAt H' b (3 * i) (setSq (c4 k) (3 * i) q') q')
  (hg : ∀ a, q'.own a → (k i).own a ∨ ¬ H.has a) : (QT.node b (updK4 k i q')).ok H' ∧ (QT.node b (updK4 k i q')).sep ∧ (∀ a, (QT.node b (updK4 k i q')).own a → (QT.node b k).own a ∨ ¬ H.has a) := by
 obtain ⟨h1, h2, h3⟩ := ok_node.1 h
 obtain ⟨s1, s2, s3⟩ := sep_node.1 hs
 have get : ∀ j, updK4 k i q' j = if j = i then q' else k j := fun _ => rfl
 have hasj : ∀ j, j < 4 → ∀ a, (k j).own a → H.has a := fun j hj a ha => (h3 j hj).has a ha
 refine ⟨ok_node.2 ⟨hf.has b h1, ?_, fun j hj => ?_⟩, sep_node.2 ⟨fun j hj => ?_, fun j l hj hl hne => ?_, fun j hj => ?_⟩, fun a ha => ?_⟩
 ·rw [hq.get, c4_set k q' i hi]
 ·rw [get]
  split
  ·exact hq.ok
  ·rename_i hne
   refine (h3 j hj).fr hf fun a ha hx => ?_
   rcases hx with (rfl | hx) | hx
   ·exact s1 j hj ha
   ·exact s2 j i hj hi hne a ha hx
   ·exact hG a hx (own_node.2 (.inr ⟨j, hj, ha⟩))
 ·rw [get]
  split
  ·exact hq.off
  ·exact s1 j hj
 ·rw [get, get]
  split
  ·split
   ·omega
   ·rename_i e1 e2
    intro a ha hx
    rcases hg a ha with h4 | h4
    ·exact s2 i l hi hl (Ne.symm e2) a h4 hx
    ·exact h4 (hasj l hl a hx)
  ·split
   ·rename_i e1 e2
    intro a ha hx
    rcases hg a hx with h4 | h4
    ·exact s2 j i hj hi e1 a ha h4
    ·exact h4 (hasj j hj a ha)
   ·exact s2 j l hj hl hne
 ·rw [get]
  split
  ·exact hq.sep
  ·exact s3 j hj
 ·rcases own_node.1 ha with e | ⟨j, hj, hx⟩
  ·exact .inl (own_node.2 (.inl e))
  ·rw [get] at hx
   split at hx
   ·rcases hg a hx with h4 | h4
    ·exact .inl (own_node.2 (.inr ⟨i, hi, h4⟩))
    ·exact .inr h4
   ·exact .inl (own_node.2 (.inr ⟨j, hj, hx⟩))
end Go.Proofs
end
section
namespace Go.Proofs
open Go Go.Vw Go.Vw.Ev
set_option linter.unusedVariables false
set_option linter.unusedSimpArgs false
structure AddPre (H : AH) (tg m : Pn) (L : List (Int × Pt)) (a : Pn) (o : Nat) (cs : List AS) (q : QT) (x y : Int) (d : Nat) (id : Int) : Prop where
 tc : TC H tg m L
 sq : SqAt H a o cs q
 ma : m ≠ a
 mq : ¬ q.own m
 tq : ¬ q.own tg
 ta : tg = a → 0 < o
 good : Good x y d
 d4 : d ≤ 4
 inv : Inv (posOf L) q x y d
 inn : InSq (posOf L id) x y d
 len : q.all.length < 100000
def AddPost (G : Pn → Prop) (H : AH) (L : List (Int × Pt)) (a : Pn) (o : Nat) (cs : List AS) (q : QT) (x y : Int) (d : Nat) (id : Int) (K : AV → AH → Bool) : Prop :=
 ∀ H' q', Fr (fun b => (b = a ∨ q.own b) ∨ G b) H H' → SqAt H' a o (setSq cs o q') q' → Inv (posOf L) q' x y d → q'.all.Perm (id :: q.all) → (∀ b, q'.own b → q.own b ∨ ¬ H.has b) → K (.tup []) H' = true
def CAdd (d : Nat) (cl : Cl) : Prop := ∀ H tg m L a o cs q x y id K, AddPre H tg m L a o cs q x y d id → AddPost (fun _ => False) H L a o cs q x y d id K →
 cl i_quad_Tree_add [.s (.ptr (.at tg 0)), .s (.ptr (.at a o)), .agg (rcC (sqR x y d)), .s (.int .i64 (d : Nat)), .s (.int .i64 id)] H K = true
theorem joinX_w {X : Type} {F : X → AH → Bool} {b : (X → AH → Bool) → Bool} (P : X → AH → Prop) (h1 : ∀ x H, P x H → F x H = true) (h2 : ∀ J : X → AH → Bool, (∀ x H, P x H → J x H = true) → b J = true) : joinX F b = true := h2 F h1
theorem TC.set {H : AH} {tg m a : Pn} {L : List (Int × Pt)} {cs : List AS} {j : Nat} (h : TC H tg m L) (ha : H.get a = some (.row cs)) (hm : m ≠ a) (ht : tg = a → 0 < j) (u : AS) : TC (H.put a (.row (cs.set j u))) tg m L := by
 obtain ⟨ts, g1, g2⟩ := h.row
 refine ⟨h.has, ?_, h.hasm, (get_put_ne hm).trans h.map⟩
 by_cases e : tg = a
 ·subst e
  rw [ha] at g1
  cases g1
  have := ht rfl
  exact ⟨_, get_put _ _ _, by rw [List.getElem?_set_ne (by omega)]; exact g2⟩
 ·exact ⟨ts, (get_put_ne e).trans g1, g2⟩
theorem tcK_w {H : AH} {tg m : Pn} {L : List (Int × Pt)} (h : TC H tg m L) {K : Option Pn → Bool} (hk : K (some m) = true) {o : Nat} (ho : o = 0) : (rowK H tg fun cs => ldM cs o K) = true := by
 obtain ⟨ts, g1, g2⟩ := h.row
 subst ho
 exact rowK_w g1 (ldM_w g2 hk)
theorem perm_len {α : Type} {a : α} {l r : List α} (h : l.Perm (a :: r)) : l.length = r.length + 1 := by rw [h.length_eq]; rfl
theorem zero4_ok {H : AH} {b : Pn} (hh : H.has b) (hg : H.get b = some (.row (c4 fun _ => .leaf .nil (.lit 0) 1 []))) : (QT.node b fun _ => .leaf .nil (.lit 0) 1 []).ok H :=
 ok_node.2 ⟨hh, hg, fun i _ => ⟨IS.nil, Nat.le_refl 0⟩⟩
theorem zero4_own {a : Pn} : ¬ (QT.leaf .nil (.lit 0) 1 []).own a := fun ⟨o, h⟩ => by cases h
theorem zero4_sep (b : Pn) : (QT.node b fun _ => .leaf .nil (.lit 0) 1 []).sep :=
 sep_node.2 ⟨fun i _ => zero4_own, fun i j _ _ _ a h => absurd h zero4_own, fun i _ => trivial⟩
theorem B_quad_Tree_add_ {lf : Nat} {cl : Cl} {d : Nat} (hlf : 100 ≤ lf) (hw : CWhich cl) (hq : CQuarter cl) (ha : ∀ e, d < e → e ≤ 4 → CAdd e cl) {H : AH} {tg m : Pn} {L : List (Int × Pt)} {a : Pn} {o : Nat} {cs : List AS} {q : QT} {x y : Int} {id : Int} {K : AV → AH → Bool}
  (pre : AddPre H tg m L a o cs q x y d id) (post : AddPost (fun _ => False) H L a o cs q x y d id K) :
  B_quad_Tree_add lf cl (.at tg 0) (.at a o) (rcC (sqR x y d)) (d : Nat) id H K = true := by
 unfold B_quad_Tree_add
 refine newK_w ?_
 have hL0 := Le.new H (.row (rcC (sqR x y d)))
 have ng : ∀ b, H.has b → b ≠ H.nx := fun b hb => has_ne hb
 have nog : ∀ b, q.own b → b ≠ H.nx := fun b hb => ng b (pre.sq.ok.has b hb)
 refine loopX_w (fun s H1 => s.1 = .at tg 0 ∧ s.2.2.2.1 = id ∧ s.2.2.2.2 = .at H.nx 0 ∧ ∃ a o cs q x y, ∃ e : Nat, s.2.1 = .at a o ∧ s.2.2.1 = (e : Int) ∧ d ≤ e ∧ AddPre H1 tg m L a o cs q x y e id ∧ H1.has H.nx ∧ H1.get H.nx = some (.row (rcC (sqR x y e))) ∧
   H.nx ≠ a ∧ ¬ q.own H.nx ∧ m ≠ H.nx ∧ tg ≠ H.nx ∧ AddPost (fun b => b = H.nx) H1 L a o cs q x y e id K) (fun s => 4 - s.2.2.1.toNat)
  ⟨rfl, rfl, rfl, a, o, cs, q, x, y, d, rfl, rfl, Nat.le_refl _, ⟨pre.tc.le hL0, pre.sq.le hL0, pre.ma, pre.mq, pre.tq, pre.ta, pre.good, pre.d4, pre.inv, pre.inn, pre.len⟩, has_new_self _ _, get_new _ _, (ng a pre.sq.has).symm, fun h => nog _ h rfl, ng m pre.tc.hasm, ng tg pre.tc.has,
   fun H' q' f s i p g => post H' q' ⟨fun b hb => f.has b (has_new hb), fun b hb hn => (f.get b (has_new hb) fun hx => hn (.inl (hx.resolve_right (ng b hb)))).trans (get_new_has hb)⟩ s i p fun b hb => (g b hb).imp (fun h => h) fun h h' => h (has_new h')⟩ (by simp; omega) ?_
 clear post nog
 rintro self ⟨p6, p8, n10, jd, r13⟩ H1 ⟨h1, h2, h3, a, o, cs, q, x, y, e, h4, h5, hde, pre, hgh, hgr, ga, gq, gm, gt, post⟩ ih
 simp only at h1 h2 h3 h4 h5
 subst h1 h2 h3 h4 h5
 have hlt := pre.sq.lt
 have hlen := pre.len
 simp only [pR_, nilK_at, fN_eq, Nat.add_eq, Nat.add_zero, iAdd_, Int.ofNat_eq_natCast, Int.cast_ofNat_Int, Nat.zero_add]
 refine rowK_w pre.sq.get (ldI_w pre.sq.c0 (w64_w (by omega) (by omega) (sto1_w pre.sq.get (by omega) ?_)))
 generalize hcs1 : cs.set o (AS.int .i64 ((q.all.length : Int) + 1)) = cs1
 have hc1 : cs1[o + 1]? = some q.ids := by rw [← hcs1, List.getElem?_set_ne (by omega)]; exact pre.sq.c1
 have hc2 : cs1[o + 2]? = some q.kids := by rw [← hcs1, List.getElem?_set_ne (by omega)]; exact pre.sq.c2
 have hc0 : cs1[o]? = some (.int .i64 ((q.all.length : Int) + 1)) := by rw [← hcs1, List.getElem?_set_self (by omega)]
 have hpl : cs1.all plain = true := by rw [← hcs1]; exact set_plain pre.sq.pl rfl _
 have hl1 : cs1.length = cs.length := by rw [← hcs1]; simp
 have tc2 : TC (H1.put a (.row cs1)) tg m L := by rw [← hcs1]; exact pre.tc.set pre.sq.get pre.ma pre.ta _
 have fr2 : Fr (fun b => b = a) H1 (H1.put a (.row cs1)) := (Fr.refl (fun b => b = a) _).put (.inl rfl) _
 have ga2 := get_put H1 a (.row cs1)
 generalize hH2 : H1.put a (.row cs1) = H2 at *
 have gr2 : H2.get H.nx = some (.row (rcC (sqR x y e))) := (fr2.get _ hgh ga).trans hgr
 refine rowK_w ga2 ?_
 cases q with
 | node b k =>
  refine ldP_w hc2 ?_
  rw [fB_eq]
  refine ifA_w (fun _ => ?_) (fun hx => absurd hx (by simp [isNilP]))
  obtain ⟨hd4, hmore, hkids⟩ := inv_node.1 pre.inv
  refine rowK_w gr2 ?_
  rw [ldG_all (fr4 _) (by decide)]
  refine tcK_w tc2 (asMp_w (mapK_w tc2.map (pos_w fun _ => ?_))) rfl
  show asG (.agg (ptC _)) _ = true
  rw [asG_]
  refine hw _ _ _ _ _ _ pre.good hd4 fun H3 hL3 => arI_w ?_
  have ga3 := (hL3.get a (fr2.has a pre.sq.has)).trans ga2
  have gr3 := (hL3.get _ (fr2.has _ hgh)).trans gr2
  have hk4 := kid_lt (posOf L jd) x y e
  generalize hkk : kid (posOf L jd) x y e = kk at *
  refine getK_w ga3 (rowK_w ga3 (ldP_w hc2 ?_))
  refine nilK_w (idxK_w (by omega) (by omega) ?_)
  simp only [Int.toNat_natCast, Nat.mul_eq]
  refine rowK_w gr3 ?_
  rw [ldG_all (fr4 _) (by decide)]
  refine w64_w (by omega) (by omega) (hq _ _ _ _ _ _ pre.good hd4 hk4 fun H4 hL4 => ?_)
  have ga4 := (hL4.get a (hL3.has a (fr2.has a pre.sq.has))).trans ga3
  have gr4 := (hL4.get _ (hL3.has _ (fr2.has _ hgh))).trans gr3
  refine okK_w (kSame_p ga4 hpl (kSame_nil _)) ?_
  rw [asG_]
  refine stoN_we (ds := rcC (sqR (kx x e kk) (ky y e kk) (e + 1))) gr4 rfl (by simp [rcC]) (by simp [rcC]) ?_
  have fr5 : Fr (fun c => c = a ∨ c = H.nx) H1 (H4.put H.nx (.row (rcC (sqR (kx x e kk) (ky y e kk) (e + 1))))) :=
   (((fr2.mono fun _ h => .inl h).trans (hL3.fr (fun c => c = a ∨ c = H.nx)) fun c h => .inl h).trans (hL4.fr (fun c => c = a ∨ c = H.nx)) fun c h => .inl h).put (.inl (.inr rfl)) _
  have tc5 : TC (H4.put H.nx (.row (rcC (sqR (kx x e kk) (ky y e kk) (e + 1))))) tg m L := ((tc2.le hL3).le hL4).fr ((Fr.refl (fun c => c = H.nx) _).put (.inl rfl) _) gt gm
  have ga5 : (H4.put H.nx (.row (rcC (sqR (kx x e kk) (ky y e kk) (e + 1))))).get a = some (.row cs1) := (get_put_ne (fun h => ga h.symm)).trans ga4
  have gr5 := get_put H4 H.nx (.row (rcC (sqR (kx x e kk) (ky y e kk) (e + 1))))
  have hr5 : (H4.put H.nx (.row (rcC (sqR (kx x e kk) (ky y e kk) (e + 1))))).has H.nx := has_put (hL4.has _ (hL3.has _ (fr2.has _ hgh)))
  generalize H4.put H.nx (.row (rcC (sqR (kx x e kk) (ky y e kk) (e + 1)))) = H5 at *
  have ok5 : (QT.node b k).ok H5 := pre.sq.ok.fr fr5 fun c hc hx => by
   rcases hx with rfl | rfl
   ·exact pre.sq.off hc
   ·exact gq hc
  have own_k : ∀ c, (k kk).own c → (QT.node b k).own c := fun c hc => own_node.2 (.inr ⟨kk, hk4, hc⟩)
  have own_b : (QT.node b k).own b := own_node.2 (.inl rfl)
  have lenk : (k kk).all.length ≤ (QT.node b k).all.length := by
   refine lt4 (P := fun i => (k i).all.length ≤ (QT.node b k).all.length) ?_ ?_ ?_ ?_ kk hk4 <;> simp only [QT.all, List.length_append] <;> omega
  refine ih _ _ ⟨rfl, rfl, rfl, b, 3 * kk, c4 k, k kk, kx x e kk, ky y e kk, e + 1, by rw [Nat.mul_comm, Nat.zero_add], by simp, by omega,
   ⟨tc5, SqAt.kid ok5 pre.sq.sep hk4, fun h => pre.mq (h ▸ own_b), fun h => pre.mq (own_k _ h), fun h => pre.tq (own_k _ h), fun h => absurd own_b (h ▸ pre.tq), pre.good.kid (by omega) hk4, by omega, hkids kk hk4, by have := pre.inn.kid (by omega : e ≤ 4); rwa [hkk] at this, by omega⟩,
   hr5, gr5, fun h => gq (h ▸ own_b), fun h => gq (own_k _ h), gm, gt, ?_⟩ (by simp; omega)
  intro H' q' f s i p g
  obtain ⟨u1, u2, u3⟩ := node_upd hk4 ok5 pre.sq.sep f (fun c hc h => by rw [hc] at h; exact gq h) s g
  have hperm := all_upd k q' b jd kk hk4 p
  have hlen' := perm_len hperm
  have ha5 : H5.has a := fr5.has a pre.sq.has
  have hab : ¬ ((a = b ∨ (k kk).own a) ∨ a = H.nx) := by
   rintro ((h | h) | h)
   ·exact pre.sq.off (h ▸ own_b)
   ·exact pre.sq.off (own_k _ h)
   ·exact ga h.symm
  have hsq : setSq cs o (QT.node b (updK4 k kk q')) = cs1 := by
   rw [← hcs1]
   unfold setSq
   rw [hlen', set_id (o := o + 1), set_id (o := o + 2)]
   ·simp
   ·rw [List.getElem?_set_ne (by omega)]; exact pre.sq.c2
   ·rw [List.getElem?_set_ne (by omega)]; exact pre.sq.c1
  refine post H' (.node b (updK4 k kk q')) ⟨fun c hc => f.has c (fr5.has c hc), fun c hc hn => ?_⟩ ?_ ?_ hperm fun c hc => (u3 c hc).imp (fun h => h) fun h h' => h (fr5.has c h')
  ·refine (f.get c (fr5.has c hc) fun hx => hn ?_).trans (fr5.get c hc fun hx => hn ?_)
   ·rcases hx with (h | h) | h
    ·exact .inl (.inr (h ▸ own_b))
    ·exact .inl (.inr (own_k _ h))
    ·exact .inr h
   ·exact hx.imp .inl fun h => h
  ·rw [hsq]
   have hl : o + 2 < cs1.length := by omega
   refine ⟨f.has a ha5, (f.get a ha5 hab).trans ga5, ?_, hc1, hc2, u1, u2, fun h => (u3 a h).elim pre.sq.off fun h' => h' ha5, hpl⟩
   rw [hlen', hc0]; simp
  ·refine inv_node.2 ⟨hd4, by omega, fun j hj => ?_⟩
   unfold updK4
   split
   ·rename_i e; subst e; exact i
   ·exact hkids j hj
 | leaf p c z ids =>
  refine ldP_w hc2 ?_
  rw [fB_eq]
  refine ifA_w (fun hx => absurd hx (by simp [isNilP])) (fun _ => ?_)
  have hin : ∀ j ∈ ids, InSq (posOf L j) x y e := pre.inv.2
  have hlen2 : ids.length < 100000 := hlen
  refine joinX_w (fun s Hs => H2 = Hs ∧ (AP.at tg 0, AP.at a o, (e : Int), jd, AP.at H.nx 0, decide (ids.length + 1 ≤ 4 ∨ e = 4)) = s) ?_ ?_
  case refine_2 =>
   intro J hJ
   refine rowK_w ga2 (ldI_w hc0 ?_)
   rw [iLe_dec, fB_eq]
   refine ifA_w (fun hx => hJ _ _ ⟨rfl, ?_⟩) (fun hx => ?_)
   ·have hx := of_decide_eq_true hx
    rw [decide_eq_true (.inl (by simp only [QT.all] at hx; omega))]
   ·have hx := of_decide_eq_false hx
    rw [fB_eq]
    refine hJ _ _ ⟨rfl, ?_⟩
    rw [iEq_beq]
    have : ((e : Int) == 4) = decide (ids.length + 1 ≤ 4 ∨ e = 4) := by
     simp only [QT.all] at hx
     by_cases h4 : e = 4
     ·rw [decide_eq_true (.inr h4)]; simp [h4]
     ·rw [decide_eq_false (by omega)]; simp; omega
    rw [this]
  rintro s Hs ⟨rfl, rfl⟩
  simp only [pR_, nilK_at, fN_eq, Nat.add_eq, Nat.add_zero, Nat.zero_add]
  have is2 : IS (H2.new (.row [AS.int .i64 jd])) p ids.length z ids := (pre.sq.ok.fr fr2 fun c hc h => pre.sq.off (h ▸ hc)).1.fr ((Le.new _ _).fr fun _ => False) fun _ _ => id
  have app : ∀ {c : ACap} {K' : AP → Nat → ACap → Nat → AH → Bool}, (∀ g' H', g' = (H2.new (.row [AS.int .i64 jd])).nx → Fr (ownP p) (H2.new (.row [AS.int .i64 jd])) H' → H'.has g' → H'.get g' = some (.row (intsA (ids ++ [jd]))) → K' (.at g' 0) (ids.length + 1) (.of g' 0) 1 H' = true) →
    appA (H2.new (.row [AS.int .i64 jd])) p ids.length z 1 8 [AS.int .i64 jd] 1 c K' = true := fun hk => appI_w (m := 1) (js := [jd]) is2 rfl (by decide) (by omega) hk
  have fa : ∀ {H'}, Fr (ownP p) (H2.new (.row [AS.int .i64 jd])) H' → Fr (fun c => c = a ∨ ownP p c) H1 H' ∧ H'.has a ∧ H'.get a = some (.row cs1) ∧ H'.has H.nx ∧ H'.get H.nx = some (.row (rcC (sqR x y e))) ∧ TC H' tg m L := by
   intro H' f
   have hasa := fr2.has a pre.sq.has
   have hasr := fr2.has _ hgh
   refine ⟨((fr2.mono fun _ h => .inl h).new _).trans f fun c h => .inl (.inr h), f.has a (has_new hasa), (f.get a (has_new hasa) pre.sq.off).trans ((get_new_has hasa).trans ga2), f.has _ (has_new hasr), (f.get _ (has_new hasr) gq).trans ((get_new_has hasr).trans gr2), (tc2.le (Le.new _ _)).fr f pre.tq pre.mq⟩
  refine ifA_w (fun hx => ?_) (fun hx => ?_)
  ·have hx := of_decide_eq_true hx
   refine rowK_w ga2 (ldSl_w hc1 (newK_w (elK_w (get_new _ _) (by simp) rfl (app fun g' H' hg' f hh hr => ?_))))
   obtain ⟨f1, ha3, ga3, _, _, _⟩ := fa f
   have hg1 : ¬ H1.has g' := by rw [hg']; exact ((fr2.mono fun _ h => (.inl h : _ ∨ False)).new _).nx
   refine sto1_w ga3 (by omega) ?_
   have hsq : setSq cs o (.leaf (.at g' 0) (.of g' 0) 1 (ids ++ [jd])) = cs1.set (o + 1) (.slice (.at g' 0) (ids.length + 1) (.of g' 0) 1) := by
    rw [← hcs1]
    unfold setSq
    rw [set_id (o := o + 2)]
    ·simp [QT.all, QT.ids]
    ·rw [List.getElem?_set_ne (by omega), List.getElem?_set_ne (by omega)]; exact pre.sq.c2
   have fr3 : Fr (fun c => (c = a ∨ ownP p c) ∨ c = H.nx) H1 (H'.put a (.row (cs1.set (o + 1) (.slice (.at g' 0) (ids.length + 1) (.of g' 0) 1)))) := (f1.mono fun _ h => .inl h).put (.inl (.inl (.inl rfl))) _
   have hag : a ≠ g' := fun h => hg1 (h ▸ pre.sq.has)
   rw [← hsq] at fr3 ⊢
   have hgl := setSq_get (cs := cs) (o := o) (q := .leaf (.at g' 0) (.of g' 0) 1 (ids ++ [jd])) hlt
   refine post _ (.leaf (.at g' 0) (.of g' 0) 1 (ids ++ [jd])) fr3 ⟨has_put ha3, get_put _ _ _, hgl.1, hgl.2.1, hgl.2.2, ?_, trivial, fun ⟨w, hw⟩ => hag (by cases hw; rfl), ?_⟩ ⟨?_, fun j hj => ?_⟩ ?_ fun c ⟨w, hw⟩ => ?_
   ·exact ⟨⟨rfl, .inr ⟨g', _, rfl, rfl, has_put hh, (get_put_ne (Ne.symm hag)).trans hr, by simp [intsA_length], by rw [List.take_of_length_le (by simp [intsA_length])]⟩⟩, trivial⟩
   ·rw [hsq]; exact set_plain hpl rfl _
   ·rcases hx with h | h
    ·exact .inl (by simpa using h)
    ·exact .inr h
   ·rcases List.mem_append.1 hj with h | h
    ·exact hin j h
    ·simp only [List.mem_singleton] at h; subst h; exact pre.inn
   ·exact List.perm_append_comm
   ·cases hw; exact .inr hg1
  ·have hx := of_decide_eq_false hx
   have he4 : e < 4 := by have := pre.d4; omega
   have hn4 : ids.length = 4 := by
    rcases pre.inv.1 with h | h
    ·omega
    ·omega
   refine rowK_w ga2 (ldSl_w hc1 (newK_w (elK_w (get_new _ _) (by simp) rfl (app fun g' H' hg' f hh hr => newK_w ?_))))
   obtain ⟨f1, ha3, ga3, hr3, gr3, tc3⟩ := fa f
   have hg1 : ¬ H1.has g' := by rw [hg']; exact ((fr2.mono fun _ h => (.inl h : _ ∨ False)).new _).nx
   have hag : a ≠ g' := fun h => hg1 (h ▸ pre.sq.has)
   generalize hb : H'.nx = b
   have hbn : ¬ H'.has b := hb ▸ not_has_nx _
   have gb := get_new H' (.row (c4 fun _ => .leaf .nil (.lit 0) 1 []))
   have hbh := has_new_self H' (.row (c4 fun _ => .leaf .nil (.lit 0) 1 []))
   have hL4 := Le.new H' (.row (c4 fun _ => .leaf .nil (.lit 0) 1 []))
   rw [hb] at gb hbh
   have e0 : [AS.int .i64 0, AS.slice AP.nil 0 (.lit 0) 1, AS.ptr AP.nil, AS.int .i64 0, AS.slice AP.nil 0 (.lit 0) 1, AS.ptr AP.nil, AS.int .i64 0, AS.slice AP.nil 0 (.lit 0) 1, AS.ptr AP.nil, AS.int .i64 0, AS.slice AP.nil 0 (.lit 0) 1, AS.ptr AP.nil] = c4 fun _ => .leaf .nil (.lit 0) 1 [] := rfl
   rw [e0]
   generalize H'.new (.row (c4 fun _ => .leaf .nil (.lit 0) 1 [])) = H4 at *
   have ga4 := (hL4.get a ha3).trans ga3
   refine sto1_w ga4 (by omega) (sto1_w (get_put _ _ _) (by simp; omega) ?_)
   generalize hcs2 : (cs1.set (o + 1) (AS.slice AP.nil 0 (.lit 0) 1)).set (o + 2) (.ptr (.at b 0)) = cs2
   have hl2 : cs2.length = cs.length := by rw [← hcs2]; simp [hl1]
   have h22 : cs2[o + 2]? = some (.ptr (.at b 0)) := by rw [← hcs2, List.getElem?_set_self (by simp; omega)]
   have hpl2 : cs2.all plain = true := by rw [← hcs2]; exact set_plain (set_plain hpl rfl _) rfl _
   have hab : a ≠ b := fun h => hbn (h ▸ ha3)
   have hgb : g' ≠ b := fun h => hbn (h ▸ hh)
   have hrb : H.nx ≠ b := fun h => hbn (h ▸ hr3)
   have tc5 : TC ((H4.put a (.row (cs1.set (o + 1) (AS.slice AP.nil 0 (.lit 0) 1)))).put a (.row cs2)) tg m L := by
    have := ((tc3.le hL4).set ga4 pre.ma (j := o + 1) (fun _ => by omega) (AS.slice AP.nil 0 (.lit 0) 1)).set (get_put _ _ _) pre.ma (j := o + 2) (fun _ => by omega) (.ptr (.at b 0))
    rwa [hcs2] at this
   have fr5 : Fr (fun c => c = a) H4 ((H4.put a (.row (cs1.set (o + 1) (AS.slice AP.nil 0 (.lit 0) 1)))).put a (.row cs2)) := ((Fr.refl (fun c => c = a) _).put (.inl rfl) _).put (.inl rfl) _
   have ga5 := get_put (H4.put a (.row (cs1.set (o + 1) (AS.slice AP.nil 0 (.lit 0) 1)))) a (.row cs2)
   generalize (H4.put a (.row (cs1.set (o + 1) (AS.slice AP.nil 0 (.lit 0) 1)))).put a (.row cs2) = H5 at *
   have all_in : ∀ i (hi : i < (ids ++ [jd]).length), InSq (posOf L (ids ++ [jd])[i]) x y e := by
    intro i hi
    rcases List.mem_append.1 (List.getElem_mem hi) with h | h
    ·exact hin _ h
    ·simp only [List.mem_singleton] at h; rw [h]; exact pre.inn
   refine loopX_w (fun s H6 => s.1 = .at tg 0 ∧ s.2.1 = .at a o ∧ s.2.2.1 = (e : Int) ∧ s.2.2.2.1 = .at H.nx 0 ∧ s.2.2.2.2.1 = (.at g' 0, ids.length + 1, .of g' 0, 1) ∧ s.2.2.2.2.2.1 = ((ids.length + 1 : Nat) : Int) ∧ ∃ i : Nat, s.2.2.2.2.2.2 = (i : Int) ∧ i ≤ ids.length + 1 ∧
     ∃ k, Fr (fun c => c = b ∨ ¬ H'.has c) H5 H6 ∧ (QT.node b k).ok H6 ∧ (QT.node b k).sep ∧ (∀ c, (QT.node b k).own c → ¬ H'.has c) ∧ (∀ j, j < 4 → Inv (posOf L) (k j) (kx x e j) (ky y e j) (e + 1)) ∧ (QT.node b k).all.Perm ((ids ++ [jd]).take i))
    (fun s => ids.length + 1 - s.2.2.2.2.2.2.toNat) ⟨rfl, rfl, rfl, rfl, rfl, by simp, 0, rfl, by omega, fun _ => .leaf .nil (.lit 0) 1 [], Fr.refl _ _, zero4_ok (fr5.has b hbh) ((fr5.get b hbh (Ne.symm hab)).trans gb), zero4_sep b, ?_, fun j _ => ⟨.inl (by simp), fun _ h => by cases h⟩, by simp [QT.all]⟩ (by simp; omega) ?_
   ·intro c hc
    rcases own_node.1 hc with h | ⟨j, _, h⟩
    ·rw [h]; exact hbn
    ·exact absurd h zero4_own
   rintro self2 ⟨p127, p129, n131, p133, ⟨p135, l135, c135, z135⟩, n136, r137⟩ H6 ⟨u1, u2, u3, u4, u5, u6, i, u7, hi, k, f6, ok6, sep6, own6, inv6, perm6⟩ ih2
   simp only [Prod.mk.injEq] at u1 u2 u3 u4 u5 u6 u7
   obtain ⟨u5a, u5b, u5c, u5d⟩ := u5
   subst u1 u2 u3 u4 u5a u5b u5c u5d u6 u7
   have nh : ∀ c, H'.has c → ¬ (c = b ∨ ¬ H'.has c) := fun c hc h => h.elim (fun e => hbn (e ▸ hc)) fun h => h hc
   have hg4 : H4.has g' := hL4.has _ hh
   have hr4 : H4.has H.nx := hL4.has _ hr3
   have g6g : H6.get g' = some (.row (intsA (ids ++ [jd]))) := (f6.get _ (fr5.has _ hg4) (nh _ hh)).trans ((fr5.get _ hg4 (Ne.symm hag)).trans ((hL4.get _ hh).trans hr))
   have g6r : H6.get H.nx = some (.row (rcC (sqR x y e))) := (f6.get _ (fr5.has _ hr4) (nh _ hr3)).trans ((fr5.get _ hr4 ga).trans ((hL4.get _ hr3).trans gr3))
   have g6a : H6.get a = some (.row cs2) := (f6.get _ (fr5.has _ (hL4.has _ ha3)) (nh _ ha3)).trans ga5
   have h6a : H6.has a := f6.has _ (fr5.has _ (hL4.has _ ha3))
   have tc6 : TC H6 tg m L := tc5.fr f6 (nh _ tc3.has) (nh _ tc3.hasm)
   simp only [pR_, nilK_at, fN_eq, Nat.add_eq, Nat.add_zero, Nat.zero_add, iLt_dec, fB_eq]
   refine ifA_w (fun hx => ?_) (fun hx => ?_)
   ·have hx : i < ids.length + 1 := by have := of_decide_eq_true hx; omega
    have hx' : i < (ids ++ [jd]).length := by simpa using hx
    refine idxK_w (by omega) (by omega) ?_
    simp only [Int.toNat_natCast, Nat.mul_eq, Nat.mul_one]
    refine rowK_w g6g (ldI_w (intsA_get hx') ?_)
    generalize hxi : (ids ++ [jd])[i] = xi
    have hxin : InSq (posOf L xi) x y e := hxi ▸ all_in i hx'
    refine rowK_w g6r ?_
    rw [ldG_all (fr4 _) (by decide)]
    refine tcK_w tc6 (asMp_w (mapK_w tc6.map (pos_w fun _ => ?_))) rfl
    show asG (.agg (ptC _)) _ = true
    rw [asG_]
    refine hw _ _ _ _ _ _ pre.good he4 fun H7 hL7 => arI_w ?_
    have hk4 := kid_lt (posOf L xi) x y e
    generalize hkk : kid (posOf L xi) x y e = kk at *
    have g7a := (hL7.get a h6a).trans g6a
    have g7r := (hL7.get _ (f6.has _ (fr5.has _ hr4))).trans g6r
    refine getK_w g7a (rowK_w g7a (ldP_w h22 (nilK_w (idxK_w (by omega) (by omega) ?_))))
    simp only [Int.toNat_natCast, Nat.mul_eq]
    refine rowK_w g7r ?_
    rw [ldG_all (fr4 _) (by decide)]
    refine w64_w (by omega) (by omega) (hq _ _ _ _ _ _ pre.good he4 hk4 fun H8 hL8 => ?_)
    have g8a := (hL8.get a (hL7.has _ h6a)).trans g7a
    refine okK_w (kSame_p g8a hpl2 (kSame_nil _)) ?_
    rw [asG_, Nat.zero_add, Nat.mul_comm kk 3]
    have ok8 : (QT.node b k).ok H8 := (ok6.fr (hL7.fr fun _ => False) fun _ _ => id).fr (hL8.fr fun _ => False) fun _ _ => id
    have own_k : ∀ c, (k kk).own c → (QT.node b k).own c := fun c hc => own_node.2 (.inr ⟨kk, hk4, hc⟩)
    have lenk : (k kk).all.length ≤ (QT.node b k).all.length := by
     refine lt4 (P := fun i => (k i).all.length ≤ (QT.node b k).all.length) ?_ ?_ ?_ ?_ kk hk4 <;> simp only [QT.all, List.length_append] <;> omega
    have lenp := perm6.length_eq
    simp only [List.length_take, List.length_append, List.length_singleton] at lenp
    refine ha (e + 1) (by omega) (by omega) H8 tg m L b (3 * kk) (c4 k) (k kk) (kx x e kk) (ky y e kk) xi _
     ⟨(tc6.le hL7).le hL8, SqAt.kid ok8 sep6 hk4, fun h => own6 b (own_node.2 (.inl rfl)) (h ▸ tc3.hasm), fun h => own6 _ (own_k _ h) tc3.hasm, fun h => own6 _ (own_k _ h) tc3.has, fun h => absurd (h ▸ tc3.has) hbn, pre.good.kid (by omega) hk4, by omega, inv6 kk hk4, by have := hxin.kid (by omega : e ≤ 4); rwa [hkk] at this, by omega⟩ ?_
    intro H9 q9 f9 s9 i9 p9 g9
    obtain ⟨w1, w2, w3⟩ := node_upd (G := fun _ => False) hk4 ok8 sep6 f9 (fun _ h => h.elim) s9 g9
    show tup0 (AV.tup []) _ = true
    rw [tup0_]
    refine w64_w (by omega) (by omega) (ih2 _ _ ⟨rfl, rfl, rfl, rfl, rfl, rfl, i + 1, by simp, by omega, updK4 k kk q9, ⟨fun c hc => f9.has c (hL8.has c (hL7.has c (f6.has c hc))), fun c hc hn => ?_⟩, w1, w2, fun c hc => ?_, fun j hj => ?_, ?_⟩ (by simp; omega))
    ·refine (f9.get c (hL8.has c (hL7.has c (f6.has c hc))) fun h => hn ?_).trans ((hL8.get c (hL7.has c (f6.has c hc))).trans ((hL7.get c (f6.has c hc)).trans (f6.get c hc hn)))
     rcases h with (h | h) | h
     ·exact .inl h
     ·exact .inr (own6 _ (own_k _ h))
     ·exact h.elim
    ·rcases w3 c hc with h | h
     ·exact own6 c h
     ·exact fun h' => h (hL8.has c (hL7.has c (f6.has c (fr5.has c (hL4.has c h')))))
    ·unfold updK4
     split
     ·rename_i e; subst e; exact i9
     ·exact inv6 j hj
    ·refine (all_upd k q9 b xi kk hk4 p9).trans ?_
     rw [List.take_succ_eq_append_getElem hx', hxi]
     exact (perm6.cons xi).trans (List.perm_append_comm (l₁ := [xi]))
   ·have hx : i = ids.length + 1 := by have := of_decide_eq_false hx; omega
    subst hx
    rw [List.take_of_length_le (by simp)] at perm6
    have hplen := perm6.length_eq
    simp only [List.length_append, List.length_singleton] at hplen
    have hsq : setSq cs o (QT.node b k) = cs2 := by
     rw [← hcs2, ← hcs1]
     unfold setSq
     rw [hplen]
     simp [QT.all, QT.ids, QT.kids]
    refine post H6 (.node b k) ⟨fun c hc => f6.has c (fr5.has c (hL4.has c (f1.has c hc))), fun c hc hn => ?_⟩ ?_ (inv_node.2 ⟨he4, by omega, inv6⟩) (perm6.trans List.perm_append_comm) fun c hc => .inr fun h => own6 c hc (f1.has c h)
    ·have h3 := f1.has c hc
     exact (f6.get c (fr5.has c (hL4.has c h3)) (nh c h3)).trans ((fr5.get c (hL4.has c h3) fun h => hn (.inl (.inl h))).trans ((hL4.get c h3).trans (f1.get c hc fun h => hn (.inl h))))
    ·have hgl := setSq_get (cs := cs) (o := o) (q := .node b k) hlt
     exact ⟨h6a, by rw [hsq]; exact g6a, hgl.1, hgl.2.1, hgl.2.2, ok6, sep6, fun h => own6 a h ha3, by rw [hsq]; exact hpl2⟩
end Go.Proofs
end
section
namespace Go.Proofs
open Go Go.Vw Go.Vw.Ev
set_option linter.unusedVariables false
set_option linter.unusedSimpArgs false
theorem callV_bool {f : Nat} {t : TypeId} {first cap : List AS} {cl : Cl} {args : List AV} {H : AH} {K : AV → AH → Bool} (hc : callable PG f = some [t]) (ht : PG.underlying t = some .bool)
  (h : cl f (first.map .s ++ (args ++ cap.map .s)) H (fun r H => arB r fun b => K (.s (.bool b)) H) = true) : callV PG cl none (.s (.func f first cap)) args H K = true := by
 unfold callV
 dsimp only
 rw [hc, ap_eq, ap_eq]
 dsimp only
 simp only [shA, tyA, ht]
 exact h
def PredI (cl : Cl) (v : AV) (P : Int → Bool) (H : AH) : Prop := ∀ x K, K (.s (.bool (P x))) H = true → callV PG cl none v [.s (.int .i64 x)] H K = true
theorem B_slices_IndexFunc_int_ {lf : Nat} {cl : Cl} {H : AH} {p : AP} {n z : Nat} {c : ACap} {v : AV} {ks : List Int} {P : Int → Bool} {K : AV → AH → Bool} (his : IS H p n z ks) (hn : n < lf) (hn2 : n < 1000000) (hp : PredI cl v P H)
  (h1 : ∀ i (hi : i < ks.length), P ks[i] = true → (∀ j (hj : j < i), P (ks[j]'(by omega)) = false) → K (.s (.int .i64 (i : Nat))) H = true) (h2 : (∀ x ∈ ks, P x = false) → K (.s (.int .i64 (-1))) H = true) :
  B_slices_IndexFunc_int lf cl p n c z v H K = true := by
 unfold B_slices_IndexFunc_int
 have hnl := his.1
 refine loopX_w (fun s H' => H' = H ∧ s.1 = (p, n, c, z) ∧ s.2.1 = v ∧ s.2.2.1 = (n : Int) ∧ ∃ i : Nat, s.2.2.2 = (i : Int) ∧ i ≤ n ∧ ∀ j (hj : j < ks.length), j < i → P ks[j] = false) (fun s => n - s.2.2.2.toNat) ⟨rfl, rfl, rfl, rfl, 0, rfl, by omega, fun j _ h => by omega⟩ (by simp; omega) ?_
 rintro self ⟨⟨p', n', c', z'⟩, v', m', r'⟩ H' ⟨e1, e2, e3, e4, i, e5, hi, hall⟩ ih
 simp only [Prod.mk.injEq] at e2 e3 e4 e5
 obtain ⟨rfl, rfl, rfl, rfl⟩ := e2
 subst e1 e3 e4 e5
 simp only [pR_, fB_eq, iLt_dec]
 refine ifA_w (fun hx => ?_) (fun hx => ?_)
 ·have hx : i < n' := by have := of_decide_eq_true hx; omega
  obtain ⟨g, cs, rfl, hh, hg, hc⟩ := his.at (i := i) (by omega)
  simp only [nilK_at, fN_eq]
  refine idxK_w (by omega) (by omega) ?_
  simp only [Int.toNat_natCast, Nat.mul_eq, Nat.mul_one, Nat.add_eq, Nat.zero_add]
  refine rowK_w hg (ldI_w hc (hp _ _ ?_))
  show asB (.s (.bool _)) _ = true
  refine (show ifA (P ks[i]) _ _ = true from ifA_w (fun hb => ?_) (fun hb => ?_))
  ·exact h1 i (by omega) hb fun j hj => hall j (by omega) hj
  ·rw [iAdd_]
   refine w64_w (by simp only [Int.ofNat_eq_natCast]; omega) (by simp only [Int.ofNat_eq_natCast]; omega) (ih _ _ ⟨rfl, rfl, rfl, rfl, i + 1, by simp, by omega, fun j hj hlt => ?_⟩ (by simp; omega))
   rcases Nat.lt_or_ge j i with h | h
   ·exact hall j hj h
   ·have : j = i := by omega
    subst this; exact hb
 ·have hx : i = n' := by have := of_decide_eq_false hx; omega
  refine h2 fun x hxm => ?_
  obtain ⟨j, hj, rfl⟩ := List.getElem_of_mem hxm
  exact hall j hj (by omega)
theorem B_slices_Clone_int_ {lf : Nat} {cl : Cl} {H : AH} {p : AP} {n z : Nat} {c : ACap} {ks : List Int} {K : AV → AH → Bool} (his : IS H p n z ks) (hn : n < 1000000)
  (hk : ∀ H' p' c' z', Le H H' → IS H' p' n z' ks → CapOk c' n → (∀ a, ownP p' a → ¬ H.has a) → K (.s (.slice p' n c' z')) H' = true) : B_slices_Clone_int lf cl p n c z H K = true := by
 unfold B_slices_Clone_int
 rw [fB_eq]
 have hnl := his.1
 refine ifA_w (fun hx => ?_) (fun hx => ?_)
 ·rcases his.2 with ⟨rfl, rfl⟩ | ⟨g, cs, rfl, _⟩
  ·simp only [List.length_nil] at hnl
   subst hnl
   exact hk _ _ _ _ (Le.refl _) IS.nil (Nat.le_refl 0) fun a ⟨o, ho⟩ => by cases ho
  ·exact absurd hx (by simp [isNilP])
 ·rcases his.2 with ⟨rfl, rfl⟩ | ⟨g, cs, rfl, rfl, hh, hg, hl, ht⟩
  ·exact absurd hx (by simp [isNilP])
  ·refine newK_w (elK_w (ys := intsA ks) ((get_new_has hh).trans hg) (by omega) (by rw [List.drop_zero, hnl, Nat.mul_one]; exact ht) ?_)
   have hle := Le.new H (.row [])
   have hnn := not_has_nx H
   generalize hb : H.nx = b at *
   have is0 : IS (H.new (.row [])) (.at b 0) 0 1 [] := ⟨rfl, .inr ⟨b, [], rfl, rfl, hb ▸ has_new_self _ _, hb ▸ get_new _ _, by simp, rfl⟩⟩
   rcases Nat.eq_zero_or_pos n with h0 | h0
   ·have : ks = [] := List.length_eq_zero_iff.1 (by omega)
    subst this
    subst h0
    show appA _ _ 0 1 1 8 _ 0 _ _ = true
    rw [appA_eq0]
    unfold appA0
    refine fN_w (okK_w (by decide) ?_)
    show K _ _ = true
    exact hk _ _ _ _ hle is0 (Nat.le_refl 0) fun a ⟨o, ho⟩ => by cases ho; exact hnn
   ·refine appI_w is0 hnl h0 (by omega) fun g' H' hg' f hh' hr => ?_
    rw [Nat.zero_add]
    refine hk _ _ _ _ ⟨fun a ha => f.has a (hle.has a ha), fun a ha => (f.get a (hle.has a ha) fun ⟨o, ho⟩ => hnn (by cases ho; exact ha)).trans (hle.get a ha)⟩ ⟨hnl, .inr ⟨g', _, rfl, rfl, hh', hr, by simp [intsA_length], by rw [List.nil_append, List.take_of_length_le (by simp [intsA_length])]⟩⟩ trivial ?_
    rintro a ⟨o, ho⟩ ha
    cases ho
    rw [hg'] at ha
    exact not_has_nx _ (hle.has _ ha)
theorem slcA_at_w {g : Pn} {o n z l h : Nat} {c : ACap} {K : AP → Nat → ACap → Nat → Bool} (h1 : l ≤ h) (h2 : h ≤ n) (hl : l < n) (hc : CapOk c n) (hk : ∀ c', CapOk c' (h - l) → K (.at g (o + l * z)) (h - l) c' z = true) : slcA (.at g o) n c z l h K = true := by
 rw [slcA_eq0]
 unfold slcA0
 rw [Nat.ble_eq_true_of_le h1, Nat.ble_eq_true_of_le h2]
 refine fN_w ?_
 cases c with
 | lit k =>
  have hk' : n ≤ k := hc
  have : Nat.beq k l = false := by
   cases hb : Nat.beq k l
   ·rfl
   ·have := Nat.eq_of_beq_eq_true hb; omega
  dsimp only
  rw [this]
  exact fN_w (fN_w (hk _ (show h - l ≤ k - l by omega)))
 | of b k =>
  have : Nat.beq l n = false := by
   cases hb : Nat.beq l n
   ·rfl
   ·have := Nat.eq_of_beq_eq_true hb; omega
  dsimp only
  rw [this]
  exact fN_w (fN_w (hk _ trivial))
def CIndexI (PR : AV → (Int → Bool) → AH → Prop) (cl : Cl) : Prop := ∀ H p n z c v ks (P : Int → Bool) K, IS H p n z ks → n < 1000000 → PR v P H →
  (∀ i (hi : i < ks.length), P ks[i] = true → (∀ j (hj : j < i), P (ks[j]'(by omega)) = false) → K (.s (.int .i64 (i : Nat))) H = true) → ((∀ x ∈ ks, P x = false) → K (.s (.int .i64 (-1))) H = true) →
  cl i_slices_IndexFunc_int [.s (.slice p n c z), v] H K = true
theorem B_slices_DeleteFunc_int_ {lf : Nat} {cl : Cl} {H : AH} {p : AP} {n z : Nat} {c : ACap} {v : AV} {ks : List Int} {P : Int → Bool} {K : AV → AH → Bool} {PR : AV → (Int → Bool) → AH → Prop} (hix : CIndexI PR cl) (his : IS H p n z ks) (hc : CapOk c n) (hn : n < lf) (hn2 : n < 1000000)
  (hp : ∀ H', Fr (ownP p) H H' → PredI cl v P H') (hpr : PR v P H)
  (hk : ∀ H' p' c' z' n', Fr (ownP p) H H' → IS H' p' n' z' (ks.filter fun x => !P x) → CapOk c' n' → (∀ a, ownP p' a → ownP p a) → K (.s (.slice p' n' c' z')) H' = true) : B_slices_DeleteFunc_int lf cl p n c z v H K = true := by
 unfold B_slices_DeleteFunc_int
 have hnl := his.1
 refine hix _ _ _ _ _ _ _ _ _ his hn2 hpr (fun i hi hPi hbef => ?_) (fun hall => ?_)
 case refine_2 =>
  refine arI_w ?_
  rw [iEq_beq, fB_eq]
  refine ifA_w (fun _ => ?_) (fun hx => absurd hx (by decide))
  have : ks.filter (fun x => !P x) = ks := List.filter_eq_self.2 fun x hx => by rw [hall x hx]; rfl
  exact hk _ _ _ _ _ (Fr.refl _ _) (by rw [this]; exact his) hc fun a h => h
 refine arI_w ?_
 rw [iEq_beq, fB_eq]
 refine ifA_w (fun hx => absurd hx (by simp)) (fun _ => ?_)
 rw [iAdd_]
 refine w64_w (by simp only [Int.ofNat_eq_natCast]; omega) (by simp only [Int.ofNat_eq_natCast]; omega) ?_
 rcases his.2 with ⟨rfl, rfl⟩ | ⟨g, cs, rfl, rfl, hh, hg, hl, ht⟩
 ·simp at hi
 have hcell : ∀ t (h : t < ks.length), cs[t]? = some (.int .i64 ks[t]) := fun t h => by
  have h1 := intsA_get h
  rw [← ht, List.getElem?_take_of_lt h] at h1
  exact h1
 have f0 : (ks.take i).filter (fun x => !P x) = ks.take i := by
  refine List.filter_eq_self.2 fun x hx => ?_
  obtain ⟨j, hj, rfl⟩ := List.getElem_of_mem hx
  have hj' : j < i := by simp at hj; omega
  rw [List.getElem_take, hbef j hj']; rfl
 have f1 : ∀ j (h : j < ks.length), (ks.take (j + 1)).filter (fun x => !P x) = (ks.take j).filter (fun x => !P x) ++ if P ks[j] then [] else [ks[j]] := by
  intro j h
  rw [List.take_succ_eq_append_getElem h, List.filter_append]
  cases hP : P ks[j] <;> simp [hP]
 refine loopX_w (fun s H' => s.1 = (.at g 0, n, c, 1) ∧ s.2.1 = v ∧ ∃ w j : Nat, s.2.2.1 = (w : Int) ∧ s.2.2.2 = (j : Int) ∧ j ≤ n ∧ w < j ∧ w = ((ks.take j).filter fun x => !P x).length ∧ Fr (ownP (.at g 0)) H H' ∧ H'.has g ∧ ∃ cs', H'.get g = some (.row cs') ∧ cs'.length = cs.length ∧
   cs'.take w = intsA ((ks.take j).filter fun x => !P x) ∧ ∀ t, j ≤ t → cs'[t]? = cs[t]?) (fun s => n - s.2.2.2.toNat)
  ⟨rfl, rfl, i, i + 1, rfl, by simp, by omega, by omega, ?_, Fr.refl _ _, hh, cs, hg, rfl, ?_, fun _ _ => rfl⟩ (by simp; omega) ?_
 ·rw [f1 i hi, hPi, f0]; simp only [if_true, List.append_nil, List.length_take]; omega
 ·rw [f1 i hi, hPi, f0]
  simp only [if_true, List.append_nil]
  rw [intsA_map, List.map_take, ← intsA_map, ← ht, List.take_take, Nat.min_eq_left (by omega)]
 rintro self ⟨⟨p', n', c', z'⟩, v', w', j'⟩ H' ⟨e1, e2, w, j, e3, e4, hj, hwj, hw, fr, hgh, cs', hg', hlen, htk, hsame⟩ ih
 simp only [Prod.mk.injEq] at e1 e2 e3 e4
 obtain ⟨rfl, rfl, rfl, rfl⟩ := e1
 subst e2 e3 e4
 simp only [pR_, fB_eq, iLt_dec, nilK_at, fN_eq, Int.ofNat_eq_natCast]
 refine ifA_w (fun hx => ?_) (fun hx => ?_)
 ·have hx : j < n' := by have := of_decide_eq_true hx; omega
  have hjk : j < ks.length := by omega
  refine idxK_w (by omega) (by omega) ?_
  simp only [Int.toNat_natCast, Nat.mul_eq, Nat.mul_one, Nat.add_eq, Nat.zero_add]
  refine rowK_w hg' (ldI_w ((hsame j (Nat.le_refl _)).trans (hcell j hjk)) (hp _ fr _ _ ?_))
  show asB (.s (.bool _)) _ = true
  refine (show ifA (!P ks[j]) _ _ = true from ifA_w (fun hb => ?_) (fun hb => ?_))
  ·have hb : P ks[j] = false := by simpa using hb
   refine idxK_w (by omega) (by omega) ?_
   simp only [Int.toNat_natCast]
   refine sto1_w hg' (by omega) ?_
   rw [iAdd_, iAdd_]
   refine w64_w (by omega) (by omega) (w64_w (by omega) (by omega) (ih _ _ ⟨rfl, rfl, w + 1, j + 1, by simp, by simp, by omega, by omega, ?_, fr.put (.inl ⟨0, rfl⟩) _, hgh, _, get_put _ _ _, by simp [hlen], ?_, fun t ht => ?_⟩ (by simp; omega)))
   ·rw [f1 j hjk, hb]; simp; omega
   ·rw [f1 j hjk, hb]
    simp only [Bool.false_eq_true, if_false]
    rw [intsA_append, ← htk]
    rw [List.take_succ_eq_append_getElem (by simp; omega), List.getElem_set_self, List.take_set_of_le (Nat.le_refl _)]
    rfl
   ·rw [List.getElem?_set_ne (by omega)]; exact hsame t (by omega)
  ·have hb : P ks[j] = true := by simpa using hb
   rw [iAdd_]
   refine w64_w (by omega) (by omega) (ih _ _ ⟨rfl, rfl, w, j + 1, rfl, by simp, by omega, by omega, ?_, fr, hgh, cs', hg', hlen, ?_, fun t ht => hsame t (by omega)⟩ (by simp; omega))
   ·rw [f1 j hjk, hb]; simpa using hw
   ·rw [f1 j hjk, hb]; simpa using htk
 ·have hx : j = n' := by have := of_decide_eq_false hx; omega
  subst hx
  have eall : ks.take j = ks := List.take_of_length_le (by omega)
  rw [eall] at hw htk
  refine okK_w rfl (natK_w (by omega) ?_)
  simp only [Int.toNat_natCast]
  refine slcA_at_w (by omega) (Nat.le_refl _) hwj hc fun c1 _ => ?_
  rw [clrA_eq0]
  unfold clrA0
  have hne : Nat.beq (j - w) 0 = false := by
   cases hb : Nat.beq (j - w) 0
   ·rfl
   ·have := Nat.eq_of_beq_eq_true hb; omega
  rw [hne]
  have hzl : (List.replicate (j - w) [AS.int .i64 0]).flatten.length = j - w := by simp [List.length_flatten]
  refine okK_w rfl ?_
  show stoN H' g (0 + w * 1) ((j - w) * ln [AS.int .i64 (0 : Int)]) _ _ = true
  rw [Nat.zero_add, Nat.mul_one, ln_eq]
  refine stoN_w hg' (by simp) (by simp; omega) (okK_w rfl (natK_w (by omega) ?_))
  simp only [Int.toNat_natCast]
  refine slcA_at_w (Nat.zero_le _) (by omega) (by omega) hc fun c2 hc2 => ?_
  rw [Nat.zero_mul, Nat.add_zero, Nat.sub_zero] at *
  refine hk _ _ _ _ _ (fr.put (.inl ⟨0, rfl⟩) _) ⟨hw, .inr ⟨g, _, rfl, rfl, hgh, get_put _ _ _, ?_, ?_⟩⟩ hc2 fun a h => h
  ·simp; omega
  ·rw [← hw, List.take_append_of_le_length (by simp; omega), List.take_take, Nat.min_self]; exact htk
end Go.Proofs
end
section
namespace Go.Proofs
open Go Go.Vw Go.Vw.Ev
set_option linter.unusedVariables false
set_option linter.unusedSimpArgs false
def QT.low : Nat → QT → Prop
 | _, .leaf _ _ _ _ => True
 | 0, .node _ _ => False
 | h + 1, .node _ k => ∀ i, i < 4 → (k i).low h
theorem low_leaf {h : Nat} {p : AP} {c : ACap} {z : Nat} {ids : List Int} : (QT.leaf p c z ids).low h := by cases h <;> trivial
theorem Inv.low {pos : Int → Pt} : ∀ {q : QT} {x y : Int} {d : Nat}, Inv pos q x y d → ∀ h, 4 ≤ d + h → q.low h
 | .leaf _ _ _ _, _, _, _, _, _, _ => low_leaf
 | .node b k, x, y, d, hi, h, hd => by
  obtain ⟨h1, h2, h3⟩ := inv_node.1 hi
  cases h with
  | zero => omega
  | succ h => exact lt4 (P := fun i => (k i).low h) (Inv.low (h3 0 (by decide)) h (by omega)) (Inv.low (h3 1 (by decide)) h (by omega)) (Inv.low (h3 2 (by decide)) h (by omega)) (Inv.low (h3 3 (by decide)) h (by omega))
def CClone (cl : Cl) : Prop := ∀ H p n z c ks K, IS H p n z ks → n < 1000000 → (∀ H' p' c' z', Le H H' → IS H' p' n z' ks → CapOk c' n → (∀ a, ownP p' a → ¬ H.has a) → K (.s (.slice p' n c' z')) H' = true) → cl i_slices_Clone_int [.s (.slice p n c z)] H K = true
def CAll (h : Nat) (cl : Cl) : Prop := ∀ H a o cs q K, SqAt H a o cs q → q.low h → q.all.length < 100000 →
 (∀ H' p c z, Le H H' → IS H' p q.all.length z q.all → (∀ b, ownP p b → ¬ H.has b) → CapOk c q.all.length → K (.s (.slice p q.all.length c z)) H' = true) → cl i_quad_square_all [.s (.ptr (.at a o))] H K = true
def upto (k : Nat → QT) : Nat → List Int
 | 0 => []
 | i + 1 => upto k i ++ (k i).all
theorem upto4 (b : Pn) (k : Nat → QT) : upto k 4 = (QT.node b k).all := by simp [upto, QT.all]
theorem upto_le (b : Pn) (k : Nat → QT) : ∀ i, i ≤ 4 → (upto k i).length ≤ (QT.node b k).all.length := by
 intro i hi
 rcases (by omega : i = 0 ∨ i = 1 ∨ i = 2 ∨ i = 3 ∨ i = 4) with rfl | rfl | rfl | rfl | rfl <;> simp [upto, QT.all] <;> omega
theorem B_quad_square_all_ {lf : Nat} {cl : Cl} {h : Nat} (hlf : 10 ≤ lf) (hc : CClone cl) (hall : ∀ g, g < h → CAll g cl) {H : AH} {a : Pn} {o : Nat} {cs : List AS} {q : QT} {K : AV → AH → Bool} (sq : SqAt H a o cs q) (hlow : q.low h) (hlen : q.all.length < 100000)
  (hk : ∀ H' p c z, Le H H' → IS H' p q.all.length z q.all → (∀ b, ownP p b → ¬ H.has b) → CapOk c q.all.length → K (.s (.slice p q.all.length c z)) H' = true) : B_quad_square_all lf cl (.at a o) H K = true := by
 unfold B_quad_square_all
 simp only [nilK_at, fN_eq, Nat.add_eq]
 refine rowK_w sq.get ?_
 cases q with
 | leaf p c z ids =>
  refine ldSl_w sq.c1 (hc _ _ _ _ _ _ _ sq.ok.1 (by simp only [QT.all] at hlen; omega) fun H1 p1 c1 z1 hL1 hs1 hcap hf => ?_)
  rw [asSl_]
  obtain ⟨n, rfl⟩ : ∃ n, lf = n + 1 := ⟨lf - 1, by omega⟩
  rw [loopX_succ]
  simp only [pR_, nilK_at, fN_eq, Nat.add_eq]
  refine rowK_w ((hL1.get _ sq.has).trans sq.get) (ldP_w sq.c2 ?_)
  rw [fB_eq]
  exact ifA_w (fun hx => absurd hx (by simp [isNilP])) fun _ => hk _ _ _ _ hL1 hs1 hf hcap
 | node b k =>
  refine ldSl_w sq.c1 (hc _ _ _ _ _ _ _ IS.nil (by decide) fun H1 p1 c1 z1 hL1 hs1 hcap1 hf1 => ?_)
  rw [asSl_]
  cases h with
  | zero => exact hlow.elim
  | succ h =>
  refine loopX_w (fun s H2 => s.1 = .at a o ∧ ∃ i : Nat, s.2.2 = (i : Int) ∧ i ≤ 4 ∧ s.2.1.2.1 = (upto k i).length ∧ Le H H2 ∧ IS H2 s.2.1.1 s.2.1.2.1 s.2.1.2.2.2 (upto k i) ∧ (∀ b, ownP s.2.1.1 b → ¬ H.has b) ∧ CapOk s.2.1.2.2.1 s.2.1.2.1) (fun s => 4 - s.2.2.toNat)
   ⟨rfl, 0, rfl, by omega, rfl, hL1, hs1, hf1, hcap1⟩ (by simp; omega) ?_
  rintro self ⟨_, ⟨p, n, c, z⟩, _⟩ H2 ⟨e1, i, e2, hi, e3, hL, hs, hf, hcap⟩ ih
  simp only at e1 e2 e3 hs hf hcap
  subst e1 e2 e3
  have hul := upto_le b k i hi
  simp only [pR_, nilK_at, fN_eq, Nat.add_eq]
  have g2 := (hL.get _ sq.has).trans sq.get
  refine rowK_w g2 (ldP_w sq.c2 ?_)
  rw [fB_eq]
  refine ifA_w (fun _ => ?_) (fun hx => absurd hx (by simp [isNilP]))
  rw [iLt_dec, fB_eq]
  refine ifA_w (fun hx => ?_) (fun hx => ?_)
  ·have hx : i < 4 := by have := of_decide_eq_true hx; simp only [Int.ofNat_eq_natCast] at this; omega
   refine rowK_w g2 (ldP_w sq.c2 (nilK_w (idxK_w (by omega) (by omega) ?_)))
   simp only [Int.toNat_natCast, Nat.mul_eq, fN_eq, Nat.zero_add]
   rw [Nat.mul_comm]
   have hu1 := upto_le b k (i + 1) (by omega)
   have hsum : (upto k (i + 1)).length = (upto k i).length + (k i).all.length := by simp [upto]
   refine hall h (by omega) _ _ _ _ (k i) _ (SqAt.kid (sq.ok.fr (hL.fr fun _ => False) fun _ _ => id) sq.sep hx) (hlow i hx) (by omega) fun H3 p3 c3 z3 hL3 hs3 hf3 hcap3 => ?_
   rw [asSl_]
   refine elI_w hs3 (appF_w (hs.fr (hL3.fr fun _ => False) fun _ _ => id) (hL.trans hL3) hf hcap rfl (by omega) fun p4 c4 z4 H4 hL4 hs4 hf4 hcap4 => ?_)
   rw [iAdd_]
   refine w64_w (by simp only [Int.ofNat_eq_natCast]; omega) (by simp only [Int.ofNat_eq_natCast]; omega) (ih _ _ ⟨rfl, i + 1, by simp, by omega, ?_, hL4, hs4, hf4, hcap4⟩ (by simp; omega))
   simp [upto]
  ·have hx : i = 4 := by have := of_decide_eq_false hx; simp only [Int.ofNat_eq_natCast] at this; omega
   subst hx
   rw [upto4 b k] at *
   exact hk _ _ _ _ hL hs hf hcap
end Go.Proofs
end
section
namespace Go.Proofs
open Go Go.Vw Go.Vw.Ev
set_option linter.unusedVariables false
set_option linter.unusedSimpArgs false
structure RemPre (H : AH) (tg m : Pn) (L : List (Int × Pt)) (a : Pn) (o : Nat) (cs : List AS) (q : QT) (x y : Int) (d : Nat) (id : Int) : Prop where
 tc : TC H tg m L
 sq : SqAt H a o cs q
 ma : m ≠ a
 mq : ¬ q.own m
 tq : ¬ q.own tg
 ta : tg = a → 0 < o
 good : Good x y d
 d4 : d ≤ 4
 inv : Inv (posOf L) q x y d
 mem : id ∈ q.all
 nod : q.all.Nodup
 len : q.all.length < 100000
def RemPost (H : AH) (L : List (Int × Pt)) (a : Pn) (o : Nat) (cs : List AS) (q : QT) (x y : Int) (d : Nat) (id : Int) (K : AV → AH → Bool) : Prop :=
 ∀ H' q', Fr (fun b => b = a ∨ q.own b) H H' → SqAt H' a o (setSq cs o q') q' → Inv (posOf L) q' x y d → q.all.Perm (id :: q'.all) → (∀ b, q'.own b → q.own b ∨ ¬ H.has b) → K (.tup []) H' = true
def CRem (d : Nat) (cl : Cl) : Prop := ∀ H tg m L a o cs q x y id K, RemPre H tg m L a o cs q x y d id → RemPost H L a o cs q x y d id K →
 cl i_quad_Tree_remove [.s (.ptr (.at tg 0)), .s (.ptr (.at a o)), .agg (rcC (sqR x y d)), .s (.int .i64 id)] H K = true
def remF (g : Pn) : AV := .s (.func i_quad_Tree_remove_1 [] [.ptr (.at g 0)])
def CDelRem (cl : Cl) : Prop := ∀ H p n z c g id ks K, IS H p n z ks → CapOk c n → n < 1000000 → H.has g → H.get g = some (.row [.int .i64 id]) → ¬ ownP p g →
 (∀ H' p' c' z' n', Fr (ownP p) H H' → IS H' p' n' z' (ks.filter fun x => !(x == id)) → CapOk c' n' → (∀ a, ownP p' a → ownP p a) → K (.s (.slice p' n' c' z')) H' = true) → cl i_slices_DeleteFunc_int [.s (.slice p n c z), remF g] H K = true
theorem B_quad_Tree_remove_1_ {lf : Nat} {cl : Cl} {x id : Int} {g : Pn} {H : AH} {K : AV → AH → Bool} (hg : H.get g = some (.row [.int .i64 id])) (hk : K (.s (.bool (x == id))) H = true) : B_quad_Tree_remove_1 lf cl x (.at g 0) H K = true := by
 unfold B_quad_Tree_remove_1
 refine nilK_w (rowK_w hg (ldI_w rfl ?_))
 rw [fB_eq, iEq_beq]
 exact hk
theorem filter_perm : ∀ {l : List Int} {id : Int}, l.Nodup → id ∈ l → l.Perm (id :: l.filter fun x => !(x == id))
 | x :: r, id, hn, hm => by
  obtain ⟨h1, h2⟩ := List.nodup_cons.1 hn
  by_cases e : x = id
  ·subst e
   have : r.filter (fun y => !(y == x)) = r := List.filter_eq_self.2 fun y hy => by
    have : y ≠ x := fun e => h1 (e ▸ hy)
    simp [this]
   rw [List.filter_cons_of_neg (by simp), this]
  ·have hm' : id ∈ r := by
    rcases List.mem_cons.1 hm with h | h
    ·exact absurd h.symm e
    ·exact h
   rw [List.filter_cons_of_pos (by simp [e])]
   exact ((filter_perm h2 hm').cons x).trans (.swap _ _ _)
theorem all_upd_rem (k : Nat → QT) (q : QT) (b : Pn) (id : Int) (i : Nat) (hi : i < 4) (h : (k i).all.Perm (id :: q.all)) : (QT.node b k).all.Perm (id :: (QT.node b (updK4 k i q)).all) := by
 have h1 := all_upd (updK4 k i q) (k i) b id i hi (by unfold updK4; simpa using h)
 have e : updK4 (updK4 k i q) i (k i) = k := by
  funext j
  unfold updK4
  split
  ·rename_i e; rw [e]
  ·rfl
 rwa [e] at h1
theorem nodup_kid {b : Pn} {k : Nat → QT} (h : (QT.node b k).all.Nodup) : ∀ i, i < 4 → (k i).all.Nodup := by
 simp only [QT.all, List.nodup_append] at h
 exact lt4 h.1 h.2.1.1 h.2.1.2.1.1 h.2.1.2.1.2.1
theorem mem_kid {pos : Int → Pt} {b : Pn} {k : Nat → QT} {x y : Int} {d : Nat} {id : Int} (h : Inv pos (.node b k) x y d) (hm : id ∈ (QT.node b k).all) : id ∈ (k (kid (pos id) x y d)).all := by
 obtain ⟨h1, h2, h3⟩ := inv_node.1 h
 obtain ⟨i, hi, hx⟩ := mem_all.1 hm
 have := (h3 i hi).mem id hx
 rw [(InSq.up (by omega) hi this).2]
 exact hx
theorem B_quad_Tree_remove_ {lf : Nat} {cl : Cl} {d : Nat} (hw : CWhich cl) (hq : CQuarter cl) (hdel : CDelRem cl) (hall : ∀ h, h ≤ 4 → CAll h cl) (hr : ∀ e, d < e → e ≤ 4 → CRem e cl) {H : AH} {tg m : Pn} {L : List (Int × Pt)} {a : Pn} {o : Nat} {cs : List AS} {q : QT} {x y : Int} {id : Int} {K : AV → AH → Bool}
  (pre : RemPre H tg m L a o cs q x y d id) (post : RemPost H L a o cs q x y d id K) : B_quad_Tree_remove lf cl (.at tg 0) (.at a o) (rcC (sqR x y d)) id H K = true := by
 unfold B_quad_Tree_remove
 refine newK_w (newK_w ?_)
 have hL0 : Le H ((H.new (.row (rcC (sqR x y d)))).new (.row [.int .i64 id])) := (Le.new H _).newr _
 have gr0 := get_new1 H (.row (rcC (sqR x y d))) (.row [.int .i64 id])
 have gi0 := get_new (H.new (.row (rcC (sqR x y d)))) (.row [.int .i64 id])
 have hr0 : ((H.new (.row (rcC (sqR x y d)))).new (.row [.int .i64 id])).has H.nx := has_new (has_new_self _ _)
 have hi0 : ((H.new (.row (rcC (sqR x y d)))).new (.row [.int .i64 id])).has (H.new (.row (rcC (sqR x y d)))).nx := has_new_self _ _
 have nr : ¬ H.has H.nx := not_has_nx H
 have ni : ¬ H.has (H.new (.row (rcC (sqR x y d)))).nx := (Le.new H _).nx
 generalize (H.new (.row (rcC (sqR x y d)))).new (.row [.int .i64 id]) = H1 at *
 generalize (H.new (.row (rcC (sqR x y d)))).nx = gi at *
 generalize H.nx = gr at *
 have hlt := pre.sq.lt
 have hlen := pre.len
 have sq1 := pre.sq.le hL0
 have tc1 := pre.tc.le hL0
 have hpos : 0 < q.all.length := List.length_pos_of_mem pre.mem
 have own_has : ∀ c, q.own c → H.has c := fun c hc => pre.sq.ok.has c hc
 have ra : gr ≠ a := fun h => nr (h ▸ pre.sq.has)
 have ia : gi ≠ a := fun h => ni (h ▸ pre.sq.has)
 simp only [nilK_at, fN_eq, Nat.add_eq, Nat.add_zero, iSub_, Int.ofNat_eq_natCast, Int.cast_ofNat_Int]
 refine rowK_w sq1.get (ldI_w sq1.c0 (w64_w (by omega) (by omega) (sto1_w sq1.get (by omega) ?_)))
 generalize hcs1 : cs.set o (AS.int .i64 ((q.all.length : Int) - 1)) = cs1
 have hc1 : cs1[o + 1]? = some q.ids := by rw [← hcs1, List.getElem?_set_ne (by omega)]; exact pre.sq.c1
 have hc2 : cs1[o + 2]? = some q.kids := by rw [← hcs1, List.getElem?_set_ne (by omega)]; exact pre.sq.c2
 have hc0 : cs1[o]? = some (.int .i64 ((q.all.length : Int) - 1)) := by rw [← hcs1, List.getElem?_set_self (by omega)]
 have hpl : cs1.all plain = true := by rw [← hcs1]; exact set_plain pre.sq.pl rfl _
 have hl1 : cs1.length = cs.length := by rw [← hcs1]; simp
 have tc2 : TC (H1.put a (.row cs1)) tg m L := by rw [← hcs1]; exact tc1.set sq1.get pre.ma pre.ta _
 have fr2 : Fr (fun b => b = a) H (H1.put a (.row cs1)) := (hL0.fr (fun b => b = a)).put (.inl rfl) _
 have ga2 := get_put H1 a (.row cs1)
 have gr2 : (H1.put a (.row cs1)).get gr = some (.row (rcC (sqR x y d))) := (get_put_ne ra).trans gr0
 have gi2 : (H1.put a (.row cs1)).get gi = some (.row [.int .i64 id]) := (get_put_ne ia).trans gi0
 have hr2 : (H1.put a (.row cs1)).has gr := has_put hr0
 have hi2 : (H1.put a (.row cs1)).has gi := has_put hi0
 generalize H1.put a (.row cs1) = H2 at *
 refine rowK_w ga2 ?_
 cases q with
 | leaf p c z ids =>
  refine ldP_w hc2 ?_
  rw [fB_eq]
  refine ifA_w (fun _ => ?_) (fun hx => absurd hx (by simp [isNilP]))
  have ok2 : (QT.leaf p c z ids).ok H2 := pre.sq.ok.fr fr2 fun c hc h => pre.sq.off (h ▸ hc)
  refine rowK_w ga2 (ldSl_w hc1 (hdel _ _ _ _ _ _ id _ _ ok2.1 ok2.2 (by simp only [QT.all] at hlen; omega) hi2 gi2 (fun h => ni (own_has _ h)) fun H3 p' c' z' n' f3 hs3 hcap3 hown => ?_))
  rw [asSl_]
  have ha3 : H3.has a := f3.has _ (fr2.has _ pre.sq.has)
  have ga3 := (f3.get a (fr2.has _ pre.sq.has) pre.sq.off).trans ga2
  refine sto1_w ga3 (by omega) ?_
  have hp : ids.Perm (id :: ids.filter fun x => !(x == id)) := filter_perm pre.nod pre.mem
  have hpl2 := perm_len hp
  have hn' := hs3.1
  generalize (ids.filter fun x => !(x == id)) = ids' at *
  rw [hn'] at hs3 hcap3
  subst hn'
  have hsq : setSq cs o (.leaf p' c' z' ids') = cs1.set (o + 1) (.slice p' ids'.length c' z') := by
   rw [← hcs1]
   unfold setSq
   rw [set_id (o := o + 2)]
   ·simp only [QT.all, QT.ids, hpl2]
    congr 3
    omega
   ·rw [List.getElem?_set_ne (by omega), List.getElem?_set_ne (by omega)]; exact pre.sq.c2
  have hgl := setSq_get (cs := cs) (o := o) (q := .leaf p' c' z' ids') hlt
  have ff : Fr (fun b => b = a ∨ (QT.leaf p c z ids).own b) H (H3.put a (.row (setSq cs o (.leaf p' c' z' ids')))) := ((fr2.mono fun _ h => .inl h).trans f3 fun c h => .inl (.inr h)).put (.inl (.inl rfl)) _
  rw [← hsq]
  refine post _ (.leaf p' c' z' ids') ff ⟨has_put ha3, get_put _ _ _, hgl.1, hgl.2.1, hgl.2.2, ⟨hs3.fr ((Fr.refl (fun b => b = a) _).put (.inl rfl) _) fun b hb h => pre.sq.off (h ▸ hown b hb), hcap3⟩, trivial, fun h => pre.sq.off (hown a h), ?_⟩ ⟨?_, fun j hj => ?_⟩ hp fun b hb => .inl (hown b hb)
  ·rw [hsq]
   refine set_plain hpl ?_ _
   rcases hs3.2 with ⟨rfl, _⟩ | ⟨g, _, rfl, _⟩ <;> rfl
  ·rcases pre.inv.1 with h | h
   ·exact .inl (by omega)
   ·exact .inr h
  ·exact pre.inv.2 j (hp.mem_iff.2 (List.mem_cons_of_mem _ hj))
 | node b k =>
  refine ldP_w hc2 ?_
  rw [fB_eq]
  refine ifA_w (fun hx => absurd hx (by simp [isNilP])) (fun _ => ?_)
  obtain ⟨hd4, hmore, hkids⟩ := inv_node.1 pre.inv
  refine rowK_w gr2 ?_
  rw [ldG_all (fr4 _) (by decide)]
  refine tcK_w tc2 (rowK_w gi2 (ldI_w rfl (asMp_w (mapK_w tc2.map (pos_w fun _ => ?_))))) rfl
  show asG (.agg (ptC _)) _ = true
  rw [asG_]
  refine hw _ _ _ _ _ _ pre.good hd4 fun H3 hL3 => arI_w ?_
  have ga3 := (hL3.get a (fr2.has a pre.sq.has)).trans ga2
  have gr3 := (hL3.get _ hr2).trans gr2
  have gi3 := (hL3.get _ hi2).trans gi2
  have hk4 := kid_lt (posOf L id) x y d
  have hmk := mem_kid pre.inv pre.mem
  have hink := (pre.inv.mem id pre.mem).kid (by omega : d ≤ 4)
  generalize hkk : kid (posOf L id) x y d = kk at *
  refine getK_w ga3 (rowK_w ga3 (ldP_w hc2 (nilK_w (idxK_w (by omega) (by omega) ?_))))
  simp only [Int.toNat_natCast, Nat.mul_eq, Nat.zero_add]
  refine rowK_w gr3 ?_
  rw [ldG_all (fr4 _) (by decide)]
  refine getK_w gi3 (rowK_w gi3 (ldI_w rfl (hq _ _ _ _ _ _ pre.good hd4 hk4 fun H4 hL4 => ?_)))
  have ha4 := hL4.has a (hL3.has a (fr2.has a pre.sq.has))
  have ga4 := (hL4.get a (hL3.has a (fr2.has a pre.sq.has))).trans ga3
  have gi4 := (hL4.get _ (hL3.has _ hi2)).trans gi3
  refine okK_w (kSame_p gi4 rfl (kSame_p ga4 hpl (kSame_nil _))) ?_
  rw [asG_, Nat.mul_comm kk 3]
  have fr4' : Fr (fun c => c = a) H H4 := (fr2.trans (hL3.fr (fun c => c = a)) fun c h => .inl h).trans (hL4.fr (fun c => c = a)) fun c h => .inl h
  have tc4 := (tc2.le hL3).le hL4
  have ok4 : (QT.node b k).ok H4 := pre.sq.ok.fr fr4' fun c hc h => pre.sq.off (h ▸ hc)
  have own_k : ∀ c, (k kk).own c → (QT.node b k).own c := fun c hc => own_node.2 (.inr ⟨kk, hk4, hc⟩)
  have own_b : (QT.node b k).own b := own_node.2 (.inl rfl)
  have lenk : (k kk).all.length ≤ (QT.node b k).all.length := by
   refine lt4 (P := fun i => (k i).all.length ≤ (QT.node b k).all.length) ?_ ?_ ?_ ?_ kk hk4 <;> simp only [QT.all, List.length_append] <;> omega
  refine hr (d + 1) (by omega) (by omega) H4 tg m L b (3 * kk) (c4 k) (k kk) (kx x d kk) (ky y d kk) id _
   ⟨tc4, SqAt.kid ok4 pre.sq.sep hk4, fun h => pre.mq (h ▸ own_b), fun h => pre.mq (own_k _ h), fun h => pre.tq (own_k _ h), fun h => absurd own_b (h ▸ pre.tq), pre.good.kid (by omega) hk4, by omega, hkids kk hk4, hmk, nodup_kid pre.nod kk hk4, by omega⟩ ?_
  intro H9 q9 f9 s9 i9 p9 g9
  obtain ⟨w1, w2, w3⟩ := node_upd (G := fun _ => False) hk4 ok4 pre.sq.sep (f9.mono fun _ h => .inl h) (fun _ h => h.elim) s9 g9
  have hperm := all_upd_rem k q9 b id kk hk4 p9
  have hlen' := perm_len hperm
  show tup0 (AV.tup []) _ = true
  rw [tup0_]
  have hab : ¬ (a = b ∨ (k kk).own a) := by
   rintro (h | h)
   ·exact pre.sq.off (h ▸ own_b)
   ·exact pre.sq.off (own_k _ h)
  have ha9 := f9.has a ha4
  have ga9 := (f9.get a ha4 hab).trans ga4
  have fr9 : Fr (fun c => c = a ∨ (QT.node b k).own c) H H9 := (fr4'.mono fun _ h => .inl h).trans f9 fun c h => .inl (.inr (h.elim (fun e => e ▸ own_b) (own_k c)))
  have grow : ∀ c, (QT.node b (updK4 k kk q9)).own c → (QT.node b k).own c ∨ ¬ H.has c := fun c hc => (w3 c hc).imp (fun h => h) fun h h' => h (fr4'.has c h')
  have off9 : ¬ (QT.node b (updK4 k kk q9)).own a := fun h => (w3 a h).elim pre.sq.off fun h' => h' ha4
  refine rowK_w ga9 (ldI_w hc0 ?_)
  rw [fB_eq, iLe_dec]
  have hkids9 : ∀ j, j < 4 → Inv (posOf L) (updK4 k kk q9 j) (kx x d j) (ky y d j) (d + 1) := fun j hj => by
   unfold updK4
   split
   ·rename_i e; subst e; exact i9
   ·exact hkids j hj
  have hc0' : cs1[o]? = some (.int .i64 ((QT.node b (updK4 k kk q9)).all.length : Nat)) := by rw [hc0, hlen']; simp
  have sq9 : SqAt H9 a o cs1 (.node b (updK4 k kk q9)) := ⟨ha9, ga9, hc0', hc1, hc2, w1, w2, off9, hpl⟩
  refine ifA_w (fun hx => ?_) (fun hx => ?_)
  ·have hx := of_decide_eq_true hx
   have hlow : (QT.node b (updK4 k kk q9)).low (4 - d) := by
    obtain ⟨h, hh⟩ : ∃ h, 4 - d = h + 1 := ⟨3 - d, by omega⟩
    rw [hh]
    exact fun i hi => (hkids9 i hi).low h (by omega)
   refine hall (4 - d) (by omega) _ _ _ _ _ _ sq9 hlow (by omega) fun H10 p c z hL10 hs10 hf10 hcap10 => ?_
   rw [asSl_]
   have ga10 := (hL10.get a ha9).trans ga9
   refine sto1_w ga10 (by omega) (sto1_w (get_put _ _ _) (by simp; omega) ?_)
   generalize hids : (QT.node b (updK4 k kk q9)).all = ids at *
   have hsq : setSq cs o (.leaf p c z ids) = (cs1.set (o + 1) (.slice p ids.length c z)).set (o + 2) (.ptr .nil) := by
    rw [← hcs1]
    unfold setSq
    show ((cs.set o (.int .i64 ((ids.length : Nat) : Int))).set (o + 1) (.slice p ids.length c z)).set (o + 2) (.ptr .nil) = _
    rw [show ((ids.length : Nat) : Int) = ((QT.node b k).all.length : Int) - 1 by omega]
   have hgl := setSq_get (cs := cs) (o := o) (q := .leaf p c z ids) hlt
   rw [← hsq]
   have hpa : ∀ c, ownP p c → c ≠ a := fun c hc h => hf10 c hc (h ▸ ha9)
   refine post _ (.leaf p c z ids) (((fr9.trans (hL10.fr fun _ => False) fun _ h => h.elim).put (.inl (.inl rfl)) _).put (.inl (.inl rfl)) _) ⟨has_put (has_put (hL10.has a ha9)), get_put _ _ _, hgl.1, hgl.2.1, hgl.2.2, ⟨hs10.fr (((Fr.refl (fun b => b = a) _).put (.inl rfl) _).put (.inl rfl) _) hpa, hcap10⟩, trivial, fun h => hpa a h rfl, ?_⟩
    ⟨.inl (by omega), fun j hj => pre.inv.mem j (hperm.mem_iff.2 (List.mem_cons_of_mem _ hj))⟩ hperm fun c hc => .inr fun h => hf10 c hc (fr9.has c h)
   rw [hsq]
   refine set_plain (set_plain hpl ?_ _) rfl _
   rcases hs10.2 with ⟨rfl, _⟩ | ⟨g, _, rfl, _⟩ <;> rfl
  ·have hx := of_decide_eq_false hx
   have hsq : setSq cs o (QT.node b (updK4 k kk q9)) = cs1 := by
    rw [← hcs1]
    unfold setSq
    rw [set_id (o := o + 1), set_id (o := o + 2)]
    ·congr 2
     rw [hlen']
     omega
    ·rw [List.getElem?_set_ne (by omega)]; exact pre.sq.c2
    ·rw [List.getElem?_set_ne (by omega)]; exact pre.sq.c1
   exact post _ _ fr9 (by rw [hsq]; exact sq9) (inv_node.2 ⟨hd4, by omega, hkids9⟩) hperm grow
end Go.Proofs
end
