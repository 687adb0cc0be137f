/- Choices: the map from the names that are found to their places, plainly. The reference of choices: Find, Asked: walks. Choices: where a package is: walks. Choices: what stands in memory while a table's names are searched. Choices: Table's search of names: the walk. -/
import Derived.Test.YtbgimpeklblcjaaGreatDoorChSames
import Derived.Maps.OwnSet
import Derived.Sort.KeysCollected
import Derived.Test.YtbgimpeklblcjaaGreatDoorChOffers
import Derived.OneCell
namespace Go
open Go.RowKit Go.Maps
/-- the map from names to their places -/
def idxMap (l : List Nam) : DataW Unit := l.zipIdx.foldl (fun m p => m.put (.string p.1) (.lit (.int .i64 (p.2 : Int)))) (.map [])
theorem idxMap_snoc (l : List Nam) (a : Nam) : idxMap (l ++ [a]) = (idxMap l).put (.string a) (.lit (.int .i64 (l.length : Int))) := by
 unfold idxMap; rw [List.zipIdx_append, List.foldl_append]; simp
theorem snoc_ind {α : Type} {p : List α → Prop} (h0 : p []) (h1 : ∀ l a, p l → p (l ++ [a])) (l : List α) : p l := by
 have : ∀ l : List α, p l.reverse := fun l => by
  induction l with
  | nil => exact h0
  | cons a l ih => rw [List.reverse_cons]; exact h1 _ _ ih
 have h := this l.reverse
 rwa [List.reverse_reverse] at h
theorem tidy_idx (l : List Nam) : Tidy (idxMap l) := by
 induction l using snoc_ind with
 | h0 => exact tidy_empty
 | h1 l a ih => rw [idxMap_snoc]; exact ih.put (k := .string a) (show WideAt.IsKeyLit (.string a) from trivial) _
theorem has_idx (l : List Nam) (x : Nam) : Maps.has (idxMap l) (.string x) = decide (x ∈ l) := by
 induction l using snoc_ind with
 | h0 => rfl
 | h1 l a ih =>
  rw [idxMap_snoc]
  by_cases h : x = a
  ·subst h
   rw [has_put_same (tidy_idx l).isMap (show WideAt.IsKeyLit (.string x) from trivial)]; simp
  ·rw [has_put_other (by simpa using h), ih]
   simp [h]
theorem size_idx (l : List Nam) (h : l.Nodup) : Maps.size (idxMap l) = l.length := by
 induction l using snoc_ind with
 | h0 => rfl
 | h1 l a ih =>
  have h1 := (List.nodup_append.1 h).1
  have h2 : a ∉ l := fun hm => (List.nodup_append.1 h).2.2 a hm a (by simp) rfl
  rw [idxMap_snoc, size_put (tidy_idx l), has_idx, if_neg (by simpa using h2), ih h1]; simp
theorem at_idx (l : List Nam) (h : l.Nodup) : ∀ (i : Nat) (hi : i < l.length) (z : DataW Unit), (idxMap l).atKey (.string l[i]) z = .lit (.int .i64 (i : Int)) := by
 induction l using snoc_ind with
 | h0 => intro i hi; cases hi
 | h1 l a ih =>
  intro i hi z
  have h1 := (List.nodup_append.1 h).1
  have h2 : a ∉ l := fun hm => (List.nodup_append.1 h).2.2 a hm a (by simp) rfl
  rw [idxMap_snoc]
  by_cases hlt : i < l.length
  ·have hm := List.getElem_mem hlt
   rw [List.getElem_append_left hlt, atKey_put_other (fun e => h2 (by injection e with e; rw [← e]; exact hm)), ih h1 i hlt]
  ·have hie : i = l.length := by simp at hi; omega
   subst hie
   rw [List.getElem_append_right (Nat.le_refl _)]
   simp only [Nat.sub_self, List.getElem_cons_zero]
   rw [atKey_put_same (tidy_idx l).isMap (show WideAt.IsKeyLit (.string a) from trivial)]
theorem idx_perm {P : Program} {k : TypeId} {R : Value → Option (DataW Unit × List MemPlace)} {w : World} {b n : Nat} {l : List Nam} (hown : w.ownsMap P k R b n (idxMap l)) (K : Keyed P k) (hk : P.underlying k = some .string) (hl : l.Nodup) : l.Perm (strKeys (idxMap l)) := by
 obtain ⟨es, hD, hpw, _⟩ := hown.entries K
 obtain ⟨es', hD', hko⟩ := hown.keysOf
 obtain rfl : es = es' := by rw [hD] at hD'; simpa using hD'
 have hi := has_idx l
 rw [hD] at hi ⊢
 exact perm_strKeys hpw (fun p hp => by obtain ⟨v, hv⟩ := hko p hp; obtain ⟨x, _, hx, _⟩ := Maps.keyOf_str hk hv; exact ⟨x, hx⟩) hl (fun x => by rw [hi]; simp)
theorem nam_lt_of_le {x y : Nam} (h : x ≤ y) (hne : x ≠ y) : x < y := by
 rcases List.le_iff_lt_or_eq.1 h with h | h
 ·exact h
 ·exact absurd h hne
/-- sorted and without a second one: they rise -/
theorem sorted_up {l s : List Nam} (hl : l.Nodup) (hp : s.Perm l) : (s.mergeSort (fun x y => decide (x ≤ y))).Pairwise (· < ·) := by
 have h1 : (s.mergeSort (fun x y => decide (x ≤ y))).Pairwise (fun x y => decide (x ≤ y) = true) :=
  List.pairwise_mergeSort (fun a b c h h' => by simp at h h' ⊢; exact Std.le_trans h h') (fun a b => by simp; exact Std.le_total) s
 have h2 : (s.mergeSort (fun x y => decide (x ≤ y))).Nodup := ((List.mergeSort_perm s _).trans hp).nodup_iff.2 hl
 refine List.Pairwise.imp₂ ?_ h1 h2
 intro a b h3 h4
 exact nam_lt_of_le (by simpa using h3) h4
/-- a cell that is written is its block's alone -/
theorem grown_setCell (w : World) (a : Addr) (u : Value) : w.grownBy (w.setCell a u) (some a.block) :=
 ⟨rfl, rfl, rfl, by simp, fun _ _ hne => RowKit.Below.heap_setCell _ _ _ _ (fun e => hne (by rw [e]))⟩
end Go

namespace Go
theorem findP_at {nm : ByteArray} : ∀ (ps : List DPack) (k : Nat) (hk : k < ps.length), (∀ j (hj : j < ps.length), j < k → ps[j].name ≠ nm) → ps[k].name = nm → findP ps nm = ps[k]
 | p :: ps, 0, _, _, h2 => by
  have : p.name = nm := h2
  unfold findP; simp [this]
 | p :: ps, k + 1, hk, h1, h2 => by
  have h0 : p.name ≠ nm := h1 0 (by simp) (by omega)
  have ih := findP_at ps k (by simpa using hk) (fun j hj hjk => h1 (j + 1) (by simpa using hj) (by omega)) h2
  unfold findP at ih ⊢
  rw [List.find?_cons, show decide (p.name = nm) = false from decide_eq_false h0]
  exact ih
theorem findP_none {nm : ByteArray} {ps : List DPack} (h : ∀ j (hj : j < ps.length), ps[j].name ≠ nm) : findP ps nm = ⟨nm, [], none, 0⟩ := by
 have : (ps.find? fun p => decide (p.name = nm)) = none := by
  rw [List.find?_eq_none]
  intro x hx
  obtain ⟨j, hj, rfl⟩ := List.getElem_of_mem hx
  simpa using h j hj
 unfold findP; rw [this]; rfl
end Go
namespace Go.Proofs.YtbgimpeklblcjaaGreatDoor
open Go.RowKit
def AkRel (ns : List (Want × Value)) (nm : ByteArray) (w : World) (i : Value) (wr : World) : Prop :=
 ∃ k : Nat, k ≤ ns.length ∧ i = .int .i64 (k : Int) ∧ (∀ j (h : j < ns.length), j < k → ns[j].1.name ≠ nm.data.toList) ∧ Below w.heap.size w wr
/-- is a name asked for? -/
def askedB (ns : List (Want × Value)) (nm : ByteArray) : Bool := ns.any fun x => decide (x.1.name = nm.data.toList)
set_option maxRecDepth 100000 in
set_option maxHeartbeats 2000000 in
theorem rasked_any (v : Value) (ns : List (Want × Value)) (nm : ByteArray) (w : World) (hv : Wants w v ns) :
  Calls Tryz.prog 90 #[v, .string nm] w fun e w' => e = .returned (.bool (askedB ns nm)) ∧ Below w.heap.size w w' := by
 obtain ⟨hmx, a0, cap0, rfl⟩ := hv.len
 have hmx2 : ns.length ≤ 9223372036854775807 := Nat.le_trans hmx (by decide)
 have HV := Lib.hid hv
 clear hv hmx
 go_enter Tryz.func90, Tryz.ntmps90
 go_wp2_with fail
 go_loopw [5] (fun i wr => AkRel ns nm w i wr) (fun i _ => ns.length - (intOf i).toNat)
 case atStart => exact ⟨0, Nat.zero_le _, rfl, fun j _ h => absurd h (Nat.not_lt_zero _), Below.refl _ _⟩
 case round =>
  obtain ⟨k, hk, rfl, hall, hb⟩ := hrel
  have HA := Lib.hid hall
  clear hall
  by_cases hlt : k < ns.length
  ·have i0 : (0 : Int) ≤ (k : Int) := by omega
   have i1 : (k : Int) < (ns.length : Int) := by omega
   obtain ⟨bx, ox, rfl, hbx, c0, _⟩ := HV.out.at' hb hlt
   have HM := Lib.hid (List.getElem_mem hlt)
   obtain ⟨x, hxe⟩ : ∃ x, ns[k] = x := ⟨_, rfl⟩
   rw [hxe] at c0 HM
   have HX := Lib.hid hxe
   clear hxe
   by_cases he : x.1.name = nm.data.toList
   ·have e1 : ((S x.1.name).toList == nm.toList) = true := by rw [Lib.toList_data, Lib.toList_data, S_data]; exact beq_iff_eq.2 he
    have hp : (S x.1.name).toList = nm.toList := beq_iff_eq.1 e1
    have HF : Hid (askedB ns nm = true) := List.any_eq_true.2 ⟨x, HM.out, decide_eq_true he⟩
    clear he
    go_wp2_with fail
    go_ret
    exact ⟨by rw [HF.out]; rfl, hb⟩
   ·have e1 : ((S x.1.name).toList == nm.toList) = false := by rw [Lib.toList_data, Lib.toList_data, S_data]; exact beq_eq_false_iff_ne.2 he
    have hp : ¬ (S x.1.name).toList = nm.toList := beq_eq_false_iff_ne.1 e1
    have HNe := Lib.hid he
    clear he
    go_wp2_with fail
    go_roundw
    case rel =>
     refine ⟨k + 1, hlt, by go_num, fun j h hj => ?_, hb⟩
     by_cases hjk : j < k
     ·exact HA.out j h hjk
     ·have : j = k := by omega
      subst this
      rw [HX.out]; exact HNe.out
    case measure => simp [intOf]; omega
  ·have q5 : decide (k < ns.length) = false := decide_eq_false hlt
   have HF : Hid (askedB ns nm = false) := by
    show _ = _
    unfold askedB
    rw [List.any_eq_false]
    intro x hx
    obtain ⟨j, hj, rfl⟩ := List.getElem_of_mem hx
    simpa using HA.out j hj (by omega)
   clear hlt
   go_wp2_with fail
   go_ret
   exact ⟨by rw [HF.out]; rfl, hb⟩
set_option maxRecDepth 100000 in
set_option maxHeartbeats 2000000 in
theorem rfind_any (v : Value) (ps : List DPack) (nm : ByteArray) (w : World) (hv : Packs w v ps) :
  Calls Tryz.prog 21 #[v, .string nm] w fun e w' => e = .returned (.agg #[.string (findP ps nm).name, (findP ps nm).ov]) ∧ Below w.heap.size w w' := by
 obtain ⟨hmx, a0, cap0, rfl⟩ := hv.len
 have hmx2 : ps.length ≤ 9223372036854775807 := Nat.le_trans hmx (by decide)
 have HV := Lib.hid hv
 clear hv hmx
 go_enter Tryz.func21, Tryz.ntmps21
 go_wp2_with fail
 go_loopw [5] (fun i wr => ∃ k : Nat, k ≤ ps.length ∧ i = .int .i64 (k : Int) ∧ (∀ j (h : j < ps.length), j < k → ps[j].name ≠ nm) ∧ Below (w.heap.size + 1) (w.alloc (.cells #[.string ⟨#[]⟩, .slice none 0 0] 52)) wr) (fun i _ => ps.length - (intOf i).toNat)
 case atStart => exact ⟨0, Nat.zero_le _, rfl, fun j _ h => absurd h (Nat.not_lt_zero _), Below.refl _ _⟩
 case round =>
  obtain ⟨k, hk, rfl, hall, hb⟩ := hrel
  have HA := Lib.hid hall
  have hW := below_first hb
  have d0 := box_cells hb 0
  have d1 := box_cells hb 1
  have f0 := box_free hb 0
  have f1 := box_free hb 1
  simp only [List.getElem?_toArray, List.getElem?_cons_zero, List.getElem?_cons_succ] at d0 d1
  have hz := cell_lt d0
  clear hall
  by_cases hlt : k < ps.length
  ·have i0 : (0 : Int) ≤ (k : Int) := by omega
   have i1 : (k : Int) < (ps.length : Int) := by omega
   obtain ⟨bx, ox, rfl, hbx, c0, c1⟩ := HV.out.at' hW hlt
   obtain ⟨⟨xn, xo, xa, xc⟩, hxe⟩ : ∃ x, ps[k] = x := ⟨_, rfl⟩
   rw [hxe] at c0 c1
   simp only [DPack.ov] at c0 c1
   have HX := Lib.hid hxe
   clear hxe
   by_cases he : xn = nm
   ·subst he
    have e1 : (xn.toList == xn.toList) = true := beq_self_eq_true _
    have HF : Hid (findP ps xn = ⟨xn, xo, xa, xc⟩) := by
     show _ = _
     rw [findP_at ps k hlt HA.out (by rw [HX.out]), HX.out]
    go_wp2_with fail
    refine bodyPost_ret (v := .agg #[.string xn, .slice xa xo.length xc]) (by simp [results, Tryz.results21, go_sem, d0, d1]) rfl ⟨by rw [HF.out]; rfl, ?_⟩
    exact (hW.setCell (p := ⟨w.heap.size, 0, none⟩) (Nat.le_refl w.heap.size) _).setCell (p := ⟨w.heap.size, 1, none⟩) (Nat.le_refl w.heap.size) _
   ·have e1 : (xn.toList == nm.toList) = false := by rw [beq_eq_false_iff_ne]; exact fun h => he (bytes_injC h)
    have hp : ¬ xn.toList = nm.toList := beq_eq_false_iff_ne.1 e1
    have HNe := Lib.hid he
    clear he
    go_wp2_with fail
    go_roundw
    case rel =>
     refine ⟨k + 1, hlt, by go_num, fun j h hj => ?_, hb⟩
     by_cases hjk : j < k
     ·exact HA.out j h hjk
     ·have : j = k := by omega
      subst this
      rw [HX.out]; exact HNe.out
    case measure => simp [intOf]; omega
  ·have q5 : decide (k < ps.length) = false := decide_eq_false hlt
   have HF : Hid (findP ps nm = ⟨nm, [], none, 0⟩) := findP_none (fun j hj => HA.out j hj (by omega))
   clear hlt
   go_wp2_with fail
   refine bodyPost_ret (v := .agg #[.string nm, .slice none 0 0]) (by simp [results, Tryz.results21, go_sem, d0, d1]) rfl ⟨by rw [HF.out]; rfl, ?_⟩
   exact (hW.setCell (p := ⟨w.heap.size, 0, none⟩) (Nat.le_refl w.heap.size) _).setCell (p := ⟨w.heap.size, 1, none⟩) (Nat.le_refl w.heap.size) _
end Go.Proofs.YtbgimpeklblcjaaGreatDoor

namespace Go
/-- where a name's package is, or -1 -/
def PackAt (ps : List DPack) (n : ByteArray) (r : Int) : Prop := (∃ i, ∃ h : i < ps.length, r = (i : Int) ∧ findP ps n = ps[i]) ∨ (r = -1 ∧ findP ps n = ⟨n, [], none, 0⟩)
end Go
namespace Go.Proofs.YtbgimpeklblcjaaGreatDoor
open Go.RowKit
set_option maxRecDepth 100000 in
set_option maxHeartbeats 1000000 in
theorem pack1_as (x : DPack) (b : Nat) (nm : ByteArray) (r : Bool) (hr : (x.name.toList == nm.toList) = r) (w : World) (hc : w.cell? ⟨b, 0, none⟩ = some (.string nm)) :
  Calls Tryz.prog 109 #[.agg #[.string x.name, x.ov], .pointer (some ⟨b, 0, none⟩)] w fun e w' => e = .returned (.bool r) ∧ Below w.heap.size w w' := by
 have hW := (Below.refl w.heap.size w).alloc (Nat.le_refl _) (.cells #[.string x.name, x.ov] 52)
 have hz := cell_lt hc
 have c1 := (hW.cell (p := ⟨b, 0, none⟩) hz).trans hc
 go_enter Tryz.func109, Tryz.ntmps109
 go_wp2_with fail
 go_ret
 exact ⟨rfl, hW⟩
def PxRel (ps : List DPack) (n : ByteArray) (w : World) (i : Value) (wr : World) : Prop :=
 ∃ k : Nat, k ≤ ps.length ∧ i = .int .i64 (k : Int) ∧ (∀ j (h : j < ps.length), j < k → ps[j].name ≠ n) ∧ Below w.heap.size w wr
set_option maxRecDepth 100000 in
set_option maxHeartbeats 2000000 in
theorem packIx_any (v : Value) (ps : List DPack) (b : Nat) (nm : ByteArray) (w : World) (hv : Packs w v ps) (hc : w.cell? ⟨b, 0, none⟩ = some (.string nm)) :
  Calls Tryz.prog 25 #[v, .func (.func 109) #[] #[.pointer (some ⟨b, 0, none⟩)]] w fun e w' => ∃ r, e = .returned (.int .i64 r) ∧ PackAt ps nm r ∧ Below w.heap.size w w' := by
 obtain ⟨hmx, a0, cap0, rfl⟩ := hv.len
 have HV := Lib.hid hv
 have hmx2 : ps.length ≤ 9223372036854775807 := Nat.le_trans hmx (by decide)
 have HC := Lib.hid hc
 have hz := cell_lt hc
 clear hv hc hmx
 go_enter Tryz.func25, Tryz.ntmps25
 go_wp2_with fail
 go_loopw [8] (fun i wr => PxRel ps nm w i wr) (fun i _ => ps.length - (intOf i).toNat)
 case atStart => exact ⟨0, Nat.zero_le _, rfl, fun j h h' => by omega, Below.refl _ _⟩
 case round =>
  obtain ⟨k, hk, rfl, hall, hb⟩ := hrel
  have HA := Lib.hid hall
  clear hall
  by_cases hlt : k < ps.length
  ·have i0 : (0 : Int) ≤ (k : Int) := by omega
   have i1 : (k : Int) < (ps.length : Int) := by omega
   obtain ⟨bx, ox, rfl, hbx, c0, c1⟩ := HV.out.at' hb hlt
   obtain ⟨x, hxe⟩ : ∃ x, ps[k] = x := ⟨_, rfl⟩
   rw [hxe] at c0 c1
   have HX := Lib.hid hxe
   have cb := cell_on HC.out hb
   clear hxe
   by_cases he : x.name = nm
   ·have hr : (x.name.toList == nm.toList) = true := by rw [he]; exact beq_self_eq_true _
    have HN : Hid (PackAt ps nm (k : Int)) := .inl ⟨k, hlt, rfl, findP_at ps k hlt HA.out (by rw [HX.out]; exact he)⟩
    have HF := Lib.hid (pack1_as x b nm true hr _ cb)
    clear he hr
    go_wp2_with fail
    refine HF.out.mono ?_
    rintro e w1 ⟨rfl, hb1⟩
    have hb2 := below_then hb hb1
    clear hb1
    go_wp2_with fail
    go_ret
    exact ⟨_, rfl, HN.out, hb2⟩
   ·have hr : (x.name.toList == nm.toList) = false := by rw [beq_eq_false_iff_ne]; exact fun h => he (bytes_injC h)
    have HF := Lib.hid (pack1_as x b nm false hr _ cb)
    have HNe := Lib.hid he
    clear he hr
    go_wp2_with fail
    refine HF.out.mono ?_
    rintro e w1 ⟨rfl, hb1⟩
    have hb2 := below_then hb hb1
    clear c0 c1 cb hb1
    go_wp2_with fail
    go_roundw
    case rel =>
     refine ⟨k + 1, hlt, by go_num, fun j h hj => ?_, hb2⟩
     by_cases hjk : j < k
     ·exact HA.out j h hjk
     ·have : j = k := by omega
      subst this
      rw [HX.out]; exact HNe.out
    case measure => simp [intOf]; omega
  ·have q5 : decide (k < ps.length) = false := decide_eq_false hlt
   have HN : Hid (PackAt ps nm (-1)) := .inr ⟨rfl, findP_none (fun j hj => HA.out j hj (by omega))⟩
   clear hlt
   go_wp2_with fail
   go_ret
   exact ⟨_, rfl, HN.out, hb⟩
end Go.Proofs.YtbgimpeklblcjaaGreatDoor

namespace Go
open Go.RowKit Go.Maps
theorem Row.same {w w' : World} {size n : Nat} {v : Value} {xs : List Value} (h : Row w size v n xs) (hs : w.heap.size ≤ w'.heap.size) (hb : 0 < n → ∀ b, v.ownBlock = some b → b < w.heap.size → w'.heap[b]? = w.heap[b]?) : Row w' size v n xs := by
 obtain ⟨h1, h2, h3 | ⟨b, off, cap, h3, h4, h5, h6⟩⟩ := h
 ·exact ⟨h1, h2, .inl h3⟩
 ·have hr := hb h4 b (by rw [h3]; rfl) h5
  refine ⟨h1, h2, .inr ⟨b, off, cap, h3, h4, Nat.lt_of_lt_of_le h5 hs, fun j hj => ?_⟩⟩
  rw [World.cell?_of_block (w := w) (a := ⟨b, off + j, none⟩) hr]
  exact h6 j hj
theorem Row.lt {w : World} {size n : Nat} {v : Value} {xs : List Value} (h : Row w size v n xs) (hn : 0 < n) {g : Nat} (hg : v.ownBlock = some g) : g < w.heap.size := by
 obtain ⟨_, _, ⟨a, cap, h3, h4, _⟩ | ⟨b, off, cap, h3, h4, h5, h6⟩⟩ := h
 ·omega
 ·rw [h3] at hg
  have h7 : b = g := by injection hg
  omega
theorem grown_none {w w' : World} (h : Below w.heap.size w w') : w.grownBy w' none := ⟨h.os, h.tape, h.output, h.size, fun k hk _ => h.block k hk⟩
theorem below_of_grown {B : Nat} {a w w' : World} {row : Option Nat} (h : Below B a w) (hg : w.grownBy w' row) (hB : B ≤ w.heap.size) (hr : ∀ k, row = some k → B ≤ k) : Below B a w' := h.grown hg hB hr
theorem own_fresh {B g : Nat} {v : Value} (h : FreshV B v) (hg : v.ownBlock = some g) : B ≤ g := by
 cases v with
 | slice a m c =>
  cases a with
  | none => cases hg
  | some a =>
   have := h a m c rfl
   have h4 : a.block = g := by injection hg
   omega
 | _ => cases hg
theorem opos {os : List DOff} (h : 0 < os.length) : os ≠ [] := List.length_pos_iff.1 h
end Go
namespace Go.Proofs.YtbgimpeklblcjaaGreatDoor
open Go.RowKit Go.Maps
/-- what a table is made from -/
structure TabCtx (lock : List Pik) (needs : List (Want × Value)) (ps : List DPack) (pk lk nv : Value) (w0 : World) : Prop where
 packs : Packs w0 pk ps
 piks : Piks w0 lk lock
 wants : Wants w0 nv needs
 env : Env w0
 pkos : ∀ p ∈ ps, p.os.length ≤ 1000000 ∧ ∀ o ∈ p.os, o.v.p.size ≤ 300
 ons : ∀ p ∈ ps, ∀ o ∈ p.os, o.ns.length ≤ 1000000 ∧ ∀ x ∈ o.ns, x.1.bs.length ≤ 1000
 nds : ∀ x ∈ needs, x.1.bs.length ≤ 1000 ∧ ∀ b ∈ x.1.bs, b.v.p.size ≤ 300
 names : ∀ a ∈ allNames needs ps, a.length ≤ 1000
 few : (allNames needs ps).length ≤ 1000000
def reachV (B : Nat) : Value := .func (.func 108) #[] #[.pointer (some ⟨B + 4, 0, none⟩), .pointer (some ⟨B, 0, none⟩), .pointer (some ⟨B + 1, 0, none⟩), .pointer (some ⟨B + 2, 0, none⟩), .pointer (some ⟨B + 5, 0, none⟩), .pointer (some ⟨B + 6, 0, none⟩)]
structure TabInv (lock : List Pik) (needs : List (Want × Value)) (ps : List DPack) (pk lk nv : Value) (w0 : World) (B : Nat) (w : World) (ts : List DPack) (va : Value) : Prop where
 below : Below B w0 w
 cPk : w.cell? ⟨B, 0, none⟩ = some pk
 cLk : w.cell? ⟨B + 1, 0, none⟩ = some lk
 cNd : w.cell? ⟨B + 2, 0, none⟩ = some nv
 cFd : w.cell? ⟨B + 4, 0, none⟩ = some (.map (some (B + 3)))
 bAl : w.heap[B + 5]? = some (.cells #[va] 22 (0, 0))
 cRe : w.cell? ⟨B + 6, 0, none⟩ = some (reachV B)
 map : w.ownsMap Tryz.prog 9 (plainElem Tryz.prog 3) (B + 3) ts.length (idxMap (ts.map pname))
 row : w.ownsRow (B + 7) 52 2 va ts.length (ts.flatMap DPack.cells)
 els : ∀ t ∈ ts, ChoiceIs lock t.name needs (findP ps t.name).os t.os ∧ ORow w t.ov t.os ∧ (t.os ≠ [] → FreshV (B + 7) t.ov ∧ ApartV t.ov va)
 nodup : (ts.map pname).Nodup
 names : ∀ t ∈ ts, pname t ∈ allNames needs ps
 size : B + 7 ≤ w.heap.size
section
variable {lock : List Pik} {needs : List (Want × Value)} {ps : List DPack} {pk lk nv : Value} {w0 : World} {B : Nat} {w w' : World} {ts : List DPack} {va : Value}
theorem TabInv.on (h : TabInv lock needs ps pk lk nv w0 B w ts va) (hb : Below w.heap.size w w') : TabInv lock needs ps pk lk nv w0 B w' ts va where
 below := h.below.trans (hb.mono (by have := h.size; omega))
 cPk := cell_on h.cPk hb
 cLk := cell_on h.cLk hb
 cNd := cell_on h.cNd hb
 cFd := cell_on h.cFd hb
 bAl := by rw [hb.block (B + 5) (by have := h.size; omega)]; exact h.bAl
 cRe := cell_on h.cRe hb
 map := h.map.kept (grown_none hb) (by simp)
 row := owns_below h.row hb
 els := fun t ht => ⟨(h.els t ht).1, (h.els t ht).2.1.below hb (Nat.le_refl _), (h.els t ht).2.2⟩
 nodup := h.nodup
 names := h.names
 size := Nat.le_trans h.size hb.size
theorem TabInv.cAl (h : TabInv lock needs ps pk lk nv w0 B w ts va) : w.cell? ⟨B + 5, 0, none⟩ = some va := cell_of_one h.bAl
theorem TabInv.fAl (h : TabInv lock needs ps pk lk nv w0 B w ts va) : w.frozen? ⟨B + 5, 0, none⟩ = false := free_of_one h.bAl
/-- one more is found -/
theorem TabInv.add (h : TabInv lock needs ps pk lk nv w0 B w ts va) {t : DPack} {w1 w2 w3 : World} {va' : Value} {m : Nat} (hw1 : w.mapTurned w1 (B + 3)) (hm : w1.ownsMap Tryz.prog 9 (plainElem Tryz.prog 3) (B + 3) (ts.length + 1) ((idxMap (ts.map pname)).put (.string (pname t)) (.lit (.int .i64 (ts.length : Int)))))
  (hw2 : Below w1.heap.size w1 w2) (hw3 : w2.grownBy w3 va.ownBlock) (hr : w3.ownsRow (B + 7) 52 2 va' m (ts.flatMap DPack.cells ++ t.cells)) (hm' : m = ts.length + 1) (hl : va'.ownBlock = va.ownBlock ∨ va'.ownBlock = some w2.heap.size)
  (hc : ChoiceIs lock t.name needs (findP ps t.name).os t.os) (ho : ORow w t.ov t.os) (hf : t.os ≠ [] → FreshV (B + 7) t.ov ∧ ApartV t.ov va) (hn : pname t ∉ ts.map pname) (ha : pname t ∈ allNames needs ps) :
  TabInv lock needs ps pk lk nv w0 B (w3.setCell ⟨B + 5, 0, none⟩ va') (ts ++ [t]) va' := by
 subst hm'
 have g1 := hw1.grown
 have g2 := grown_none hw2
 have g4 := grown_setCell w3 ⟨B + 5, 0, none⟩ va'
 have s1 := g1.size
 have s2 := g2.size
 have s3 := hw3.size
 have s4 := g4.size
 have hsz := h.size
 have hva : ∀ k, va.ownBlock = some k → B + 7 ≤ k ∧ k < w.heap.size := fun k hk => ⟨(h.row.lt k hk).1, (h.row.lt k hk).2⟩
 have hva' : ∀ k, va'.ownBlock = some k → B + 7 ≤ k := fun k hk => (hr.lt k hk).1
 have hblk : ∀ i, i < w.heap.size → i ≠ B + 3 → i ≠ B + 5 → va.ownBlock ≠ some i → (w3.setCell ⟨B + 5, 0, none⟩ va').heap[i]? = w.heap[i]? := fun i hi h3 h5 hv => by
  rw [g4.block i (by omega) (fun e => h5 (by injection e)), hw3.block i (by omega) (fun e => hv e.symm), g2.block i (by omega) (by simp), g1.block i hi (fun e => h3 (by injection e))]
 have hcell : ∀ i v, i < B + 7 → i ≠ B + 3 → i ≠ B + 5 → w.cell? ⟨i, 0, none⟩ = some v → (w3.setCell ⟨B + 5, 0, none⟩ va').cell? ⟨i, 0, none⟩ = some v := fun i v hi h3 h5 hc => by
  rw [World.cell?_of_block (w := w) (a := ⟨i, 0, none⟩) (hblk i (by omega) h3 h5 (fun e => by have := (hva i e).1; omega))]; exact hc
 have hrow : ∀ u os, ORow w u os → (os ≠ [] → FreshV (B + 7) u ∧ ApartV u va) → ORow (w3.setCell ⟨B + 5, 0, none⟩ va') u os := fun u os hu hu2 =>
  Row.same hu (by omega) fun hp b hb hlt => by
   obtain ⟨f1, f2⟩ := hu2 (opos hp)
   have := own_fresh f1 hb
   exact hblk b hlt (by omega) (by omega) (f2 b hb)
 have hap : ∀ u os, ORow w u os → (os ≠ [] → FreshV (B + 7) u ∧ ApartV u va) → (os ≠ [] → FreshV (B + 7) u ∧ ApartV u va') := fun u os hu hu2 hne => by
  obtain ⟨f1, f2⟩ := hu2 hne
  refine ⟨f1, fun g hg hg' => ?_⟩
  rcases hl with e | e
  ·rw [e] at hg'; exact f2 g hg hg'
  ·have := Row.lt hu (List.length_pos_iff.2 hne) hg
   rw [e] at hg'; injection hg' with hg'; omega
 have c5 : w3.heap[B + 5]? = w.heap[B + 5]? := by
  rw [hw3.block (B + 5) (by omega) (fun e => by have := (hva (B + 5) e.symm).1; omega), g2.block (B + 5) (by omega) (by simp), g1.block (B + 5) (by omega) (fun e => by injection e; omega)]
 have k1 : Below B w0 w1 := below_of_grown h.below g1 (by omega) (fun k e => by injection e; omega)
 have k2 : Below B w0 w2 := k1.trans (hw2.mono (by omega))
 have k3 : Below B w0 w3 := below_of_grown k2 hw3 (by omega) (fun k e => by have := (hva k e).1; omega)
 refine ⟨below_of_grown k3 g4 (by omega) (fun k e => by injection e with e; simp only at e; omega), hcell _ _ (by omega) (by omega) (by omega) h.cPk, hcell _ _ (by omega) (by omega) (by omega) h.cLk, hcell _ _ (by omega) (by omega) (by omega) h.cNd,
  hcell _ _ (by omega) (by omega) (by omega) h.cFd, ?_, hcell _ _ (by omega) (by omega) (by omega) h.cRe, ?_, ?_, ?_, ?_, ?_, by omega⟩
 ·refine one_setCell (v := va) ?_
  rw [c5]; exact h.bAl
 ·rw [List.map_append, List.map_cons, List.map_nil, idxMap_snoc, List.length_append, List.length_map]
  refine World.ownsMap.setCell ?_ (by show B + 3 ≠ B + 5; omega) _
  exact (hm.kept g2 (by simp)).kept hw3 (fun e => by have := (hva (B + 3) e.symm).1; omega)
 ·rw [List.flatMap_append, List.length_append]
  have h5 := hr.kept g4 (by
   cases hv : va'.ownBlock with
   | none => exact .inl rfl
   | some g => right; intro e; injection e with e; simp only at e; have := hva' g hv; omega)
  simpa using h5
 ·intro x hx
  rcases List.mem_append.1 hx with hx | hx
  ·obtain ⟨e1, e2, e3⟩ := h.els x hx
   exact ⟨e1, hrow _ _ e2 e3, hap _ _ e2 e3⟩
  ·simp at hx; subst hx
   exact ⟨hc, hrow _ _ ho hf, hap _ _ ho hf⟩
 ·rw [List.map_append, List.nodup_append]
  refine ⟨h.nodup, by simp, fun a ha b hb => ?_⟩
  simp at hb; subst hb
  intro e; subst e; exact hn ha
 ·intro x hx
  rcases List.mem_append.1 hx with hx | hx
  ·exact h.names x hx
  ·simp at hx; subst hx; exact ha
end
end Go.Proofs.YtbgimpeklblcjaaGreatDoor

namespace Go.Proofs.YtbgimpeklblcjaaGreatDoor
open Go.RowKit Go.Maps
theorem keyS : Keyed Tryz.prog 9 := string_keyed Tryz.underlying9
theorem zeroI (w : World) : (zeroValue 3).run Tryz.prog w = .ok (.int .i64 0) w := by kernel_rfl
theorem info_pack : (Tryz.prog.info? 52).map (fun i => (i.zero, i.size, i.bytes)) = some (some (.agg #[.string ⟨#[]⟩, .slice none 0 0]), 2, 40) := by kernel_rfl
theorem pack2_at (w : World) (B : Nat) (hB : B = w.heap.size) (a b : Value) (t : TypeId) : ∀ j u, [a, b][j]? = some u → (w.alloc (.cells #[a, b] t)).cell? ((⟨B, 0, none⟩ : Addr).add j) = some u := by
 subst hB
 intro j u hj
 match j, hj with
 | 0, hj => simp at hj; subst hj; simp [Addr.add]
 | 1, hj => simp at hj; subst hj; simp [Addr.add]
/-- the choices of a name lie there: behind a world, the name in its next block, the package in the one behind -/
def PickedAt (lock : List Pik) (needs : List (Want × Value)) (ps : List DPack) (nm : ByteArray) (w wx : World) : Prop :=
 ∃ out oa oc, ChoiceIs lock nm needs (findP ps nm).os out ∧ ORow wx (.slice oa out.length oc) out ∧ FreshV w.heap.size (.slice oa out.length oc) ∧
  wx.cell? ⟨w.heap.size, 0, none⟩ = some (.string nm) ∧ wx.cell? ⟨w.heap.size + 1, 0, none⟩ = some (.string nm) ∧ wx.cell? ⟨w.heap.size + 1, 1, none⟩ = some (.slice oa out.length oc) ∧ w.heap.size + 1 < wx.heap.size ∧ Below w.heap.size w wx
theorem choice_nil (lock : List Pik) (nm : ByteArray) (needs : List (Want × Value)) : ChoiceIs lock nm needs [] [] := ⟨List.Perm.refl _, List.Pairwise.nil⟩
def TcRel (lock : List Pik) (needs : List (Want × Value)) (ps : List DPack) (pk lk nv : Value) (w0 : World) (B : Nat) (ts : List DPack) (nm : Nam) (t : DPack) (i : Value) (wr : World) : Prop :=
 ∃ (k : Nat) (ts' : List DPack) (va' : Value), k ≤ t.os.length ∧ i = .int .i64 (k : Int) ∧ TabInv lock needs ps pk lk nv w0 B wr ts' va' ∧ (∃ r, ts' = ts ++ t :: r) ∧ Grows (EdgeN lock needs ps) (ts.map pname) (ts'.map pname) nm ∧
  (∀ o ∈ t.os.take k, ∀ n ∈ o.ns, wname n ∈ ts'.map pname)
def TcRel2 (lock : List Pik) (needs : List (Want × Value)) (ps : List DPack) (pk lk nv : Value) (w0 : World) (B : Nat) (ts : List DPack) (nm : Nam) (t : DPack) (k : Nat) (o : DOff) (i : Value) (wr : World) : Prop :=
 ∃ (j : Nat) (ts' : List DPack) (va' : Value), j ≤ o.ns.length ∧ i = .int .i64 (j : Int) ∧ TabInv lock needs ps pk lk nv w0 B wr ts' va' ∧ (∃ r, ts' = ts ++ t :: r) ∧ Grows (EdgeN lock needs ps) (ts.map pname) (ts'.map pname) nm ∧
  (∀ o ∈ t.os.take k, ∀ n ∈ o.ns, wname n ∈ ts'.map pname) ∧ ∀ n ∈ o.ns.take j, wname n ∈ ts'.map pname
theorem TabCtx.off {lock : List Pik} {needs : List (Want × Value)} {ps : List DPack} {pk lk nv : Value} {w0 : World} (C : TabCtx lock needs ps pk lk nv w0) {nm : ByteArray} {out : List DOff} (hc : ChoiceIs lock nm needs (findP ps nm).os out) {o : DOff} (ho : o ∈ out) : o.ok w0 := by
 rcases selL_sub _ _ (hc.1.mem_iff.1 ho) with h | h
 ·cases h
 ·obtain ⟨p, hp, ho⟩ := findP_os h
  exact (C.packs.2 p hp).1.2 o ho
theorem TabCtx.off2 {lock : List Pik} {needs : List (Want × Value)} {ps : List DPack} {pk lk nv : Value} {w0 : World} (C : TabCtx lock needs ps pk lk nv w0) {nm : ByteArray} {out : List DOff} (hc : ChoiceIs lock nm needs (findP ps nm).os out) {o : DOff} (ho : o ∈ out) : o.ns.length ≤ 1000000 ∧ ∀ x ∈ o.ns, x.1.bs.length ≤ 1000 := by
 rcases selL_sub _ _ (hc.1.mem_iff.1 ho) with h | h
 ·cases h
 ·obtain ⟨p, hp, ho⟩ := findP_os h
  exact C.ons p hp o ho
set_option maxRecDepth 100000 in
set_option maxHeartbeats 8000000 in
theorem reach_any {lock : List Pik} {needs : List (Want × Value)} {ps : List DPack} {pk lk nv : Value} {w0 : World} {B : Nat} (hB : w0.heap.size = B) (C : TabCtx lock needs ps pk lk nv w0) (m : Nat) :
  ∀ (nm : Nam) (w : World) (ts : List DPack) (va : Value), TabInv lock needs ps pk lk nv w0 B w ts va → leftN (allNames needs ps) (ts.map pname) = m → nm ∈ allNames needs ps →
  Calls Tryz.prog 108 #[.string (S nm), .pointer (some ⟨B + 4, 0, none⟩), .pointer (some ⟨B, 0, none⟩), .pointer (some ⟨B + 1, 0, none⟩), .pointer (some ⟨B + 2, 0, none⟩), .pointer (some ⟨B + 5, 0, none⟩), .pointer (some ⟨B + 6, 0, none⟩)] w
   fun e w' => e = .returned (.tuple #[]) ∧ ∃ ts' va', TabInv lock needs ps pk lk nv w0 B w' ts' va' ∧ (∃ r, ts' = ts ++ r) ∧ Grew (EdgeN lock needs ps) (ts.map pname) (ts'.map pname) nm := by
 induction m using Nat.strongRecOn with
 | ind m ih =>
 intro nm w ts va hI hm hn
 have hx1 := Below.refl (w.heap.size + 1) (w.alloc (.cells #[.string (S nm)] 9))
 have hW := below_first hx1
 have n0 := box_cells hx1 0
 simp only [List.getElem?_toArray, List.getElem?_cons_zero] at n0
 have I1 := hI.on hW
 have hlen : (S nm).size ≤ maxLen := by rw [S_size]; have := C.names nm hn; unfold maxLen; omega
 have hkey := Lib.hid (WideMaps.keyOf_string_mk (P := Tryz.prog) Tryz.underlying9 hlen)
 have HI := Lib.hid I1
 have HM := Lib.hid I1.map
 have HC := Lib.hid C
 have hFd := I1.cFd
 have HIh := Lib.hid ih
 have HB := Lib.hid hB
 have Hm := Lib.hid hm
 have Hn := Lib.hid hn
 have hsz := hI.size
 have HW := Lib.hid hW
 have s1 : (w.alloc (.cells #[.string (S nm)] 9)).heap.size = w.heap.size + 1 := by simp
 have hx2 := Below.refl ((w.alloc (.cells #[.string (S nm)] 9)).heap.size + 1) ((w.alloc (.cells #[.string (S nm)] 9)).alloc (.cells #[.string (S nm), .slice none 0 0] 52))
 have hW2 := below_first hx2
 have I2 := I1.on hW2
 have cPk := I2.cPk
 have nm2 := cell_on n0 hW2
 have HPx := Lib.hid (packIx_any pk ps w.heap.size (S nm) _ (C.packs.below I2.below (by omega)) nm2)
 have HX2 := Lib.hid hx2
 have HI2 := Lib.hid I2
 have HI0 := Lib.hid hI
 have Hnm2 := Lib.hid nm2
 have HW2 := Lib.hid (hW.trans (hW2.mono (by simp)))
 clear ih hm hn hI I1 hB hx1 hlen hW C hx2 hW2 I2
 obtain ⟨fd, hfd⟩ : ∃ b, decide (nm ∈ ts.map pname) = b := ⟨_, rfl⟩
 have HF : Hid (Maps.has (idxMap (ts.map pname)) (.string (S nm).data.toList) = fd) := by show _ = _; rw [has_idx, S_data, hfd]
 have HFd := Lib.hid hfd
 clear hfd
 have hz1 : w.heap.size < w.heap.size + 1 + 1 := by omega
 have hz2 : B < w.heap.size + 1 + 1 := by omega
 go_enter Tryz.func108, Tryz.ntmps108
 cases fd
 case true =>
  go_wp2_with (first | (at_lookup; refine wpList_lookup_own_ok_int _ rfl _ _ 142 rfl 9 3 .i64 keyS Tryz.underlying142 Tryz.underlying3 (zeroI _) (B + 3) ts.length _ rfl HM.out _ _ rfl hkey.out ?_; intro c hat hwc; rw [HF.out]) | fail)
  refine bodyPost_ret (v := .tuple #[]) (by kernel_rfl) rfl ⟨rfl, ts, va, HI.out, ⟨[], by simp⟩, .there (by simpa using HFd.out)⟩
 case false =>
  go_wp2_with (first | (at_lookup; refine wpList_lookup_own_ok_int _ rfl _ _ 142 rfl 9 3 .i64 keyS Tryz.underlying142 Tryz.underlying3 (zeroI _) (B + 3) ts.length _ rfl HM.out _ _ rfl hkey.out ?_; intro c hat hwc; rw [HF.out]) | fail)
  refine HPx.out.mono ?_
  rintro e w3 ⟨r, rfl, hpa, hb3⟩
  have I3 := HI2.out.on hb3
  have cPk3 := I3.cPk
  have cLk3 := I3.cLk
  have cNd3 := I3.cNd
  have hz3 := I3.size
  have n3 := cell_on Hnm2.out hb3
  have hbx := box_then HX2.out hb3
  have p0 := box_cells hbx 0
  have p1 := box_cells hbx 1
  have pf0 := box_free hbx 0
  have pf1 := box_free hbx 1
  rw [s1] at p0 p1 pf0 pf1
  simp only [List.getElem?_toArray, List.getElem?_cons_zero, List.getElem?_cons_succ] at p0 p1
  have hzp := cell_lt p0
  have HB3 := Lib.hid (HW2.out.trans (hb3.mono (by simp; omega)))
  have HI3 := Lib.hid I3
  have HPk := Lib.hid (HC.out.packs.below I3.below (Nat.le_of_eq HB.out))
  have HLk := Lib.hid (HC.out.piks.below I3.below (Nat.le_of_eq HB.out))
  have HNd := Lib.hid (HC.out.wants.below I3.below (Nat.le_of_eq HB.out))
  have HEn := Lib.hid (HC.out.env.below (by rw [HB.out]; exact I3.below))
  clear n0 hat hwc nm2 cPk hFd hbx I3 hb3
  go_upto_if 29 with fail
  go_cut [] (fun wx => PickedAt lock needs ps (S nm) w wx)
  case first =>
   rcases hpa with ⟨i, hi, rfl, hf⟩ | ⟨rfl, hf⟩
   ·have i0 : (0 : Int) ≤ (i : Int) := by omega
    have i1 : (i : Int) < (ps.length : Int) := by omega
    obtain ⟨hpl, a0, cap0, rfl⟩ := HPk.out.len
    obtain ⟨bx, ox, rfl, hbx, g0, g1⟩ := HPk.out.at' (Below.refl _ _) hi
    have hmem := List.getElem_mem hi
    obtain ⟨⟨pn, po, pa, pc⟩, hpe⟩ : ∃ x, ps[i] = x := ⟨_, rfl⟩
    rw [hpe] at g0 g1 hf hmem
    have hpn : pn = S nm := by have := findP_name ps (S nm); rw [hf] at this; exact this
    subst hpn
    simp only [DPack.ov] at g0 g1
    have hd := (Below.refl w3.heap.size w3).drew
    have HOf := Lib.hid (offers_any (S nm) (.slice pa po.length pc) po lk lock nv needs w3.drew ((HPk.out.2 _ hmem).1.below hd (Nat.le_refl _)) (HLk.out.below hd (Nat.le_refl _)) (HNd.out.below hd (Nat.le_refl _)) (HEn.out.below hd) (HC.out.pkos _ hmem).1 (HC.out.pkos _ hmem).2 HC.out.nds)
    have HFi : Hid ((findP ps (S nm)).os = po) := by show _ = _; rw [hf]
    clear hpe hf hmem hd
    go_wp2_with fail
    refine region_still_tail 6 (by kernel_rfl) (by kernel_rfl) ?_
    simp only [List.take_succ_cons, List.take_zero, List.drop_succ_cons, List.drop_zero]
    repeat still_step
    refine wpStill_nil ?_
    go_wp2_with fail
    refine HOf.out.mono ?_
    rintro e w4 ⟨x, out, rfl, hch, hrow, hb4, hfr⟩
    obtain ⟨_, oa, oc, rfl⟩ := hrow.len
    have hb4' : Below w3.heap.size w3 w4 := (Below.refl w3.heap.size w3).drew.trans hb4
    have q0 := cell_on p0 hb4'
    have q1 := cell_on p1 hb4'
    have qf1 : w4.frozen? ⟨w.heap.size + 1, 1, none⟩ = false := by rw [hb4'.frozen (p := ⟨w.heap.size + 1, 1, none⟩) hzp]; exact pf1
    have qn := cell_on n3 hb4'
    have hz4 := cell_lt q0
    have hB4 := HB3.out.trans (hb4'.mono HB3.out.size)
    have HG : Hid (ChoiceIs lock (S nm) needs (findP ps (S nm)).os out ∧ ORow w4 (.slice oa out.length oc) out ∧ FreshV (w.heap.size + 2) (.slice oa out.length oc) ∧ Below w.heap.size w w4) := ⟨by rw [HFi.out]; exact hch, hrow, hfr.mono (by show w.heap.size + 2 ≤ w3.heap.size; omega), hB4⟩
    clear p0 p1 pf0 pf1 n3 g0 g1 hch hrow hb4 hfr cPk3 cLk3 cNd3 hB4 hb4'
    go_wp2_with fail
    go_meet
    case rel =>
     obtain ⟨h1, h2, h3, h4⟩ := HG.out
     have hne : out ≠ [] → ∀ g, (Value.slice oa out.length oc).ownBlock = some g → g ≠ w.heap.size + 1 := fun _ g hg => by have := own_fresh h3 hg; omega
     refine ⟨out, oa, oc, h1, ?_, h3.mono (by omega), ?_, ?_, ?_, ?_, ?_⟩
     ·exact Row.same h2 (by simp) (fun hp b hb _ => Below.heap_setCell _ _ _ _ (hne (opos hp) b hb))
     ·go_simp
     ·go_simp
     ·go_simp
     ·simp; omega
     ·exact h4.setCell (by show w.heap.size ≤ w.heap.size + 1; omega) _
   ·have HG : Hid (ChoiceIs lock (S nm) needs (findP ps (S nm)).os []) := by
     show ChoiceIs _ _ _ _ _
     rw [hf]; exact choice_nil _ _ _
    clear hf
    go_wp2_with fail
    go_meet
    case rel =>
     exact ⟨[], none, 0, HG.out, ⟨rfl, Nat.zero_le _, .inl ⟨_, _, rfl, rfl, fun _ => rfl⟩⟩, FreshV.nil _ _ _, n3, p0, p1, hzp, HB3.out⟩
  case rest =>
   obtain ⟨out, oa, oc, hch, hrow, hfr, n4, p0, p1, hzp4, hbw⟩ := hcut
   have I4 := HI0.out.on hbw
   have cFd4 := I4.cFd
   have cAl4 := I4.cAl
   obtain ⟨vaa, vac, rfl⟩ := owns_len I4.row
   have hts : ts.length ≤ 1000000 := Nat.le_trans (by simpa using nodup_len I4.nodup (fun x hx => by obtain ⟨t, ht, rfl⟩ := List.mem_map.1 hx; exact I4.names t ht)) HC.out.few
   have hts2 : ts.length < maxLen := by unfold maxLen; omega
   have wfn : (Lit.int .i64 (ts.length : Int)).wf = true := WalkArith.wf_i64 (by omega)
   have HI4 := Lib.hid I4
   have HR := Lib.hid (⟨hch, hrow, hfr, hbw⟩ : _ ∧ _ ∧ _ ∧ _)
   have Hp0 := Lib.hid p0
   have Hp1 := Lib.hid p1
   have hB3 : B + 7 ≤ w.heap.size := hsz
   clear I4 hch hrow hfr hbw HI3 HPk HLk HNd HEn cPk3 cLk3 cNd3 hpa hz3 hzp n3 pf0 pf1 HX2 HW2 HB3 p0 p1
   go_wp2_with (at_mapUpdate; go_must (refine wpList_mapUpdate_in _ rfl _ _ _ 142 rfl 9 3 keyS Tryz.underlying142 (plainElem Tryz.prog 3) (B + 3) ts.length _ rfl HI4.out.map hts2 _ _ _ rfl rfl hkey.out (.lit (.int .i64 (ts.length : Int))) [] (plainElem_int Tryz.underlying3 wfn) ?_))
   intro w5 hm5 ht5
   have g5 := ht5.grown
   have cAl5 := g5.cell cAl4 (by intro e; injection e with e; simp only at e; omega)
   have q0 := g5.cell Hp0.out (by intro e; injection e with e; simp only at e; omega)
   have q1 := g5.cell Hp1.out (by intro e; injection e with e; simp only at e; omega)
   have fAl5 : w5.frozen? ⟨B + 5, 0, none⟩ = false := by rw [ht5.frozen]; exact HI4.out.fAl
   have hrow5 := Lib.hid (HI4.out.row.kept g5 (by
    cases hv : (Value.slice vaa ts.length vac).ownBlock with
    | none => exact .inl rfl
    | some g => right; intro e; injection e with e; have := (HI4.out.row.lt g hv).1; omega))
   obtain ⟨i0', hi, hz0, hz1, hz2⟩ : ∃ i, Tryz.prog.info? 52 = some i ∧ i.zero = some (.agg #[.string ⟨#[]⟩, .slice none 0 0]) ∧ i.size = 2 ∧ i.bytes = 40 := by
    have := info_pack
    rcases h : Tryz.prog.info? 52 with _ | i
    ·rw [h] at this; cases this
    ·rw [h] at this
     simp only [Option.map_some, Option.some.injEq, Prod.mk.injEq] at this
     exact ⟨i, rfl, this.1, this.2.1, this.2.2⟩
   have hz5 := cell_lt q0
   have Hg5 := Lib.hid g5
   have Ht5 := Lib.hid ht5
   have Hm5 := Lib.hid hm5
   clear g5 ht5 hm5 cFd4 cAl4 n4
   go_wp2_with (at_builtin; go_must (refine wpList_append_own_at _ rfl _ _ 22 rfl (B + 7) 52 i0' (.agg #[.string ⟨#[]⟩, .slice none 0 0]) 2 40 Tryz.underlying22 hi hz0 hz1 hz2 rfl (by decide) _ _ _ rfl (hrow5.out.alloc _) ⟨_, 0, none⟩ 1 1 [.string (S nm), .slice oa out.length oc] rfl rfl (pack2_at _ _ (by simp) _ _ _) (by intro u hu; simp at hu; rcases hu with rfl | rfl <;> rfl) (by unfold maxLen; omega) (by omega) (by simp; omega) ?_))
   intro va' w6 hown6 hg6 _ hl6
   obtain ⟨g2, cap2, hv2⟩ := Joins.ownsRow_form hown6 (by omega)
   subst hv2
   have hvo : ∀ g, (Value.slice vaa ts.length vac).ownBlock = some g → B + 7 ≤ g ∧ g < w.heap.size := fun g hg => HI0.out.row.lt g hg
   have hz6 : w5.heap.size + 1 ≤ w6.heap.size := by have := hg6.size; simp at this; omega
   have cAl6 := hg6.cell (((Below.refl w5.heap.size w5).alloc (Nat.le_refl _) _).cell (p := ⟨B + 5, 0, none⟩) (by show B + 5 < _; omega) |>.trans cAl5) (by intro e; have := (hvo _ e.symm).1; simp only at this; omega)
   have q16 := hg6.cell (((Below.refl w5.heap.size w5).alloc (Nat.le_refl _) _).cell (p := ⟨w.heap.size + 1, 1, none⟩) hz5 |>.trans q1) (by intro e; have := (hvo _ e.symm).2; simp only at this; omega)
   have fAl6 : w6.frozen? ⟨B + 5, 0, none⟩ = false := by
    rw [World.frozen?_of_block (w := w5.alloc (.cells #[.string (S nm), .slice oa out.length oc] 52)) (a := ⟨B + 5, 0, none⟩) (hg6.block (B + 5) (by simp; omega) (fun e => by have := (hvo _ e.symm).1; omega)), ((Below.refl w5.heap.size w5).alloc (Nat.le_refl _) _).frozen (p := ⟨B + 5, 0, none⟩) (by show B + 5 < _; omega)]
    exact fAl5
   have HI7 : Hid (TabInv lock needs ps pk lk nv w0 B (w6.setCell ⟨B + 5, 0, none⟩ (.slice (some ⟨g2, 0, none⟩) (ts.length + 1) cap2)) (ts ++ [⟨S nm, out, oa, oc⟩]) (.slice (some ⟨g2, 0, none⟩) (ts.length + 1) cap2)) := by
    obtain ⟨h1, h2, h3, h4⟩ := HR.out
    refine HI4.out.add Ht5.out Hm5.out ((Below.refl w5.heap.size w5).alloc (Nat.le_refl _) _) hg6 hown6 rfl (by simpa using hl6) h1 h2 (fun _ => ⟨h3.mono (by omega), fun g hg hg' => ?_⟩) (show nm ∉ ts.map pname from of_decide_eq_false HFd.out) Hn.out
    have := own_fresh h3 hg
    have := (hvo g hg').2
    omega
   have hz7 : B + 5 < w6.heap.size := by omega
   have hz8 : w.heap.size + 1 < w6.heap.size := by omega
   clear hown6 hg6 hl6 cAl5 q0 q1 fAl5 hrow5 Hg5 Ht5 Hm5 HR Hp0 Hp1 HM HI HI2 HPx Hnm2 hi hz0 hz1 hz2
   go_wp2_with fail
   have HChs : Hid (ChoiceIs lock (S nm) needs (findP ps (S nm)).os out) := (HI7.out.els ⟨S nm, out, oa, oc⟩ (by simp)).1
   go_loopw [49] (fun i wr => TcRel lock needs ps pk lk nv w0 B ts nm ⟨S nm, out, oa, oc⟩ i wr) (fun i _ => out.length - (intOf i).toNat)
   case atStart => exact ⟨0, _, _, Nat.zero_le _, rfl, HI7.out, ⟨[], rfl⟩, by rw [List.map_append]; exact Grows.start _ _, by simp⟩
   case round =>
    obtain ⟨k, ts1, va1, hk, rfl, hI1, ht1, hg1, hall⟩ := hrel
    have hm1 : (⟨S nm, out, oa, oc⟩ : DPack) ∈ ts1 := by obtain ⟨r, rfl⟩ := ht1; simp
    have hro : ORow wr (.slice oa out.length oc) out := (hI1.els _ hm1).2.1
    have hol : out.length ≤ 9223372036854775807 := Nat.le_trans hro.len.1 (by decide)
    have HI1 := Lib.hid hI1
    have HR1 := Lib.hid (⟨ht1, hg1, hall⟩ : _ ∧ _ ∧ _)
    clear hI1 hm1 ht1 hg1 hall
    simp only at hk
    by_cases hlt : k < out.length
    ·have i0 : (0 : Int) ≤ (k : Int) := by omega
     have i1 : (k : Int) < (out.length : Int) := by omega
     obtain ⟨bx, ox, rfl, hbx, c0, c1, c2, c3, c4, c5⟩ := hro.at' (Below.refl _ _) hlt
     have HT := Lib.hid (List.take_succ_eq_append_getElem hlt)
     have hmem := List.getElem_mem hlt
     obtain ⟨⟨ov, oy, ons, ona, onc⟩, hxe⟩ : ∃ x, out[k] = x := ⟨_, rfl⟩
     rw [hxe] at c0 c1 c2 c3 c4 c5 HT hmem
     simp only [DOff.nv] at c5
     have hok : DOff.ok w0 ⟨ov, oy, ons, ona, onc⟩ := HC.out.off HChs.out hmem
     have HOk := Lib.hid hok.1
     have Hmem := Lib.hid hmem
     have hsz2 := HI1.out.size
     have hal := (Below.refl wr.heap.size wr).alloc (Nat.le_refl _) (.cells #[.int .i64 ov.a, .int .i64 ov.b, .int .i64 ov.c, .string ov.p, .bool oy, .slice ona ons.length onc] 55)
     have HAl := Lib.hid hal
     have honl : ons.length ≤ 9223372036854775807 := Nat.le_trans hok.1.len.1 (by decide)
     clear hok hmem hxe hal cAl6 q16 fAl6 hz5 hz6 hz7 hz8
     go_wp2_with fail
     go_loopw [56] (fun i wy => TcRel2 lock needs ps pk lk nv w0 B ts nm ⟨S nm, out, some ⟨bx, ox, none⟩, oc⟩ k ⟨ov, oy, ons, ona, onc⟩ i wy) (fun i _ => ons.length - (intOf i).toNat)
     case atStart => exact ⟨0, ts1, va1, Nat.zero_le _, rfl, HI1.out.on HAl.out, HR1.out.1, HR1.out.2.1, HR1.out.2.2, by simp⟩
     case round =>
      obtain ⟨j, ts2, va2, hj, rfl, hI2, ht2, hg2, hal2, hal3⟩ := hrel
      have HI2b := Lib.hid hI2
      have HR2 := Lib.hid (⟨ht2, hg2, hal2, hal3⟩ : _ ∧ _ ∧ _ ∧ _)
      simp only at hj
      by_cases hlt2 : j < ons.length
      ·have j0 : (0 : Int) ≤ (j : Int) := by omega
       have j1 : (j : Int) < (ons.length : Int) := by omega
       have hw2 : Wants wr (.slice ona ons.length onc) ons := HOk.out.below hI2.below (Nat.le_of_eq HB.out)
       obtain ⟨bn, on, rfl, hbn, d0, d1⟩ := hw2.at' (Below.refl _ _) hlt2
       have hnm := List.getElem_mem hlt2
       have HT2 := Lib.hid (List.take_succ_eq_append_getElem hlt2)
       have hrv := hw2.2 _ hnm
       obtain ⟨⟨xn, xv⟩, hxe⟩ : ∃ x, ons[j] = x := ⟨_, rfl⟩
       rw [hxe] at d0 d1 hnm hrv HT2
       obtain ⟨_, ra, rcap, hrv⟩ := hrv
       simp only at d0 d1 hrv
       subst hrv
       have hsz3 := hI2.size
       have hal := (Below.refl wr.heap.size wr).alloc (Nat.le_refl _) (.cells #[.string (S xn.name), .slice ra xn.bs.length rcap] 60)
       have I3 := hI2.on hal
       have cRe3 := I3.cRe
       simp only [reachV] at cRe3
       have hxU : xn.name ∈ allNames needs ps := edge_all ((edge_of HChs.out xn.name).2 ⟨_, Hmem.out, _, hnm, rfl⟩)
       have hEd : Hid (EdgeN lock needs ps nm xn.name) := (edge_of HChs.out xn.name).2 ⟨_, Hmem.out, _, hnm, rfl⟩
       have hlft : leftN (allNames needs ps) (ts2.map pname) < m := by
        obtain ⟨cs, he, _⟩ := hg2.ext
        rw [← Hm.out]
        refine leftN_lt (x := nm) (fun x hx => by rw [he]; exact List.mem_append_left _ hx) Hn.out (of_decide_eq_false HFd.out) (by rw [he]; simp)
       have HCall := Lib.hid (HIh.out _ hlft xn.name _ ts2 va2 I3 rfl hxU)
       clear I3 hlft hxU hI2 ht2 hg2 hal2 hal3 hxe hnm hw2 hal
       go_wp2_with fail
       refine HCall.out.mono ?_
       rintro e w8 ⟨rfl, ts3, va3, hI3, hp3, hG3⟩
       go_wp2_with fail
       go_roundw
       case rel =>
        obtain ⟨ht2, hg2, hal2, hal3⟩ := HR2.out
        refine ⟨j + 1, ts3, va3, hlt2, by go_num, hI3, ?_, hg2.step hEd.out hG3, fun o ho n hn => hG3.sub (hal2 o ho n hn), fun n hn => ?_⟩
        ·obtain ⟨r, rfl⟩ := ht2
         obtain ⟨r', rfl⟩ := hp3
         exact ⟨r ++ r', by simp⟩
        ·simp only at hn
         rw [HT2.out] at hn
         rcases List.mem_append.1 hn with hn | hn
         ·exact hG3.sub (hal3 n hn)
         ·simp at hn; subst hn; exact hG3.mem
       case measure => simp [intOf]; omega
      ·have q6 : decide (j < ons.length) = false := decide_eq_false hlt2
       have hje := Lib.hid (Nat.le_of_not_lt hlt2)
       clear hlt2 hI2 ht2 hg2 hal2 hal3
       go_wp2_with fail
       go_roundw
       case rel =>
        obtain ⟨ht2, hg2, hal2, hal3⟩ := HR2.out
        refine ⟨k + 1, ts2, va2, hlt, by go_num, HI2b.out, ht2, hg2, fun o ho n hn => ?_⟩
        simp only at ho
        rw [HT.out] at ho
        rcases List.mem_append.1 ho with ho | ho
        ·exact hal2 o ho n hn
        ·simp at ho; subst ho
         exact hal3 n (by rw [List.take_of_length_le hje.out]; exact hn)
       case measure => simp [intOf]; omega
    ·have q7 : decide (k < out.length) = false := decide_eq_false hlt
     have hke := Lib.hid (Nat.le_of_not_lt hlt)
     clear hlt
     go_wp2_with fail
     go_end0
     obtain ⟨⟨r, hr⟩, hg1, hal1⟩ := HR1.out
     refine ⟨rfl, ts1, ⟨va1, HI1.out⟩, ⟨_, hr⟩, hg1.done fun d hd => ?_⟩
     obtain ⟨o, ho, n, hn, rfl⟩ := (edge_of HChs.out d).1 hd
     exact hal1 o (by rw [List.take_of_length_le hke.out]; exact ho) n hn
end Go.Proofs.YtbgimpeklblcjaaGreatDoor
