/- Locks: the program's Update: a walk. -/
import Derived.Test.YtboajinaiceekaaGreatDoorLock10
import Derived.Test.YtboajinaiceekaaGreatDoorSemProg
namespace Go
open Go.RowKit
theorem upBuilder_keep {T e : TypeId} {B b : Nat} {bs : List Value} {w w1 : World} (h : Lib.IsBuilder T e B b bs w) (hb : Below w.heap.size w w1) : Lib.IsBuilder T e B b bs w1 := by
  have key : ∀ p, Lib.BuilderAt T e B b p bs w → Lib.BuilderAt T e B b p bs w1 := fun p h => by
    have hlt := h.lt
    obtain ⟨h1, v, h2, h3, h4⟩ := h
    exact ⟨h1, v, by rw [hb.block b hlt]; exact h2, owns_below h3 hb, h4⟩
  exact h.elim (fun h => .inl (key _ h)) (fun h => .inr (key _ h))
theorem findIs_some {l : List Pik} {n : List UInt8} {p : Pik} (ha : AscP l) (h : FindIs l n p true) : pickOf l n = some p := by
  rcases h with ⟨_, hp, hn⟩ | ⟨h, _⟩
  · induction l with
    | nil => cases hp
    | cons x l ih =>
      by_cases hx : x.nm = n
      · rcases List.mem_cons.1 hp with rfl | hp
        · rw [← hx]; exact pickOf_head p l
        · have := asc_above ha p.nm (List.mem_map_of_mem hp)
          rw [hx, hn] at this
          exact absurd this (List.lt_irrefl n)
      · rcases List.mem_cons.1 hp with rfl | hp
        · exact absurd hn hx
        · rw [← ih (List.pairwise_cons.1 ha).2 hp]
          unfold pickOf
          rw [List.find?_cons_of_neg (by simpa using hx)]
  · cases h
theorem findIs_none {l : List Pik} {n : List UInt8} {p : Pik} (h : FindIs l n p false) : pickOf l n = none := by
  rcases h with ⟨h, _⟩ | ⟨_, _, h⟩
  · cases h
  · unfold pickOf
    rw [List.find?_eq_none]
    intro q hq he
    exact h q hq (beq_iff_eq.1 he)
theorem findIs_mem {l : List Pik} {n : List UInt8} {p : Pik} (h : FindIs l n p true) : p ∈ l := by
  rcases h with ⟨_, hp, _⟩ | ⟨h, _⟩
  · exact hp
  · cases h
theorem stepL_len {ps qs : List Pik} (hp : ∀ p ∈ ps, p.ok = true) (hq : ∀ p ∈ qs, p.ok = true) (n : List UInt8) : (stepL ps qs n).length ≤ 130 := by
  have key : ∀ (l : List Pik) (p : Pik), pickOf l n = some p → (∀ p ∈ l, p.ok = true) → p.line.length ≤ 70 ∧ p.v.show.length ≤ 45 := fun l p h hl => by
    have hm := List.mem_of_find?_eq_some h
    have h1 := lineN_len (hl p hm)
    unfold lineN at h1
    rw [List.length_append] at h1
    exact ⟨by simp at h1; omega, vshow_len (pik_parts' (hl p hm)).2⟩
  unfold stepL
  cases h1 : pickOf ps n with
  | none =>
    cases h2 : pickOf qs n with
    | none => simp
    | some y => have := key qs y h2 hq; simp [plusL]; omega
  | some x =>
    have k1 := key ps x h1 hp
    cases h2 : pickOf qs n with
    | none => simp [minusL]; omega
    | some y =>
      have k2 := key qs y h2 hq
      show (chgL x y).length ≤ 130
      unfold chgL
      split
      · simp; omega
      · split
        · simp; omega
        · simp
theorem cells_of_block {w : World} {b : Nat} {x0 x1 x2 x3 x4 : Value} {T : TypeId} {fz : Nat × Nat} (h : w.heap[b]? = some (.cells #[x0, x1, x2, x3, x4] T fz)) :
    w.cell? ⟨b, 0, none⟩ = some x0 ∧ w.cell? ⟨b, 1, none⟩ = some x1 ∧ w.cell? ⟨b, 2, none⟩ = some x2 ∧ w.cell? ⟨b, 3, none⟩ = some x3 ∧ w.cell? ⟨b, 4, none⟩ = some x4 := by
  refine ⟨?_, ?_, ?_, ?_, ?_⟩ <;> simp [World.cell?, h]
theorem block_lt {w : World} {b : Nat} {o : Obj} (h : w.heap[b]? = some o) : b < w.heap.size := by
  rcases Nat.lt_or_ge b w.heap.size with h' | h'
  · exact h'
  · rw [Array.getElem?_eq_none h'] at h; cases h
theorem below_on {B : Nat} {a w w' : World} (h : Below B a w) (hB : B < w.heap.size) (h' : Below w.heap.size w w') : Below B a w' := h.trans (h'.mono (Nat.le_of_lt hB))
theorem chS_of {x0 x1 x2 x3 x4 y0 y1 y2 y3 y4 : Value} {T : TypeId} {fz : Nat × Nat} {bx b9 b : Nat} {W w' : World} (hx : w'.heap[bx]? = some (.cells #[x0, x1, x2, x3, x4] T fz)) (hy : w'.heap[b9]? = some (.cells #[y0, y1, y2, y3, y4] T fz)) (hb : Below b W w') :
    w'.cell? ⟨bx, 0, none⟩ = some x0 ∧ w'.cell? ⟨bx, 1, none⟩ = some x1 ∧ w'.cell? ⟨bx, 2, none⟩ = some x2 ∧ w'.cell? ⟨bx, 3, none⟩ = some x3 ∧ w'.cell? ⟨bx, 4, none⟩ = some x4 ∧
    w'.cell? ⟨b9, 0, none⟩ = some y0 ∧ w'.cell? ⟨b9, 1, none⟩ = some y1 ∧ w'.cell? ⟨b9, 2, none⟩ = some y2 ∧ w'.cell? ⟨b9, 3, none⟩ = some y3 ∧ w'.cell? ⟨b9, 4, none⟩ = some y4 ∧
    w'.heap[bx]? = some (.cells #[x0, x1, x2, x3, x4] T fz) ∧ w'.heap[b9]? = some (.cells #[y0, y1, y2, y3, y4] T fz) ∧ Below b W w' := by
  obtain ⟨a0, a1, a2, a3, a4⟩ := cells_of_block hx
  obtain ⟨c0, c1, c2, c3, c4⟩ := cells_of_block hy
  exact ⟨a0, a1, a2, a3, a4, c0, c1, c2, c3, c4, hx, hy, hb⟩
theorem upCells (s : ByteArray) : Lib.strCells s = Lib.byteCells s.data.toList := rfl
theorem upCells_app (a b : List UInt8) : Lib.byteCells a ++ Lib.byteCells b = Lib.byteCells (a ++ b) := by simp [Lib.byteCells]
end Go
namespace Go.Proofs.YtboajinaiceekaaGreatDoor
open Go.RowKit
theorem info_strN : (Tryz.prog.info? 9).map (fun i => (i.zero, i.size, i.bytes)) = some (some (.string ⟨#[]⟩), 1, 16) := by kernel_rfl
/-- the first k names' lines -/
def upTo (ps qs : List Pik) (ns : List (List UInt8)) (k : Nat) : List UInt8 := (ns.take k).flatMap (stepL ps qs)
theorem upTo_succ {ps qs : List Pik} {ns : List (List UInt8)} {k : Nat} (h : k < ns.length) : upTo ps qs ns (k + 1) = upTo ps qs ns k ++ stepL ps qs ns[k] := by
  unfold upTo
  rw [List.take_succ_eq_append_getElem h, List.flatMap_append]
  simp
theorem upTo_len {ps qs : List Pik} (hp : ∀ p ∈ ps, p.ok = true) (hq : ∀ p ∈ qs, p.ok = true) (ns : List (List UInt8)) : ∀ k, k ≤ ns.length → (upTo ps qs ns k).length ≤ 130 * k
  | 0, _ => by simp [upTo]
  | k + 1, h => by
    rw [upTo_succ (by omega), List.length_append]
    have := upTo_len hp hq ns k (by omega)
    have := stepL_len hp hq ns[k]
    omega
theorem cmpL_as (x y : V4) (r : Int) (h : V4.cmp x y = r) (w : World) (hE : Env w) (hp : x.p.size ≤ 300) (hp' : y.p.size ≤ 300) :
    Calls Tryz.prog 41 #[.agg #[.int .i64 x.a, .int .i64 x.b, .int .i64 x.c, .string x.p], .agg #[.int .i64 y.a, .int .i64 y.b, .int .i64 y.c, .string y.p]] w fun e w' => e = .returned (.int .i64 r) ∧ Below w.heap.size w w' := by
  subst h; exact cmpP_any _ _ _ _ _ _ _ _ w hE hp hp'
def U2Rel (ps qs : List Pik) (ns : List (List UInt8)) (w7 : World) (b : Nat) (i : Value) (wr : World) : Prop :=
  ∃ k : Nat, k ≤ ns.length ∧ i = .int .i64 (k : Int) ∧ Lib.IsBuilder 71 5 b b (Lib.byteCells (upTo ps qs ns k)) wr ∧ Below b w7 wr
def UnRel (rs : List Pik) (w1 : World) (v i : Value) (wr : World) : Prop :=
  ∃ k : Nat, k ≤ rs.length ∧ i = .int .i64 (k : Int) ∧ wr.ownsRow w1.heap.size 9 1 v k (strs ((rs.map Pik.nm).take k)) ∧ Below w1.heap.size w1 wr
set_option maxRecDepth 100000 in
set_option maxHeartbeats 8000000 in
theorem update_any (v u : Value) (ps qs : List Pik) (w : World) (hv : Piks w v ps) (hu : Piks w u qs) (hE : Env w) (hp : ∀ x ∈ ps, x.v.p.size ≤ 300) (hq : ∀ x ∈ qs, x.v.p.size ≤ 300) :
    Calls Tryz.prog 16 #[v, u] w fun e w' => e = .returned (.tuple #[.string (S (updShow ps qs).1), .int .i64 (updShow ps qs).2]) ∧ Below w.heap.size w w' := by
  obtain ⟨a1, c1, rfl⟩ := hv.len
  obtain ⟨a2, c2, rfl⟩ := hu.len
  obtain ⟨mo, hmo⟩ : ∃ b, mayB ps = b := ⟨_, rfl⟩
  obtain ⟨mn, hmn⟩ : ∃ b, mayB qs = b := ⟨_, rfl⟩
  have HM1 : Hid (∀ W, Below w.heap.size w W → Calls Tryz.prog 20 #[.slice a1 ps.length c1] W fun e w' => e = .returned (.bool mo) ∧ Below w.heap.size w w') := fun W hW =>
    (may_as _ ps mo hmo W (hv.below hW (Nat.le_refl _)) (hE.below hW) hp).mono fun _ _ ⟨h1, h2⟩ => ⟨h1, below_then hW h2⟩
  have HM2 : Hid (∀ W, Below w.heap.size w W → Calls Tryz.prog 20 #[.slice a2 qs.length c2] W fun e w' => e = .returned (.bool mn) ∧ Below w.heap.size w w') := fun W hW =>
    (may_as _ qs mn hmn W (hu.below hW (Nat.le_refl _)) (hE.below hW) hq).mono fun _ _ ⟨h1, h2⟩ => ⟨h1, below_then hW h2⟩
  have HMo := Lib.hid hmo
  have HMn := Lib.hid hmn
  have HV := Lib.hid hv
  have HU := Lib.hid hu
  have HE := Lib.hid hE
  clear hv hu hE hp hq hmo hmn
  cases mo
  · have HS : Hid (updShow ps qs = ([], 370)) := by show _ = _; unfold updShow; rw [HMo.out]; rfl
    go_enter Tryz.func16, Tryz.ntmps16
    go_wp2_with fail
    refine (HM1.out _ (Below.refl _ _)).mono ?_
    rintro e w1 ⟨rfl, hb1⟩
    go_wp2_with fail
    go_ret2
    exact ⟨by rw [HS.out]; rfl, hb1⟩
  cases mn
  · have HS : Hid (updShow ps qs = ([], 370)) := by show _ = _; unfold updShow; rw [HMo.out, HMn.out]; rfl
    go_enter Tryz.func16, Tryz.ntmps16
    go_wp2_with fail
    refine (HM1.out _ (Below.refl _ _)).mono ?_
    rintro e w1 ⟨rfl, hb1⟩
    go_wp2_with fail
    refine (HM2.out _ hb1).mono ?_
    rintro e w2 ⟨rfl, hb2⟩
    go_wp2_with fail
    go_ret2
    exact ⟨by rw [HS.out]; rfl, hb2⟩
  have HS : Hid (updShow ps qs = (updL ps qs, 0)) := by show _ = _; unfold updShow; rw [HMo.out, HMn.out]; rfl
  have hp40 := (may_mem HMo.out).2
  have hq40 := (may_mem HMn.out).2
  have HPo := Lib.hid (may_mem HMo.out).1
  have HQo := Lib.hid (may_mem HMn.out).1
  go_enter Tryz.func16, Tryz.ntmps16
  go_wp2_with fail
  refine (HM1.out _ (Below.refl _ _)).mono ?_
  rintro e w1 ⟨rfl, hb1⟩
  go_wp2_with fail
  refine (HM2.out _ hb1).mono ?_
  rintro e w2 ⟨rfl, hb2⟩
  have hal := hb2.alloc hb2.size (.cells #[.slice a1 ps.length c1, .slice a2 qs.length c2] 22)
  have hbx := box_cells (Below.refl (w2.heap.size + 1) (w2.alloc (.cells #[.slice a1 ps.length c1, .slice a2 qs.length c2] 22))) 0
  have hby := box_cells (Below.refl (w2.heap.size + 1) (w2.alloc (.cells #[.slice a1 ps.length c1, .slice a2 qs.length c2] 22))) 1
  have HCo := Lib.hid (concat_any (.slice a1 ps.length c1) (.slice a2 qs.length c2) ps qs w2.heap.size _ (HV.out.below hal (Nat.le_refl _)) (HU.out.below hal (Nat.le_refl _)) hbx hby hp40 hq40)
  clear hbx hby
  go_wp2_with fail
  refine HCo.out.mono ?_
  rintro e w3 ⟨ra, rcap, rfl, hrs, hb3⟩
  have hb4 := below_then hal hb3
  obtain ⟨rs, hrse⟩ : ∃ rs, ps ++ qs = rs := ⟨_, rfl⟩
  rw [hrse] at hrs ⊢
  have hrl : rs.length ≤ 80 := by rw [← hrse, List.length_append]; omega
  have HRS := Lib.hid hrs
  have HRse := Lib.hid hrse
  have HI := Lib.hid (info_parts info_strN)
  clear hrs hrse hal hb3
  go_wp2_with fail
  go_loopw [6, 29] (fun v i wr => UnRel rs w3 v i wr) (fun _ i _ => rs.length - (intOf i).toNat)
  case atStart => exact ⟨0, Nat.zero_le _, rfl, World.ownsRow_nil _ _ _ _, Below.refl _ _⟩
  case round =>
    obtain ⟨k, hk, rfl, hown, hb⟩ := hrel
    have HO := Lib.hid hown
    obtain ⟨va, vcap, rfl⟩ := own_form hown
    clear hown
    by_cases hlt : k < rs.length
    · have i0 : (0 : Int) ≤ (k : Int) := by omega
      have i1 : (k : Int) < (rs.length : Int) := by omega
      obtain ⟨bx, ox, rfl, hbx, hcp⟩ := HRS.out.row hb hlt
      obtain ⟨c0, c1', c2', c3, c4⟩ := hcp k hlt
      obtain ⟨x, hxe⟩ : ∃ x, rs[k] = x := ⟨_, rfl⟩
      rw [hxe] at c0 c1' c2' c3 c4
      have HX := Lib.hid hxe
      obtain ⟨i0', hi, hz0, hz1, hz2⟩ := HI.out
      have hB3 := hb.size
      clear hcp hxe
      go_wp2_with (at_builtin; go_must (refine wpList_append_own _ rfl _ _ 41 rfl w3.heap.size 9 i0' (.string ⟨#[]⟩) 1 16 Tryz.underlying41 hi hz0 hz1 hz2 rfl (by decide) _ _ _ rfl ((HO.out.alloc _).alloc _) ⟨_, 0, none⟩ 1 1 [.string x.name] rfl rfl ?c1 ?c2 ?c3 ?c4 ?c5 ?_))
      case c1 => intro j z hj; cases j with
        | zero => simp at hj; subst hj; simp [Addr.add]
        | succ j => simp at hj
      case c2 => intro z hz; simp at hz; subst hz; rfl
      case c3 => unfold maxLen; omega
      case c4 => omega
      case c5 => simp; omega
      intro v' w8 hown2 hg2 _
      have hb8 := below_grown ((hb.alloc hB3 _).alloc (by simp; omega) _) ((HO.out.alloc _).alloc _) hg2 (by simp; omega)
      have HO2 := Lib.hid hown2
      clear hg2 hown2
      go_wp2
      go_roundw
      case rel =>
        refine ⟨k + 1, hlt, by go_num, ?_, hb8⟩
        have h := HO2.out
        have hkm : k < (rs.map Pik.nm).length := by rw [List.length_map]; exact hlt
        have e : strs ((rs.map Pik.nm).take (k + 1)) = strs ((rs.map Pik.nm).take k) ++ [.string x.name] := by
          rw [List.take_succ_eq_append_getElem hkm, List.getElem_map, HX.out]
          unfold strs; rw [List.map_append]; rfl
        rw [e]; exact h
      case measure => simp [intOf]; omega
    · have q5 : decide (k < rs.length) = false := decide_eq_false hlt
      have hO : wr.ownsRow w3.heap.size 9 1 (.slice va k vcap) k (strs (rs.map Pik.nm)) := by
        have h := HO.out
        rwa [List.take_of_length_le (by rw [List.length_map]; omega)] at h
      have hbz := hb.size
      have hS := sortN_any w3.heap.size _ k (rs.map Pik.nm) wr hO hbz (by omega)
      have HSo := Lib.hid hS
      clear hlt hO hS
      go_wp2_with fail
      refine HSo.out.mono ?_
      rintro e w5 ⟨rfl, hO5, hb5⟩
      have hb45 := below_then hb4 (hb.trans hb5)
      have hlt5 := hO5.lt
      obtain ⟨b, hbe⟩ : ∃ b, w5.heap.size = b := ⟨_, rfl⟩
      have hw6 : (w5.alloc (.cells #[.pointer none, .slice none 0 0] 71)).heap[b]? = some (.cells #[.pointer none, .slice none 0 0] 71) := by rw [← hbe]; exact Below_heap_new w5 _
      have hC := compN_any w3.heap.size _ k _ (w5.alloc (.cells #[.pointer none, .slice none 0 0] 71)) (hO5.alloc _) (by omega)
      have HCm := Lib.hid hC
      have hb46 := hb45.alloc hb45.size (.cells #[.pointer none, .slice none 0 0] 71)
      have hsz6 : (w5.alloc (.cells #[.pointer none, .slice none 0 0] 71)).heap.size = b + 1 := by rw [← hbe]; simp
      clear hC hO5
      go_wp2_with fail
      refine HCm.out.mono ?_
      rintro e w7 ⟨u, rfl, hO7, hb7, hub, hkeep⟩
      obtain ⟨ns, hns⟩ : ∃ ns, Lib.compact ((rs.map Pik.nm).mergeSort fun x y => decide (x ≤ y)) = ns := ⟨_, rfl⟩
      rw [hns] at hO7
      have hsn := sort_names (rs.map Pik.nm)
      rw [hns] at hsn
      have hnsU : updNames ps qs = ns := by
        rw [← hns, ← HRse.out, List.map_append]; rfl
      have hnl : ns.length ≤ 80 := by
        rw [← hns]
        have := Lib.compact_length_le ((rs.map Pik.nm).mergeSort fun x y => decide (x ≤ y))
        rw [List.length_mergeSort, List.length_map] at this
        omega
      obtain ⟨ua, uc, rfl⟩ := own_form hO7
      have hb57 : Below w.heap.size w w7 := hb46.trans (hb7.mono hb4.size)
      have hvb : (Value.slice va k vcap).ownBlock ≠ some b := fun e => by
        have := (hlt5 b e).2
        omega
      have hB7 : Lib.IsBuilder 71 5 b b (Lib.byteCells (upTo ps qs ns 0)) w7 := by
        refine .inl ⟨Nat.le_refl _, .slice none 0 0, ?_, World.ownsRow_nil _ _ _ _, by simp [Value.ownBlock]⟩
        rw [hkeep b hvb]; exact hw6
      have hbw : w.heap.size ≤ b := by rw [← hbe]; exact hb45.size
      have hbl7 : b < w7.heap.size := by have := hb7.size; omega
      have hug : ∀ j, (Value.slice ua ns.length uc).ownBlock = some j → j < b := fun j e => by
        have := (hlt5 j (hub j e)).2
        omega
      have HSt := Lib.hid (Strs.of_owns hO7)
      have HUg := Lib.hid hug
      have HNs := Lib.hid hsn.1
      have HNu := Lib.hid hnsU
      have HB7 := Lib.hid hB7
      have hpz : ∀ (l : List Pik) (x : Pik), (∀ p ∈ l, p.ok = true) → x ∈ l → x.name.size ≤ 24 ∧ x.v.ok = true ∧ x.v.p.size ≤ 300 := fun l x hl hx => by
        obtain ⟨g1, g2⟩ := pik_parts' (hl x hx)
        have h1 := (name_len g1).2.1
        have h2 := (verOk_bounds g2).2.2.2.2.2.2.1
        refine ⟨by rw [Lib.size_eq]; exact h1, g2, by rw [Lib.size_eq]; omega⟩
      have HPz := Lib.hid hpz
      have HF1 : Hid (∀ (A : ByteArray) W, Below w.heap.size w W → Calls Tryz.prog 39 #[.slice a1 ps.length c1, .string A] W fun e w' => ∃ p ok, e = .returned (.tuple #[.agg #[.string p.name, .int .i64 p.v.a, .int .i64 p.v.b, .int .i64 p.v.c, .string p.v.p], .bool ok]) ∧ FindIs ps A.data.toList p ok ∧ Below W.heap.size W w') := fun A W hW => find_any _ ps A W (HV.out.below hW (Nat.le_refl _))
      have HF2 : Hid (∀ (A : ByteArray) W, Below w.heap.size w W → Calls Tryz.prog 39 #[.slice a2 qs.length c2, .string A] W fun e w' => ∃ p ok, e = .returned (.tuple #[.agg #[.string p.name, .int .i64 p.v.a, .int .i64 p.v.b, .int .i64 p.v.c, .string p.v.p], .bool ok]) ∧ FindIs qs A.data.toList p ok ∧ Below W.heap.size W w') := fun A W hW => find_any _ qs A W (HU.out.below hW (Nat.le_refl _))
      clear hsn hnsU hns hO7 hug hB7 hkeep hub hw6 hvb hb46 hb7 hb45 hb5 hb4 hb hbz hlt5 hb1 hb2 hsz6 hpz
      go_wp2_with fail
      go_loopw [44] (fun i wr => U2Rel ps qs ns w7 b i wr) (fun i _ => ns.length - (intOf i).toNat)
      case atStart => exact ⟨0, Nat.zero_le _, rfl, HB7.out, Below.refl _ _⟩
      case round =>
        obtain ⟨k2, hk2, rfl, hB, hbk⟩ := hrel
        have HB := Lib.hid hB
        have hww : Below w.heap.size w wr := hb57.trans (hbk.mono hbw)
        have hbl : b < wr.heap.size := Nat.lt_of_lt_of_le hbl7 hbk.size
        clear hB
        by_cases hlt2 : k2 < ns.length
        · have i0 : (0 : Int) ≤ (k2 : Int) := by omega
          have i1 : (k2 : Int) < (ns.length : Int) := by omega
          obtain ⟨gx, gof, gcap, hge, hgb, hgc⟩ := HSt.out.full (by omega)
          have hgb2 : gx < b := by
            injection hge with e1 _ _
            exact HUg.out gx (by rw [e1]; rfl)
          injection hge with e1 e2 e3
          subst e1 e3
          have c0 := (hbk.cell (p := ⟨gx, gof + k2, none⟩) hgb2).trans (hgc k2 hlt2)
          obtain ⟨n, hn⟩ : ∃ n, ns[k2] = n := ⟨_, rfl⟩
          have HSu := Lib.hid (upTo_succ (ps := ps) (qs := qs) hlt2)
          have hmem : n ∈ rs.map Pik.nm := by rw [← hn]; exact (HNs.out _).1 (List.getElem_mem hlt2)
          have hul := upTo_len HPo.out HQo.out ns k2 hk2
          rw [hn] at c0 HSu
          obtain ⟨A, hA⟩ : ∃ A, S n = A := ⟨_, rfl⟩
          rw [hA] at c0
          have HAn : Hid (A.data.toList = n) := by show _ = _; rw [← hA]; rfl
          have HMem := Lib.hid hmem
          clear hgc hn hmem hA e2
          go_wp2_with fail
          refine (HF1.out A _ hww).mono ?_
          rintro e w8 ⟨x, okx, rfl, hfx, hb8⟩
          have hw8 := below_then hww hb8
          have hb88 := below_on hbk hbl hb8
          have HB8 := Lib.hid (upBuilder_keep HB.out hb8)
          have HFx := Lib.hid hfx
          have halx := (Below.refl w8.heap.size w8).alloc (Nat.le_refl _) (.cells #[.string x.name, .int .i64 x.v.a, .int .i64 x.v.b, .int .i64 x.v.c, .string x.v.p] 47)
          have hbl8 : b < w8.heap.size := Nat.lt_of_lt_of_le hbl hb8.size
          clear hfx hb8
          go_wp2_with fail
          refine (HF2.out A _ (below_then hw8 halx)).mono ?_
          rintro e w9 ⟨y, oky, rfl, hfy, hb9⟩
          have hw9 := below_then (below_then hw8 halx) hb9
          have hb99 := below_on (below_on hb88 hbl8 halx) (Nat.lt_of_lt_of_le hbl8 halx.size) hb9
          have HB9 := Lib.hid (upBuilder_keep (upBuilder_keep HB8.out halx) hb9)
          have HFy := Lib.hid hfy
          have hX9 : w9.heap[w8.heap.size]? = some (.cells #[.string x.name, .int .i64 x.v.a, .int .i64 x.v.b, .int .i64 x.v.c, .string x.v.p] 47) := by
            rw [hb9.block _ (by simp)]; exact Below_heap_new w8 _
          obtain ⟨bx8, hbx8⟩ : ∃ q, w8.heap.size = q := ⟨_, rfl⟩
          rw [hbx8] at hX9
          have haly := (Below.refl w9.heap.size w9).alloc (Nat.le_refl _) (.cells #[.string y.name, .int .i64 y.v.a, .int .i64 y.v.b, .int .i64 y.v.c, .string y.v.p] 47)
          have hYT : (w9.alloc (.cells #[.string y.name, .int .i64 y.v.a, .int .i64 y.v.b, .int .i64 y.v.c, .string y.v.p] 47)).heap[w9.heap.size]? = some (.cells #[.string y.name, .int .i64 y.v.a, .int .i64 y.v.b, .int .i64 y.v.c, .string y.v.p] 47) := Below_heap_new w9 _
          have hXT := (haly.block _ (block_lt hX9)).trans hX9
          have hbl9 : b < w9.heap.size := Nat.lt_of_lt_of_le hbl8 (by have := hb9.size; simp at this; omega)
          have hwT := below_then hw9 haly
          have hbT := below_on hb99 hbl9 haly
          have HBT := Lib.hid (upBuilder_keep HB9.out haly)
          have hblT : b < (w9.alloc (.cells #[.string y.name, .int .i64 y.v.a, .int .i64 y.v.b, .int .i64 y.v.c, .string y.v.p] 47)).heap.size := Nat.lt_of_lt_of_le hbl9 haly.size
          obtain ⟨x0, x1, x2, x3, x4⟩ := cells_of_block hX9
          obtain ⟨u0, u1, u2, u3, u4⟩ := cells_of_block hXT
          obtain ⟨y0, y1, y2, y3, y4⟩ := cells_of_block hYT
          have HET := Lib.hid (HE.out.below hwT)
          have HXT := Lib.hid hXT
          have HYT := Lib.hid hYT
          clear hfy hb9 halx hX9 hXT hYT hb99 hb88 hw8 hw9 hbl8 hbl9 haly
          have hFx := HFx.out
          have hFy := HFy.out
          rw [HAn.out] at hFx hFy
          cases okx
          · cases oky
            · exfalso
              have hm := HMem.out
              rw [← HRse.out, List.map_append, List.mem_append] at hm
              rcases hFx with ⟨h, _⟩ | ⟨_, _, hx⟩
              · cases h
              rcases hFy with ⟨h, _⟩ | ⟨_, _, hy⟩
              · cases h
              rcases hm with hm | hm
              · obtain ⟨q, hq, he⟩ := List.mem_map.1 hm
                exact hx q hq he
              · obtain ⟨q, hq, he⟩ := List.mem_map.1 hm
                exact hy q hq he
            have hym := findIs_mem hFy
            have HSt2 : Hid (stepL ps qs n = plusL y) := by
              show _ = _
              unfold stepL
              rw [findIs_none hFx, findIs_some (may_asc HMn.out) hFy]
            clear hFx hFy
            obtain ⟨L, hL⟩ : ∃ L, S (Pik.line ⟨y.name, y.v⟩) = L := ⟨_, rfl⟩
            have hLs : L.size ≤ 70 := by
              rw [← hL, S_size]
              have h1 := lineN_len (HQo.out _ hym)
              unfold lineN at h1
              rw [List.length_append] at h1
              simp at h1; omega
            obtain ⟨g1, g2, g3⟩ := HPz.out _ _ HQo.out hym
            have HLn := Lib.hid (line_as y.name y.v g2 g1 L hL _ HET.out)
            have HLe := Lib.hid hL
            have r1 : ∀ W, (Op.stringOp .add ⟨#[43, 32]⟩ L).run Tryz.prog W = .ok (.string (⟨#[43, 32]⟩ ++ L)) W := fun W => run_string_add_sum W _ _ (by rw [show (⟨#[43, 32]⟩ : ByteArray).size = 2 from rfl]; omega)
            have r2 : ∀ W, (Op.stringOp .add (⟨#[43, 32]⟩ ++ L) ⟨#[10]⟩).run Tryz.prog W = .ok (.string (⟨#[43, 32]⟩ ++ L ++ ⟨#[10]⟩)) W := fun W => run_string_add_sum W _ _ (by rw [ByteArray.size_append, show (⟨#[43, 32]⟩ : ByteArray).size = 2 from rfl, show (⟨#[10]⟩ : ByteArray).size = 1 from rfl]; omega)
            have hTs : (⟨#[43, 32]⟩ ++ L ++ ⟨#[10]⟩ : ByteArray).size ≤ 80 := by rw [ByteArray.size_append, ByteArray.size_append, show (⟨#[43, 32]⟩ : ByteArray).size = 2 from rfl, show (⟨#[10]⟩ : ByteArray).size = 1 from rfl]; omega
            have HTb : Hid ((⟨#[43, 32]⟩ ++ L ++ ⟨#[10]⟩ : ByteArray).data.toList = stepL ps qs n) := by
              show _ = _
              rw [HSt2.out, ← HLe.out]
              simp [S, plusL]
            clear hL g1 g2 g3 hym
            go_wp2_with fail
            refine HLn.out.mono ?_
            rintro e w10 ⟨rfl, hb10⟩
            have hB10 := upBuilder_keep HBT.out hb10
            have hbl10 : b < w10.heap.size := Nat.lt_of_lt_of_le hblT hb10.size
            have hbk10 := below_on hbT hblT hb10
            go_wp2_with fail
            refine (writeString_full b b _ _ w10 hB10 (by rw [Lib.byteCells_length]; omega) (Nat.le_of_lt hbl10)).mono ?_
            rintro e w11 ⟨rfl, hB11, hb11, _⟩
            have HB11 := Lib.hid hB11
            have hbk11 := hbk10.trans hb11
            clear hB10 hB11 hb10 hb11 hbk10
            go_wp2_with fail
            go_roundw
            case rel =>
              refine ⟨k2 + 1, hlt2, by go_num, ?_, hbk11⟩
              have h := HB11.out
              rw [upCells, upCells_app, HTb.out, ← HSu.out] at h
              exact h
            case measure => simp [intOf]; omega

          cases oky
          · have hxm := findIs_mem hFx
            have HSt2 : Hid (stepL ps qs n = minusL x) := by
              show _ = _
              unfold stepL
              rw [findIs_some (may_asc HMo.out) hFx, findIs_none hFy]
            clear hFx hFy
            obtain ⟨L, hL⟩ : ∃ L, S (Pik.line ⟨x.name, x.v⟩) = L := ⟨_, rfl⟩
            have hLs : L.size ≤ 70 := by
              rw [← hL, S_size]
              have h1 := lineN_len (HPo.out _ hxm)
              unfold lineN at h1
              rw [List.length_append] at h1
              simp at h1; omega
            obtain ⟨g1, g2, g3⟩ := HPz.out _ _ HPo.out hxm
            have HLn := Lib.hid (line_as x.name x.v g2 g1 L hL _ HET.out)
            have HLe := Lib.hid hL
            have r1 : ∀ W, (Op.stringOp .add ⟨#[45, 32]⟩ L).run Tryz.prog W = .ok (.string (⟨#[45, 32]⟩ ++ L)) W := fun W => run_string_add_sum W _ _ (by rw [show (⟨#[45, 32]⟩ : ByteArray).size = 2 from rfl]; omega)
            have r2 : ∀ W, (Op.stringOp .add (⟨#[45, 32]⟩ ++ L) ⟨#[10]⟩).run Tryz.prog W = .ok (.string (⟨#[45, 32]⟩ ++ L ++ ⟨#[10]⟩)) W := fun W => run_string_add_sum W _ _ (by rw [ByteArray.size_append, show (⟨#[45, 32]⟩ : ByteArray).size = 2 from rfl, show (⟨#[10]⟩ : ByteArray).size = 1 from rfl]; omega)
            have hTs : (⟨#[45, 32]⟩ ++ L ++ ⟨#[10]⟩ : ByteArray).size ≤ 80 := by rw [ByteArray.size_append, ByteArray.size_append, show (⟨#[45, 32]⟩ : ByteArray).size = 2 from rfl, show (⟨#[10]⟩ : ByteArray).size = 1 from rfl]; omega
            have HTb : Hid ((⟨#[45, 32]⟩ ++ L ++ ⟨#[10]⟩ : ByteArray).data.toList = stepL ps qs n) := by
              show _ = _
              rw [HSt2.out, ← HLe.out]
              simp [S, minusL]
            clear hL g1 g2 g3 hxm
            go_wp2_with fail
            refine HLn.out.mono ?_
            rintro e w10 ⟨rfl, hb10⟩
            have hB10 := upBuilder_keep HBT.out hb10
            have hbl10 : b < w10.heap.size := Nat.lt_of_lt_of_le hblT hb10.size
            have hbk10 := below_on hbT hblT hb10
            go_wp2_with fail
            refine (writeString_full b b _ _ w10 hB10 (by rw [Lib.byteCells_length]; omega) (Nat.le_of_lt hbl10)).mono ?_
            rintro e w11 ⟨rfl, hB11, hb11, _⟩
            have HB11 := Lib.hid hB11
            have hbk11 := hbk10.trans hb11
            clear hB10 hB11 hb10 hb11 hbk10
            go_wp2_with fail
            go_roundw
            case rel =>
              refine ⟨k2 + 1, hlt2, by go_num, ?_, hbk11⟩
              have h := HB11.out
              rw [upCells, upCells_app, HTb.out, ← HSu.out] at h
              exact h
            case measure => simp [intOf]; omega

          have hxm := findIs_mem hFx
          have hym := findIs_mem hFy
          have HSt2 : Hid (stepL ps qs n = chgL x y) := by
            show _ = _
            unfold stepL
            rw [findIs_some (may_asc HMo.out) hFx, findIs_some (may_asc HMn.out) hFy]
          clear hFx hFy
          obtain ⟨g1, g2, g3⟩ := HPz.out _ _ HPo.out hxm
          obtain ⟨f1, f2, f3⟩ := HPz.out _ _ HQo.out hym
          obtain ⟨L, hL⟩ : ∃ L, S (Pik.line ⟨x.name, x.v⟩) = L := ⟨_, rfl⟩
          have hLs : L.size ≤ 70 := by
            rw [← hL, S_size]
            have h1 := lineN_len (HPo.out _ hxm)
            unfold lineN at h1
            rw [List.length_append] at h1
            simp at h1; omega
          obtain ⟨V, hV⟩ : ∃ V, S y.v.show = V := ⟨_, rfl⟩
          have hVs : V.size ≤ 45 := by rw [← hV, S_size]; exact vshow_len f2
          have HLn := Lib.hid (fun W hW => line_as x.name x.v g2 g1 L hL W hW)
          have HVn := Lib.hid (fun W hW => version_as y.name y.v f2 V hV W hW)
          obtain ⟨r, hr⟩ : ∃ r, V4.cmp x.v y.v = r := ⟨_, rfl⟩
          have HCm := Lib.hid (fun W hW => cmpL_as x.v y.v r hr W hW g3 f3)
          have HLe := Lib.hid hL
          have HVe := Lib.hid hV
          have HCr := Lib.hid hr
          clear hL hV hr g1 g2 g3 f1 f2 f3 hxm hym
          by_cases hr0 : r < 0
          · have q8 : decide (r < 0) = true := decide_eq_true hr0
            have r1 : ∀ W, (Op.stringOp .add ⟨#[94, 32]⟩ L).run Tryz.prog W = .ok (.string (⟨#[94, 32]⟩ ++ L)) W := fun W => run_string_add_sum W _ _ (by rw [show (⟨#[94, 32]⟩ : ByteArray).size = 2 from rfl]; omega)
            have r2 : ∀ W, (Op.stringOp .add (⟨#[94, 32]⟩ ++ L) ⟨#[32]⟩).run Tryz.prog W = .ok (.string (⟨#[94, 32]⟩ ++ L ++ ⟨#[32]⟩)) W := fun W => run_string_add_sum W _ _ (by rw [ByteArray.size_append, show (⟨#[94, 32]⟩ : ByteArray).size = 2 from rfl, show (⟨#[32]⟩ : ByteArray).size = 1 from rfl]; omega)
            have r3 : ∀ W, (Op.stringOp .add (⟨#[94, 32]⟩ ++ L ++ ⟨#[32]⟩) V).run Tryz.prog W = .ok (.string (⟨#[94, 32]⟩ ++ L ++ ⟨#[32]⟩ ++ V)) W := fun W => run_string_add_sum W _ _ (by rw [ByteArray.size_append, ByteArray.size_append, show (⟨#[94, 32]⟩ : ByteArray).size = 2 from rfl, show (⟨#[32]⟩ : ByteArray).size = 1 from rfl]; omega)
            have r4 : ∀ W, (Op.stringOp .add (⟨#[94, 32]⟩ ++ L ++ ⟨#[32]⟩ ++ V) ⟨#[10]⟩).run Tryz.prog W = .ok (.string (⟨#[94, 32]⟩ ++ L ++ ⟨#[32]⟩ ++ V ++ ⟨#[10]⟩)) W := fun W => run_string_add_sum W _ _ (by rw [ByteArray.size_append, ByteArray.size_append, ByteArray.size_append, show (⟨#[94, 32]⟩ : ByteArray).size = 2 from rfl, show (⟨#[32]⟩ : ByteArray).size = 1 from rfl, show (⟨#[10]⟩ : ByteArray).size = 1 from rfl]; omega)
            have hTs : (⟨#[94, 32]⟩ ++ L ++ ⟨#[32]⟩ ++ V ++ ⟨#[10]⟩ : ByteArray).size ≤ 130 := by rw [ByteArray.size_append, ByteArray.size_append, ByteArray.size_append, ByteArray.size_append, show (⟨#[94, 32]⟩ : ByteArray).size = 2 from rfl, show (⟨#[32]⟩ : ByteArray).size = 1 from rfl, show (⟨#[10]⟩ : ByteArray).size = 1 from rfl]; omega
            have HTb : Hid ((⟨#[94, 32]⟩ ++ L ++ ⟨#[32]⟩ ++ V ++ ⟨#[10]⟩ : ByteArray).data.toList = stepL ps qs n) := by
              show _ = _
              rw [HSt2.out, ← HLe.out, ← HVe.out]
              unfold chgL
              rw [HCr.out, if_pos hr0]
              simp [S]
            clear hr0
            go_wp2_with fail
            refine (HCm.out _ HET.out).mono ?_
            rintro e w10 ⟨rfl, hb10⟩
            have HBW := Lib.hid (upBuilder_keep HBT.out hb10)
            have hblW : b < w10.heap.size := Nat.lt_of_lt_of_le hblT hb10.size
            have hbkW := below_on hbT hblT hb10
            have hwW := below_then hwT hb10
            have hbX := hb10.block _ (block_lt HXT.out)
            have hbY := hb10.block _ (block_lt HYT.out)
            clear hb10 x0 x1 x2 x3 x4 u0 u1 u2 u3 u4 y0 y1 y2 y3 y4
            go_wp2_with fail
            have hXW := hbX.trans HXT.out
            have hYW := hbY.trans HYT.out
            have hBd := upBuilder_keep HBW.out (Below.refl w10.heap.size w10).drew
            refine wp_region_held_drew (S := (fun w' => w'.cell? ⟨bx8, 0, none⟩ = some (.string x.name) ∧ w'.cell? ⟨bx8, 1, none⟩ = some (.int .i64 x.v.a) ∧ w'.cell? ⟨bx8, 2, none⟩ = some (.int .i64 x.v.b) ∧ w'.cell? ⟨bx8, 3, none⟩ = some (.int .i64 x.v.c) ∧ w'.cell? ⟨bx8, 4, none⟩ = some (.string x.v.p) ∧ w'.cell? ⟨w9.heap.size, 0, none⟩ = some (.string y.name) ∧ w'.cell? ⟨w9.heap.size, 1, none⟩ = some (.int .i64 y.v.a) ∧ w'.cell? ⟨w9.heap.size, 2, none⟩ = some (.int .i64 y.v.b) ∧ w'.cell? ⟨w9.heap.size, 3, none⟩ = some (.int .i64 y.v.c) ∧ w'.cell? ⟨w9.heap.size, 4, none⟩ = some (.string y.v.p) ∧ w'.heap[bx8]? = some (.cells #[.string x.name, .int .i64 x.v.a, .int .i64 x.v.b, .int .i64 x.v.c, .string x.v.p] 47) ∧ w'.heap[w9.heap.size]? = some (.cells #[.string y.name, .int .i64 y.v.a, .int .i64 y.v.b, .int .i64 y.v.c, .string y.v.p] 47) ∧ Below b w10 w')) (by kernel_rfl) (chS_of hXW hYW (Below.refl b w10).drew) (fun hHeld => ?_)
            refine wpAnyH_take (i := 0) (v := ?_) rfl (by kernel_rfl) (by kernel_rfl) (by kernel_rfl) (fun _ _ _ h => h) (Or.inl ⟨by kernel_rfl, ?_⟩) hHeld ?_
            rotate_left
            · (intro W hSw; (try dsimp only at hSw); go_simp; (try with_reducible rfl))
            (try simp only [Act.put, List.getElem_toArray, List.getElem_cons_zero, List.setIfInBounds_toArray, List.set_cons_succ, List.set_cons_zero])
            refine wpAnyH_take (i := 4) (v := ?_) rfl (by kernel_rfl) (by kernel_rfl) (by kernel_rfl) (fun _ _ _ h => h) (Or.inl ⟨by kernel_rfl, ?_⟩) hHeld ?_
            rotate_left
            · (intro W hSw; (try dsimp only at hSw); go_simp; (try with_reducible rfl))
            (try simp only [Act.put, List.getElem_toArray, List.getElem_cons_succ, List.getElem_cons_zero, List.setIfInBounds_toArray, List.set_cons_succ, List.set_cons_zero])
            refine wpAnyH_ready (rs := [1]) (by kernel_rfl) (by simp) ?_
            refine AllReadyH.cons rfl (fun K hK => ?_) AllReadyH.nil
            go_simp
            refine (HLn.out _ (HE.out.below (hwW.trans (hHeld.2.2.2.2.2.2.2.2.2.2.2.2.mono hbw)))).mono ?_
            rintro e w12 ⟨rfl, hb12⟩
            have hB12 := upBuilder_keep hBd hb12
            refine hK.out _ _ (chS_of ((hb12.block _ (block_lt hHeld.2.2.2.2.2.2.2.2.2.2.1)).trans hHeld.2.2.2.2.2.2.2.2.2.2.1) ((hb12.block _ (block_lt hHeld.2.2.2.2.2.2.2.2.2.2.2.1)).trans hHeld.2.2.2.2.2.2.2.2.2.2.2.1) (below_on hHeld.2.2.2.2.2.2.2.2.2.2.2.2 (Nat.lt_of_lt_of_le hblW hHeld.2.2.2.2.2.2.2.2.2.2.2.2.size) hb12)) (fun hHeld => ?_)
            clear hK K
            (try simp only [Act.put, List.getElem_toArray, List.getElem_cons_succ, List.getElem_cons_zero, List.setIfInBounds_toArray, List.set_cons_succ, List.set_cons_zero])
            refine wpAnyH_take (i := 2) (v := ?_) rfl (by kernel_rfl) (by kernel_rfl) (by kernel_rfl) (fun _ _ _ h => h) (Or.inl ⟨by kernel_rfl, ?_⟩) hHeld ?_
            rotate_left
            · (intro W hSw; (try dsimp only at hSw); go_simp; (try with_reducible rfl))
            (try simp only [Act.put, List.getElem_toArray, List.getElem_cons_succ, List.getElem_cons_zero, List.setIfInBounds_toArray, List.set_cons_succ, List.set_cons_zero])
            refine wpAnyH_take (i := 3) (v := ?_) rfl (by kernel_rfl) (by kernel_rfl) (by kernel_rfl) (fun _ _ _ h => h) (Or.inl ⟨by kernel_rfl, ?_⟩) hHeld ?_
            rotate_left
            · (intro W hSw; (try dsimp only at hSw); go_simp; (try with_reducible rfl))
            (try simp only [Act.put, List.getElem_toArray, List.getElem_cons_succ, List.getElem_cons_zero, List.setIfInBounds_toArray, List.set_cons_succ, List.set_cons_zero])
            refine wpAnyH_ready (rs := [5]) (by kernel_rfl) (by simp) ?_
            refine AllReadyH.cons rfl (fun K hK => ?_) AllReadyH.nil
            go_simp
            refine (HVn.out _ (HE.out.below (hwW.trans (hHeld.2.2.2.2.2.2.2.2.2.2.2.2.mono hbw)))).mono ?_
            rintro e w13 ⟨rfl, hb13⟩
            have hB13 := upBuilder_keep hB12 hb13
            refine hK.out _ _ (chS_of ((hb13.block _ (block_lt hHeld.2.2.2.2.2.2.2.2.2.2.1)).trans hHeld.2.2.2.2.2.2.2.2.2.2.1) ((hb13.block _ (block_lt hHeld.2.2.2.2.2.2.2.2.2.2.2.1)).trans hHeld.2.2.2.2.2.2.2.2.2.2.2.1) (below_on hHeld.2.2.2.2.2.2.2.2.2.2.2.2 (Nat.lt_of_lt_of_le hblW hHeld.2.2.2.2.2.2.2.2.2.2.2.2.size) hb13)) (fun hHeld => ?_)
            clear hK K
            (try simp only [Act.put, List.getElem_toArray, List.getElem_cons_succ, List.getElem_cons_zero, List.setIfInBounds_toArray, List.set_cons_succ, List.set_cons_zero])
            refine wpAnyH_take (i := 6) (v := ?_) rfl (by kernel_rfl) (by kernel_rfl) (by kernel_rfl) (fun _ _ _ h => h) (Or.inl ⟨by kernel_rfl, ?_⟩) hHeld ?_
            rotate_left
            · (intro W hSw; (try dsimp only at hSw); go_simp; (try with_reducible rfl))
            (try simp only [Act.put, List.getElem_toArray, List.getElem_cons_succ, List.getElem_cons_zero, List.setIfInBounds_toArray, List.set_cons_succ, List.set_cons_zero])
            refine wpAnyH_take (i := 7) (v := ?_) rfl (by kernel_rfl) (by kernel_rfl) (by kernel_rfl) (fun _ _ _ h => h) (Or.inl ⟨by kernel_rfl, ?_⟩) hHeld ?_
            rotate_left
            · (intro W hSw; (try dsimp only at hSw); go_simp; (try with_reducible rfl))
            (try simp only [Act.put, List.getElem_toArray, List.getElem_cons_succ, List.getElem_cons_zero, List.setIfInBounds_toArray, List.set_cons_succ, List.set_cons_zero])
            refine wpAnyH_ready (rs := [8]) (by kernel_rfl) (by simp) ?_
            refine AllReadyH.cons rfl (fun K hK => ?_) AllReadyH.nil
            go_simp
            refine (writeString_full b b _ _ _ hB13 (by rw [Lib.byteCells_length]; omega) (Nat.le_of_lt (Nat.lt_of_lt_of_le hblW hHeld.2.2.2.2.2.2.2.2.2.2.2.2.size))).mono ?_
            rintro e w14 ⟨rfl, hB14, hb14, hO14⟩
            refine hK.out _ _ (chS_of (hO14 _ _ _ _ hHeld.2.2.2.2.2.2.2.2.2.2.1 (by decide) (by decide)) (hO14 _ _ _ _ hHeld.2.2.2.2.2.2.2.2.2.2.2.1 (by decide) (by decide)) (hHeld.2.2.2.2.2.2.2.2.2.2.2.2.trans hb14)) (fun hHeld => ?_)
            clear hK K
            (try simp only [Act.put, List.getElem_toArray, List.getElem_cons_succ, List.getElem_cons_zero, List.setIfInBounds_toArray, List.set_cons_succ, List.set_cons_zero])
            refine wpAnyH_done (by kernel_rfl) ?_ _
            have HB14 := Lib.hid hB14
            have hbk14 := hbkW.trans hHeld.2.2.2.2.2.2.2.2.2.2.2.2
            clear hB14 hB13 hB12 hBd hHeld hb12 hb13 hb14 hO14 hXW hYW
            go_wp2_with fail
            go_roundw
            case rel =>
              refine ⟨k2 + 1, hlt2, by go_num, ?_, hbk14⟩
              have h := HB14.out
              rw [upCells, upCells_app, HTb.out, ← HSu.out] at h
              exact h
            case measure => simp [intOf]; omega
          have q8 : decide (r < 0) = false := decide_eq_false hr0
          by_cases hr1 : 0 < r
          · have q9 : decide (0 < r) = true := decide_eq_true hr1
            have r1 : ∀ W, (Op.stringOp .add ⟨#[118, 32]⟩ L).run Tryz.prog W = .ok (.string (⟨#[118, 32]⟩ ++ L)) W := fun W => run_string_add_sum W _ _ (by rw [show (⟨#[118, 32]⟩ : ByteArray).size = 2 from rfl]; omega)
            have r2 : ∀ W, (Op.stringOp .add (⟨#[118, 32]⟩ ++ L) ⟨#[32]⟩).run Tryz.prog W = .ok (.string (⟨#[118, 32]⟩ ++ L ++ ⟨#[32]⟩)) W := fun W => run_string_add_sum W _ _ (by rw [ByteArray.size_append, show (⟨#[118, 32]⟩ : ByteArray).size = 2 from rfl, show (⟨#[32]⟩ : ByteArray).size = 1 from rfl]; omega)
            have r3 : ∀ W, (Op.stringOp .add (⟨#[118, 32]⟩ ++ L ++ ⟨#[32]⟩) V).run Tryz.prog W = .ok (.string (⟨#[118, 32]⟩ ++ L ++ ⟨#[32]⟩ ++ V)) W := fun W => run_string_add_sum W _ _ (by rw [ByteArray.size_append, ByteArray.size_append, show (⟨#[118, 32]⟩ : ByteArray).size = 2 from rfl, show (⟨#[32]⟩ : ByteArray).size = 1 from rfl]; omega)
            have r4 : ∀ W, (Op.stringOp .add (⟨#[118, 32]⟩ ++ L ++ ⟨#[32]⟩ ++ V) ⟨#[10]⟩).run Tryz.prog W = .ok (.string (⟨#[118, 32]⟩ ++ L ++ ⟨#[32]⟩ ++ V ++ ⟨#[10]⟩)) W := fun W => run_string_add_sum W _ _ (by rw [ByteArray.size_append, ByteArray.size_append, ByteArray.size_append, show (⟨#[118, 32]⟩ : ByteArray).size = 2 from rfl, show (⟨#[32]⟩ : ByteArray).size = 1 from rfl, show (⟨#[10]⟩ : ByteArray).size = 1 from rfl]; omega)
            have hTs : (⟨#[118, 32]⟩ ++ L ++ ⟨#[32]⟩ ++ V ++ ⟨#[10]⟩ : ByteArray).size ≤ 130 := by rw [ByteArray.size_append, ByteArray.size_append, ByteArray.size_append, ByteArray.size_append, show (⟨#[118, 32]⟩ : ByteArray).size = 2 from rfl, show (⟨#[32]⟩ : ByteArray).size = 1 from rfl, show (⟨#[10]⟩ : ByteArray).size = 1 from rfl]; omega
            have HTb : Hid ((⟨#[118, 32]⟩ ++ L ++ ⟨#[32]⟩ ++ V ++ ⟨#[10]⟩ : ByteArray).data.toList = stepL ps qs n) := by
              show _ = _
              rw [HSt2.out, ← HLe.out, ← HVe.out]
              unfold chgL
              rw [HCr.out, if_neg hr0, if_pos hr1]
              simp [S]
            clear hr0 hr1
            go_wp2_with fail
            refine (HCm.out _ HET.out).mono ?_
            rintro e w10 ⟨rfl, hb10⟩
            obtain ⟨z0, z1, z2, z3, z4⟩ := cells_of_block ((hb10.block _ (block_lt HXT.out)).trans HXT.out)
            obtain ⟨v0, v1, v2, v3, v4⟩ := cells_of_block ((hb10.block _ (block_lt HYT.out)).trans HYT.out)
            have hw10 := below_then hwT hb10
            have hb10b := below_on hbT hblT hb10
            have hbl10 : b < w10.heap.size := Nat.lt_of_lt_of_le hblT hb10.size
            clear x0 x1 x2 x3 x4 u0 u1 u2 u3 u4 y0 y1 y2 y3 y4
            go_wp2_with fail
            refine (HCm.out _ (HE.out.below hw10)).mono ?_
            rintro e w11 ⟨rfl, hb11⟩
            have HBW := Lib.hid (upBuilder_keep (upBuilder_keep HBT.out hb10) hb11)
            have hblW : b < w11.heap.size := Nat.lt_of_lt_of_le hbl10 hb11.size
            have hbkW := below_on hb10b hbl10 hb11
            have hwW := below_then hw10 hb11
            have hbX := (hb11.block _ (Nat.lt_of_lt_of_le (block_lt HXT.out) hb10.size)).trans (hb10.block _ (block_lt HXT.out))
            have hbY := (hb11.block _ (Nat.lt_of_lt_of_le (block_lt HYT.out) hb10.size)).trans (hb10.block _ (block_lt HYT.out))
            clear hb10 hb11 z0 z1 z2 z3 z4 v0 v1 v2 v3 v4 hw10 hb10b
            go_wp2_with fail
            have hXW := hbX.trans HXT.out
            have hYW := hbY.trans HYT.out
            have hBd := upBuilder_keep HBW.out (Below.refl w11.heap.size w11).drew
            refine wp_region_held_drew (S := (fun w' => w'.cell? ⟨bx8, 0, none⟩ = some (.string x.name) ∧ w'.cell? ⟨bx8, 1, none⟩ = some (.int .i64 x.v.a) ∧ w'.cell? ⟨bx8, 2, none⟩ = some (.int .i64 x.v.b) ∧ w'.cell? ⟨bx8, 3, none⟩ = some (.int .i64 x.v.c) ∧ w'.cell? ⟨bx8, 4, none⟩ = some (.string x.v.p) ∧ w'.cell? ⟨w9.heap.size, 0, none⟩ = some (.string y.name) ∧ w'.cell? ⟨w9.heap.size, 1, none⟩ = some (.int .i64 y.v.a) ∧ w'.cell? ⟨w9.heap.size, 2, none⟩ = some (.int .i64 y.v.b) ∧ w'.cell? ⟨w9.heap.size, 3, none⟩ = some (.int .i64 y.v.c) ∧ w'.cell? ⟨w9.heap.size, 4, none⟩ = some (.string y.v.p) ∧ w'.heap[bx8]? = some (.cells #[.string x.name, .int .i64 x.v.a, .int .i64 x.v.b, .int .i64 x.v.c, .string x.v.p] 47) ∧ w'.heap[w9.heap.size]? = some (.cells #[.string y.name, .int .i64 y.v.a, .int .i64 y.v.b, .int .i64 y.v.c, .string y.v.p] 47) ∧ Below b w11 w')) (by kernel_rfl) (chS_of hXW hYW (Below.refl b w11).drew) (fun hHeld => ?_)
            refine wpAnyH_take (i := 0) (v := ?_) rfl (by kernel_rfl) (by kernel_rfl) (by kernel_rfl) (fun _ _ _ h => h) (Or.inl ⟨by kernel_rfl, ?_⟩) hHeld ?_
            rotate_left
            · (intro W hSw; (try dsimp only at hSw); go_simp; (try with_reducible rfl))
            (try simp only [Act.put, List.getElem_toArray, List.getElem_cons_zero, List.setIfInBounds_toArray, List.set_cons_succ, List.set_cons_zero])
            refine wpAnyH_take (i := 4) (v := ?_) rfl (by kernel_rfl) (by kernel_rfl) (by kernel_rfl) (fun _ _ _ h => h) (Or.inl ⟨by kernel_rfl, ?_⟩) hHeld ?_
            rotate_left
            · (intro W hSw; (try dsimp only at hSw); go_simp; (try with_reducible rfl))
            (try simp only [Act.put, List.getElem_toArray, List.getElem_cons_succ, List.getElem_cons_zero, List.setIfInBounds_toArray, List.set_cons_succ, List.set_cons_zero])
            refine wpAnyH_ready (rs := [1]) (by kernel_rfl) (by simp) ?_
            refine AllReadyH.cons rfl (fun K hK => ?_) AllReadyH.nil
            go_simp
            refine (HLn.out _ (HE.out.below (hwW.trans (hHeld.2.2.2.2.2.2.2.2.2.2.2.2.mono hbw)))).mono ?_
            rintro e w12 ⟨rfl, hb12⟩
            have hB12 := upBuilder_keep hBd hb12
            refine hK.out _ _ (chS_of ((hb12.block _ (block_lt hHeld.2.2.2.2.2.2.2.2.2.2.1)).trans hHeld.2.2.2.2.2.2.2.2.2.2.1) ((hb12.block _ (block_lt hHeld.2.2.2.2.2.2.2.2.2.2.2.1)).trans hHeld.2.2.2.2.2.2.2.2.2.2.2.1) (below_on hHeld.2.2.2.2.2.2.2.2.2.2.2.2 (Nat.lt_of_lt_of_le hblW hHeld.2.2.2.2.2.2.2.2.2.2.2.2.size) hb12)) (fun hHeld => ?_)
            clear hK K
            (try simp only [Act.put, List.getElem_toArray, List.getElem_cons_succ, List.getElem_cons_zero, List.setIfInBounds_toArray, List.set_cons_succ, List.set_cons_zero])
            refine wpAnyH_take (i := 2) (v := ?_) rfl (by kernel_rfl) (by kernel_rfl) (by kernel_rfl) (fun _ _ _ h => h) (Or.inl ⟨by kernel_rfl, ?_⟩) hHeld ?_
            rotate_left
            · (intro W hSw; (try dsimp only at hSw); go_simp; (try with_reducible rfl))
            (try simp only [Act.put, List.getElem_toArray, List.getElem_cons_succ, List.getElem_cons_zero, List.setIfInBounds_toArray, List.set_cons_succ, List.set_cons_zero])
            refine wpAnyH_take (i := 3) (v := ?_) rfl (by kernel_rfl) (by kernel_rfl) (by kernel_rfl) (fun _ _ _ h => h) (Or.inl ⟨by kernel_rfl, ?_⟩) hHeld ?_
            rotate_left
            · (intro W hSw; (try dsimp only at hSw); go_simp; (try with_reducible rfl))
            (try simp only [Act.put, List.getElem_toArray, List.getElem_cons_succ, List.getElem_cons_zero, List.setIfInBounds_toArray, List.set_cons_succ, List.set_cons_zero])
            refine wpAnyH_ready (rs := [5]) (by kernel_rfl) (by simp) ?_
            refine AllReadyH.cons rfl (fun K hK => ?_) AllReadyH.nil
            go_simp
            refine (HVn.out _ (HE.out.below (hwW.trans (hHeld.2.2.2.2.2.2.2.2.2.2.2.2.mono hbw)))).mono ?_
            rintro e w13 ⟨rfl, hb13⟩
            have hB13 := upBuilder_keep hB12 hb13
            refine hK.out _ _ (chS_of ((hb13.block _ (block_lt hHeld.2.2.2.2.2.2.2.2.2.2.1)).trans hHeld.2.2.2.2.2.2.2.2.2.2.1) ((hb13.block _ (block_lt hHeld.2.2.2.2.2.2.2.2.2.2.2.1)).trans hHeld.2.2.2.2.2.2.2.2.2.2.2.1) (below_on hHeld.2.2.2.2.2.2.2.2.2.2.2.2 (Nat.lt_of_lt_of_le hblW hHeld.2.2.2.2.2.2.2.2.2.2.2.2.size) hb13)) (fun hHeld => ?_)
            clear hK K
            (try simp only [Act.put, List.getElem_toArray, List.getElem_cons_succ, List.getElem_cons_zero, List.setIfInBounds_toArray, List.set_cons_succ, List.set_cons_zero])
            refine wpAnyH_take (i := 6) (v := ?_) rfl (by kernel_rfl) (by kernel_rfl) (by kernel_rfl) (fun _ _ _ h => h) (Or.inl ⟨by kernel_rfl, ?_⟩) hHeld ?_
            rotate_left
            · (intro W hSw; (try dsimp only at hSw); go_simp; (try with_reducible rfl))
            (try simp only [Act.put, List.getElem_toArray, List.getElem_cons_succ, List.getElem_cons_zero, List.setIfInBounds_toArray, List.set_cons_succ, List.set_cons_zero])
            refine wpAnyH_take (i := 7) (v := ?_) rfl (by kernel_rfl) (by kernel_rfl) (by kernel_rfl) (fun _ _ _ h => h) (Or.inl ⟨by kernel_rfl, ?_⟩) hHeld ?_
            rotate_left
            · (intro W hSw; (try dsimp only at hSw); go_simp; (try with_reducible rfl))
            (try simp only [Act.put, List.getElem_toArray, List.getElem_cons_succ, List.getElem_cons_zero, List.setIfInBounds_toArray, List.set_cons_succ, List.set_cons_zero])
            refine wpAnyH_ready (rs := [8]) (by kernel_rfl) (by simp) ?_
            refine AllReadyH.cons rfl (fun K hK => ?_) AllReadyH.nil
            go_simp
            refine (writeString_full b b _ _ _ hB13 (by rw [Lib.byteCells_length]; omega) (Nat.le_of_lt (Nat.lt_of_lt_of_le hblW hHeld.2.2.2.2.2.2.2.2.2.2.2.2.size))).mono ?_
            rintro e w14 ⟨rfl, hB14, hb14, hO14⟩
            refine hK.out _ _ (chS_of (hO14 _ _ _ _ hHeld.2.2.2.2.2.2.2.2.2.2.1 (by decide) (by decide)) (hO14 _ _ _ _ hHeld.2.2.2.2.2.2.2.2.2.2.2.1 (by decide) (by decide)) (hHeld.2.2.2.2.2.2.2.2.2.2.2.2.trans hb14)) (fun hHeld => ?_)
            clear hK K
            (try simp only [Act.put, List.getElem_toArray, List.getElem_cons_succ, List.getElem_cons_zero, List.setIfInBounds_toArray, List.set_cons_succ, List.set_cons_zero])
            refine wpAnyH_done (by kernel_rfl) ?_ _
            have HB14 := Lib.hid hB14
            have hbk14 := hbkW.trans hHeld.2.2.2.2.2.2.2.2.2.2.2.2
            clear hB14 hB13 hB12 hBd hHeld hb12 hb13 hb14 hO14 hXW hYW
            go_wp2_with fail
            go_roundw
            case rel =>
              refine ⟨k2 + 1, hlt2, by go_num, ?_, hbk14⟩
              have h := HB14.out
              rw [upCells, upCells_app, HTb.out, ← HSu.out] at h
              exact h
            case measure => simp [intOf]; omega
          have q9 : decide (0 < r) = false := decide_eq_false hr1
          have HNo : Hid (stepL ps qs n = []) := by
            show _ = _
            rw [HSt2.out]
            unfold chgL
            rw [HCr.out, if_neg hr0, if_neg hr1]
          clear hr0 hr1
          go_wp2_with fail
          refine (HCm.out _ HET.out).mono ?_
          rintro e w10 ⟨rfl, hb10⟩
          obtain ⟨z0, z1, z2, z3, z4⟩ := cells_of_block ((hb10.block _ (block_lt HXT.out)).trans HXT.out)
          obtain ⟨v0, v1, v2, v3, v4⟩ := cells_of_block ((hb10.block _ (block_lt HYT.out)).trans HYT.out)
          have hw10 := below_then hwT hb10
          have hb10b := below_on hbT hblT hb10
          have hbl10 : b < w10.heap.size := Nat.lt_of_lt_of_le hblT hb10.size
          clear x0 x1 x2 x3 x4 u0 u1 u2 u3 u4 y0 y1 y2 y3 y4
          go_wp2_with fail
          refine (HCm.out _ (HE.out.below hw10)).mono ?_
          rintro e w11 ⟨rfl, hb11⟩
          have HB11 := Lib.hid (upBuilder_keep (upBuilder_keep HBT.out hb10) hb11)
          have hbk11 := below_on hb10b hbl10 hb11
          clear hb10 hb11 z0 z1 z2 z3 z4 v0 v1 v2 v3 v4 hw10 hb10b
          go_wp2_with fail
          go_roundw
          case rel =>
            refine ⟨k2 + 1, hlt2, by go_num, ?_, hbk11⟩
            have h := HB11.out
            rw [HSu.out, HNo.out, List.append_nil]
            exact h
          case measure => simp [intOf]; omega
        · have q7 : decide (k2 < ns.length) = false := decide_eq_false hlt2
          have HAll : Hid (upTo ps qs ns k2 = updL ps qs) := by
            show _ = _
            obtain rfl : k2 = ns.length := by omega
            unfold upTo updL
            rw [List.take_length, HNu.out]
          have HX := HB.out
          rw [HAll.out] at HX
          have HX := Lib.hid HX
          have hbz : b ≤ wr.heap.size := by omega
          clear hlt2
          go_wp2_with fail
          refine (Tryz.Builder_String_any b b _ _ HX.out hbz).mono ?_
          rintro e w9 ⟨rfl, hb9⟩
          go_wp2_with fail
          go_ret2
          exact ⟨by rw [HS.out]; rfl, hww.trans (hb9.mono hbw)⟩
end Go.Proofs.YtboajinaiceekaaGreatDoor
