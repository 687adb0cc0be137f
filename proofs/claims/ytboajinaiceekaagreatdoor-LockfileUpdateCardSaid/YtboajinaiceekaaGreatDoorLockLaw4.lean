/- Locks: from a lock to itself nothing leads; the other way round signs and versions are turned: the law, walked. -/
import Derived.Test.YtboajinaiceekaaGreatDoorLockLaw1
import Derived.Test.YtboajinaiceekaaGreatDoorLockPlain
import Derived.Test.YtboajinaiceekaaGreatDoorSplRef
import Derived.Test.YtboajinaiceekaaGreatDoorStepA
namespace Go
open Go.RowKit
/-- the cells of two rows of texts, one of each -/
def LuS (g h k : Nat) (A B : ByteArray) (w0 W : World) : Prop := W.cell? ⟨g, k, none⟩ = some (.string A) ∧ W.cell? ⟨h, k, none⟩ = some (.string B) ∧ Below w0.heap.size w0 W
theorem LuS.on {g h k : Nat} {A B : ByteArray} {w0 : World} : ∀ W W', LuS g h k A B w0 W → Below W.heap.size W W' → LuS g h k A B w0 W' := fun _ _ ⟨h0, h1, h2⟩ hb => ⟨cell_on h0 hb, cell_on h1 hb, below_then h2 hb⟩
theorem keepLu {P : Program} {f : FuncId} {args : Array Value} {R : Ending → World → Prop} {w0 w : World} {g h k : Nat} {a b : Value}
    (hs : w.cell? ⟨g, k, none⟩ = some a ∧ w.cell? ⟨h, k, none⟩ = some b ∧ Below w0.heap.size w0 w) (hR : ∀ e w', R e w' → Below w.heap.size w w') (hc : Calls P f args w R) :
    Calls P f args w fun e w' => R e w' ∧ (w'.cell? ⟨g, k, none⟩ = some a ∧ w'.cell? ⟨h, k, none⟩ = some b ∧ Below w0.heap.size w0 w') :=
  hc.mono fun _ _ hr => ⟨hr, cell_on hs.1 (hR _ _ hr), cell_on hs.2.1 (hR _ _ hr), below_then hs.2.2 (hR _ _ hr)⟩
theorem bytes_same (a b : ByteArray) (h : a = b) : (a.toList != b.toList) = false := by subst h; simp
end Go
namespace Go.Proofs.YtboajinaiceekaaGreatDoor
open Go.RowKit
theorem turned_as (A B : ByteArray) (h : S (turnS A.data.toList) = B) (w : World) : Calls Tryz.prog 19 #[.string A] w fun e w' => e = .returned (.string B) ∧ w' = w := by
  obtain ⟨l, hl⟩ : ∃ l, A.data.toList = l := ⟨_, rfl⟩
  have e0 : A.toList = l := by rw [Lib.toList_data]; exact hl
  rw [hl] at h
  have HH := Lib.hid h
  by_cases h1 : l = [43]
  · have q1 : (A.toList == [43]) = true := by rw [e0, h1]; rfl
    have HB : Hid (B = ⟨#[45]⟩) := by show _ = _; rw [← h, h1]; rfl
    clear h h1 e0 hl
    go_enter Tryz.func19, Tryz.ntmps19
    go_wp2_with fail
    go_ret
    exact ⟨by rw [HB.out]; rfl, rfl⟩
  have q1 : (A.toList == [43]) = false := by rw [e0]; simpa using h1
  by_cases h2 : l = [45]
  · have q2 : (A.toList == [45]) = true := by rw [e0, h2]; rfl
    have HB : Hid (B = ⟨#[43]⟩) := by show _ = _; rw [← h, h2]; rfl
    clear h h1 h2 e0 hl
    go_enter Tryz.func19, Tryz.ntmps19
    go_wp2_with fail
    go_ret
    exact ⟨by rw [HB.out]; rfl, rfl⟩
  have q2 : (A.toList == [45]) = false := by rw [e0]; simpa using h2
  by_cases h3 : l = [94]
  · have q3 : (A.toList == [94]) = true := by rw [e0, h3]; rfl
    have HB : Hid (B = ⟨#[118]⟩) := by show _ = _; rw [← h, h3]; rfl
    clear h h1 h2 h3 e0 hl
    go_enter Tryz.func19, Tryz.ntmps19
    go_wp2_with fail
    go_ret
    exact ⟨by rw [HB.out]; rfl, rfl⟩
  have q3 : (A.toList == [94]) = false := by rw [e0]; simpa using h3
  have HB : Hid (B = ⟨#[94]⟩) := by
    show _ = _
    rw [← h]; unfold turnS; rw [if_neg h1, if_neg h2, if_neg h3]; rfl
  clear h h1 h2 h3 e0 hl
  go_enter Tryz.func19, Tryz.ntmps19
  go_wp2_with fail
  go_ret
  exact ⟨by rw [HB.out]; rfl, rfl⟩
def LuRel (n : Nat) (w0 : World) (i : Value) (wr : World) : Prop := ∃ k : Nat, k ≤ n ∧ i = .int .i64 (k : Int) ∧ Below w0.heap.size w0 wr
/-- a text at each of a byte, as a slice of so many -/
theorem split_n (c : UInt8) (A : ByteArray) (L : List (List UInt8)) (n : Nat) (h : sepAt c A.data.toList = L) (hn : L.length = n) (w : World) (hs : A.size ≤ 100000) :
    Calls Tryz.prog 18 #[.string A, .int .u8 (c.toNat : Int)] w fun e w' => ∃ g cap, e = .returned (.slice (some ⟨g, 0, none⟩) n cap) ∧ (∀ j x, L[j]? = some x → w'.cell? ⟨g, j, none⟩ = some (.string (S x))) ∧ Below w.heap.size w w' := by
  subst h hn
  refine (refSplit_any c A w hs).mono fun e w' ⟨v, n, h1, h2, h3⟩ => ?_
  have hN : (sepAt c A.data.toList).length = n := by have := h2.1; rw [strs_length] at this; omega
  subst hN
  obtain ⟨g, cap, hv⟩ := Joins.ownsRow_form h2 (List.length_pos_iff.2 (sepAt_ne _ _))
  subst hv
  refine ⟨g, cap, h1, fun j x hx => ?_, h3⟩
  obtain ⟨hj, hx⟩ := List.getElem?_eq_some_iff.1 hx
  rw [World.ownsRow.cellAt h2 j (by omega), strs_get _ j hj, hx]
set_option maxRecDepth 100000 in
set_option maxHeartbeats 8000000 in
theorem updlaw_any (v u : Value) (ps qs : List Pik) (w : World) (hv : Piks w v ps) (hu : Piks w u qs) (hE : Env w) :
    Calls Tryz.prog 8 #[v, u] w fun e w' => e = .returned (.bool true) ∧ Below w.heap.size w w' := by
  obtain ⟨a1, c1, rfl⟩ := hv.len
  obtain ⟨a2, c2, rfl⟩ := hu.len
  have HE := Lib.hid hE
  have HAw := Lib.hid (fun W hW => awake_any W hW)
  obtain ⟨l1, hl1⟩ : ∃ b, lightP ps = b := ⟨_, rfl⟩
  have HL1 := light_any (.slice a1 ps.length c1) ps w hv
  rw [hl1] at HL1
  have HL1 := Lib.hid HL1
  cases l1
  · clear hv hu hE hl1
    go_enter Tryz.func8, Tryz.ntmps8
    go_wp2_with fail
    refine HL1.out.mono ?_
    rintro e w1 ⟨rfl, rfl⟩
    go_wp2_with fail
    refine (HAw.out _ HE.out).mono ?_
    rintro e w2 ⟨rfl, hb2⟩
    go_wp2_with fail
    go_ret
    exact ⟨rfl, hb2⟩
  obtain ⟨l2, hl2⟩ : ∃ b, lightP qs = b := ⟨_, rfl⟩
  have HL2 := light_any (.slice a2 qs.length c2) qs w hu
  rw [hl2] at HL2
  have HL2 := Lib.hid HL2
  cases l2
  · clear hv hu hE hl1 hl2
    go_enter Tryz.func8, Tryz.ntmps8
    go_wp2_with fail
    refine HL1.out.mono ?_
    rintro e w1 ⟨rfl, rfl⟩
    go_wp2_with fail
    refine HL2.out.mono ?_
    rintro e w1 ⟨rfl, rfl⟩
    go_wp2_with fail
    refine (HAw.out _ HE.out).mono ?_
    rintro e w2 ⟨rfl, hb2⟩
    go_wp2_with fail
    go_ret
    exact ⟨rfl, hb2⟩
  have hz1 := (lightP_sz hl1).2
  have hz2 := (lightP_sz hl2).2
  obtain ⟨mo, hmo⟩ : ∃ b, mayB ps = b := ⟨_, rfl⟩
  obtain ⟨mn, hmn⟩ : ∃ b, mayB qs = b := ⟨_, rfl⟩
  by_cases hm : (mo && mn) = false
  · have e1 : updShow ps qs = ([], 370) := by unfold updShow; rw [hmo, hmn, hm]; rfl
    have e2 : updShow qs ps = ([], 370) := by unfold updShow; rw [hmo, hmn, Bool.and_comm, hm]; rfl
    have HU1 : Hid (∀ W, Below w.heap.size w W → Calls Tryz.prog 16 #[.slice a1 ps.length c1, .slice a2 qs.length c2] W fun e w' => e = .returned (.tuple #[.string ⟨#[]⟩, .int .i64 370]) ∧ Below w.heap.size w w') := fun W hW =>
      (update_as _ _ ps qs ⟨#[]⟩ 370 e1 W (hv.below hW (Nat.le_refl _)) (hu.below hW (Nat.le_refl _)) (hE.below hW) hz1 hz2).mono fun _ _ ⟨h1, h2⟩ => ⟨h1, below_then hW h2⟩
    have HU2 : Hid (∀ W, Below w.heap.size w W → Calls Tryz.prog 16 #[.slice a2 qs.length c2, .slice a1 ps.length c1] W fun e w' => e = .returned (.tuple #[.string ⟨#[]⟩, .int .i64 370]) ∧ Below w.heap.size w w') := fun W hW =>
      (update_as _ _ qs ps ⟨#[]⟩ 370 e2 W (hu.below hW (Nat.le_refl _)) (hv.below hW (Nat.le_refl _)) (hE.below hW) hz2 hz1).mono fun _ _ ⟨h1, h2⟩ => ⟨h1, below_then hW h2⟩
    have HU3 : Hid (∀ W, Below w.heap.size w W → Calls Tryz.prog 16 #[.slice a1 ps.length c1, .slice a1 ps.length c1] W fun e w' => ∃ A er, e = .returned (.tuple #[.string A, .int .i64 er]) ∧ Below w.heap.size w w') := fun W hW =>
      (update_any _ _ ps ps W (hv.below hW (Nat.le_refl _)) (hv.below hW (Nat.le_refl _)) (hE.below hW) hz1 hz1).mono fun _ _ ⟨h1, h2⟩ => ⟨_, _, h1, below_then hW h2⟩
    clear hv hu hE hl1 hl2 hz1 hz2 hmo hmn hm e1 e2
    go_enter Tryz.func8, Tryz.ntmps8
    go_wp2_with fail
    refine HL1.out.mono ?_
    rintro e w1 ⟨rfl, rfl⟩
    go_wp2_with fail
    refine HL2.out.mono ?_
    rintro e w1 ⟨rfl, rfl⟩
    go_wp2_with fail
    refine (HU1.out _ (Below.refl _ _)).mono ?_
    rintro e w2 ⟨rfl, hb2⟩
    go_wp2_with fail
    refine (HU2.out _ hb2).mono ?_
    rintro e w3 ⟨rfl, hb3⟩
    go_wp2_with fail
    refine (HU3.out _ hb3).mono ?_
    rintro e w4 ⟨A, er, rfl, hb4⟩
    go_wp2_with fail
    refine (HAw.out _ (HE.out.below hb4)).mono ?_
    rintro e w5 ⟨rfl, hb5⟩
    have hb6 := below_then hb4 hb5
    go_wp2_with fail
    go_ret
    exact ⟨rfl, hb6⟩
  have hm2 : (mo && mn) = true := by simpa using hm
  obtain ⟨rfl, rfl⟩ : mo = true ∧ mn = true := by simpa using hm2
  have hlen : ∀ (xs ys : List Pik), mayB xs = true → mayB ys = true → (updL xs ys).length ≤ 10400 := fun xs ys hx hy => by
    have h1 := (may_mem hx)
    have h2 := (may_mem hy)
    have h3 := upTo_len h1.1 h2.1 (updNames xs ys) _ (Nat.le_refl _)
    have h4 : (updNames xs ys).length ≤ 80 := by
      have := Lib.compact_length_le ((xs.map Pik.nm ++ ys.map Pik.nm).mergeSort fun x y => decide (x ≤ y))
      rw [List.length_mergeSort, List.length_append, List.length_map, List.length_map] at this
      have h5 : (updNames xs ys).length ≤ xs.length + ys.length := this
      omega
    have h6 : upTo xs ys (updNames xs ys) (updNames xs ys).length = updL xs ys := by unfold upTo; rw [List.take_length]; rfl
    rw [h6] at h3; omega
  obtain ⟨A, hA⟩ : ∃ A, S (updL ps qs) = A := ⟨_, rfl⟩
  obtain ⟨B, hB⟩ : ∃ B, S (updL qs ps) = B := ⟨_, rfl⟩
  have hAl : A.data.toList = updL ps qs := by rw [← hA]; rfl
  have hBl : B.data.toList = updL qs ps := by rw [← hB]; rfl
  have hAs : A.size ≤ 10400 := by rw [← hA, S_size]; exact hlen _ _ hmo hmn
  have hBs : B.size ≤ 10400 := by rw [← hB, S_size]; exact hlen _ _ hmn hmo
  have e1 : updShow ps qs = (A.data.toList, 0) := by unfold updShow; rw [hmo, hmn, hAl]; rfl
  have e2 : updShow qs ps = (B.data.toList, 0) := by unfold updShow; rw [hmo, hmn, hBl]; rfl
  have e3 : updShow ps ps = ([], 0) := by unfold updShow; rw [hmo, upd_self hmo]; rfl
  have HU1 : Hid (∀ W, Below w.heap.size w W → Calls Tryz.prog 16 #[.slice a1 ps.length c1, .slice a2 qs.length c2] W fun e w' => e = .returned (.tuple #[.string A, .int .i64 0]) ∧ Below w.heap.size w w') := fun W hW =>
    (update_as _ _ ps qs A 0 e1 W (hv.below hW (Nat.le_refl _)) (hu.below hW (Nat.le_refl _)) (hE.below hW) hz1 hz2).mono fun _ _ ⟨h1, h2⟩ => ⟨h1, below_then hW h2⟩
  have HU2 : Hid (∀ W, Below w.heap.size w W → Calls Tryz.prog 16 #[.slice a2 qs.length c2, .slice a1 ps.length c1] W fun e w' => e = .returned (.tuple #[.string B, .int .i64 0]) ∧ Below w.heap.size w w') := fun W hW =>
    (update_as _ _ qs ps B 0 e2 W (hu.below hW (Nat.le_refl _)) (hv.below hW (Nat.le_refl _)) (hE.below hW) hz2 hz1).mono fun _ _ ⟨h1, h2⟩ => ⟨h1, below_then hW h2⟩
  have HU3 : Hid (∀ W, Below w.heap.size w W → Calls Tryz.prog 16 #[.slice a1 ps.length c1, .slice a1 ps.length c1] W fun e w' => e = .returned (.tuple #[.string ⟨#[]⟩, .int .i64 0]) ∧ Below w.heap.size w w') := fun W hW =>
    (update_as _ _ ps ps ⟨#[]⟩ 0 e3 W (hv.below hW (Nat.le_refl _)) (hv.below hW (Nat.le_refl _)) (hE.below hW) hz1 hz1).mono fun _ _ ⟨h1, h2⟩ => ⟨h1, below_then hW h2⟩
  obtain ⟨X, hX⟩ : ∃ X, updPieces ps qs = X := ⟨_, rfl⟩
  obtain ⟨Y, hY⟩ : ∃ Y, updPieces qs ps = Y := ⟨_, rfl⟩
  have hXY : X.length = Y.length := by rw [← hX, ← hY]; exact pieces_len _ _
  have hTw : ∀ k (h : k < X.length) (h' : k < Y.length), TwinW (sepAt 32 X[k]) (sepAt 32 Y[k]) := by
    subst hX hY
    exact fun k h h' => pieces_twin hmo hmn h h'
  have hpl : ∀ t ∈ X ++ Y, t.length ≤ 10400 := by
    intro t ht
    rcases List.mem_append.1 ht with ht | ht
    · rw [← hX, ← upd_pieces hmo hmn] at ht
      have := sepAt_size _ _ t ht
      rw [← hAl, ← Lib.size_eq] at this; omega
    · rw [← hY, ← upd_pieces hmn hmo] at ht
      have := sepAt_size _ _ t ht
      rw [← hBl, ← Lib.size_eq] at this; omega
  have hXl : X.length ≤ 10500 := by
    rw [← hX, ← upd_pieces hmo hmn, sepAt_count]
    have := List.count_le_length (a := (10 : UInt8)) (l := updL ps qs)
    have h2 : (updL ps qs).length = A.size := by rw [← hAl, ← Lib.size_eq]
    omega
  obtain ⟨n, hn⟩ : ∃ n, X.length = n := ⟨_, rfl⟩
  have hn2 : Y.length = n := by omega
  have HSA := Lib.hid (fun W => split_n 10 A X n (by rw [hAl, upd_pieces hmo hmn, hX]) hn W (by omega))
  have HSB := Lib.hid (fun W => split_n 10 B Y n (by rw [hBl, upd_pieces hmn hmo, hY]) hn2 W (by omega))
  rw [hn] at hXl
  have HTw := Lib.hid hTw
  have HPl := Lib.hid hpl
  have HXn := Lib.hid hn
  have HYn := Lib.hid hn2
  clear hv hu hE hl1 hl2 hz1 hz2 hmo hmn hm hm2 e1 e2 e3 hA hB hAl hBl hAs hBs hlen hX hY hXY hTw hpl hn hn2
  go_enter Tryz.func8, Tryz.ntmps8
  go_wp2_with fail
  refine HL1.out.mono ?_
  rintro e w1 ⟨rfl, rfl⟩
  go_wp2_with fail
  refine HL2.out.mono ?_
  rintro e w1 ⟨rfl, rfl⟩
  go_wp2_with fail
  refine (HU1.out _ (Below.refl _ _)).mono ?_
  rintro e w2 ⟨rfl, hb2⟩
  go_wp2_with fail
  refine (HU2.out _ hb2).mono ?_
  rintro e w3 ⟨rfl, hb3⟩
  go_wp2_with fail
  refine (HU3.out _ hb3).mono ?_
  rintro e w4 ⟨rfl, hb4⟩
  go_wp2_with fail
  refine (HSA.out _).mono ?_
  rintro e w5 ⟨g, cap, rfl, hc5, hb5⟩
  go_wp2_with fail
  refine (HSB.out _).mono ?_
  rintro e w6 ⟨h, cah, rfl, hc6, hb6⟩
  have hbw := below_then (below_then hb4 hb5) hb6
  have hcX : ∀ j x, X[j]? = some x → w6.cell? ⟨g, j, none⟩ = some (.string (S x)) := fun j x hj => cell_on (hc5 j x hj) hb6
  have HCX := Lib.hid hcX
  have HCY := Lib.hid hc6
  have q0 : ((n : Int) != (n : Int)) = false := by simp
  have q0' : (n != n) = false := by simp
  clear hb2 hb3 hb4 hb5 hb6 hc5 hc6 hcX
  go_wp2_with fail
  go_loopw [13] (fun i wr => LuRel n w6 i wr) (fun i _ => n - (intOf i).toNat)
  case atStart => exact ⟨0, Nat.zero_le _, rfl, Below.refl _ _⟩
  case round =>
    obtain ⟨k, hk, rfl, hb⟩ := hrel
    by_cases hlt : k < n
    · have i0 : (0 : Int) ≤ (k : Int) := by omega
      have i1 : (k : Int) < (n : Int) := by omega
      have hkX : k < X.length := by rw [HXn.out]; exact hlt
      have hkY : k < Y.length := by rw [HYn.out]; exact hlt
      have c0 := (hb.cell (p := ⟨g, k, none⟩) (cell_lt (HCX.out k _ (List.getElem?_eq_getElem hkX)))).trans (HCX.out k _ (List.getElem?_eq_getElem hkX))
      have c1 := (hb.cell (p := ⟨h, k, none⟩) (cell_lt (HCY.out k _ (List.getElem?_eq_getElem hkY)))).trans (HCY.out k _ (List.getElem?_eq_getElem hkY))
      have htw := HTw.out k hkX hkY
      have hx1 := HPl.out X[k] (List.mem_append_left _ (List.getElem_mem hkX))
      have hy1 := HPl.out Y[k] (List.mem_append_right _ (List.getElem_mem hkY))
      generalize X[k] = x at c0 htw hx1
      generalize Y[k] = y at c1 htw hy1
      obtain ⟨P, hP⟩ : ∃ P, S x = P := ⟨_, rfl⟩
      obtain ⟨Q, hQ⟩ : ∃ Q, S y = Q := ⟨_, rfl⟩
      have hPs : P.size ≤ 10400 := by rw [← hP, S_size]; exact hx1
      have hQs : Q.size ≤ 10400 := by rw [← hQ, S_size]; exact hy1
      obtain ⟨xs, hxs⟩ : ∃ xs, sepAt 32 x = xs := ⟨_, rfl⟩
      obtain ⟨ys, hys⟩ : ∃ ys, sepAt 32 y = ys := ⟨_, rfl⟩
      rw [hxs, hys] at htw
      rw [hP] at c0
      rw [hQ] at c1
      have hPx : P.data.toList = x := by rw [← hP]; rfl
      have hQy : Q.data.toList = y := by rw [← hQ]; rfl
      have hsP := fun W => split_n 32 P xs _ (by rw [hPx]; exact hxs) rfl W (by omega)
      have hsQ := fun W => split_n 32 Q ys _ (by rw [hQy]; exact hys) rfl W (by omega)
      have hst : wr.drew.cell? ⟨g, k, none⟩ = some (.string P) ∧ wr.drew.cell? ⟨h, k, none⟩ = some (.string Q) ∧ Below wr.drew.heap.size wr.drew wr.drew := ⟨by simpa using c0, by simpa using c1, Below.refl _ _⟩
      have hdr := hb.drew
      clear hxs hys hP hQ hPs hQs hx1 hy1 c0 c1 hb hPx hQy
      rcases htw with ⟨p, q, rfl, rfl⟩ | ⟨c, nn, vv, rfl, rfl⟩ | ⟨c, nn, vv, uu, rfl, rfl⟩
      · have HSP : Hid (∀ W, Calls Tryz.prog 18 #[.string P, .int .u8 32] W fun e w' => ∃ g1 cap1, e = .returned (.slice (some ⟨g1, 0, none⟩) 1 cap1) ∧ Below W.heap.size W w') := fun W =>
          (hsP W).mono fun e w' ⟨g1, cap1, h1, h2, h3⟩ => ⟨g1, cap1, h1, h3⟩
        have HSQ : Hid (∀ W, Calls Tryz.prog 18 #[.string Q, .int .u8 32] W fun e w' => ∃ g1 cap1, e = .returned (.slice (some ⟨g1, 0, none⟩) 1 cap1) ∧ Below W.heap.size W w') := fun W =>
          (hsQ W).mono fun e w' ⟨g1, cap1, h1, h2, h3⟩ => ⟨g1, cap1, h1, h3⟩
        clear hsP hsQ
        go_wp2_with fail
        go_region_held3 (fun W => W.cell? ⟨g, k, none⟩ = some (.string P) ∧ W.cell? ⟨h, k, none⟩ = some (.string Q) ∧ Below wr.drew.heap.size wr.drew W) (assumption) ((go_at_call 18; first | (with_reducible refine (keepLu (by assumption) (fun _ _ h => by obtain ⟨_, _, _, h⟩ := h; exact h) (HSP.out _)).mono ?_; rintro e w7 ⟨⟨gx, cx, rfl, hbx⟩, hkx⟩) | (with_reducible refine (keepLu (by assumption) (fun _ _ h => by obtain ⟨_, _, _, h⟩ := h; exact h) (HSQ.out _)).mono ?_; rintro e w8 ⟨⟨gy, cy, rfl, hby⟩, hky⟩)))
        · have hbw2 := below_then hdr hky.2.2
          have hst2 : (fun W => Below w8.heap.size w8 W) w8.drew := (Below.refl _ _).drew
          clear hkx hky hbx hby hst
          go_wp2_with fail
          refine wp_region_held_drew (S := (fun W => Below w8.heap.size w8 W)) (by kernel_rfl) (hst2) (fun hHeld => ?_)
          refine wpAnyH_take (i := 0) (v := ?_) rfl (by kernel_rfl) (by kernel_rfl) (by kernel_rfl) (fun _ _ _ h => h) (Or.inl ⟨by kernel_rfl, ?_⟩) hHeld ?_
          rotate_left
          · (rintro W _; go_simp; (try with_reducible rfl))
          (try simp only [Act.put, List.getElem_toArray, List.getElem_cons_zero, List.setIfInBounds_toArray, List.set_cons_succ, List.set_cons_zero])
          refine wpAnyH_take (i := 1) (v := ?_) rfl (by kernel_rfl) (by kernel_rfl) (by kernel_rfl) (fun _ _ _ h => h) (Or.inl ⟨by kernel_rfl, ?_⟩) hHeld ?_
          rotate_left
          · (rintro W _; go_simp; (try with_reducible rfl))
          (try simp only [Act.put, List.getElem_toArray, List.getElem_cons_succ, List.getElem_cons_zero, List.setIfInBounds_toArray, List.set_cons_succ, List.set_cons_zero])
          refine wpAnyH_take (i := 2) (v := ?_) rfl (by kernel_rfl) (by kernel_rfl) (by kernel_rfl) (fun _ _ _ h => h) (Or.inl ⟨by kernel_rfl, ?_⟩) hHeld ?_
          rotate_left
          · (rintro W _; go_simp; (try with_reducible rfl))
          (try simp only [Act.put, List.getElem_toArray, List.getElem_cons_succ, List.getElem_cons_zero, List.setIfInBounds_toArray, List.set_cons_succ, List.set_cons_zero])
          refine wpAnyH_take (i := 3) (v := ?_) rfl (by kernel_rfl) (by kernel_rfl) (by kernel_rfl) (fun _ _ _ h => h) (Or.inl ⟨by kernel_rfl, ?_⟩) hHeld ?_
          rotate_left
          · (rintro W _; go_simp; (try with_reducible rfl))
          (try simp only [Act.put, List.getElem_toArray, List.getElem_cons_succ, List.getElem_cons_zero, List.setIfInBounds_toArray, List.set_cons_succ, List.set_cons_zero])
          refine wpAnyH_take (i := 4) (v := ?_) rfl (by kernel_rfl) (by kernel_rfl) (by kernel_rfl) (fun _ _ _ h => h) (Or.inl ⟨by kernel_rfl, ?_⟩) hHeld ?_
          rotate_left
          · (rintro W _; go_simp; (try with_reducible rfl))
          (try simp only [Act.put, List.getElem_toArray, List.getElem_cons_succ, List.getElem_cons_zero, List.setIfInBounds_toArray, List.set_cons_succ, List.set_cons_zero])
          refine wpAnyH_take (i := 5) (v := ?_) rfl (by kernel_rfl) (by kernel_rfl) (by kernel_rfl) (fun _ _ _ h => h) (Or.inl ⟨by kernel_rfl, ?_⟩) hHeld ?_
          rotate_left
          · (rintro W _; go_simp; (try with_reducible rfl))
          (try simp only [Act.put, List.getElem_toArray, List.getElem_cons_succ, List.getElem_cons_zero, List.setIfInBounds_toArray, List.set_cons_succ, List.set_cons_zero])
          refine wpAnyH_take (i := 6) (v := ?_) rfl (by kernel_rfl) (by kernel_rfl) (by kernel_rfl) (fun _ _ _ h => h) (Or.inl ⟨by kernel_rfl, ?_⟩) hHeld ?_
          rotate_left
          · (rintro W _; go_simp; (try with_reducible rfl))
          (try simp only [Act.put, List.getElem_toArray, List.getElem_cons_succ, List.getElem_cons_zero, List.setIfInBounds_toArray, List.set_cons_succ, List.set_cons_zero])
          refine wpAnyH_take (i := 7) (v := ?_) rfl (by kernel_rfl) (by kernel_rfl) (by kernel_rfl) (fun _ _ _ h => h) (Or.inl ⟨by kernel_rfl, ?_⟩) hHeld ?_
          rotate_left
          · (rintro W _; go_simp; (try with_reducible rfl))
          (try simp only [Act.put, List.getElem_toArray, List.getElem_cons_succ, List.getElem_cons_zero, List.setIfInBounds_toArray, List.set_cons_succ, List.set_cons_zero])
          refine wpAnyH_take (i := 8) (v := ?_) rfl (by kernel_rfl) (by kernel_rfl) (by kernel_rfl) (fun _ _ _ h => h) (Or.inl ⟨by kernel_rfl, ?_⟩) hHeld ?_
          rotate_left
          · (rintro W _; go_simp; (try with_reducible rfl))
          (try simp only [Act.put, List.getElem_toArray, List.getElem_cons_succ, List.getElem_cons_zero, List.setIfInBounds_toArray, List.set_cons_succ, List.set_cons_zero])
          refine wpAnyH_take (i := 9) (v := ?_) rfl (by kernel_rfl) (by kernel_rfl) (by kernel_rfl) (fun _ _ _ h => h) (Or.inl ⟨by kernel_rfl, ?_⟩) hHeld ?_
          rotate_left
          · (rintro W _; go_simp; (try with_reducible rfl))
          (try simp only [Act.put, List.getElem_toArray, List.getElem_cons_succ, List.getElem_cons_zero, List.setIfInBounds_toArray, List.set_cons_succ, List.set_cons_zero])
          refine wpAnyH_take (i := 10) (v := undef) rfl (by kernel_rfl) (by kernel_rfl) (by kernel_rfl) (fun _ _ _ h => h) (Or.inr ⟨by kernel_rfl, rfl⟩) hHeld ?_
          (try simp only [Act.put, List.getElem_toArray, List.getElem_cons_succ, List.getElem_cons_zero, List.setIfInBounds_toArray, List.set_cons_succ, List.set_cons_zero])
          refine wpAnyH_take (i := 11) (v := undef) rfl (by kernel_rfl) (by kernel_rfl) (by kernel_rfl) (fun _ _ _ h => h) (Or.inr ⟨by kernel_rfl, rfl⟩) hHeld ?_
          (try simp only [Act.put, List.getElem_toArray, List.getElem_cons_succ, List.getElem_cons_zero, List.setIfInBounds_toArray, List.set_cons_succ, List.set_cons_zero])
          refine wpAnyH_take (i := 12) (v := undef) rfl (by kernel_rfl) (by kernel_rfl) (by kernel_rfl) (fun _ _ _ h => h) (Or.inr ⟨by kernel_rfl, rfl⟩) hHeld ?_
          (try simp only [Act.put, List.getElem_toArray, List.getElem_cons_succ, List.getElem_cons_zero, List.setIfInBounds_toArray, List.set_cons_succ, List.set_cons_zero])
          refine wpAnyH_take (i := 13) (v := undef) rfl (by kernel_rfl) (by kernel_rfl) (by kernel_rfl) (fun _ _ _ h => h) (Or.inr ⟨by kernel_rfl, rfl⟩) hHeld ?_
          (try simp only [Act.put, List.getElem_toArray, List.getElem_cons_succ, List.getElem_cons_zero, List.setIfInBounds_toArray, List.set_cons_succ, List.set_cons_zero])
          refine wpAnyH_take (i := 14) (v := undef) rfl (by kernel_rfl) (by kernel_rfl) (by kernel_rfl) (fun _ _ _ h => h) (Or.inr ⟨by kernel_rfl, rfl⟩) hHeld ?_
          (try simp only [Act.put, List.getElem_toArray, List.getElem_cons_succ, List.getElem_cons_zero, List.setIfInBounds_toArray, List.set_cons_succ, List.set_cons_zero])
          refine wpAnyH_take (i := 15) (v := undef) rfl (by kernel_rfl) (by kernel_rfl) (by kernel_rfl) (fun _ _ _ h => h) (Or.inr ⟨by kernel_rfl, rfl⟩) hHeld ?_
          (try simp only [Act.put, List.getElem_toArray, List.getElem_cons_succ, List.getElem_cons_zero, List.setIfInBounds_toArray, List.set_cons_succ, List.set_cons_zero])
          refine wpAnyH_take (i := 16) (v := undef) rfl (by kernel_rfl) (by kernel_rfl) (by kernel_rfl) (fun _ _ _ h => h) (Or.inr ⟨by kernel_rfl, rfl⟩) hHeld ?_
          (try simp only [Act.put, List.getElem_toArray, List.getElem_cons_succ, List.getElem_cons_zero, List.setIfInBounds_toArray, List.set_cons_succ, List.set_cons_zero])
          refine wpAnyH_take (i := 17) (v := undef) rfl (by kernel_rfl) (by kernel_rfl) (by kernel_rfl) (fun _ _ _ h => h) (Or.inr ⟨by kernel_rfl, rfl⟩) hHeld ?_
          (try simp only [Act.put, List.getElem_toArray, List.getElem_cons_succ, List.getElem_cons_zero, List.setIfInBounds_toArray, List.set_cons_succ, List.set_cons_zero])
          refine wpAnyH_take (i := 18) (v := undef) rfl (by kernel_rfl) (by kernel_rfl) (by kernel_rfl) (fun _ _ _ h => h) (Or.inr ⟨by kernel_rfl, rfl⟩) hHeld ?_
          (try simp only [Act.put, List.getElem_toArray, List.getElem_cons_succ, List.getElem_cons_zero, List.setIfInBounds_toArray, List.set_cons_succ, List.set_cons_zero])
          refine wpAnyH_take (i := 19) (v := undef) rfl (by kernel_rfl) (by kernel_rfl) (by kernel_rfl) (fun _ _ _ h => h) (Or.inr ⟨by kernel_rfl, rfl⟩) hHeld ?_
          (try simp only [Act.put, List.getElem_toArray, List.getElem_cons_succ, List.getElem_cons_zero, List.setIfInBounds_toArray, List.set_cons_succ, List.set_cons_zero])
          refine wpAnyH_take (i := 20) (v := undef) rfl (by kernel_rfl) (by kernel_rfl) (by kernel_rfl) (fun _ _ _ h => h) (Or.inr ⟨by kernel_rfl, rfl⟩) hHeld ?_
          (try simp only [Act.put, List.getElem_toArray, List.getElem_cons_succ, List.getElem_cons_zero, List.setIfInBounds_toArray, List.set_cons_succ, List.set_cons_zero])
          refine wpAnyH_take (i := 21) (v := undef) rfl (by kernel_rfl) (by kernel_rfl) (by kernel_rfl) (fun _ _ _ h => h) (Or.inr ⟨by kernel_rfl, rfl⟩) hHeld ?_
          (try simp only [Act.put, List.getElem_toArray, List.getElem_cons_succ, List.getElem_cons_zero, List.setIfInBounds_toArray, List.set_cons_succ, List.set_cons_zero])
          refine wpAnyH_take (i := 22) (v := undef) rfl (by kernel_rfl) (by kernel_rfl) (by kernel_rfl) (fun _ _ _ h => h) (Or.inr ⟨by kernel_rfl, rfl⟩) hHeld ?_
          (try simp only [Act.put, List.getElem_toArray, List.getElem_cons_succ, List.getElem_cons_zero, List.setIfInBounds_toArray, List.set_cons_succ, List.set_cons_zero])
          refine wpAnyH_take (i := 23) (v := undef) rfl (by kernel_rfl) (by kernel_rfl) (by kernel_rfl) (fun _ _ _ h => h) (Or.inr ⟨by kernel_rfl, rfl⟩) hHeld ?_
          (try simp only [Act.put, List.getElem_toArray, List.getElem_cons_succ, List.getElem_cons_zero, List.setIfInBounds_toArray, List.set_cons_succ, List.set_cons_zero])
          refine wpAnyH_take (i := 24) (v := undef) rfl (by kernel_rfl) (by kernel_rfl) (by kernel_rfl) (fun _ _ _ h => h) (Or.inr ⟨by kernel_rfl, rfl⟩) hHeld ?_
          (try simp only [Act.put, List.getElem_toArray, List.getElem_cons_succ, List.getElem_cons_zero, List.setIfInBounds_toArray, List.set_cons_succ, List.set_cons_zero])
          refine wpAnyH_take (i := 25) (v := undef) rfl (by kernel_rfl) (by kernel_rfl) (by kernel_rfl) (fun _ _ _ h => h) (Or.inr ⟨by kernel_rfl, rfl⟩) hHeld ?_
          (try simp only [Act.put, List.getElem_toArray, List.getElem_cons_succ, List.getElem_cons_zero, List.setIfInBounds_toArray, List.set_cons_succ, List.set_cons_zero])
          refine wpAnyH_take (i := 26) (v := undef) rfl (by kernel_rfl) (by kernel_rfl) (by kernel_rfl) (fun _ _ _ h => h) (Or.inr ⟨by kernel_rfl, rfl⟩) hHeld ?_
          (try simp only [Act.put, List.getElem_toArray, List.getElem_cons_succ, List.getElem_cons_zero, List.setIfInBounds_toArray, List.set_cons_succ, List.set_cons_zero])
          refine wpAnyH_take (i := 27) (v := undef) rfl (by kernel_rfl) (by kernel_rfl) (by kernel_rfl) (fun _ _ _ h => h) (Or.inr ⟨by kernel_rfl, rfl⟩) hHeld ?_
          (try simp only [Act.put, List.getElem_toArray, List.getElem_cons_succ, List.getElem_cons_zero, List.setIfInBounds_toArray, List.set_cons_succ, List.set_cons_zero])
          refine wpAnyH_take (i := 28) (v := undef) rfl (by kernel_rfl) (by kernel_rfl) (by kernel_rfl) (fun _ _ _ h => h) (Or.inr ⟨by kernel_rfl, rfl⟩) hHeld ?_
          (try simp only [Act.put, List.getElem_toArray, List.getElem_cons_succ, List.getElem_cons_zero, List.setIfInBounds_toArray, List.set_cons_succ, List.set_cons_zero])
          refine wpAnyH_take (i := 29) (v := undef) rfl (by kernel_rfl) (by kernel_rfl) (by kernel_rfl) (fun _ _ _ h => h) (Or.inr ⟨by kernel_rfl, rfl⟩) hHeld ?_
          (try simp only [Act.put, List.getElem_toArray, List.getElem_cons_succ, List.getElem_cons_zero, List.setIfInBounds_toArray, List.set_cons_succ, List.set_cons_zero])
          refine wpAnyH_take (i := 30) (v := undef) rfl (by kernel_rfl) (by kernel_rfl) (by kernel_rfl) (fun _ _ _ h => h) (Or.inr ⟨by kernel_rfl, rfl⟩) hHeld ?_
          (try simp only [Act.put, List.getElem_toArray, List.getElem_cons_succ, List.getElem_cons_zero, List.setIfInBounds_toArray, List.set_cons_succ, List.set_cons_zero])
          refine wpAnyH_take (i := 31) (v := undef) rfl (by kernel_rfl) (by kernel_rfl) (by kernel_rfl) (fun _ _ _ h => h) (Or.inr ⟨by kernel_rfl, rfl⟩) hHeld ?_
          (try simp only [Act.put, List.getElem_toArray, List.getElem_cons_succ, List.getElem_cons_zero, List.setIfInBounds_toArray, List.set_cons_succ, List.set_cons_zero])
          refine wpAnyH_take (i := 32) (v := undef) rfl (by kernel_rfl) (by kernel_rfl) (by kernel_rfl) (fun _ _ _ h => h) (Or.inr ⟨by kernel_rfl, rfl⟩) hHeld ?_
          (try simp only [Act.put, List.getElem_toArray, List.getElem_cons_succ, List.getElem_cons_zero, List.setIfInBounds_toArray, List.set_cons_succ, List.set_cons_zero])
          refine wpAnyH_take (i := 33) (v := undef) rfl (by kernel_rfl) (by kernel_rfl) (by kernel_rfl) (fun _ _ _ h => h) (Or.inr ⟨by kernel_rfl, rfl⟩) hHeld ?_
          (try simp only [Act.put, List.getElem_toArray, List.getElem_cons_succ, List.getElem_cons_zero, List.setIfInBounds_toArray, List.set_cons_succ, List.set_cons_zero])
          refine wpAnyH_take (i := 34) (v := undef) rfl (by kernel_rfl) (by kernel_rfl) (by kernel_rfl) (fun _ _ _ h => h) (Or.inr ⟨by kernel_rfl, rfl⟩) hHeld ?_
          (try simp only [Act.put, List.getElem_toArray, List.getElem_cons_succ, List.getElem_cons_zero, List.setIfInBounds_toArray, List.set_cons_succ, List.set_cons_zero])
          refine wpAnyH_take (i := 35) (v := undef) rfl (by kernel_rfl) (by kernel_rfl) (by kernel_rfl) (fun _ _ _ h => h) (Or.inr ⟨by kernel_rfl, rfl⟩) hHeld ?_
          (try simp only [Act.put, List.getElem_toArray, List.getElem_cons_succ, List.getElem_cons_zero, List.setIfInBounds_toArray, List.set_cons_succ, List.set_cons_zero])
          refine wpAnyH_take (i := 36) (v := undef) rfl (by kernel_rfl) (by kernel_rfl) (by kernel_rfl) (fun _ _ _ h => h) (Or.inr ⟨by kernel_rfl, rfl⟩) hHeld ?_
          (try simp only [Act.put, List.getElem_toArray, List.getElem_cons_succ, List.getElem_cons_zero, List.setIfInBounds_toArray, List.set_cons_succ, List.set_cons_zero])
          refine wpAnyH_take (i := 37) (v := undef) rfl (by kernel_rfl) (by kernel_rfl) (by kernel_rfl) (fun _ _ _ h => h) (Or.inr ⟨by kernel_rfl, rfl⟩) hHeld ?_
          (try simp only [Act.put, List.getElem_toArray, List.getElem_cons_succ, List.getElem_cons_zero, List.setIfInBounds_toArray, List.set_cons_succ, List.set_cons_zero])
          refine wpAnyH_take (i := 38) (v := undef) rfl (by kernel_rfl) (by kernel_rfl) (by kernel_rfl) (fun _ _ _ h => h) (Or.inr ⟨by kernel_rfl, rfl⟩) hHeld ?_
          (try simp only [Act.put, List.getElem_toArray, List.getElem_cons_succ, List.getElem_cons_zero, List.setIfInBounds_toArray, List.set_cons_succ, List.set_cons_zero])
          refine wpAnyH_take (i := 39) (v := undef) rfl (by kernel_rfl) (by kernel_rfl) (by kernel_rfl) (fun _ _ _ h => h) (Or.inr ⟨by kernel_rfl, rfl⟩) hHeld ?_
          (try simp only [Act.put, List.getElem_toArray, List.getElem_cons_succ, List.getElem_cons_zero, List.setIfInBounds_toArray, List.set_cons_succ, List.set_cons_zero])
          refine wpAnyH_take (i := 40) (v := undef) rfl (by kernel_rfl) (by kernel_rfl) (by kernel_rfl) (fun _ _ _ h => h) (Or.inr ⟨by kernel_rfl, rfl⟩) hHeld ?_
          (try simp only [Act.put, List.getElem_toArray, List.getElem_cons_succ, List.getElem_cons_zero, List.setIfInBounds_toArray, List.set_cons_succ, List.set_cons_zero])
          refine wpAnyH_take (i := 41) (v := undef) rfl (by kernel_rfl) (by kernel_rfl) (by kernel_rfl) (fun _ _ _ h => h) (Or.inr ⟨by kernel_rfl, rfl⟩) hHeld ?_
          (try simp only [Act.put, List.getElem_toArray, List.getElem_cons_succ, List.getElem_cons_zero, List.setIfInBounds_toArray, List.set_cons_succ, List.set_cons_zero])
          refine wpAnyH_take (i := 42) (v := undef) rfl (by kernel_rfl) (by kernel_rfl) (by kernel_rfl) (fun _ _ _ h => h) (Or.inr ⟨by kernel_rfl, rfl⟩) hHeld ?_
          (try simp only [Act.put, List.getElem_toArray, List.getElem_cons_succ, List.getElem_cons_zero, List.setIfInBounds_toArray, List.set_cons_succ, List.set_cons_zero])
          refine wpAnyH_take (i := 43) (v := undef) rfl (by kernel_rfl) (by kernel_rfl) (by kernel_rfl) (fun _ _ _ h => h) (Or.inr ⟨by kernel_rfl, rfl⟩) hHeld ?_
          (try simp only [Act.put, List.getElem_toArray, List.getElem_cons_succ, List.getElem_cons_zero, List.setIfInBounds_toArray, List.set_cons_succ, List.set_cons_zero])
          refine wpAnyH_take (i := 44) (v := undef) rfl (by kernel_rfl) (by kernel_rfl) (by kernel_rfl) (fun _ _ _ h => h) (Or.inr ⟨by kernel_rfl, rfl⟩) hHeld ?_
          (try simp only [Act.put, List.getElem_toArray, List.getElem_cons_succ, List.getElem_cons_zero, List.setIfInBounds_toArray, List.set_cons_succ, List.set_cons_zero])
          refine wpAnyH_take (i := 45) (v := undef) rfl (by kernel_rfl) (by kernel_rfl) (by kernel_rfl) (fun _ _ _ h => h) (Or.inr ⟨by kernel_rfl, rfl⟩) hHeld ?_
          (try simp only [Act.put, List.getElem_toArray, List.getElem_cons_succ, List.getElem_cons_zero, List.setIfInBounds_toArray, List.set_cons_succ, List.set_cons_zero])
          refine wpAnyH_take (i := 46) (v := undef) rfl (by kernel_rfl) (by kernel_rfl) (by kernel_rfl) (fun _ _ _ h => h) (Or.inr ⟨by kernel_rfl, rfl⟩) hHeld ?_
          (try simp only [Act.put, List.getElem_toArray, List.getElem_cons_succ, List.getElem_cons_zero, List.setIfInBounds_toArray, List.set_cons_succ, List.set_cons_zero])
          refine wpAnyH_take (i := 47) (v := undef) rfl (by kernel_rfl) (by kernel_rfl) (by kernel_rfl) (fun _ _ _ h => h) (Or.inr ⟨by kernel_rfl, rfl⟩) hHeld ?_
          (try simp only [Act.put, List.getElem_toArray, List.getElem_cons_succ, List.getElem_cons_zero, List.setIfInBounds_toArray, List.set_cons_succ, List.set_cons_zero])
          refine wpAnyH_take (i := 48) (v := undef) rfl (by kernel_rfl) (by kernel_rfl) (by kernel_rfl) (fun _ _ _ h => h) (Or.inr ⟨by kernel_rfl, rfl⟩) hHeld ?_
          (try simp only [Act.put, List.getElem_toArray, List.getElem_cons_succ, List.getElem_cons_zero, List.setIfInBounds_toArray, List.set_cons_succ, List.set_cons_zero])
          refine wpAnyH_take (i := 49) (v := undef) rfl (by kernel_rfl) (by kernel_rfl) (by kernel_rfl) (fun _ _ _ h => h) (Or.inr ⟨by kernel_rfl, rfl⟩) hHeld ?_
          (try simp only [Act.put, List.getElem_toArray, List.getElem_cons_succ, List.getElem_cons_zero, List.setIfInBounds_toArray, List.set_cons_succ, List.set_cons_zero])
          refine wpAnyH_take (i := 50) (v := undef) rfl (by kernel_rfl) (by kernel_rfl) (by kernel_rfl) (fun _ _ _ h => h) (Or.inr ⟨by kernel_rfl, rfl⟩) hHeld ?_
          (try simp only [Act.put, List.getElem_toArray, List.getElem_cons_succ, List.getElem_cons_zero, List.setIfInBounds_toArray, List.set_cons_succ, List.set_cons_zero])
          refine wpAnyH_take (i := 51) (v := ?_) rfl (by kernel_rfl) (by kernel_rfl) (by kernel_rfl) (fun _ _ _ h => h) (Or.inl ⟨by kernel_rfl, ?_⟩) hHeld ?_
          rotate_left
          · (rintro W _; go_simp; (try with_reducible rfl))
          (try simp only [Act.put, List.getElem_toArray, List.getElem_cons_succ, List.getElem_cons_zero, List.setIfInBounds_toArray, List.set_cons_succ, List.set_cons_zero])
          refine wpAnyH_take (i := 52) (v := ?_) rfl (by kernel_rfl) (by kernel_rfl) (by kernel_rfl) (fun _ _ _ h => h) (Or.inl ⟨by kernel_rfl, ?_⟩) hHeld ?_
          rotate_left
          · (rintro W _; go_simp; (try with_reducible rfl))
          (try simp only [Act.put, List.getElem_toArray, List.getElem_cons_succ, List.getElem_cons_zero, List.setIfInBounds_toArray, List.set_cons_succ, List.set_cons_zero])
          refine wpAnyH_done (by kernel_rfl) ?_ _
          have hbF := below_then hbw2 hHeld
          clear hHeld hst2
          go_wp2_with fail
          go_roundw
          case rel => exact ⟨k + 1, hlt, by go_num, hbF⟩
          case measure => simp [intOf]; omega
      · obtain ⟨D0, hD0⟩ : ∃ D, S (turnS c) = D := ⟨_, rfl⟩
        have HSP : Hid (∀ W, Calls Tryz.prog 18 #[.string P, .int .u8 32] W fun e w' => ∃ g1 cap1, e = .returned (.slice (some ⟨g1, 0, none⟩) 3 cap1) ∧ w'.cell? ⟨g1, 0, none⟩ = some (.string (S c)) ∧ w'.cell? ⟨g1, 1, none⟩ = some (.string (S nn)) ∧ w'.cell? ⟨g1, 2, none⟩ = some (.string (S vv)) ∧ Below W.heap.size W w') := fun W =>
          (hsP W).mono fun e w' ⟨g1, cap1, h1, h2, h3⟩ => ⟨g1, cap1, h1, h2 0 _ rfl, h2 1 _ rfl, h2 2 _ rfl, h3⟩
        have HSQ : Hid (∀ W, Calls Tryz.prog 18 #[.string Q, .int .u8 32] W fun e w' => ∃ g1 cap1, e = .returned (.slice (some ⟨g1, 0, none⟩) 3 cap1) ∧ w'.cell? ⟨g1, 0, none⟩ = some (.string D0) ∧ w'.cell? ⟨g1, 1, none⟩ = some (.string (S nn)) ∧ w'.cell? ⟨g1, 2, none⟩ = some (.string (S vv)) ∧ Below W.heap.size W w') := fun W =>
          (hsQ W).mono fun e w' ⟨g1, cap1, h1, h2, h3⟩ => ⟨g1, cap1, h1, by rw [← hD0]; exact h2 0 _ rfl, h2 1 _ rfl, h2 2 _ rfl, h3⟩
        have HTu : Hid (∀ W, Calls Tryz.prog 19 #[.string (S c)] W fun e w' => e = .returned (.string D0) ∧ w' = W) := fun W => turned_as _ D0 hD0 W
        have e0 : ((S nn).toList != (S nn).toList) = false := by simp
        have e1 : ((S vv).toList != (S vv).toList) = false := by simp
        have e2 : (D0.toList != D0.toList) = false := by simp
        have ew : IntKind.i64.wrap 2 = 2 := by decide
        clear hsP hsQ
        go_wp2_with fail
        go_region_held3 (fun W => W.cell? ⟨g, k, none⟩ = some (.string P) ∧ W.cell? ⟨h, k, none⟩ = some (.string Q) ∧ Below wr.drew.heap.size wr.drew W) (assumption) ((go_at_call 18; first | (with_reducible refine (keepLu (by assumption) (fun _ _ h => by obtain ⟨_, _, _, _, _, _, h⟩ := h; exact h) (HSP.out _)).mono ?_; rintro e w7 ⟨⟨gx, cx, rfl, x0, x1, x2, hbx⟩, hkx⟩) | (with_reducible refine (keepLu (by assumption) (fun _ _ h => by obtain ⟨_, _, _, _, _, _, h⟩ := h; exact h) (HSQ.out _)).mono ?_; rintro e w8 ⟨⟨gy, cy, rfl, y0, y1, y2, hby⟩, hky⟩)))
        · have hbw2 := below_then hdr hky.2.2
          have x0 := cell_on x0 hby
          have x1 := cell_on x1 hby
          have x2 := cell_on x2 hby
          have hst2 : (fun W => W.cell? ⟨gx, 0, none⟩ = some (.string (S c)) ∧ W.cell? ⟨gx, 1, none⟩ = some (.string (S nn)) ∧ W.cell? ⟨gx, 2, none⟩ = some (.string (S vv)) ∧ W.cell? ⟨gy, 0, none⟩ = some (.string D0) ∧ W.cell? ⟨gy, 1, none⟩ = some (.string (S nn)) ∧ W.cell? ⟨gy, 2, none⟩ = some (.string (S vv)) ∧ Below w8.heap.size w8 W) w8.drew := ⟨by simpa using x0, by simpa using x1, by simpa using x2, by simpa using y0, by simpa using y1, by simpa using y2, (Below.refl _ _).drew⟩
          clear hkx hky hbx hby hst x0 y0 x1 y1 x2 y2
          go_wp2_with fail
          refine wp_region_held_drew (S := (fun W => W.cell? ⟨gx, 0, none⟩ = some (.string (S c)) ∧ W.cell? ⟨gx, 1, none⟩ = some (.string (S nn)) ∧ W.cell? ⟨gx, 2, none⟩ = some (.string (S vv)) ∧ W.cell? ⟨gy, 0, none⟩ = some (.string D0) ∧ W.cell? ⟨gy, 1, none⟩ = some (.string (S nn)) ∧ W.cell? ⟨gy, 2, none⟩ = some (.string (S vv)) ∧ Below w8.heap.size w8 W)) (by kernel_rfl) (hst2) (fun hHeld => ?_)
          refine wpAnyH_take (i := 0) (v := ?_) rfl (by kernel_rfl) (by kernel_rfl) (by kernel_rfl) (fun _ _ _ h => h) (Or.inl ⟨by kernel_rfl, ?_⟩) hHeld ?_
          rotate_left
          · (rintro W ⟨a0, a1, a2, a3, a4, a5, _⟩; go_simp; (try with_reducible rfl))
          (try simp only [Act.put, List.getElem_toArray, List.getElem_cons_zero, List.setIfInBounds_toArray, List.set_cons_succ, List.set_cons_zero])
          refine wpAnyH_take (i := 1) (v := ?_) rfl (by kernel_rfl) (by kernel_rfl) (by kernel_rfl) (fun _ _ _ h => h) (Or.inl ⟨by kernel_rfl, ?_⟩) hHeld ?_
          rotate_left
          · (rintro W ⟨a0, a1, a2, a3, a4, a5, _⟩; go_simp; (try with_reducible rfl))
          (try simp only [Act.put, List.getElem_toArray, List.getElem_cons_succ, List.getElem_cons_zero, List.setIfInBounds_toArray, List.set_cons_succ, List.set_cons_zero])
          refine wpAnyH_take (i := 2) (v := ?_) rfl (by kernel_rfl) (by kernel_rfl) (by kernel_rfl) (fun _ _ _ h => h) (Or.inl ⟨by kernel_rfl, ?_⟩) hHeld ?_
          rotate_left
          · (rintro W ⟨a0, a1, a2, a3, a4, a5, _⟩; go_simp; (try with_reducible rfl))
          (try simp only [Act.put, List.getElem_toArray, List.getElem_cons_succ, List.getElem_cons_zero, List.setIfInBounds_toArray, List.set_cons_succ, List.set_cons_zero])
          refine wpAnyH_take (i := 3) (v := ?_) rfl (by kernel_rfl) (by kernel_rfl) (by kernel_rfl) (fun _ _ _ h => h) (Or.inl ⟨by kernel_rfl, ?_⟩) hHeld ?_
          rotate_left
          · (rintro W ⟨a0, a1, a2, a3, a4, a5, _⟩; go_simp; (try with_reducible rfl))
          (try simp only [Act.put, List.getElem_toArray, List.getElem_cons_succ, List.getElem_cons_zero, List.setIfInBounds_toArray, List.set_cons_succ, List.set_cons_zero])
          refine wpAnyH_take (i := 4) (v := ?_) rfl (by kernel_rfl) (by kernel_rfl) (by kernel_rfl) (fun _ _ _ h => h) (Or.inl ⟨by kernel_rfl, ?_⟩) hHeld ?_
          rotate_left
          · (rintro W ⟨a0, a1, a2, a3, a4, a5, _⟩; go_simp; (try with_reducible rfl))
          (try simp only [Act.put, List.getElem_toArray, List.getElem_cons_succ, List.getElem_cons_zero, List.setIfInBounds_toArray, List.set_cons_succ, List.set_cons_zero])
          refine wpAnyH_take (i := 5) (v := ?_) rfl (by kernel_rfl) (by kernel_rfl) (by kernel_rfl) (fun _ _ _ h => h) (Or.inl ⟨by kernel_rfl, ?_⟩) hHeld ?_
          rotate_left
          · (rintro W ⟨a0, a1, a2, a3, a4, a5, _⟩; go_simp; (try with_reducible rfl))
          (try simp only [Act.put, List.getElem_toArray, List.getElem_cons_succ, List.getElem_cons_zero, List.setIfInBounds_toArray, List.set_cons_succ, List.set_cons_zero])
          refine wpAnyH_take (i := 6) (v := ?_) rfl (by kernel_rfl) (by kernel_rfl) (by kernel_rfl) (fun _ _ _ h => h) (Or.inl ⟨by kernel_rfl, ?_⟩) hHeld ?_
          rotate_left
          · (rintro W ⟨a0, a1, a2, a3, a4, a5, _⟩; go_simp; (try with_reducible rfl))
          (try simp only [Act.put, List.getElem_toArray, List.getElem_cons_succ, List.getElem_cons_zero, List.setIfInBounds_toArray, List.set_cons_succ, List.set_cons_zero])
          refine wpAnyH_take (i := 7) (v := ?_) rfl (by kernel_rfl) (by kernel_rfl) (by kernel_rfl) (fun _ _ _ h => h) (Or.inl ⟨by kernel_rfl, ?_⟩) hHeld ?_
          rotate_left
          · (rintro W ⟨a0, a1, a2, a3, a4, a5, _⟩; go_simp; (try with_reducible rfl))
          (try simp only [Act.put, List.getElem_toArray, List.getElem_cons_succ, List.getElem_cons_zero, List.setIfInBounds_toArray, List.set_cons_succ, List.set_cons_zero])
          refine wpAnyH_take (i := 8) (v := ?_) rfl (by kernel_rfl) (by kernel_rfl) (by kernel_rfl) (fun _ _ _ h => h) (Or.inl ⟨by kernel_rfl, ?_⟩) hHeld ?_
          rotate_left
          · (rintro W ⟨a0, a1, a2, a3, a4, a5, _⟩; go_simp; (try with_reducible rfl))
          (try simp only [Act.put, List.getElem_toArray, List.getElem_cons_succ, List.getElem_cons_zero, List.setIfInBounds_toArray, List.set_cons_succ, List.set_cons_zero])
          refine wpAnyH_take (i := 9) (v := ?_) rfl (by kernel_rfl) (by kernel_rfl) (by kernel_rfl) (fun _ _ _ h => h) (Or.inl ⟨by kernel_rfl, ?_⟩) hHeld ?_
          rotate_left
          · (rintro W ⟨a0, a1, a2, a3, a4, a5, _⟩; go_simp; (try with_reducible rfl))
          (try simp only [Act.put, List.getElem_toArray, List.getElem_cons_succ, List.getElem_cons_zero, List.setIfInBounds_toArray, List.set_cons_succ, List.set_cons_zero])
          refine wpAnyH_take (i := 10) (v := ?_) rfl (by kernel_rfl) (by kernel_rfl) (by kernel_rfl) (fun _ _ _ h => h) (Or.inl ⟨by kernel_rfl, ?_⟩) hHeld ?_
          rotate_left
          · (rintro W ⟨a0, a1, a2, a3, a4, a5, _⟩; go_simp; (try with_reducible rfl))
          (try simp only [Act.put, List.getElem_toArray, List.getElem_cons_succ, List.getElem_cons_zero, List.setIfInBounds_toArray, List.set_cons_succ, List.set_cons_zero])
          refine wpAnyH_take (i := 11) (v := ?_) rfl (by kernel_rfl) (by kernel_rfl) (by kernel_rfl) (fun _ _ _ h => h) (Or.inl ⟨by kernel_rfl, ?_⟩) hHeld ?_
          rotate_left
          · (rintro W ⟨a0, a1, a2, a3, a4, a5, _⟩; go_simp; (try with_reducible rfl))
          (try simp only [Act.put, List.getElem_toArray, List.getElem_cons_succ, List.getElem_cons_zero, List.setIfInBounds_toArray, List.set_cons_succ, List.set_cons_zero])
          refine wpAnyH_take (i := 12) (v := ?_) rfl (by kernel_rfl) (by kernel_rfl) (by kernel_rfl) (fun _ _ _ h => h) (Or.inl ⟨by kernel_rfl, ?_⟩) hHeld ?_
          rotate_left
          · (rintro W ⟨a0, a1, a2, a3, a4, a5, _⟩; go_simp; (try with_reducible rfl))
          (try simp only [Act.put, List.getElem_toArray, List.getElem_cons_succ, List.getElem_cons_zero, List.setIfInBounds_toArray, List.set_cons_succ, List.set_cons_zero])
          refine wpAnyH_take (i := 13) (v := ?_) rfl (by kernel_rfl) (by kernel_rfl) (by kernel_rfl) (fun _ _ _ h => h) (Or.inl ⟨by kernel_rfl, ?_⟩) hHeld ?_
          rotate_left
          · (rintro W ⟨a0, a1, a2, a3, a4, a5, _⟩; go_simp; (try with_reducible rfl))
          (try simp only [Act.put, List.getElem_toArray, List.getElem_cons_succ, List.getElem_cons_zero, List.setIfInBounds_toArray, List.set_cons_succ, List.set_cons_zero])
          refine wpAnyH_take (i := 14) (v := ?_) rfl (by kernel_rfl) (by kernel_rfl) (by kernel_rfl) (fun _ _ _ h => h) (Or.inl ⟨by kernel_rfl, ?_⟩) hHeld ?_
          rotate_left
          · (rintro W ⟨a0, a1, a2, a3, a4, a5, _⟩; go_simp; (try with_reducible rfl))
          (try simp only [Act.put, List.getElem_toArray, List.getElem_cons_succ, List.getElem_cons_zero, List.setIfInBounds_toArray, List.set_cons_succ, List.set_cons_zero])
          refine wpAnyH_take (i := 15) (v := ?_) rfl (by kernel_rfl) (by kernel_rfl) (by kernel_rfl) (fun _ _ _ h => h) (Or.inl ⟨by kernel_rfl, ?_⟩) hHeld ?_
          rotate_left
          · (rintro W ⟨a0, a1, a2, a3, a4, a5, _⟩; go_simp; (try with_reducible rfl))
          (try simp only [Act.put, List.getElem_toArray, List.getElem_cons_succ, List.getElem_cons_zero, List.setIfInBounds_toArray, List.set_cons_succ, List.set_cons_zero])
          refine wpAnyH_take (i := 16) (v := ?_) rfl (by kernel_rfl) (by kernel_rfl) (by kernel_rfl) (fun _ _ _ h => h) (Or.inl ⟨by kernel_rfl, ?_⟩) hHeld ?_
          rotate_left
          · (rintro W ⟨a0, a1, a2, a3, a4, a5, _⟩; go_simp; (try with_reducible rfl))
          (try simp only [Act.put, List.getElem_toArray, List.getElem_cons_succ, List.getElem_cons_zero, List.setIfInBounds_toArray, List.set_cons_succ, List.set_cons_zero])
          refine wpAnyH_take (i := 17) (v := ?_) rfl (by kernel_rfl) (by kernel_rfl) (by kernel_rfl) (fun _ _ _ h => h) (Or.inl ⟨by kernel_rfl, ?_⟩) hHeld ?_
          rotate_left
          · (rintro W ⟨a0, a1, a2, a3, a4, a5, _⟩; go_simp; (try with_reducible rfl))
          (try simp only [Act.put, List.getElem_toArray, List.getElem_cons_succ, List.getElem_cons_zero, List.setIfInBounds_toArray, List.set_cons_succ, List.set_cons_zero])
          refine wpAnyH_take (i := 18) (v := ?_) rfl (by kernel_rfl) (by kernel_rfl) (by kernel_rfl) (fun _ _ _ h => h) (Or.inl ⟨by kernel_rfl, ?_⟩) hHeld ?_
          rotate_left
          · (rintro W ⟨a0, a1, a2, a3, a4, a5, _⟩; go_simp; (try with_reducible rfl))
          (try simp only [Act.put, List.getElem_toArray, List.getElem_cons_succ, List.getElem_cons_zero, List.setIfInBounds_toArray, List.set_cons_succ, List.set_cons_zero])
          refine wpAnyH_take (i := 19) (v := ?_) rfl (by kernel_rfl) (by kernel_rfl) (by kernel_rfl) (fun _ _ _ h => h) (Or.inl ⟨by kernel_rfl, ?_⟩) hHeld ?_
          rotate_left
          · (rintro W ⟨a0, a1, a2, a3, a4, a5, _⟩; go_simp; (try with_reducible rfl))
          (try simp only [Act.put, List.getElem_toArray, List.getElem_cons_succ, List.getElem_cons_zero, List.setIfInBounds_toArray, List.set_cons_succ, List.set_cons_zero])
          refine wpAnyH_take (i := 20) (v := ?_) rfl (by kernel_rfl) (by kernel_rfl) (by kernel_rfl) (fun _ _ _ h => h) (Or.inl ⟨by kernel_rfl, ?_⟩) hHeld ?_
          rotate_left
          · (rintro W ⟨a0, a1, a2, a3, a4, a5, _⟩; go_simp; (try with_reducible rfl))
          (try simp only [Act.put, List.getElem_toArray, List.getElem_cons_succ, List.getElem_cons_zero, List.setIfInBounds_toArray, List.set_cons_succ, List.set_cons_zero])
          refine wpAnyH_take (i := 22) (v := ?_) rfl (by kernel_rfl) (by kernel_rfl) (by kernel_rfl) (fun _ _ _ h => h) (Or.inl ⟨by kernel_rfl, ?_⟩) hHeld ?_
          rotate_left
          · (rintro W ⟨a0, a1, a2, a3, a4, a5, _⟩; go_simp; (try with_reducible rfl))
          (try simp only [Act.put, List.getElem_toArray, List.getElem_cons_succ, List.getElem_cons_zero, List.setIfInBounds_toArray, List.set_cons_succ, List.set_cons_zero])
          refine wpAnyH_take (i := 23) (v := ?_) rfl (by kernel_rfl) (by kernel_rfl) (by kernel_rfl) (fun _ _ _ h => h) (Or.inl ⟨by kernel_rfl, ?_⟩) hHeld ?_
          rotate_left
          · (rintro W ⟨a0, a1, a2, a3, a4, a5, _⟩; go_simp; (try with_reducible rfl))
          (try simp only [Act.put, List.getElem_toArray, List.getElem_cons_succ, List.getElem_cons_zero, List.setIfInBounds_toArray, List.set_cons_succ, List.set_cons_zero])
          refine wpAnyH_take (i := 24) (v := ?_) rfl (by kernel_rfl) (by kernel_rfl) (by kernel_rfl) (fun _ _ _ h => h) (Or.inl ⟨by kernel_rfl, ?_⟩) hHeld ?_
          rotate_left
          · (rintro W ⟨a0, a1, a2, a3, a4, a5, _⟩; go_simp; (try with_reducible rfl))
          (try simp only [Act.put, List.getElem_toArray, List.getElem_cons_succ, List.getElem_cons_zero, List.setIfInBounds_toArray, List.set_cons_succ, List.set_cons_zero])
          refine wpAnyH_ready (rs := [21]) (by kernel_rfl) (by simp) ?_
          refine AllReadyH.cons rfl (fun K hK => ?_) AllReadyH.nil
          go_simp
          refine (HTu.out _).mono ?_
          rintro e w9 ⟨rfl, rfl⟩
          refine hK.out _ _ (hHeld) (fun hHeld => ?_)
          clear hK K
          (try simp only [Act.put, List.getElem_toArray, List.getElem_cons_succ, List.getElem_cons_zero, List.setIfInBounds_toArray, List.set_cons_succ, List.set_cons_zero])
          refine wpAnyH_take (i := 25) (v := ?_) rfl (by kernel_rfl) (by kernel_rfl) (by kernel_rfl) (fun _ _ _ h => h) (Or.inl ⟨by kernel_rfl, ?_⟩) hHeld ?_
          rotate_left
          · (rintro W ⟨a0, a1, a2, a3, a4, a5, _⟩; go_simp; (try with_reducible rfl))
          (try simp only [Act.put, List.getElem_toArray, List.getElem_cons_succ, List.getElem_cons_zero, List.setIfInBounds_toArray, List.set_cons_succ, List.set_cons_zero])
          refine wpAnyH_take (i := 26) (v := ?_) rfl (by kernel_rfl) (by kernel_rfl) (by kernel_rfl) (fun _ _ _ h => h) (Or.inl ⟨by kernel_rfl, ?_⟩) hHeld ?_
          rotate_left
          · (rintro W ⟨a0, a1, a2, a3, a4, a5, _⟩; go_simp; (try with_reducible rfl))
          (try simp only [Act.put, List.getElem_toArray, List.getElem_cons_succ, List.getElem_cons_zero, List.setIfInBounds_toArray, List.set_cons_succ, List.set_cons_zero])
          refine wpAnyH_take (i := 27) (v := ?_) rfl (by kernel_rfl) (by kernel_rfl) (by kernel_rfl) (fun _ _ _ h => h) (Or.inl ⟨by kernel_rfl, ?_⟩) hHeld ?_
          rotate_left
          · (rintro W ⟨a0, a1, a2, a3, a4, a5, _⟩; go_simp; (try with_reducible rfl))
          (try simp only [Act.put, List.getElem_toArray, List.getElem_cons_succ, List.getElem_cons_zero, List.setIfInBounds_toArray, List.set_cons_succ, List.set_cons_zero])
          refine wpAnyH_take (i := 28) (v := ?_) rfl (by kernel_rfl) (by kernel_rfl) (by kernel_rfl) (fun _ _ _ h => h) (Or.inl ⟨by kernel_rfl, ?_⟩) hHeld ?_
          rotate_left
          · (rintro W ⟨a0, a1, a2, a3, a4, a5, _⟩; go_simp; (try with_reducible rfl))
          (try simp only [Act.put, List.getElem_toArray, List.getElem_cons_succ, List.getElem_cons_zero, List.setIfInBounds_toArray, List.set_cons_succ, List.set_cons_zero])
          refine wpAnyH_take (i := 29) (v := ?_) rfl (by kernel_rfl) (by kernel_rfl) (by kernel_rfl) (fun _ _ _ h => h) (Or.inl ⟨by kernel_rfl, ?_⟩) hHeld ?_
          rotate_left
          · (rintro W ⟨a0, a1, a2, a3, a4, a5, _⟩; go_simp; (try with_reducible rfl))
          (try simp only [Act.put, List.getElem_toArray, List.getElem_cons_succ, List.getElem_cons_zero, List.setIfInBounds_toArray, List.set_cons_succ, List.set_cons_zero])
          refine wpAnyH_take (i := 30) (v := ?_) rfl (by kernel_rfl) (by kernel_rfl) (by kernel_rfl) (fun _ _ _ h => h) (Or.inl ⟨by kernel_rfl, ?_⟩) hHeld ?_
          rotate_left
          · (rintro W ⟨a0, a1, a2, a3, a4, a5, _⟩; go_simp; (try with_reducible rfl))
          (try simp only [Act.put, List.getElem_toArray, List.getElem_cons_succ, List.getElem_cons_zero, List.setIfInBounds_toArray, List.set_cons_succ, List.set_cons_zero])
          refine wpAnyH_take (i := 31) (v := ?_) rfl (by kernel_rfl) (by kernel_rfl) (by kernel_rfl) (fun _ _ _ h => h) (Or.inl ⟨by kernel_rfl, ?_⟩) hHeld ?_
          rotate_left
          · (rintro W ⟨a0, a1, a2, a3, a4, a5, _⟩; go_simp; (try with_reducible rfl))
          (try simp only [Act.put, List.getElem_toArray, List.getElem_cons_succ, List.getElem_cons_zero, List.setIfInBounds_toArray, List.set_cons_succ, List.set_cons_zero])
          refine wpAnyH_take (i := 32) (v := ?_) rfl (by kernel_rfl) (by kernel_rfl) (by kernel_rfl) (fun _ _ _ h => h) (Or.inl ⟨by kernel_rfl, ?_⟩) hHeld ?_
          rotate_left
          · (rintro W ⟨a0, a1, a2, a3, a4, a5, _⟩; go_simp; (try with_reducible rfl))
          (try simp only [Act.put, List.getElem_toArray, List.getElem_cons_succ, List.getElem_cons_zero, List.setIfInBounds_toArray, List.set_cons_succ, List.set_cons_zero])
          refine wpAnyH_take (i := 33) (v := ?_) rfl (by kernel_rfl) (by kernel_rfl) (by kernel_rfl) (fun _ _ _ h => h) (Or.inl ⟨by kernel_rfl, ?_⟩) hHeld ?_
          rotate_left
          · (rintro W ⟨a0, a1, a2, a3, a4, a5, _⟩; go_simp; (try with_reducible rfl))
          (try simp only [Act.put, List.getElem_toArray, List.getElem_cons_succ, List.getElem_cons_zero, List.setIfInBounds_toArray, List.set_cons_succ, List.set_cons_zero])
          refine wpAnyH_take (i := 34) (v := ?_) rfl (by kernel_rfl) (by kernel_rfl) (by kernel_rfl) (fun _ _ _ h => h) (Or.inl ⟨by kernel_rfl, ?_⟩) hHeld ?_
          rotate_left
          · (rintro W ⟨a0, a1, a2, a3, a4, a5, _⟩; go_simp; (try with_reducible rfl))
          (try simp only [Act.put, List.getElem_toArray, List.getElem_cons_succ, List.getElem_cons_zero, List.setIfInBounds_toArray, List.set_cons_succ, List.set_cons_zero])
          refine wpAnyH_take (i := 35) (v := ?_) rfl (by kernel_rfl) (by kernel_rfl) (by kernel_rfl) (fun _ _ _ h => h) (Or.inl ⟨by kernel_rfl, ?_⟩) hHeld ?_
          rotate_left
          · (rintro W ⟨a0, a1, a2, a3, a4, a5, _⟩; go_simp; (try with_reducible rfl))
          (try simp only [Act.put, List.getElem_toArray, List.getElem_cons_succ, List.getElem_cons_zero, List.setIfInBounds_toArray, List.set_cons_succ, List.set_cons_zero])
          refine wpAnyH_take (i := 36) (v := ?_) rfl (by kernel_rfl) (by kernel_rfl) (by kernel_rfl) (fun _ _ _ h => h) (Or.inl ⟨by kernel_rfl, ?_⟩) hHeld ?_
          rotate_left
          · (rintro W ⟨a0, a1, a2, a3, a4, a5, _⟩; go_simp; (try with_reducible rfl))
          (try simp only [Act.put, List.getElem_toArray, List.getElem_cons_succ, List.getElem_cons_zero, List.setIfInBounds_toArray, List.set_cons_succ, List.set_cons_zero])
          refine wpAnyH_take (i := 37) (v := ?_) rfl (by kernel_rfl) (by kernel_rfl) (by kernel_rfl) (fun _ _ _ h => h) (Or.inl ⟨by kernel_rfl, ?_⟩) hHeld ?_
          rotate_left
          · (rintro W ⟨a0, a1, a2, a3, a4, a5, _⟩; go_simp; (try with_reducible rfl))
          (try simp only [Act.put, List.getElem_toArray, List.getElem_cons_succ, List.getElem_cons_zero, List.setIfInBounds_toArray, List.set_cons_succ, List.set_cons_zero])
          refine wpAnyH_take (i := 38) (v := ?_) rfl (by kernel_rfl) (by kernel_rfl) (by kernel_rfl) (fun _ _ _ h => h) (Or.inl ⟨by kernel_rfl, ?_⟩) hHeld ?_
          rotate_left
          · (rintro W ⟨a0, a1, a2, a3, a4, a5, _⟩; go_simp; (try with_reducible rfl))
          (try simp only [Act.put, List.getElem_toArray, List.getElem_cons_succ, List.getElem_cons_zero, List.setIfInBounds_toArray, List.set_cons_succ, List.set_cons_zero])
          refine wpAnyH_take (i := 39) (v := ?_) rfl (by kernel_rfl) (by kernel_rfl) (by kernel_rfl) (fun _ _ _ h => h) (Or.inl ⟨by kernel_rfl, ?_⟩) hHeld ?_
          rotate_left
          · (rintro W ⟨a0, a1, a2, a3, a4, a5, _⟩; go_simp; (try with_reducible rfl))
          (try simp only [Act.put, List.getElem_toArray, List.getElem_cons_succ, List.getElem_cons_zero, List.setIfInBounds_toArray, List.set_cons_succ, List.set_cons_zero])
          refine wpAnyH_take (i := 40) (v := ?_) rfl (by kernel_rfl) (by kernel_rfl) (by kernel_rfl) (fun _ _ _ h => h) (Or.inl ⟨by kernel_rfl, ?_⟩) hHeld ?_
          rotate_left
          · (rintro W ⟨a0, a1, a2, a3, a4, a5, _⟩; go_simp; (try with_reducible rfl))
          (try simp only [Act.put, List.getElem_toArray, List.getElem_cons_succ, List.getElem_cons_zero, List.setIfInBounds_toArray, List.set_cons_succ, List.set_cons_zero])
          refine wpAnyH_take (i := 41) (v := ?_) rfl (by kernel_rfl) (by kernel_rfl) (by kernel_rfl) (fun _ _ _ h => h) (Or.inl ⟨by kernel_rfl, ?_⟩) hHeld ?_
          rotate_left
          · (rintro W ⟨a0, a1, a2, a3, a4, a5, _⟩; go_simp; (try with_reducible rfl))
          (try simp only [Act.put, List.getElem_toArray, List.getElem_cons_succ, List.getElem_cons_zero, List.setIfInBounds_toArray, List.set_cons_succ, List.set_cons_zero])
          refine wpAnyH_take (i := 42) (v := ?_) rfl (by kernel_rfl) (by kernel_rfl) (by kernel_rfl) (fun _ _ _ h => h) (Or.inl ⟨by kernel_rfl, ?_⟩) hHeld ?_
          rotate_left
          · (rintro W ⟨a0, a1, a2, a3, a4, a5, _⟩; go_simp; (try with_reducible rfl))
          (try simp only [Act.put, List.getElem_toArray, List.getElem_cons_succ, List.getElem_cons_zero, List.setIfInBounds_toArray, List.set_cons_succ, List.set_cons_zero])
          refine wpAnyH_take (i := 43) (v := ?_) rfl (by kernel_rfl) (by kernel_rfl) (by kernel_rfl) (fun _ _ _ h => h) (Or.inl ⟨by kernel_rfl, ?_⟩) hHeld ?_
          rotate_left
          · (rintro W ⟨a0, a1, a2, a3, a4, a5, _⟩; go_simp; (try with_reducible rfl))
          (try simp only [Act.put, List.getElem_toArray, List.getElem_cons_succ, List.getElem_cons_zero, List.setIfInBounds_toArray, List.set_cons_succ, List.set_cons_zero])
          refine wpAnyH_take (i := 44) (v := ?_) rfl (by kernel_rfl) (by kernel_rfl) (by kernel_rfl) (fun _ _ _ h => h) (Or.inl ⟨by kernel_rfl, ?_⟩) hHeld ?_
          rotate_left
          · (rintro W ⟨a0, a1, a2, a3, a4, a5, _⟩; go_simp; (try with_reducible rfl))
          (try simp only [Act.put, List.getElem_toArray, List.getElem_cons_succ, List.getElem_cons_zero, List.setIfInBounds_toArray, List.set_cons_succ, List.set_cons_zero])
          refine wpAnyH_take (i := 45) (v := ?_) rfl (by kernel_rfl) (by kernel_rfl) (by kernel_rfl) (fun _ _ _ h => h) (Or.inl ⟨by kernel_rfl, ?_⟩) hHeld ?_
          rotate_left
          · (rintro W ⟨a0, a1, a2, a3, a4, a5, _⟩; go_simp; (try with_reducible rfl))
          (try simp only [Act.put, List.getElem_toArray, List.getElem_cons_succ, List.getElem_cons_zero, List.setIfInBounds_toArray, List.set_cons_succ, List.set_cons_zero])
          refine wpAnyH_take (i := 46) (v := ?_) rfl (by kernel_rfl) (by kernel_rfl) (by kernel_rfl) (fun _ _ _ h => h) (Or.inl ⟨by kernel_rfl, ?_⟩) hHeld ?_
          rotate_left
          · (rintro W ⟨a0, a1, a2, a3, a4, a5, _⟩; go_simp; (try with_reducible rfl))
          (try simp only [Act.put, List.getElem_toArray, List.getElem_cons_succ, List.getElem_cons_zero, List.setIfInBounds_toArray, List.set_cons_succ, List.set_cons_zero])
          refine wpAnyH_take (i := 47) (v := ?_) rfl (by kernel_rfl) (by kernel_rfl) (by kernel_rfl) (fun _ _ _ h => h) (Or.inl ⟨by kernel_rfl, ?_⟩) hHeld ?_
          rotate_left
          · (rintro W ⟨a0, a1, a2, a3, a4, a5, _⟩; go_simp; (try with_reducible rfl))
          (try simp only [Act.put, List.getElem_toArray, List.getElem_cons_succ, List.getElem_cons_zero, List.setIfInBounds_toArray, List.set_cons_succ, List.set_cons_zero])
          refine wpAnyH_take (i := 48) (v := ?_) rfl (by kernel_rfl) (by kernel_rfl) (by kernel_rfl) (fun _ _ _ h => h) (Or.inl ⟨by kernel_rfl, ?_⟩) hHeld ?_
          rotate_left
          · (rintro W ⟨a0, a1, a2, a3, a4, a5, _⟩; go_simp; (try with_reducible rfl))
          (try simp only [Act.put, List.getElem_toArray, List.getElem_cons_succ, List.getElem_cons_zero, List.setIfInBounds_toArray, List.set_cons_succ, List.set_cons_zero])
          refine wpAnyH_take (i := 49) (v := ?_) rfl (by kernel_rfl) (by kernel_rfl) (by kernel_rfl) (fun _ _ _ h => h) (Or.inl ⟨by kernel_rfl, ?_⟩) hHeld ?_
          rotate_left
          · (rintro W ⟨a0, a1, a2, a3, a4, a5, _⟩; go_simp; (try with_reducible rfl))
          (try simp only [Act.put, List.getElem_toArray, List.getElem_cons_succ, List.getElem_cons_zero, List.setIfInBounds_toArray, List.set_cons_succ, List.set_cons_zero])
          refine wpAnyH_take (i := 50) (v := ?_) rfl (by kernel_rfl) (by kernel_rfl) (by kernel_rfl) (fun _ _ _ h => h) (Or.inl ⟨by kernel_rfl, ?_⟩) hHeld ?_
          rotate_left
          · (rintro W ⟨a0, a1, a2, a3, a4, a5, _⟩; go_simp; (try with_reducible rfl))
          (try simp only [Act.put, List.getElem_toArray, List.getElem_cons_succ, List.getElem_cons_zero, List.setIfInBounds_toArray, List.set_cons_succ, List.set_cons_zero])
          refine wpAnyH_take (i := 51) (v := ?_) rfl (by kernel_rfl) (by kernel_rfl) (by kernel_rfl) (fun _ _ _ h => h) (Or.inl ⟨by kernel_rfl, ?_⟩) hHeld ?_
          rotate_left
          · (rintro W ⟨a0, a1, a2, a3, a4, a5, _⟩; go_simp; (try with_reducible rfl))
          (try simp only [Act.put, List.getElem_toArray, List.getElem_cons_succ, List.getElem_cons_zero, List.setIfInBounds_toArray, List.set_cons_succ, List.set_cons_zero])
          refine wpAnyH_take (i := 52) (v := ?_) rfl (by kernel_rfl) (by kernel_rfl) (by kernel_rfl) (fun _ _ _ h => h) (Or.inl ⟨by kernel_rfl, ?_⟩) hHeld ?_
          rotate_left
          · (rintro W ⟨a0, a1, a2, a3, a4, a5, _⟩; go_simp; (try with_reducible rfl))
          (try simp only [Act.put, List.getElem_toArray, List.getElem_cons_succ, List.getElem_cons_zero, List.setIfInBounds_toArray, List.set_cons_succ, List.set_cons_zero])
          refine wpAnyH_done (by kernel_rfl) ?_ _
          have hbF := below_then hbw2 hHeld.2.2.2.2.2.2
          clear hHeld hst2
          go_wp2_with fail
          go_roundw
          case rel => exact ⟨k + 1, hlt, by go_num, hbF⟩
          case measure => simp [intOf]; omega
      · obtain ⟨D0, hD0⟩ : ∃ D, S (turnS c) = D := ⟨_, rfl⟩
        have HSP : Hid (∀ W, Calls Tryz.prog 18 #[.string P, .int .u8 32] W fun e w' => ∃ g1 cap1, e = .returned (.slice (some ⟨g1, 0, none⟩) 4 cap1) ∧ w'.cell? ⟨g1, 0, none⟩ = some (.string (S c)) ∧ w'.cell? ⟨g1, 1, none⟩ = some (.string (S nn)) ∧ w'.cell? ⟨g1, 2, none⟩ = some (.string (S vv)) ∧ w'.cell? ⟨g1, 3, none⟩ = some (.string (S uu)) ∧ Below W.heap.size W w') := fun W =>
          (hsP W).mono fun e w' ⟨g1, cap1, h1, h2, h3⟩ => ⟨g1, cap1, h1, h2 0 _ rfl, h2 1 _ rfl, h2 2 _ rfl, h2 3 _ rfl, h3⟩
        have HSQ : Hid (∀ W, Calls Tryz.prog 18 #[.string Q, .int .u8 32] W fun e w' => ∃ g1 cap1, e = .returned (.slice (some ⟨g1, 0, none⟩) 4 cap1) ∧ w'.cell? ⟨g1, 0, none⟩ = some (.string D0) ∧ w'.cell? ⟨g1, 1, none⟩ = some (.string (S nn)) ∧ w'.cell? ⟨g1, 2, none⟩ = some (.string (S uu)) ∧ w'.cell? ⟨g1, 3, none⟩ = some (.string (S vv)) ∧ Below W.heap.size W w') := fun W =>
          (hsQ W).mono fun e w' ⟨g1, cap1, h1, h2, h3⟩ => ⟨g1, cap1, h1, by rw [← hD0]; exact h2 0 _ rfl, h2 1 _ rfl, h2 2 _ rfl, h2 3 _ rfl, h3⟩
        have HTu : Hid (∀ W, Calls Tryz.prog 19 #[.string (S c)] W fun e w' => e = .returned (.string D0) ∧ w' = W) := fun W => turned_as _ D0 hD0 W
        have e0 : ((S nn).toList != (S nn).toList) = false := by simp
        have e1 : ((S vv).toList != (S vv).toList) = false := by simp
        have e2 : ((S uu).toList != (S uu).toList) = false := by simp
        have e3 : (D0.toList != D0.toList) = false := by simp
        have ew : IntKind.i64.wrap 3 = 3 := by decide
        clear hsP hsQ
        go_wp2_with fail
        go_region_held3 (fun W => W.cell? ⟨g, k, none⟩ = some (.string P) ∧ W.cell? ⟨h, k, none⟩ = some (.string Q) ∧ Below wr.drew.heap.size wr.drew W) (assumption) ((go_at_call 18; first | (with_reducible refine (keepLu (by assumption) (fun _ _ h => by obtain ⟨_, _, _, _, _, _, _, h⟩ := h; exact h) (HSP.out _)).mono ?_; rintro e w7 ⟨⟨gx, cx, rfl, x0, x1, x2, x3, hbx⟩, hkx⟩) | (with_reducible refine (keepLu (by assumption) (fun _ _ h => by obtain ⟨_, _, _, _, _, _, _, h⟩ := h; exact h) (HSQ.out _)).mono ?_; rintro e w8 ⟨⟨gy, cy, rfl, y0, y1, y2, y3, hby⟩, hky⟩)))
        · have hbw2 := below_then hdr hky.2.2
          have x0 := cell_on x0 hby
          have x1 := cell_on x1 hby
          have x2 := cell_on x2 hby
          have x3 := cell_on x3 hby
          have hst2 : (fun W => W.cell? ⟨gx, 0, none⟩ = some (.string (S c)) ∧ W.cell? ⟨gx, 1, none⟩ = some (.string (S nn)) ∧ W.cell? ⟨gx, 2, none⟩ = some (.string (S vv)) ∧ W.cell? ⟨gx, 3, none⟩ = some (.string (S uu)) ∧ W.cell? ⟨gy, 0, none⟩ = some (.string D0) ∧ W.cell? ⟨gy, 1, none⟩ = some (.string (S nn)) ∧ W.cell? ⟨gy, 2, none⟩ = some (.string (S uu)) ∧ W.cell? ⟨gy, 3, none⟩ = some (.string (S vv)) ∧ Below w8.heap.size w8 W) w8.drew := ⟨by simpa using x0, by simpa using x1, by simpa using x2, by simpa using x3, by simpa using y0, by simpa using y1, by simpa using y2, by simpa using y3, (Below.refl _ _).drew⟩
          clear hkx hky hbx hby hst x0 y0 x1 y1 x2 y2 x3 y3
          go_wp2_with fail
          refine wp_region_held_drew (S := (fun W => W.cell? ⟨gx, 0, none⟩ = some (.string (S c)) ∧ W.cell? ⟨gx, 1, none⟩ = some (.string (S nn)) ∧ W.cell? ⟨gx, 2, none⟩ = some (.string (S vv)) ∧ W.cell? ⟨gx, 3, none⟩ = some (.string (S uu)) ∧ W.cell? ⟨gy, 0, none⟩ = some (.string D0) ∧ W.cell? ⟨gy, 1, none⟩ = some (.string (S nn)) ∧ W.cell? ⟨gy, 2, none⟩ = some (.string (S uu)) ∧ W.cell? ⟨gy, 3, none⟩ = some (.string (S vv)) ∧ Below w8.heap.size w8 W)) (by kernel_rfl) (hst2) (fun hHeld => ?_)
          refine wpAnyH_take (i := 0) (v := ?_) rfl (by kernel_rfl) (by kernel_rfl) (by kernel_rfl) (fun _ _ _ h => h) (Or.inl ⟨by kernel_rfl, ?_⟩) hHeld ?_
          rotate_left
          · (rintro W ⟨a0, a1, a2, a3, a4, a5, a6, a7, _⟩; go_simp; (try with_reducible rfl))
          (try simp only [Act.put, List.getElem_toArray, List.getElem_cons_zero, List.setIfInBounds_toArray, List.set_cons_succ, List.set_cons_zero])
          refine wpAnyH_take (i := 1) (v := ?_) rfl (by kernel_rfl) (by kernel_rfl) (by kernel_rfl) (fun _ _ _ h => h) (Or.inl ⟨by kernel_rfl, ?_⟩) hHeld ?_
          rotate_left
          · (rintro W ⟨a0, a1, a2, a3, a4, a5, a6, a7, _⟩; go_simp; (try with_reducible rfl))
          (try simp only [Act.put, List.getElem_toArray, List.getElem_cons_succ, List.getElem_cons_zero, List.setIfInBounds_toArray, List.set_cons_succ, List.set_cons_zero])
          refine wpAnyH_take (i := 2) (v := ?_) rfl (by kernel_rfl) (by kernel_rfl) (by kernel_rfl) (fun _ _ _ h => h) (Or.inl ⟨by kernel_rfl, ?_⟩) hHeld ?_
          rotate_left
          · (rintro W ⟨a0, a1, a2, a3, a4, a5, a6, a7, _⟩; go_simp; (try with_reducible rfl))
          (try simp only [Act.put, List.getElem_toArray, List.getElem_cons_succ, List.getElem_cons_zero, List.setIfInBounds_toArray, List.set_cons_succ, List.set_cons_zero])
          refine wpAnyH_take (i := 3) (v := ?_) rfl (by kernel_rfl) (by kernel_rfl) (by kernel_rfl) (fun _ _ _ h => h) (Or.inl ⟨by kernel_rfl, ?_⟩) hHeld ?_
          rotate_left
          · (rintro W ⟨a0, a1, a2, a3, a4, a5, a6, a7, _⟩; go_simp; (try with_reducible rfl))
          (try simp only [Act.put, List.getElem_toArray, List.getElem_cons_succ, List.getElem_cons_zero, List.setIfInBounds_toArray, List.set_cons_succ, List.set_cons_zero])
          refine wpAnyH_take (i := 4) (v := ?_) rfl (by kernel_rfl) (by kernel_rfl) (by kernel_rfl) (fun _ _ _ h => h) (Or.inl ⟨by kernel_rfl, ?_⟩) hHeld ?_
          rotate_left
          · (rintro W ⟨a0, a1, a2, a3, a4, a5, a6, a7, _⟩; go_simp; (try with_reducible rfl))
          (try simp only [Act.put, List.getElem_toArray, List.getElem_cons_succ, List.getElem_cons_zero, List.setIfInBounds_toArray, List.set_cons_succ, List.set_cons_zero])
          refine wpAnyH_take (i := 5) (v := ?_) rfl (by kernel_rfl) (by kernel_rfl) (by kernel_rfl) (fun _ _ _ h => h) (Or.inl ⟨by kernel_rfl, ?_⟩) hHeld ?_
          rotate_left
          · (rintro W ⟨a0, a1, a2, a3, a4, a5, a6, a7, _⟩; go_simp; (try with_reducible rfl))
          (try simp only [Act.put, List.getElem_toArray, List.getElem_cons_succ, List.getElem_cons_zero, List.setIfInBounds_toArray, List.set_cons_succ, List.set_cons_zero])
          refine wpAnyH_take (i := 6) (v := ?_) rfl (by kernel_rfl) (by kernel_rfl) (by kernel_rfl) (fun _ _ _ h => h) (Or.inl ⟨by kernel_rfl, ?_⟩) hHeld ?_
          rotate_left
          · (rintro W ⟨a0, a1, a2, a3, a4, a5, a6, a7, _⟩; go_simp; (try with_reducible rfl))
          (try simp only [Act.put, List.getElem_toArray, List.getElem_cons_succ, List.getElem_cons_zero, List.setIfInBounds_toArray, List.set_cons_succ, List.set_cons_zero])
          refine wpAnyH_take (i := 7) (v := ?_) rfl (by kernel_rfl) (by kernel_rfl) (by kernel_rfl) (fun _ _ _ h => h) (Or.inl ⟨by kernel_rfl, ?_⟩) hHeld ?_
          rotate_left
          · (rintro W ⟨a0, a1, a2, a3, a4, a5, a6, a7, _⟩; go_simp; (try with_reducible rfl))
          (try simp only [Act.put, List.getElem_toArray, List.getElem_cons_succ, List.getElem_cons_zero, List.setIfInBounds_toArray, List.set_cons_succ, List.set_cons_zero])
          refine wpAnyH_take (i := 8) (v := ?_) rfl (by kernel_rfl) (by kernel_rfl) (by kernel_rfl) (fun _ _ _ h => h) (Or.inl ⟨by kernel_rfl, ?_⟩) hHeld ?_
          rotate_left
          · (rintro W ⟨a0, a1, a2, a3, a4, a5, a6, a7, _⟩; go_simp; (try with_reducible rfl))
          (try simp only [Act.put, List.getElem_toArray, List.getElem_cons_succ, List.getElem_cons_zero, List.setIfInBounds_toArray, List.set_cons_succ, List.set_cons_zero])
          refine wpAnyH_take (i := 9) (v := ?_) rfl (by kernel_rfl) (by kernel_rfl) (by kernel_rfl) (fun _ _ _ h => h) (Or.inl ⟨by kernel_rfl, ?_⟩) hHeld ?_
          rotate_left
          · (rintro W ⟨a0, a1, a2, a3, a4, a5, a6, a7, _⟩; go_simp; (try with_reducible rfl))
          (try simp only [Act.put, List.getElem_toArray, List.getElem_cons_succ, List.getElem_cons_zero, List.setIfInBounds_toArray, List.set_cons_succ, List.set_cons_zero])
          refine wpAnyH_take (i := 10) (v := ?_) rfl (by kernel_rfl) (by kernel_rfl) (by kernel_rfl) (fun _ _ _ h => h) (Or.inl ⟨by kernel_rfl, ?_⟩) hHeld ?_
          rotate_left
          · (rintro W ⟨a0, a1, a2, a3, a4, a5, a6, a7, _⟩; go_simp; (try with_reducible rfl))
          (try simp only [Act.put, List.getElem_toArray, List.getElem_cons_succ, List.getElem_cons_zero, List.setIfInBounds_toArray, List.set_cons_succ, List.set_cons_zero])
          refine wpAnyH_take (i := 11) (v := ?_) rfl (by kernel_rfl) (by kernel_rfl) (by kernel_rfl) (fun _ _ _ h => h) (Or.inl ⟨by kernel_rfl, ?_⟩) hHeld ?_
          rotate_left
          · (rintro W ⟨a0, a1, a2, a3, a4, a5, a6, a7, _⟩; go_simp; (try with_reducible rfl))
          (try simp only [Act.put, List.getElem_toArray, List.getElem_cons_succ, List.getElem_cons_zero, List.setIfInBounds_toArray, List.set_cons_succ, List.set_cons_zero])
          refine wpAnyH_take (i := 12) (v := ?_) rfl (by kernel_rfl) (by kernel_rfl) (by kernel_rfl) (fun _ _ _ h => h) (Or.inl ⟨by kernel_rfl, ?_⟩) hHeld ?_
          rotate_left
          · (rintro W ⟨a0, a1, a2, a3, a4, a5, a6, a7, _⟩; go_simp; (try with_reducible rfl))
          (try simp only [Act.put, List.getElem_toArray, List.getElem_cons_succ, List.getElem_cons_zero, List.setIfInBounds_toArray, List.set_cons_succ, List.set_cons_zero])
          refine wpAnyH_take (i := 13) (v := ?_) rfl (by kernel_rfl) (by kernel_rfl) (by kernel_rfl) (fun _ _ _ h => h) (Or.inl ⟨by kernel_rfl, ?_⟩) hHeld ?_
          rotate_left
          · (rintro W ⟨a0, a1, a2, a3, a4, a5, a6, a7, _⟩; go_simp; (try with_reducible rfl))
          (try simp only [Act.put, List.getElem_toArray, List.getElem_cons_succ, List.getElem_cons_zero, List.setIfInBounds_toArray, List.set_cons_succ, List.set_cons_zero])
          refine wpAnyH_take (i := 14) (v := ?_) rfl (by kernel_rfl) (by kernel_rfl) (by kernel_rfl) (fun _ _ _ h => h) (Or.inl ⟨by kernel_rfl, ?_⟩) hHeld ?_
          rotate_left
          · (rintro W ⟨a0, a1, a2, a3, a4, a5, a6, a7, _⟩; go_simp; (try with_reducible rfl))
          (try simp only [Act.put, List.getElem_toArray, List.getElem_cons_succ, List.getElem_cons_zero, List.setIfInBounds_toArray, List.set_cons_succ, List.set_cons_zero])
          refine wpAnyH_take (i := 15) (v := ?_) rfl (by kernel_rfl) (by kernel_rfl) (by kernel_rfl) (fun _ _ _ h => h) (Or.inl ⟨by kernel_rfl, ?_⟩) hHeld ?_
          rotate_left
          · (rintro W ⟨a0, a1, a2, a3, a4, a5, a6, a7, _⟩; go_simp; (try with_reducible rfl))
          (try simp only [Act.put, List.getElem_toArray, List.getElem_cons_succ, List.getElem_cons_zero, List.setIfInBounds_toArray, List.set_cons_succ, List.set_cons_zero])
          refine wpAnyH_take (i := 16) (v := ?_) rfl (by kernel_rfl) (by kernel_rfl) (by kernel_rfl) (fun _ _ _ h => h) (Or.inl ⟨by kernel_rfl, ?_⟩) hHeld ?_
          rotate_left
          · (rintro W ⟨a0, a1, a2, a3, a4, a5, a6, a7, _⟩; go_simp; (try with_reducible rfl))
          (try simp only [Act.put, List.getElem_toArray, List.getElem_cons_succ, List.getElem_cons_zero, List.setIfInBounds_toArray, List.set_cons_succ, List.set_cons_zero])
          refine wpAnyH_take (i := 17) (v := ?_) rfl (by kernel_rfl) (by kernel_rfl) (by kernel_rfl) (fun _ _ _ h => h) (Or.inl ⟨by kernel_rfl, ?_⟩) hHeld ?_
          rotate_left
          · (rintro W ⟨a0, a1, a2, a3, a4, a5, a6, a7, _⟩; go_simp; (try with_reducible rfl))
          (try simp only [Act.put, List.getElem_toArray, List.getElem_cons_succ, List.getElem_cons_zero, List.setIfInBounds_toArray, List.set_cons_succ, List.set_cons_zero])
          refine wpAnyH_take (i := 18) (v := ?_) rfl (by kernel_rfl) (by kernel_rfl) (by kernel_rfl) (fun _ _ _ h => h) (Or.inl ⟨by kernel_rfl, ?_⟩) hHeld ?_
          rotate_left
          · (rintro W ⟨a0, a1, a2, a3, a4, a5, a6, a7, _⟩; go_simp; (try with_reducible rfl))
          (try simp only [Act.put, List.getElem_toArray, List.getElem_cons_succ, List.getElem_cons_zero, List.setIfInBounds_toArray, List.set_cons_succ, List.set_cons_zero])
          refine wpAnyH_take (i := 19) (v := ?_) rfl (by kernel_rfl) (by kernel_rfl) (by kernel_rfl) (fun _ _ _ h => h) (Or.inl ⟨by kernel_rfl, ?_⟩) hHeld ?_
          rotate_left
          · (rintro W ⟨a0, a1, a2, a3, a4, a5, a6, a7, _⟩; go_simp; (try with_reducible rfl))
          (try simp only [Act.put, List.getElem_toArray, List.getElem_cons_succ, List.getElem_cons_zero, List.setIfInBounds_toArray, List.set_cons_succ, List.set_cons_zero])
          refine wpAnyH_take (i := 20) (v := ?_) rfl (by kernel_rfl) (by kernel_rfl) (by kernel_rfl) (fun _ _ _ h => h) (Or.inl ⟨by kernel_rfl, ?_⟩) hHeld ?_
          rotate_left
          · (rintro W ⟨a0, a1, a2, a3, a4, a5, a6, a7, _⟩; go_simp; (try with_reducible rfl))
          (try simp only [Act.put, List.getElem_toArray, List.getElem_cons_succ, List.getElem_cons_zero, List.setIfInBounds_toArray, List.set_cons_succ, List.set_cons_zero])
          refine wpAnyH_take (i := 22) (v := ?_) rfl (by kernel_rfl) (by kernel_rfl) (by kernel_rfl) (fun _ _ _ h => h) (Or.inl ⟨by kernel_rfl, ?_⟩) hHeld ?_
          rotate_left
          · (rintro W ⟨a0, a1, a2, a3, a4, a5, a6, a7, _⟩; go_simp; (try with_reducible rfl))
          (try simp only [Act.put, List.getElem_toArray, List.getElem_cons_succ, List.getElem_cons_zero, List.setIfInBounds_toArray, List.set_cons_succ, List.set_cons_zero])
          refine wpAnyH_take (i := 23) (v := ?_) rfl (by kernel_rfl) (by kernel_rfl) (by kernel_rfl) (fun _ _ _ h => h) (Or.inl ⟨by kernel_rfl, ?_⟩) hHeld ?_
          rotate_left
          · (rintro W ⟨a0, a1, a2, a3, a4, a5, a6, a7, _⟩; go_simp; (try with_reducible rfl))
          (try simp only [Act.put, List.getElem_toArray, List.getElem_cons_succ, List.getElem_cons_zero, List.setIfInBounds_toArray, List.set_cons_succ, List.set_cons_zero])
          refine wpAnyH_take (i := 24) (v := ?_) rfl (by kernel_rfl) (by kernel_rfl) (by kernel_rfl) (fun _ _ _ h => h) (Or.inl ⟨by kernel_rfl, ?_⟩) hHeld ?_
          rotate_left
          · (rintro W ⟨a0, a1, a2, a3, a4, a5, a6, a7, _⟩; go_simp; (try with_reducible rfl))
          (try simp only [Act.put, List.getElem_toArray, List.getElem_cons_succ, List.getElem_cons_zero, List.setIfInBounds_toArray, List.set_cons_succ, List.set_cons_zero])
          refine wpAnyH_ready (rs := [21]) (by kernel_rfl) (by simp) ?_
          refine AllReadyH.cons rfl (fun K hK => ?_) AllReadyH.nil
          go_simp
          refine (HTu.out _).mono ?_
          rintro e w9 ⟨rfl, rfl⟩
          refine hK.out _ _ (hHeld) (fun hHeld => ?_)
          clear hK K
          (try simp only [Act.put, List.getElem_toArray, List.getElem_cons_succ, List.getElem_cons_zero, List.setIfInBounds_toArray, List.set_cons_succ, List.set_cons_zero])
          refine wpAnyH_take (i := 25) (v := ?_) rfl (by kernel_rfl) (by kernel_rfl) (by kernel_rfl) (fun _ _ _ h => h) (Or.inl ⟨by kernel_rfl, ?_⟩) hHeld ?_
          rotate_left
          · (rintro W ⟨a0, a1, a2, a3, a4, a5, a6, a7, _⟩; go_simp; (try with_reducible rfl))
          (try simp only [Act.put, List.getElem_toArray, List.getElem_cons_succ, List.getElem_cons_zero, List.setIfInBounds_toArray, List.set_cons_succ, List.set_cons_zero])
          refine wpAnyH_take (i := 26) (v := ?_) rfl (by kernel_rfl) (by kernel_rfl) (by kernel_rfl) (fun _ _ _ h => h) (Or.inl ⟨by kernel_rfl, ?_⟩) hHeld ?_
          rotate_left
          · (rintro W ⟨a0, a1, a2, a3, a4, a5, a6, a7, _⟩; go_simp; (try with_reducible rfl))
          (try simp only [Act.put, List.getElem_toArray, List.getElem_cons_succ, List.getElem_cons_zero, List.setIfInBounds_toArray, List.set_cons_succ, List.set_cons_zero])
          refine wpAnyH_take (i := 27) (v := ?_) rfl (by kernel_rfl) (by kernel_rfl) (by kernel_rfl) (fun _ _ _ h => h) (Or.inl ⟨by kernel_rfl, ?_⟩) hHeld ?_
          rotate_left
          · (rintro W ⟨a0, a1, a2, a3, a4, a5, a6, a7, _⟩; go_simp; (try with_reducible rfl))
          (try simp only [Act.put, List.getElem_toArray, List.getElem_cons_succ, List.getElem_cons_zero, List.setIfInBounds_toArray, List.set_cons_succ, List.set_cons_zero])
          refine wpAnyH_take (i := 28) (v := ?_) rfl (by kernel_rfl) (by kernel_rfl) (by kernel_rfl) (fun _ _ _ h => h) (Or.inl ⟨by kernel_rfl, ?_⟩) hHeld ?_
          rotate_left
          · (rintro W ⟨a0, a1, a2, a3, a4, a5, a6, a7, _⟩; go_simp; (try with_reducible rfl))
          (try simp only [Act.put, List.getElem_toArray, List.getElem_cons_succ, List.getElem_cons_zero, List.setIfInBounds_toArray, List.set_cons_succ, List.set_cons_zero])
          refine wpAnyH_take (i := 29) (v := ?_) rfl (by kernel_rfl) (by kernel_rfl) (by kernel_rfl) (fun _ _ _ h => h) (Or.inl ⟨by kernel_rfl, ?_⟩) hHeld ?_
          rotate_left
          · (rintro W ⟨a0, a1, a2, a3, a4, a5, a6, a7, _⟩; go_simp; (try with_reducible rfl))
          (try simp only [Act.put, List.getElem_toArray, List.getElem_cons_succ, List.getElem_cons_zero, List.setIfInBounds_toArray, List.set_cons_succ, List.set_cons_zero])
          refine wpAnyH_take (i := 30) (v := ?_) rfl (by kernel_rfl) (by kernel_rfl) (by kernel_rfl) (fun _ _ _ h => h) (Or.inl ⟨by kernel_rfl, ?_⟩) hHeld ?_
          rotate_left
          · (rintro W ⟨a0, a1, a2, a3, a4, a5, a6, a7, _⟩; go_simp; (try with_reducible rfl))
          (try simp only [Act.put, List.getElem_toArray, List.getElem_cons_succ, List.getElem_cons_zero, List.setIfInBounds_toArray, List.set_cons_succ, List.set_cons_zero])
          refine wpAnyH_take (i := 31) (v := ?_) rfl (by kernel_rfl) (by kernel_rfl) (by kernel_rfl) (fun _ _ _ h => h) (Or.inl ⟨by kernel_rfl, ?_⟩) hHeld ?_
          rotate_left
          · (rintro W ⟨a0, a1, a2, a3, a4, a5, a6, a7, _⟩; go_simp; (try with_reducible rfl))
          (try simp only [Act.put, List.getElem_toArray, List.getElem_cons_succ, List.getElem_cons_zero, List.setIfInBounds_toArray, List.set_cons_succ, List.set_cons_zero])
          refine wpAnyH_take (i := 32) (v := ?_) rfl (by kernel_rfl) (by kernel_rfl) (by kernel_rfl) (fun _ _ _ h => h) (Or.inl ⟨by kernel_rfl, ?_⟩) hHeld ?_
          rotate_left
          · (rintro W ⟨a0, a1, a2, a3, a4, a5, a6, a7, _⟩; go_simp; (try with_reducible rfl))
          (try simp only [Act.put, List.getElem_toArray, List.getElem_cons_succ, List.getElem_cons_zero, List.setIfInBounds_toArray, List.set_cons_succ, List.set_cons_zero])
          refine wpAnyH_take (i := 33) (v := ?_) rfl (by kernel_rfl) (by kernel_rfl) (by kernel_rfl) (fun _ _ _ h => h) (Or.inl ⟨by kernel_rfl, ?_⟩) hHeld ?_
          rotate_left
          · (rintro W ⟨a0, a1, a2, a3, a4, a5, a6, a7, _⟩; go_simp; (try with_reducible rfl))
          (try simp only [Act.put, List.getElem_toArray, List.getElem_cons_succ, List.getElem_cons_zero, List.setIfInBounds_toArray, List.set_cons_succ, List.set_cons_zero])
          refine wpAnyH_take (i := 34) (v := ?_) rfl (by kernel_rfl) (by kernel_rfl) (by kernel_rfl) (fun _ _ _ h => h) (Or.inl ⟨by kernel_rfl, ?_⟩) hHeld ?_
          rotate_left
          · (rintro W ⟨a0, a1, a2, a3, a4, a5, a6, a7, _⟩; go_simp; (try with_reducible rfl))
          (try simp only [Act.put, List.getElem_toArray, List.getElem_cons_succ, List.getElem_cons_zero, List.setIfInBounds_toArray, List.set_cons_succ, List.set_cons_zero])
          refine wpAnyH_take (i := 35) (v := ?_) rfl (by kernel_rfl) (by kernel_rfl) (by kernel_rfl) (fun _ _ _ h => h) (Or.inl ⟨by kernel_rfl, ?_⟩) hHeld ?_
          rotate_left
          · (rintro W ⟨a0, a1, a2, a3, a4, a5, a6, a7, _⟩; go_simp; (try with_reducible rfl))
          (try simp only [Act.put, List.getElem_toArray, List.getElem_cons_succ, List.getElem_cons_zero, List.setIfInBounds_toArray, List.set_cons_succ, List.set_cons_zero])
          refine wpAnyH_take (i := 36) (v := ?_) rfl (by kernel_rfl) (by kernel_rfl) (by kernel_rfl) (fun _ _ _ h => h) (Or.inl ⟨by kernel_rfl, ?_⟩) hHeld ?_
          rotate_left
          · (rintro W ⟨a0, a1, a2, a3, a4, a5, a6, a7, _⟩; go_simp; (try with_reducible rfl))
          (try simp only [Act.put, List.getElem_toArray, List.getElem_cons_succ, List.getElem_cons_zero, List.setIfInBounds_toArray, List.set_cons_succ, List.set_cons_zero])
          refine wpAnyH_take (i := 37) (v := ?_) rfl (by kernel_rfl) (by kernel_rfl) (by kernel_rfl) (fun _ _ _ h => h) (Or.inl ⟨by kernel_rfl, ?_⟩) hHeld ?_
          rotate_left
          · (rintro W ⟨a0, a1, a2, a3, a4, a5, a6, a7, _⟩; go_simp; (try with_reducible rfl))
          (try simp only [Act.put, List.getElem_toArray, List.getElem_cons_succ, List.getElem_cons_zero, List.setIfInBounds_toArray, List.set_cons_succ, List.set_cons_zero])
          refine wpAnyH_take (i := 38) (v := ?_) rfl (by kernel_rfl) (by kernel_rfl) (by kernel_rfl) (fun _ _ _ h => h) (Or.inl ⟨by kernel_rfl, ?_⟩) hHeld ?_
          rotate_left
          · (rintro W ⟨a0, a1, a2, a3, a4, a5, a6, a7, _⟩; go_simp; (try with_reducible rfl))
          (try simp only [Act.put, List.getElem_toArray, List.getElem_cons_succ, List.getElem_cons_zero, List.setIfInBounds_toArray, List.set_cons_succ, List.set_cons_zero])
          refine wpAnyH_take (i := 39) (v := ?_) rfl (by kernel_rfl) (by kernel_rfl) (by kernel_rfl) (fun _ _ _ h => h) (Or.inl ⟨by kernel_rfl, ?_⟩) hHeld ?_
          rotate_left
          · (rintro W ⟨a0, a1, a2, a3, a4, a5, a6, a7, _⟩; go_simp; (try with_reducible rfl))
          (try simp only [Act.put, List.getElem_toArray, List.getElem_cons_succ, List.getElem_cons_zero, List.setIfInBounds_toArray, List.set_cons_succ, List.set_cons_zero])
          refine wpAnyH_take (i := 40) (v := ?_) rfl (by kernel_rfl) (by kernel_rfl) (by kernel_rfl) (fun _ _ _ h => h) (Or.inl ⟨by kernel_rfl, ?_⟩) hHeld ?_
          rotate_left
          · (rintro W ⟨a0, a1, a2, a3, a4, a5, a6, a7, _⟩; go_simp; (try with_reducible rfl))
          (try simp only [Act.put, List.getElem_toArray, List.getElem_cons_succ, List.getElem_cons_zero, List.setIfInBounds_toArray, List.set_cons_succ, List.set_cons_zero])
          refine wpAnyH_take (i := 41) (v := ?_) rfl (by kernel_rfl) (by kernel_rfl) (by kernel_rfl) (fun _ _ _ h => h) (Or.inl ⟨by kernel_rfl, ?_⟩) hHeld ?_
          rotate_left
          · (rintro W ⟨a0, a1, a2, a3, a4, a5, a6, a7, _⟩; go_simp; (try with_reducible rfl))
          (try simp only [Act.put, List.getElem_toArray, List.getElem_cons_succ, List.getElem_cons_zero, List.setIfInBounds_toArray, List.set_cons_succ, List.set_cons_zero])
          refine wpAnyH_take (i := 42) (v := ?_) rfl (by kernel_rfl) (by kernel_rfl) (by kernel_rfl) (fun _ _ _ h => h) (Or.inl ⟨by kernel_rfl, ?_⟩) hHeld ?_
          rotate_left
          · (rintro W ⟨a0, a1, a2, a3, a4, a5, a6, a7, _⟩; go_simp; (try with_reducible rfl))
          (try simp only [Act.put, List.getElem_toArray, List.getElem_cons_succ, List.getElem_cons_zero, List.setIfInBounds_toArray, List.set_cons_succ, List.set_cons_zero])
          refine wpAnyH_take (i := 43) (v := ?_) rfl (by kernel_rfl) (by kernel_rfl) (by kernel_rfl) (fun _ _ _ h => h) (Or.inl ⟨by kernel_rfl, ?_⟩) hHeld ?_
          rotate_left
          · (rintro W ⟨a0, a1, a2, a3, a4, a5, a6, a7, _⟩; go_simp; (try with_reducible rfl))
          (try simp only [Act.put, List.getElem_toArray, List.getElem_cons_succ, List.getElem_cons_zero, List.setIfInBounds_toArray, List.set_cons_succ, List.set_cons_zero])
          refine wpAnyH_take (i := 44) (v := ?_) rfl (by kernel_rfl) (by kernel_rfl) (by kernel_rfl) (fun _ _ _ h => h) (Or.inl ⟨by kernel_rfl, ?_⟩) hHeld ?_
          rotate_left
          · (rintro W ⟨a0, a1, a2, a3, a4, a5, a6, a7, _⟩; go_simp; (try with_reducible rfl))
          (try simp only [Act.put, List.getElem_toArray, List.getElem_cons_succ, List.getElem_cons_zero, List.setIfInBounds_toArray, List.set_cons_succ, List.set_cons_zero])
          refine wpAnyH_take (i := 45) (v := ?_) rfl (by kernel_rfl) (by kernel_rfl) (by kernel_rfl) (fun _ _ _ h => h) (Or.inl ⟨by kernel_rfl, ?_⟩) hHeld ?_
          rotate_left
          · (rintro W ⟨a0, a1, a2, a3, a4, a5, a6, a7, _⟩; go_simp; (try with_reducible rfl))
          (try simp only [Act.put, List.getElem_toArray, List.getElem_cons_succ, List.getElem_cons_zero, List.setIfInBounds_toArray, List.set_cons_succ, List.set_cons_zero])
          refine wpAnyH_take (i := 46) (v := ?_) rfl (by kernel_rfl) (by kernel_rfl) (by kernel_rfl) (fun _ _ _ h => h) (Or.inl ⟨by kernel_rfl, ?_⟩) hHeld ?_
          rotate_left
          · (rintro W ⟨a0, a1, a2, a3, a4, a5, a6, a7, _⟩; go_simp; (try with_reducible rfl))
          (try simp only [Act.put, List.getElem_toArray, List.getElem_cons_succ, List.getElem_cons_zero, List.setIfInBounds_toArray, List.set_cons_succ, List.set_cons_zero])
          refine wpAnyH_take (i := 47) (v := ?_) rfl (by kernel_rfl) (by kernel_rfl) (by kernel_rfl) (fun _ _ _ h => h) (Or.inl ⟨by kernel_rfl, ?_⟩) hHeld ?_
          rotate_left
          · (rintro W ⟨a0, a1, a2, a3, a4, a5, a6, a7, _⟩; go_simp; (try with_reducible rfl))
          (try simp only [Act.put, List.getElem_toArray, List.getElem_cons_succ, List.getElem_cons_zero, List.setIfInBounds_toArray, List.set_cons_succ, List.set_cons_zero])
          refine wpAnyH_take (i := 48) (v := ?_) rfl (by kernel_rfl) (by kernel_rfl) (by kernel_rfl) (fun _ _ _ h => h) (Or.inl ⟨by kernel_rfl, ?_⟩) hHeld ?_
          rotate_left
          · (rintro W ⟨a0, a1, a2, a3, a4, a5, a6, a7, _⟩; go_simp; (try with_reducible rfl))
          (try simp only [Act.put, List.getElem_toArray, List.getElem_cons_succ, List.getElem_cons_zero, List.setIfInBounds_toArray, List.set_cons_succ, List.set_cons_zero])
          refine wpAnyH_take (i := 49) (v := ?_) rfl (by kernel_rfl) (by kernel_rfl) (by kernel_rfl) (fun _ _ _ h => h) (Or.inl ⟨by kernel_rfl, ?_⟩) hHeld ?_
          rotate_left
          · (rintro W ⟨a0, a1, a2, a3, a4, a5, a6, a7, _⟩; go_simp; (try with_reducible rfl))
          (try simp only [Act.put, List.getElem_toArray, List.getElem_cons_succ, List.getElem_cons_zero, List.setIfInBounds_toArray, List.set_cons_succ, List.set_cons_zero])
          refine wpAnyH_take (i := 50) (v := ?_) rfl (by kernel_rfl) (by kernel_rfl) (by kernel_rfl) (fun _ _ _ h => h) (Or.inl ⟨by kernel_rfl, ?_⟩) hHeld ?_
          rotate_left
          · (rintro W ⟨a0, a1, a2, a3, a4, a5, a6, a7, _⟩; go_simp; (try with_reducible rfl))
          (try simp only [Act.put, List.getElem_toArray, List.getElem_cons_succ, List.getElem_cons_zero, List.setIfInBounds_toArray, List.set_cons_succ, List.set_cons_zero])
          refine wpAnyH_take (i := 51) (v := ?_) rfl (by kernel_rfl) (by kernel_rfl) (by kernel_rfl) (fun _ _ _ h => h) (Or.inl ⟨by kernel_rfl, ?_⟩) hHeld ?_
          rotate_left
          · (rintro W ⟨a0, a1, a2, a3, a4, a5, a6, a7, _⟩; go_simp; (try with_reducible rfl))
          (try simp only [Act.put, List.getElem_toArray, List.getElem_cons_succ, List.getElem_cons_zero, List.setIfInBounds_toArray, List.set_cons_succ, List.set_cons_zero])
          refine wpAnyH_take (i := 52) (v := ?_) rfl (by kernel_rfl) (by kernel_rfl) (by kernel_rfl) (fun _ _ _ h => h) (Or.inl ⟨by kernel_rfl, ?_⟩) hHeld ?_
          rotate_left
          · (rintro W ⟨a0, a1, a2, a3, a4, a5, a6, a7, _⟩; go_simp; (try with_reducible rfl))
          (try simp only [Act.put, List.getElem_toArray, List.getElem_cons_succ, List.getElem_cons_zero, List.setIfInBounds_toArray, List.set_cons_succ, List.set_cons_zero])
          refine wpAnyH_done (by kernel_rfl) ?_ _
          have hbF := below_then hbw2 hHeld.2.2.2.2.2.2.2.2
          clear hHeld hst2
          go_wp2_with fail
          go_roundw
          case rel => exact ⟨k + 1, hlt, by go_num, hbF⟩
          case measure => simp [intOf]; omega
    · have q5 : decide (k < n) = false := decide_eq_false hlt
      have hbF := below_then hbw hb
      clear hlt
      go_wp2_with fail
      refine (HAw.out _ (HE.out.below hbF)).mono ?_
      rintro e w7 ⟨rfl, hb7⟩
      have hb8 := below_then hbF hb7
      go_wp2_with fail
      go_ret
      exact ⟨rfl, hb8⟩
end Go.Proofs.YtboajinaiceekaaGreatDoor
