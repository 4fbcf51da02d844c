/- comp.Table.Put, walked. -/
import Derived.Test.YtngmdefhdknggaaDoorCmT
namespace Go.Proofs.YtngmdefhdknggaaDoor.Cm
open Go.RowKit Go.Maps Go.Proofs.YtngmdefhdknggaaDoor.Cur Go.Proofs.YtngmdefhdknggaaDoor.Put Go.Proofs.YtngmdefhdknggaaDoor.Nm

theorem own_tbl {w w' : World} {b n base k : Nat} {t : Tbl} {v : Value} {xs : List Value} (hO : w.ownsRow base 5 1 v k xs) (hT : TblAt w b n t) (hC : Chg (TblS w b) w w') : w'.ownsRow base 5 1 v k xs := by
  refine hC.own hO fun j hj => ?_
  rcases hO.2 with ⟨rfl, _⟩ | ⟨g, cap, cur, rfl, _, hg, _⟩
  · cases hj
  · have : g = j := by simpa [Value.ownBlock] using hj
    subst this
    exact hT.no hg (by decide)
theorem own_noneB {w : World} {g : Nat} (h : w.heap[g]? = some (.cells #[] 5 (0, 0))) : w.ownsRow g 5 1 (.slice (some ⟨g, 0, none⟩) 0 0) ([] : List UInt8).length (bytesV []) :=
  ⟨rfl, .inr ⟨g, 0, #[], rfl, Nat.le_refl _, h, Nat.le_refl _, Nat.zero_le _, rfl, rfl⟩⟩
theorem own_cells {w : World} {base j k : Nat} {v : Value} {xs : List Value} (hO : w.ownsRow base 5 1 v k xs) (hj : v.ownBlock = some j) : ∃ cur, w.heap[j]? = some (.cells cur 5 (0, 0)) := by
  rcases hO.2 with ⟨rfl, _⟩ | ⟨g, cap, cur, rfl, _, hg, _⟩
  · cases hj
  · have : g = j := by simpa [Value.ownBlock] using hj
    subst this
    exact ⟨cur, hg⟩
theorem tbl_own {w w' : World} {b n base k : Nat} {t : Tbl} {v : Value} {xs : List Value} (hT : TblAt w b n t) (hO : w.ownsRow base 5 1 v k xs) (hC : Chg (fun j => v.ownBlock = some j) w w') : TblAt w' b n t :=
  hT.chg hC fun j hj hs => by
    obtain ⟨cur, hc⟩ := own_cells hO hs
    exact hT.no hc (by decide) hj
theorem own_not_b {w : World} {b n base k : Nat} {t : Tbl} {v : Value} {xs : List Value} (hT : TblAt w b n t) (hO : w.ownsRow base 5 1 v k xs) : ¬ v.ownBlock = some b := fun hs => by
  obtain ⟨cur, hc⟩ := own_cells hO hs
  exact hT.no hc (by decide) (.inl rfl)
/-- The table's blocks are the old ones, or new. -/
def TG (w w' : World) (b : Nat) : Prop := ∀ k, TblS w' b k → TblS w b k ∨ w.heap.size ≤ k
theorem TG.refl (w : World) (b : Nat) : TG w w b := fun _ h => .inl h
theorem TG.trans {w w1 w2 : World} {b : Nat} (h : TG w w1 b) (hs : w.heap.size ≤ w1.heap.size) (h2 : ∀ k, TblS w2 b k → TblS w1 b k ∨ w1.heap.size ≤ k) : TG w w2 b := fun k hk => by
  rcases h2 k hk with h3 | h3
  · exact h k h3
  · exact .inr (Nat.le_trans hs h3)
theorem TG.nob {w w1 w2 : World} {b : Nat} (h : TG w w1 b) (hl : b < w1.heap.size) (hc : Chg Nob w1 w2) : TG w w2 b := fun k hk => h k (TblS.same hl hc (fun h => h) hk)
theorem TG.far {w w1 w2 : World} {b : Nat} {S : Nat → Prop} (h : TG w w1 b) (hl : b < w1.heap.size) (hc : Chg S w1 w2) (hb : ¬ S b) : TG w w2 b := fun k hk => h k (TblS.same hl hc hb hk)
def TLow (t : Tbl) : Prop := ∀ m a, t m = some a → a ≤ 16383
theorem TLow.kept {t : Tbl} (h : TLow t) (kn : Bool) (n out : List UInt8) : TLow (kept t kn n out) := fun m a hm => by
  unfold Cm.kept at hm
  split at hm
  · unfold upd at hm
    split at hm
    · injection hm with hm
      omega
    · exact h m a hm
  · exact h m a hm
theorem or_ptr (a : Nat) (ha : a ≤ 16383) : bits .or .u16 49152 (a : Int) = ((49152 + a : Nat) : Int) := by
  have h := u16_or_nat 49152 a (by omega) (by omega)
  rw [nat_join 14 49152 a (by omega) (by omega)] at h
  exact h

set_option maxRecDepth 100000 in
theorem put_nobody (w : World) (v n : Value) (cm kn : Bool) :
    Calls Tryd.prog 18 #[.pointer none, v, n, .bool cm, .bool kn] w fun e w' => e = .returned (.tuple #[.slice none 0 0, .int .i64 2]) ∧ w = w' := by
  go_enter Tryd.func18, Tryd.ntmps18
  go_wp2
  (try simp only [Exit.inBlock, Exit.then])
  exact bodyPost_ret (v := .tuple #[.slice none 0 0, .int .i64 2]) (by simp [results, Tryd.results18, go_sem]) rfl ⟨rfl, rfl⟩
set_option maxRecDepth 100000 in
theorem put_bad (w : World) (b : Nat) (v : Value) (s : ByteArray) (cm kn : Bool) (hs : s.size ≤ 9223372036854775807) (h : mayB s.data.toList = false) :
    Calls Tryd.prog 18 #[.pointer (some ⟨b, 0, none⟩), v, .string s, .bool cm, .bool kn] w fun e w' => e = .returned (.tuple #[.slice none 0 0, .int .i64 3]) ∧ Chg Nob w w' := by
  have hM := may_any w s hs
  rw [h] at hM
  have HM := Lib.hid hM
  clear hM h
  go_enter Tryd.func18, Tryd.ntmps18
  go_wp2_with fail
  refine HM.out.mono ?_
  rintro r w1 ⟨rfl, hC1⟩
  go_wp2_with fail
  (try simp only [Exit.inBlock, Exit.then])
  exact bodyPost_ret (v := .tuple #[.slice none 0 0, .int .i64 3]) (by simp [results, Tryd.results18, go_sem]) rfl ⟨rfl, hC1⟩

set_option maxRecDepth 100000 in
set_option maxHeartbeats 4000000 in
theorem put_good (w : World) (b N : Nat) (t : Tbl) (v : Value) (L : List UInt8) (s : ByteArray) (cm kn : Bool) (h : mayB s.data.toList = true) (hv : BytesAt w v L) (hT : TblAt w b N t) (hL : L.length ≤ 1000000000) (hN : N ≤ 1000000000000) (htl : TLow t) :
    Calls Tryd.prog 18 #[.pointer (some ⟨b, 0, none⟩), v, .string s, .bool cm, .bool kn] w fun e w' => ∃ a c, e = .returned (.tuple #[.slice a (putTop cm kn s.data.toList L t).1.length c, .int .i64 0]) ∧
      w'.ownsRow w.heap.size 5 1 (.slice a (putTop cm kn s.data.toList L t).1.length c) (putTop cm kn s.data.toList L t).1.length (bytesV (putTop cm kn s.data.toList L t).1) ∧ TblAt w' b (N + 256) (putTop cm kn s.data.toList L t).2 ∧ TLow (putTop cm kn s.data.toList L t).2 ∧ Chg (TblS w b) w w' ∧ TG w w' b := by
  obtain ⟨hnam, h255⟩ := (mayB_iff _).1 h
  have hsz : s.size ≤ 255 := by rw [Array.length_toList] at h255; exact h255
  have hM := may_any w s (by omega)
  rw [h] at hM
  have HM := Lib.hid hM
  have HNAM := Lib.hid hnam
  have HV := Lib.hid hv
  have HT := Lib.hid hT
  have HTL := Lib.hid htl
  have hbl := hT.lt
  obtain ⟨ad, cd, rfl, hlc, _⟩ := hv
  obtain ⟨R, hR⟩ : ∃ R, R = putTop cm kn s.data.toList L t := ⟨_, rfl⟩
  rw [← hR]
  have HR := Lib.hid hR
  clear hM h hnam hT htl hR h255
  obtain ⟨l0, hl0⟩ : ∃ l0, l0 = L.length := ⟨_, rfl⟩
  rw [← hl0] at HV hL hlc ⊢
  have HL0 := Lib.hid hl0
  clear hl0
  go_enter Tryd.func18, Tryd.ntmps18
  go_wp2_with fail
  refine HM.out.mono ?_
  rintro r w1 ⟨rfl, hC1⟩
  have hz1 := hC1.size
  have HO1 := Lib.hid (own_noneB (alloc_new w1 (.cells #[] 5)))
  have HB1 := Lib.hid ((HV.out.nob hC1).nob ((Chg.refl Nob w1).alloc (.cells #[] 5)))
  have hD1 := hC1.alloc (.cells #[] 5)
  have HT1 := Lib.hid (HT.out.nob hD1)
  have HG1 := Lib.hid ((TG.refl w b).nob hbl hD1)
  clear hC1 HM HT HV
  go_wp2_with (at_builtin; refine app_bytes3 _ rfl _ _ rfl w1.heap.size _ [] rfl HO1.out _ L rfl HB1.out (by simp only [List.length_nil]; have := HL0.out; omega) (by rw [World.size_alloc]; omega) ?_; rw [List.nil_append, ← HL0.out]; intro a2 c2 w2 hown2 hC2; have HO2 := Lib.hid hown2; clear hown2)
  have hT2 := tbl_own HT1.out HO1.out hC2
  have hG2 := HG1.out.far (by rw [World.size_alloc]; omega) hC2 (own_not_b HT1.out HO1.out)
  have hCn : Chg (TblS w b) w w2 := (hD1.mono (T := TblS w b) (fun _ _ h => h.elim)).trans' hC2 (fun j hj => .inr (Nat.le_trans hz1 (own_geB HO1.out hj)))
  have hz2 := hC2.size
  rw [World.size_alloc] at hz2
  clear hC2 HO1 HB1 HT1 HG1 hD1
  obtain ⟨B, hB⟩ : ∃ B, B = w1.heap.size := ⟨_, rfl⟩
  rw [← hB] at HO2 hz1 hz2
  clear hB
  go_loopw [2, 12] (fun vn vo wx => ∃ (n : ByteArray) (out : List UInt8) (t1 : Tbl) (N1 f : Nat) (a0 : Option Addr) (c0 : Nat),
    vn = .string n ∧ vo = .slice a0 out.length c0 ∧ Hid (R = put cm kn f n.data.toList out t1) ∧ Hid (Nam n.data.toList) ∧ n.size < f ∧ out.length + n.size ≤ l0 + 255 ∧ n.size ≤ 255 ∧ N1 + n.size ≤ N + 255 ∧
      TblAt wx b N1 t1 ∧ Hid (TLow t1) ∧ wx.ownsRow B 5 1 (.slice a0 out.length c0) out.length (bytesV out) ∧ B ≤ wx.heap.size ∧ Chg (TblS w b) w wx ∧ TG w wx b) (fun vn _ _ => match vn with | .string n => n.size | _ => 0)
  case atStart => exact ⟨s, L, t, N, s.data.toList.length + 1, a2, c2, rfl, by rw [HL0.out], HR, HNAM, by rw [Array.length_toList]; show s.size < s.size + 1; omega, by have := HL0.out; omega, hsz, by omega, hT2, HTL, by rw [← HL0.out]; exact HO2.out, by omega, hCn, hG2⟩
  case round =>
    obtain ⟨n, out, t1, N1, f, a0, c0, rfl, rfl, HRR, HNM, hf, hlen, hn255, hN1, hT, HTL1, hown, hBz, hC, hG⟩ := hrel
    obtain ⟨f, rfl⟩ : ∃ g, f = g + 1 := ⟨f - 1, by omega⟩
    have HO := Lib.hid hown
    have HT := Lib.hid hT
    have HG := Lib.hid hG
    have hsw := hC.size
    clear hown hT hG hT2 hG2 hCn
    by_cases hroot : n.data.toList = [0]
    · have hstep : put cm kn (f + 1) n.data.toList out t1 = (out ++ [0], t1) := by rw [put, if_pos hroot]
      have HE := Lib.hid (HRR.out.trans hstep)
      obtain rfl : n = ⟨#[0]⟩ := by
        rw [← ba_of n, hroot]
        rfl
      clear hstep hroot HRR
      go_wp2_with (at_builtin; refine app_text3 _ rfl _ _ rfl B (.slice a0 out.length c0) out rfl HO.out ⟨#[0]⟩ rfl (by show out.length + 1 ≤ _; omega) hBz ?_; intro a3 c3 w3 hown3 hC3; have HO3 := Lib.hid hown3; clear hown3)
      obtain rfl := HE.out
      exact bodyPost_ret (v := .tuple #[.slice a3 (out ++ [0]).length c3, .int .i64 0]) (by simp [results, Tryd.results18, go_sem]) rfl ⟨a3, c3, rfl, own_base HO3.out hz1, (tbl_own HT.out HO.out hC3).more (by have : (⟨#[0]⟩ : ByteArray).size = 1 := rfl; omega), HTL1.out, hC.trans' hC3 (fun j hj => .inr (Nat.le_trans hz1 (own_geB HO.out hj))), HG.out.far HT.out.lt hC3 (own_not_b HT.out HO.out)⟩
    · have hr2 : n.toList ≠ [0] := by rw [ByteArray.toList_eq]; exact hroot
      have hr3 : (n.toList == [0]) = false := by simpa using hr2
      obtain ⟨k, hk⟩ : ∃ k, k = bt n.data.toList 0 := ⟨_, rfl⟩
      have hsp := HNM.out.split hroot
      rw [← hk] at hsp
      obtain ⟨hk0, hk1, hk2, hnam2⟩ := hsp
      have hl : n.data.toList.length = n.size := by rw [Array.length_toList]; rfl
      rw [hl] at hk2
      have hp : 0 < n.size := by omega
      have hx := byte_get hp
      rw [← hk] at hx
      have hstep : put cm kn (f + 1) n.data.toList out t1 = if cm = true ∧ (t1 n.data.toList).isSome then (out ++ two (49152 + (t1 n.data.toList).getD 0), t1) else put cm kn f (n.data.toList.drop (1 + k)) (out ++ n.data.toList.take (1 + k)) (kept t1 kn n.data.toList out) := by
        rw [put, if_neg hroot, hk]
      have HAT := Lib.hid (fun W (h : TblAt W b N1 t1) => at_tbl W b N1 t1 n (by omega) h)
      obtain ⟨o1, ho1⟩ : ∃ o, o = t1 n.data.toList := ⟨_, rfl⟩
      have hlow : ∀ a, o1 = some a → a ≤ 16383 := fun a ha => HTL1.out _ a (by rw [← ho1]; exact ha)
      rw [← ho1] at HAT hstep
      have HO1' := Lib.hid ho1
      have HST := Lib.hid (HRR.out.trans hstep)
      have HK := Lib.hid hk
      have HNM2 := Lib.hid hnam2
      clear hstep hroot HRR ho1 hk hnam2 hl HNM
      by_cases hptr : cm = true ∧ o1.isSome = true
      · obtain ⟨rfl, ho⟩ := hptr
        obtain ⟨a, rfl⟩ := Option.isSome_iff_exists.1 ho
        have hst := HST.out
        rw [if_pos ⟨rfl, rfl⟩] at hst
        have HE := Lib.hid hst
        have ha := hlow a rfl
        have hor := or_ptr a ha
        have a0' : (0 : Int) ≤ (a : Int) := by omega
        have a1' : (a : Int) ≤ 16383 := by omega
        have HP2 := Lib.hid (fun W v h => put2_any v out (49152 + a) W (by omega) h (by omega))
        clear hst HST ho hlow
        go_wp2_with fail
        refine (HAT.out wr HT.out).mono ?_
        rintro r w3 ⟨rfl, rfl⟩
        go_wp2_with fail
        refine (HP2.out wr _ (BytesAt.of_own HO.out)).mono ?_
        rintro r w4 ⟨v4, rfl, hown4, hC4⟩
        obtain ⟨a4, c4, rfl, _⟩ := own_form hown4
        have HO4 := Lib.hid hown4
        clear hown4
        go_wp2_with fail
        obtain rfl := HE.out
        exact bodyPost_ret (v := .tuple #[.slice a4 (out ++ two (49152 + a)).length c4, .int .i64 0]) (by simp [results, Tryd.results18, go_sem]; rfl) rfl ⟨a4, c4, rfl, own_base HO4.out (by omega), (HT.out.nob hC4).more (by omega), HTL1.out, hC.trans (hC4.mono (fun _ _ h => h.elim)), HG.out.nob HT.out.lt hC4⟩
      · have hst := HST.out
        rw [if_neg hptr] at hst
        have HE := Lib.hid hst
        clear hst HST
        have hU : (n.extract 0 (1 + k)).data.toList = n.data.toList.take (1 + k) := by
          rw [ByteArray.data_extract, Array.toList_extract, List.extract_eq_take_drop]
          simp
        have hUs : (n.extract 0 (1 + k)).size = 1 + k := by rw [ByteArray.size_extract]; omega
        have hUt : (n.data.toList.take (1 + k)).length = 1 + k := by rw [← hU, Array.length_toList]; exact hUs
        have HU := Lib.hid (And.intro hU (And.intro hUs hUt))
        have hDs : (ba (n.data.toList.drop (1 + k))).size = n.size - (1 + k) := by rw [← ext_drop, ByteArray.size_extract]; omega
        have HD := Lib.hid (And.intro (congrArg Value.string (ext_drop n (1 + k))) hDs)
        have k0 : (0 : Int) ≤ (k : Int) := by omega
        have k1 : (k : Int) ≤ 63 := by omega
        have k6 : 1 + (k : Int) ≤ (n.size : Int) := by omega
        have k7 : (0 : Int) ≤ 1 + (k : Int) := by omega
        clear hU hUs hUt hDs
        cases o1 with
        | some a =>
          obtain rfl : cm = false := by
            cases cm with
            | false => rfl
            | true => exact absurd ⟨rfl, rfl⟩ hptr
          have hkt : kept t1 kn n.data.toList out = t1 := by
            unfold kept
            rw [if_neg (fun h => by rw [← HO1'.out] at h; cases h.2.1)]
          rw [hkt] at HE
          have HL2 := HTL1.out
          have hBwr := hBz
          clear hkt hptr hlow
          cases kn
          all_goals
            go_wp2_with fail
            refine (HAT.out wr HT.out).mono ?_
            rintro r w3 ⟨rfl, rfl⟩
            go_wp2_with (at_builtin; refine app_text3 _ rfl _ _ rfl B (.slice a0 out.length c0) out rfl HO.out _ rfl (by rw [HU.out.2.1]; omega) hBwr ?_; intro a5 c5 w5; rw [HU.out.1]; intro hown5 hC5; have HO5 := Lib.hid hown5; clear hown5)
            have hz5 := hC5.size
            refine ⟨⟨ba (n.data.toList.drop (1 + k)), out ++ n.data.toList.take (1 + k), t1, N1, f, a5, c5, HD.out.1, by simp, by rw [ba_toList]; exact HE.out, by rw [ba_toList]; exact HNM2, by rw [HD.out.2]; omega, by rw [HD.out.2, List.length_append, HU.out.2.2]; omega, by rw [HD.out.2]; omega, by rw [HD.out.2]; omega, tbl_own HT.out HO.out hC5, Lib.hid HL2, HO5.out, by omega, hC.trans' hC5 (fun j hj => .inr (Nat.le_trans hz1 (own_geB HO.out hj))), HG.out.far HT.out.lt hC5 (own_not_b HT.out HO.out)⟩, ?_⟩
            show (n.extract (1 + k) n.size).size < n.size
            rw [ByteArray.size_extract]
            omega
        | none =>
          cases kn with
          | false =>
            have hkt : kept t1 false n.data.toList out = t1 := by
              unfold kept
              rw [if_neg (fun h => by cases h.1)]
            rw [hkt] at HE
            have HL2 := HTL1.out
            have hBwr := hBz
            clear hkt hptr hlow
            go_wp2_with fail
            refine (HAT.out wr HT.out).mono ?_
            rintro r w3 ⟨rfl, rfl⟩
            go_wp2_with (at_builtin; refine app_text3 _ rfl _ _ rfl B (.slice a0 out.length c0) out rfl HO.out _ rfl (by rw [HU.out.2.1]; omega) hBwr ?_; intro a5 c5 w5; rw [HU.out.1]; intro hown5 hC5; have HO5 := Lib.hid hown5; clear hown5)
            have hz5 := hC5.size
            refine ⟨⟨ba (n.data.toList.drop (1 + k)), out ++ n.data.toList.take (1 + k), t1, N1, f, a5, c5, HD.out.1, by simp, by rw [ba_toList]; exact HE.out, by rw [ba_toList]; exact HNM2, by rw [HD.out.2]; omega, by rw [HD.out.2, List.length_append, HU.out.2.2]; omega, by rw [HD.out.2]; omega, by rw [HD.out.2]; omega, tbl_own HT.out HO.out hC5, Lib.hid HL2, HO5.out, by omega, hC.trans' hC5 (fun j hj => .inr (Nat.le_trans hz1 (own_geB HO.out hj))), HG.out.far HT.out.lt hC5 (own_not_b HT.out HO.out)⟩, ?_⟩
            show (n.extract (1 + k) n.size).size < n.size
            rw [ByteArray.size_extract]
            omega
          | true =>
            by_cases h16 : out.length ≤ 16383
            · have hkt : kept t1 true n.data.toList out = upd t1 n.data.toList out.length := by
                unfold kept
                rw [if_pos ⟨rfl, HO1'.out.symm, h16⟩]
              have HL2 := HTL1.out.kept true n.data.toList out
              rw [hkt] at HE HL2
              have HKP := Lib.hid (fun W (h : TblAt W b N1 t1) => keep_yes W b N1 t1 n out.length (by omega) h h16 (by omega))
              have hh : (out.length : Int) ≤ 16383 := by omega
              clear hkt hptr hlow
              go_wp2_with fail
              refine (HAT.out wr HT.out).mono ?_
              rintro r w3 ⟨rfl, rfl⟩
              go_wp2_with fail
              refine (HKP.out wr HT.out).mono ?_
              rintro r w4 ⟨rfl, hT4, hC4, hG4⟩
              have HO4 := Lib.hid (own_tbl HO.out HT.out hC4)
              have HT4 := Lib.hid hT4
              have HG4 := Lib.hid (HG.out.trans hsw hG4)
              have hD4 : Chg (TblS w b) w w4 := hC.trans' hC4 (fun j hj => HG.out j hj)
              have hBw4 : B ≤ w4.heap.size := Nat.le_trans hBz hC4.size
              clear hT4 hG4
              go_wp2_with (at_builtin; refine app_text3 _ rfl _ _ rfl B (.slice a0 out.length c0) out rfl HO4.out _ rfl (by rw [HU.out.2.1]; omega) hBw4 ?_; intro a5 c5 w5; rw [HU.out.1]; intro hown5 hC5; have HO5 := Lib.hid hown5; clear hown5)
              have hz5 := hC5.size
              refine ⟨⟨ba (n.data.toList.drop (1 + k)), out ++ n.data.toList.take (1 + k), (upd t1 n.data.toList out.length), (N1 + 1), f, a5, c5, HD.out.1, by simp, by rw [ba_toList]; exact HE.out, by rw [ba_toList]; exact HNM2, by rw [HD.out.2]; omega, by rw [HD.out.2, List.length_append, HU.out.2.2]; omega, by rw [HD.out.2]; omega, by rw [HD.out.2]; omega, tbl_own HT4.out HO4.out hC5, Lib.hid HL2, HO5.out, by omega, hD4.trans' hC5 (fun j hj => .inr (Nat.le_trans hz1 (own_geB HO4.out hj))), HG4.out.far HT4.out.lt hC5 (own_not_b HT4.out HO4.out)⟩, ?_⟩
              show (n.extract (1 + k) n.size).size < n.size
              rw [ByteArray.size_extract]
              omega
            · have hkt : kept t1 true n.data.toList out = t1 := by
                unfold kept
                rw [if_neg (fun h => h16 h.2.2)]
              rw [hkt] at HE
              have HL2 := HTL1.out
              have hBwr := hBz
              have HKP := Lib.hid (fun W v => keep_no W (.pointer (some ⟨b, 0, none⟩)) v (out.length : Int) (by omega))
              clear hkt hptr hlow
              go_wp2_with fail
              refine (HAT.out wr HT.out).mono ?_
              rintro r w3 ⟨rfl, rfl⟩
              go_wp2_with fail
              refine (HKP.out wr _).mono ?_
              rintro r w4 ⟨rfl, rfl⟩
              go_wp2_with (at_builtin; refine app_text3 _ rfl _ _ rfl B (.slice a0 out.length c0) out rfl HO.out _ rfl (by rw [HU.out.2.1]; omega) hBwr ?_; intro a5 c5 w5; rw [HU.out.1]; intro hown5 hC5; have HO5 := Lib.hid hown5; clear hown5)
              have hz5 := hC5.size
              refine ⟨⟨ba (n.data.toList.drop (1 + k)), out ++ n.data.toList.take (1 + k), t1, N1, f, a5, c5, HD.out.1, by simp, by rw [ba_toList]; exact HE.out, by rw [ba_toList]; exact HNM2, by rw [HD.out.2]; omega, by rw [HD.out.2, List.length_append, HU.out.2.2]; omega, by rw [HD.out.2]; omega, by rw [HD.out.2]; omega, tbl_own HT.out HO.out hC5, Lib.hid HL2, HO5.out, by omega, hC.trans' hC5 (fun j hj => .inr (Nat.le_trans hz1 (own_geB HO.out hj))), HG.out.far HT.out.lt hC5 (own_not_b HT.out HO.out)⟩, ?_⟩
              show (n.extract (1 + k) n.size).size < n.size
              rw [ByteArray.size_extract]
              omega
end Go.Proofs.YtngmdefhdknggaaDoor.Cm
