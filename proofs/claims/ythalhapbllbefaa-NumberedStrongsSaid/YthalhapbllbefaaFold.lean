/- strong.Fold. -/
import Derived.Test.YthalhapbllbefaaFoldP
import Derived.Test.YthalhapbllbefaaStrong
import Derived.Test.YthalhapbllbefaaReach
namespace Go.Proofs.Ythalhapbllbefaa
open Go.RowKit Go.Shelf
attribute [local go_sem] Oper.semAt_some

theorem iv_get {l : List Nat} {i x : Nat} (h : l[i]? = some x) : (l.map iv)[i]? = some (.int .i64 (x : Int)) := by simp [h, iv]
theorem sv_get {l : List Nat} {i x : Nat} (h : l[i]? = some x) : (l.map sv)[i]? = some (.int .u64 (x : Int)) := by simp [h, sv]
theorem at_get {l : List Nat} {i : Nat} (h : i < l.length) : l[i]? = some (at_ l i) := by simp [at_, h]

theorem box_kept {W w1 : World} {n₀ b B : Nat} {t e : TypeId} {size : Nat} {u v : Value} {k : Nat} {xs : List Value} {tmp : Obj} (h : Boxed W b t u) (hte : t ≠ e) (hrow : W.ownsRow n₀ e size v k xs)
    (hgrow : (W.alloc tmp).grownBy w1 v.ownBlock) (hne : b ≠ B) (v' : Value) : Boxed (w1.setCell ⟨B, 0, none⟩ v') b t u := ((h.alloc tmp).kept hgrow (h.not_row hte hrow)).other hne v'

set_option maxRecDepth 100000 in
set_option maxHeartbeats 2000000 in
theorem fold_any (n : Nat) (al : Option Addr) (cap : Nat) (gs : List (Nat × Nat)) (w : World) (hx : Rd w al (lcn gs)) (hG : Gr n gs) :
    Calls Try.prog 31 #[.int .i64 n, .slice al gs.length cap] w fun e w' => ∃ v u, e = .returned (.tuple #[v, u, .nilIface]) ∧ w'.ownsRow w.heap.size 37 2 u (foldedF n (partsF n gs) gs).length (lcn (foldedF n (partsF n gs) gs)) ∧ Ext w w' := by
  obtain ⟨iL, hiL, hzL, hsL, hbL⟩ := info_parts infoLine
  have hmk := fun (k : Nat) (hk : k ≤ 64) => run_make_row' 23 3 (.int .i64 0) 8 Try.underlying23 infoInt rfl .i64 .i64 k (by omega) (by omega)
  have hmks := fun (k : Nat) (hk : k ≤ 64) => run_make_row' 78 67 (.int .u64 0) 8 Try.underlying78 infoSet rfl .i64 .i64 k (by omega) (by omega)
  have hn8 := hG.n8
  have hl24 := hG.len
  have hok := partsOk (show n ≤ 64 by omega) hG.lt
  obtain ⟨pl, hpl⟩ : ∃ pl, partsF n gs = pl := ⟨_, rfl⟩
  have hparts := fun (w : World) (hx : Rd w al (lcn gs)) => parts_any n al cap gs w hx hG
  rw [hpl] at hok ⊢
  simp only [hpl] at hparts
  have Hparts := Lib.hid hparts; have Hok := Lib.hid hok; have HG := Lib.hid hG; have Hmk := Lib.hid hmk; have Hmks := Lib.hid hmks
  clear hparts hok hG hpl hmk hmks
  refine (callsIn_wide (n := 6)).1 (callsIn_of_wp_marks Try.func31 rfl trivial ?_ rfl)
  simp only [Try.ntmps31, List.size_toArray, List.length_cons, List.length_nil, Nat.reduceAdd, Nat.reduceSub, Array.replicate_succ, Array.replicate_zero, List.push_toArray, List.append_toArray, List.nil_append, List.cons_append]
  refine wpIn_wide.2 ?_
  have hmk := Hmk.out n (by omega)
  go_wp2_with (go_at_call 30; refine (Hparts.out _ hx).mono ?_; rintro e w1 ⟨v, rfl, h1, h2⟩; obtain ⟨pa, pc, rfl, hpr, _⟩ := row_rd h1)
  have rN := RowAt.made w1 3 (.int .i64 0) n
  have hE1 : Ext w1 (w1.alloc (.cells (madeCells #[.int .i64 0] n) 3)) := (Below.refl _ _).alloc (Nat.le_refl _) _
  have hs1 := h2.size
  clear h1 hmk
  go_loopw [10, 38] (fun m i wr => ∃ k : Nat, k ≤ n ∧ i = .int .i64 k ∧ m = .int .i64 (cnt pl k : Nat) ∧ RowAt wr w1.heap.size 3 ((numL n pl k).map iv) ∧ Ext w1 wr) (fun _ i _ => n - (intOf i).toNat)
  case atStart => exact ⟨0, by omega, rfl, rfl, by simpa [numL_zero, iv] using rN, hE1⟩
  case round =>
    obtain ⟨k, hk, rfl, rfl, hrow, hE⟩ := hrel
    clear rN hE1
    have hck := cnt_le pl k
    by_cases hlt : k < n
    · have hpk : pl[k]? = some (at_ pl k) := at_get (by rw [Hok.out.len]; exact hlt)
      obtain ⟨b, off, rfl, hc0⟩ := (hpr.ext hE).get (i := k) (iv_get hpk)
      have hlow := hrow.lt
      obtain ⟨x, hxk⟩ : ∃ x, at_ pl k = x := ⟨_, rfl⟩
      rw [hxk] at hc0
      have Hxk := Lib.hid hxk; clear hxk hpk
      by_cases hself : x = k
      · subst hself
        have hbe : (((x : Nat) : Int) == ((x : Nat) : Int)) = true := by simp
        have hfz := hrow.frozen x
        obtain ⟨c0, hc0'⟩ : ∃ c0, wr.cell? ⟨w1.heap.size, x, none⟩ = some c0 := ⟨_, hrow.cell (v := iv ((numL n pl x)[x]'(by rw [numL_length]; exact hlt))) (by simp [hlt, numL_length])⟩
        go_wp2
        refine ⟨⟨x + 1, by omega, by go_num, by rw [cnt_yes Hxk.out]; go_num, ?_, hE.setCell (p := ⟨w1.heap.size, x, none⟩) (Nat.le_refl _) _⟩, by simp [intOf]; omega⟩
        rw [numL_yes hlt Hxk.out, List.map_set]
        exact hrow.set x (iv (cnt pl x))
      · have hbe : (((x : Nat) : Int) == ((k : Nat) : Int)) = false := by simp; omega
        go_wp2
        refine ⟨⟨k + 1, by omega, by go_num, by rw [cnt_no (by rw [Hxk.out]; exact hself)], by rw [numL_no (by rw [Hxk.out]; exact hself)]; exact hrow, hE⟩, by simp [intOf]; omega⟩
    · obtain rfl : n = k := by omega
      obtain ⟨w2, hw2⟩ : ∃ w2, w2 = wr := ⟨_, rfl⟩
      subst hw2
      have hmk := Hmk.out n (by omega)
      go_wp2
      clear hmk
      have hpr2 := hpr.ext hE
      have rO := RowAt.made w2 3 (.int .i64 0) n
      have hE2 : Ext w2 (w2.alloc (.cells (madeCells #[.int .i64 0] n) 3)) := (Below.refl _ _).alloc (Nat.le_refl _) _
      have hE02 := ext_trans h2 hE
      have hs2 := hE02.size
      clear hpr
      go_loopw [57] (fun i wz => ∃ k : Nat, k ≤ n ∧ i = .int .i64 k ∧ RowAt wz w2.heap.size 3 ((foL n pl k).map iv) ∧ Ext w2 wz) (fun i _ => n - (intOf i).toNat)
      case atStart => exact ⟨0, by omega, rfl, by simpa [foL_zero, iv] using rO, hE2⟩
      case round =>
        obtain ⟨k, hk, rfl, hro, hE3⟩ := hrel
        clear rO hE2
        by_cases hlt : k < n
        · have hpk : pl[k]? = some (at_ pl k) := at_get (by rw [Hok.out.len]; exact hlt)
          obtain ⟨b, off, rfl, hc0⟩ := (hpr2.ext hE3).get (i := k) (iv_get hpk)
          have hxn := Hok.out.lt k hlt
          have hcn := (hrow.ext hE3).cell (iv_get (Hok.out.numL_at hlt))
          obtain ⟨x, hxk⟩ : ∃ x, at_ pl k = x := ⟨_, rfl⟩
          rw [hxk] at hc0 hxn hcn
          obtain ⟨y, hy⟩ : ∃ y, fo pl k = y := ⟨_, rfl⟩
          rw [hy] at hcn
          clear hpk
          have hfz := hro.frozen k
          obtain ⟨c0, hc0'⟩ : ∃ c0, wr.cell? ⟨w2.heap.size, k, none⟩ = some c0 := ⟨_, hro.cell (i := k) (v := iv (at_ (foL n pl k) k)) (by rw [List.getElem?_map, at_get (by rw [foL_length]; exact hlt)]; rfl)⟩
          have Hxk := Lib.hid hxk; have Hy := Lib.hid hy
          clear hxk hy
          go_wp2
          refine ⟨⟨k + 1, by omega, by go_num, ?_, hE3.setCell (p := ⟨w2.heap.size, k, none⟩) (Nat.le_refl _) _⟩, by simp [intOf]; omega⟩
          rw [foL_succ hlt, List.map_set, Hy.out]
          exact hro.set k (iv y)
        · obtain rfl : n = k := by omega
          obtain ⟨w3, hw3⟩ : ∃ w3, w3 = wr := ⟨_, rfl⟩
          subst hw3
          obtain ⟨m, hm⟩ : ∃ m, cnt pl n = m := ⟨_, rfl⟩
          have hm8 : m ≤ 64 := by rw [← hm]; omega
          rw [hm]
          have Hm := Lib.hid hm; clear hm hck hpr2 hrow
          have hmk := Hmks.out m hm8
          go_wp2
          clear hmk
          have rX := RowAt.made w3 67 (.int .u64 0) m
          have hE4 : Ext w3 (w3.alloc (.cells (madeCells #[.int .u64 0] m) 67)) := (Below.refl _ _).alloc (Nat.le_refl _) _
          have hE03 := ext_trans hE02 hE3
          have hs3 := hE03.size
          go_loopw [74] (fun i wy => ∃ k : Nat, k ≤ gs.length ∧ i = .int .i64 k ∧ RowAt wy w3.heap.size 67 ((outs m (foldQ pl (gs.take k))).map sv) ∧ Ext w3 wy) (fun i _ => gs.length - (intOf i).toNat)
          case atStart => exact ⟨0, by omega, rfl, by simpa [foldQ, outs, sv] using rX, hE4⟩
          case round =>
            obtain ⟨k, hk, rfl, hrx, hE5⟩ := hrel
            clear rX hE4
            have hE05 := ext_trans hE03 hE5
            by_cases hlt : k < gs.length
            · obtain ⟨x, y, b, off, hlk, rfl, hc1, hc2⟩ := (hx.ext hE05).nline hlt
              obtain ⟨hx1, hy1⟩ := HG.out.lt _ (mem_of_get hlk.out)
              have hro5 := hro.ext hE5
              have hol := hro5.lt
              have hxl := hrx.lt
              have hfx := Hok.out.fo_lt hx1
              have hfy := Hok.out.fo_lt hy1
              rw [Hm.out] at hfx hfy
              have hcx := hro5.cell (iv_get (foL_get hx1))
              have hcy := hro5.cell (iv_get (foL_get hy1))
              obtain ⟨u, hu⟩ : ∃ u, fo pl x = u := ⟨_, rfl⟩
              obtain ⟨v, hv⟩ : ∃ v, fo pl y = v := ⟨_, rfl⟩
              have hq : foldQ pl (gs.take (k + 1)) = foldQ pl (gs.take k) ++ (if u = v then [] else [(u, v)]) := by rw [take_snoc hlk.out, foldQ_snoc, hu, hv]
              rw [hu] at hfx hcx
              rw [hv] at hfy hcy
              have Hq := Lib.hid hq; have Hx := Lib.hid hx; have Hro := Lib.hid hro5
              clear hq hx hu hv hro5
              go_wp2_with fail
              refine region_still (by kernel_rfl) (by kernel_rfl) ?_
              repeat still_step
              refine wpStill_nil ?_
              by_cases huv : u = v
              · subst huv
                have hbe : (!((u : Nat) : Int) == ((u : Nat) : Int)) = false := by simp
                go_wp2
                rw [if_pos rfl, List.append_nil] at Hq
                refine ⟨⟨k + 1, by omega, by go_num, by rw [Hq.out]; exact (hrx.alloc _).drew, (hE5.alloc (by omega) _).drew⟩, by simp [intOf]; omega⟩
              · have hbe : (!((u : Nat) : Int) == ((v : Nat) : Int)) = true := by simp; omega
                obtain ⟨o, ho⟩ : ∃ o, outs m (foldQ pl (gs.take k)) = o := ⟨_, rfl⟩
                have hoU : ∀ s ∈ o, U64 s := by
                  rw [← ho]
                  exact outs_U64 (fun l hl => by have := (foldQ_lt Hok.out (gs := gs.take k) (fun l hl => HG.out.lt l (List.mem_of_mem_take hl)) l hl).2; rw [Hm.out] at this; omega)
                have hol2 : o.length = m := by rw [← ho]; exact outs_length _ _
                have hsU := getD_U64 hoU u
                obtain ⟨s, hs⟩ : ∃ s, o[u]?.getD 0 = s := ⟨_, rfl⟩
                have hos : outs m (foldQ pl (gs.take (k + 1))) = o.set u (sIns s v) := by rw [Hq.out, if_neg huv, outs_snoc, ho, hs]
                rw [hs] at hsU
                rw [ho] at hrx
                have hcs : wr.cell? ⟨w3.heap.size, u, none⟩ = some (.int .u64 (s : Nat)) := hrx.cell (sv_get (by rw [← hs]; simp [hol2, hfx]))
                have hfz := hrx.frozen u
                have Hos := Lib.hid hos
                clear hos hs hoU ho
                go_wp2_with (go_at_call 62; refine (with_any s v _ hsU (by omega)).mono ?_; rintro e w' ⟨rfl, rfl⟩)
                refine ⟨⟨k + 1, by omega, by go_num, ?_, ((hE5.setCell (p := ⟨w3.heap.size, u, none⟩) (Nat.le_refl _) _).alloc (by simp; omega) _).drew⟩, by simp [intOf]; omega⟩
                rw [Hos.out, List.map_set]
                exact ((hrx.set u (sv (sIns s v))).alloc _).drew
            · rw [List.take_of_length_le (by omega)] at hrx
              obtain ⟨w4, hw4⟩ : ∃ w4, w4 = wr := ⟨_, rfl⟩
              subst hw4
              have hE04 := ext_trans hE03 hE5
              have hs4 := hE04.size
              obtain ⟨next, hnext⟩ : ∃ o, outs m (foldQ pl gs) = o := ⟨_, rfl⟩
              have hnl : next.length = m := by rw [← hnext]; exact outs_length _ _
              have hnU : ∀ s ∈ next, U64 s := by
                rw [← hnext]
                exact outs_U64 (fun l hl => by have := (foldQ_lt Hok.out (gs := gs) HG.out.lt l hl).2; rw [Hm.out] at this; omega)
              have hfin : foldedF n pl gs = rowsOf next m := by unfold foldedF; rw [Hm.out, hnext]
              rw [hnext] at hrx
              have hxl := hrx.lt
              have Hfin := Lib.hid hfin
              clear hnext hfin
              go_wp2
              have bF := Boxed.new w4 33 (.slice none 0 0)
              have hE4' : Ext w4 (w4.alloc (.cells #[.slice none 0 0] 33)) := (Below.refl _ _).alloc (Nat.le_refl _) _
              refine (wpIn_wide (n := 6)).1 ?_
              refine wpIn_loop_ghost (γ := Nat) (fun g a' W => ∃ (v u22 u23 u104 u105 u106 u107 u108 u109 u117 : Value) (Ds : List Nat), a' = { tmps := #[.int .i64 ↑n, Value.slice al gs.length cap, undef, undef, Value.slice none 0 0, Value.slice none 0 0, Value.nilIface, Value.slice pa n pc, Value.nilIface, Value.slice (some { block := w1.heap.size, off := 0 }) n n, .int .i64 ↑m, u11, u12, Value.slice (some { block := w2.heap.size, off := 0 }) n n, u14, u15, Value.slice (some { block := w3.heap.size, off := 0 }) m m, undef, u18, u19, u20, Value.pointer (some { block := w4.heap.size, off := 0 }), u22, u23, undef, Value.tuple #[Value.slice pa n pc, Value.nilIface], .int .i64 ↑n, Value.slice al gs.length cap, Value.tuple #[Value.slice pa n pc, Value.nilIface], Value.slice pa n pc, Value.nilIface, Value.nilIface, Value.bool false, undef, .int .i64 ↑n, Value.slice (some { block := w1.heap.size, off := 0 }) n n, Value.slice pa n pc, .int .i64 ↑n, .int .i64 ↑n, Value.bool false, u40, u41, u42, u43, u44, u45, u46, u47, u48, u49, u50, u51, u52, .int .i64 ↑n, Value.slice (some { block := w2.heap.size, off := 0 }) n n, Value.slice pa n pc, .int .i64 ↑n, .int .i64 ↑n, Value.bool false, u59, u60, u61, u62, u63, u64, u65, u66, u67, u68, u69, .int .i64 ↑m, Value.slice (some { block := w3.heap.size, off := 0 }) m m, Value.slice al gs.length cap, .int .i64 ↑gs.length, .int .i64 ↑k, Value.bool false, u76, u77, u78, u79, u80, u81, u82, u83, u84, u85, u86, u87, u88, u89, u90, u91, u92, u93, u94, u95, u96, u97, u98, u99, u100, Value.slice (some { block := w3.heap.size, off := 0 }) m m, .int .i64 ↑m, .int .i64 (g : Nat), u104, u105, u106, u107, u108, u109, undef, undef, undef, undef, undef, undef, undef, u117, undef, undef], defers := Ds.map mark } ∧ g ≤ m ∧
                  Boxed W w4.heap.size 33 v ∧ W.ownsRow w4.heap.size 37 2 v (rowsOf next g).length (lcn (rowsOf next g)) ∧ MarksOk w4.heap.size Ds W ∧ Ext w4 W)
                (fun g => m - g) 0 ?start ?round
              case start => exact ⟨_, _, _, _, _, _, _, _, _, _, [], rfl, by omega, bF, World.ownsRow_nil _ _ _ _, MarksOk.nil _ _, hE4'⟩
              case round =>
                clear bF hE4'
                rintro g a' W ⟨v, u22, u23, u104, u105, u106, u107, u108, u109, u117, Ds, rfl, hg, hF, hrowF, hm, hE⟩
                have hcF := hF.cell
                by_cases hlt : g < m
                · have hng : next[g]? = some (at_ next g) := at_get (by omega)
                  have hcn := (hrx.ext hE).cell (sv_get hng)
                  have hsU : U64 (at_ next g) := getD_U64 hnU g
                  have hss := rowsOf_succ next g
                  have hxl2 := (hrx.ext hE).lt
                  obtain ⟨s, hs⟩ : ∃ s, at_ next g = s := ⟨_, rfl⟩
                  rw [hs] at hcn hsU hss
                  have Hss := Lib.hid hss; have Hm' := Lib.hid hm
                  clear hs hng hss hm
                  gi_wp2_with (refine ⟨trivial, ?_⟩; gi_at_call 61; refine (callsIn_wide.2 (each_any s _)).mono ?_; rintro e w' ⟨rfl, rfl⟩)
                  have hlF := hF.lt
                  have bG := Boxed.new W 3 (.int .i64 (g : Nat))
                  have bS := Boxed.new (W.alloc (.cells #[.int .i64 (g : Nat)] 3)) 67 (.int .u64 s)
                  rw [World.size_alloc] at bS
                  have hsE := hE.size
                  have hBW : Ext w4 ((W.alloc (.cells #[.int .i64 (g : Nat)] 3)).alloc (.cells #[.int .u64 s] 67)) := (hE.alloc hsE _).alloc (by simp; omega) _
                  have k1 : KeepsOthers W ((W.alloc (.cells #[.int .i64 (g : Nat)] 3)).alloc (.cells #[.int .u64 s] 67)) := (KeepsOthers.alloc _ _).trans (KeepsOthers.alloc _ _)
                  have Hm1 := Lib.hid (Hm'.out.keeps k1)
                  refine wp_each (by omega) _ s hsU bS rfl (fun pre W2 => (∃ v, Boxed W2 w4.heap.size 33 v ∧ W2.ownsRow w4.heap.size 37 2 v ((rowsOf next g).length + pre.length) (lcn (rowsOf next g ++ pre.map fun b => (g, b)))) ∧ Boxed W2 W.heap.size 3 (.int .i64 (g : Nat)) ∧ pre.length ≤ 64 ∧ MarksOk w4.heap.size Ds W2 ∧ Ext w4 W2) (fun _ _ => False)
                    ?hI (fun _ _ _ _ h => h) ?h0 (fun x => { tmps := #[.int IntKind.i64 ↑n, .slice al gs.length cap, undef, undef, .slice none 0 0, .slice none 0 0, .nilIface, .slice pa n pc, .nilIface, .slice (some { block := w1.heap.size, off := 0 }) n n, .int IntKind.i64 ↑m, u11, u12, .slice (some { block := w2.heap.size, off := 0 }) n n, u14, u15, .slice (some { block := w3.heap.size, off := 0 }) m m, undef, u18, u19, u20, .pointer (some { block := w4.heap.size, off := 0 }), .pointer (some { block := W.heap.size, off := 0 }), .int IntKind.u64 ↑s, .int .i64 (x : Nat), .tuple #[.slice pa n pc, .nilIface], .int IntKind.i64 ↑n, .slice al gs.length cap, .tuple #[.slice pa n pc, .nilIface], .slice pa n pc, .nilIface, .nilIface, .bool false, undef, .int IntKind.i64 ↑n, .slice (some { block := w1.heap.size, off := 0 }) n n, .slice pa n pc, .int IntKind.i64 ↑n, .int IntKind.i64 ↑n, .bool false, u40, u41, u42, u43, u44, u45, u46, u47, u48, u49, u50, u51, u52, .int IntKind.i64 ↑n, .slice (some { block := w2.heap.size, off := 0 }) n n, .slice pa n pc, .int IntKind.i64 ↑n, .int IntKind.i64 ↑n, .bool false, u59, u60, u61, u62, u63, u64, u65, u66, u67, u68, u69, .int IntKind.i64 ↑m, .slice (some { block := w3.heap.size, off := 0 }) m m, .slice al gs.length cap, .int IntKind.i64 ↑gs.length, .int IntKind.i64 ↑k, .bool false, u76, u77, u78, u79, u80, u81, u82, u83, u84, u85, u86, u87, u88, u89, u90, u91, u92, u93, u94, u95, u96, u97, u98, u99, u100, .slice (some { block := w3.heap.size, off := 0 }) m m, .int IntKind.i64 ↑m, .int IntKind.i64 ↑g, .bool true, .int IntKind.i64 ↑g, .pointer (some { block := w3.heap.size, off := g }), .int IntKind.u64 ↑s, .int IntKind.u64 ↑s, .func (Fn.func 85) #[] #[.pointer (some { block := W.heap.size + 1, off := 0 })], .int .i64 (x : Nat), undef, undef, undef, undef, undef, undef, u117, undef, undef], defers := [] }) ?assign ?body ?done (fun _ _ _ _ _ _ h => h.elim)
                  case hI =>
                    have hl := Hm1.out.lt
                    exact fun _ _ _ h ⟨⟨v, h1, h2⟩, h3, h4, h5, h6⟩ => ⟨⟨v, boxed_sim h1 h, row_sim h2 h⟩, boxed_sim h3 h, h4, h5.sim hl h, h.below h6 (by simp; omega)⟩
                  case h0 => exact ⟨⟨v, (hF.alloc _).alloc _, by simpa using (hrowF.alloc _).alloc _⟩, bG.alloc _, by simp, Hm1.out, hBW⟩
                  case assign =>
                    intro l x W2 K hK
                    simp only [List.setIfInBounds_toArray, List.set_cons_zero, List.set_cons_succ]
                    gi_wp2
                    exact hK
                  case body =>
                    intro l pre x W2 hx2 hx64 hpl hl hr hsz hsb ⟨⟨v, h1, h2⟩, h3, h4, h5, h6⟩
                    have hc1 := h1.cell
                    have hc3 := h3.cell
                    have hrl := rowsOf_length next g
                    have hs6 := h6.size
                    have hnew := rd_new2 W2 (.int .i64 (g : Nat)) (.int .i64 (x : Nat)) 37
                    have H5 := Lib.hid h5
                    clear h5 hrx
                    gi_wp2_with (gi_at_builtin; refine wpListIn_append_own _ rfl _ _ 33 rfl w4.heap.size 37 iL _ 2 16 Try.underlying33 hiL hzL hsL hbL rfl (by decide) _ _ _ rfl (h2.alloc _) ⟨W2.heap.size, 0, none⟩ 1 1 [.int .i64 (g : Nat), .int .i64 (x : Nat)] rfl rfl hnew (by simp [Value.oneCell']) (by unfold maxLen; omega) (by omega) (by simp; omega) ?_; intro v' w1' hown' hgrow _; obtain ⟨g', cap', rfl⟩ := ownsRow_succ hown'; obtain ⟨hv1, hv2, hr2, hk2, hb2⟩ := h1.appended (by decide) h2 hs6 (Nat.le_refl _) hown' hgrow; have hcc := hv1.cell; have hff := hv1.frozen)
                    refine ⟨hk2, box_kept hsb (by decide) h2 hgrow (by omega) _, ⟨_, hv2, ?_⟩, box_kept h3 (by decide) h2 hgrow (by omega) _, by simp; omega, H5.out.keeps hk2, h6.trans hb2⟩
                    rw [List.map_append, ← List.append_assoc, List.map_cons, List.map_nil, lcn_snoc, List.length_append]
                    exact hr2
                  case done =>
                    intro D W2 hD hDW hsz ⟨⟨v2, h1, h2⟩, h3, h4, h5, h6⟩
                    have H5 := Lib.hid h5
                    have hl := Hm1.out.lt
                    clear h5
                    gi_wp2
                    simp at hD
                    refine ⟨g + 1, ⟨_, _, _, _, _, _, _, _, _, _, D :: Ds, rfl, by omega, h1, ?_, H5.out.cons (by omega) hDW (fun D' hD' => by have := hl D' hD'; simp at this; omega), h6⟩, by omega⟩
                    rw [Hss.out, List.length_append, List.length_map]
                    exact h2
                · obtain rfl : g = m := by omega
                  clear hrx
                  obtain ⟨fa, fc, rfl, hfr, _⟩ := row_rd hrowF
                  have Hm' := Lib.hid hm
                  clear hm
                  gi_wp2
                  go_wp2_with fail
                  refine region_still (by kernel_rfl) (by kernel_rfl) ?_
                  repeat still_step
                  refine wpStill_nil ?_
                  go_wp2
                  rw [Hfin.out]
                  have hrow' : W.drew.ownsRow w.heap.size 37 2 (.slice fa (rowsOf next g).length fc) (rowsOf next g).length (lcn (rowsOf next g)) := row_base hrowF hs4
                  exact leavesInM_marks (B := w4.heap.size) (Ds := Ds) (results_tmp3 rfl _ _) (fun _ _ h ⟨v, u, h1, h2, h3⟩ => ⟨v, u, h1, row_sim h2 h, h.below h3 hs4⟩) W.drew (show w4.heap.size ≤ W.heap.size from hE.size) Hm'.out.1 Hm'.out.2 ⟨_, _, rfl, hrow', (ext_trans hE04 hE).drew⟩
end Go.Proofs.Ythalhapbllbefaa
