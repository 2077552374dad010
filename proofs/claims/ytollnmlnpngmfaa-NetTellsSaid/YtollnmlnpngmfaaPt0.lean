/-
  The reckoned conditions of the functions that this seat's statements reach, printed by program, each held against the translation by the kernel. No condition.
-/
import Derived.Test.YtollnmlnpngmfaaNames
namespace Go.Proofs.Ytollnmlnpngmfaa
set_option linter.unusedVariables false

/-- errata/erratalaw07.NetOrders -/
def erratalaw07_NetOrders.pt (l0 picks1 : Value) (w : World) (K : Value → World → Prop) : Prop :=
  upK Try.prog (sCall F_erratalaw07_small #[]) w fun t15 w1 =>
  upK Try.prog (sCall F_net_New #[]) w1 fun t16 w2 =>
  upK Try.prog (sCall F_erratalaw07_few #[l0, (.int .i64 30)]) w2 fun t18 w3 =>
  pureK Try.prog (sUn .not t18) fun t19 =>
  ifB t19
  (ifB t15
   (pureK Try.prog (sBin .neq T_p_net_Net (.tmp 31) (.const (.pointer none)) t16 (.pointer none)) fun t32 =>
    K t32 w3)
   (K (.bool false) w3))
  (readK Try.prog (sBlt .len #[T_s_int] T_int #[false] #[picks1]) w3 fun t22 =>
   pureK Try.prog (sBin .gtr T_int (.tmp 22) (.const (.int .i64 30)) t22 (.int .i64 30)) fun t23 =>
   ifB t23
   (ifB t15
    (pureK Try.prog (sBin .neq T_p_net_Net (.tmp 31) (.const (.pointer none)) t16 (.pointer none)) fun t32_1 =>
     K t32_1 w3)
    (K (.bool false) w3))
   (pureK Try.prog (sBin .eql T_p_net_Net (.tmp 26) (.const (.pointer none)) t16 (.pointer none)) fun t27 =>
    ifB t27
    (ifB t15
     (pureK Try.prog (sBin .neq T_p_net_Net (.tmp 31) (.const (.pointer none)) t16 (.pointer none)) fun t32_2 =>
      K t32_2 w3)
     (K (.bool false) w3))
    (LOOP (X := Value × Value × Unit) (fun x4 w4 next4 =>
      readK Try.prog (sBlt .len #[T_s_erratalaw07_Op] T_int #[false] #[l0]) w4 fun t36 =>
      pureK Try.prog (sBin .lss T_int (.tmp 34) (.tmp 36) x4.2.1 t36) fun t37 =>
      ifB t37
      (pureK Try.prog (sIdxAddr T_s_erratalaw07_Op l0 x4.2.1) fun t42 =>
       pureK Try.prog (sFieldAddr T_erratalaw07_Op t42 1) fun t43 =>
       readK Try.prog (sLoad T_int t43) w4 fun t44 =>
       pureK Try.prog (sBin .and T_int (.tmp 44) (.const (.int .i64 15)) t44 (.int .i64 15)) fun t45 =>
       pureK Try.prog (sBin .add T_int (.tmp 46) (.const (.int .i64 1)) t45 (.int .i64 1)) fun t47 =>
       pureK Try.prog (sIdxAddr T_s_erratalaw07_Op l0 x4.2.1) fun t50 =>
       pureK Try.prog (sFieldAddr T_erratalaw07_Op t50 2) fun t51 =>
       readK Try.prog (sLoad T_int t51) w4 fun t52 =>
       pureK Try.prog (sBin .and T_int (.tmp 52) (.const (.int .i64 7)) t52 (.int .i64 7)) fun t53 =>
       pureK Try.prog (sBin .add T_int (.tmp 47) (.tmp 53) t47 t53) fun t54 =>
       pureK Try.prog (sBin .and T_int (.tmp 54) (.const (.int .i64 15)) t54 (.int .i64 15)) fun t55 =>
       pureK Try.prog (sIdxAddr T_s_erratalaw07_Op l0 x4.2.1) fun t61 =>
       pureK Try.prog (sFieldAddr T_erratalaw07_Op t61 3) fun t62 =>
       readK Try.prog (sLoad T_string t62) w4 fun t63 =>
       upK Try.prog (sCall F_net_Net_Send #[t16, t45, t55, t63]) w4 fun t64 w5 =>
       pureK Try.prog (sBin .neq T_api_Errno (.tmp 64) (.const (.int .i64 0)) t64 (.int .i64 0)) fun t65 =>
       ifB t65
       (K (.bool false) w5)
       (pureK Try.prog (sIdxAddr T_s_erratalaw07_Op l0 x4.2.1) fun t71 =>
        pureK Try.prog (sFieldAddr T_erratalaw07_Op t71 3) fun t72 =>
        readK Try.prog (sLoad T_string t72) w5 fun t73 =>
        pureK Try.prog (sBuild T_api_Packet #[(0, t45), (1, t55), (2, t73)]) fun t74 =>
        upK Try.prog (sBuildSlice T_s_api_Packet 1 #[(0, t74)]) w5 fun t75 w6 =>
        upK Try.prog (sBlt .append #[T_s_api_Packet, T_s_api_Packet] T_s_api_Packet #[false, false] #[x4.1, t75]) w6 fun t76 w7 =>
        pureK Try.prog (sBin .add T_int (.tmp 38) (.const (.int .i64 1)) x4.2.1 (.int .i64 1)) fun t39 =>
        next4 (t76, t39, ()) w7))
      (LOOP (X := Value × Value × Unit) (fun x8 w8 next8 =>
        readK Try.prog (sBlt .len #[T_s_int] T_int #[false] #[picks1]) w8 fun t79 =>
        pureK Try.prog (sBin .lss T_int (.tmp 77) (.tmp 79) x8.2.1 t79) fun t80 =>
        ifB t80
        (let J1 : Value → World → Prop := fun want7 w9 =>
         (pureK Try.prog (sBin .add T_int (.tmp 81) (.const (.int .i64 1)) x8.2.1 (.int .i64 1)) fun t82 =>
          next8 (want7, t82, ()) w9)
         pureK Try.prog (sIdxAddr T_s_int picks1 x8.2.1) fun t85 =>
         readK Try.prog (sLoad T_int t85) w8 fun t86 =>
         upK Try.prog (sCall F_net_Net_Deliver #[t16, t86]) w8 fun t90 w10 =>
         pureK Try.prog (sExtract t90 0) fun t91 =>
         pureK Try.prog (sExtract t90 1) fun t92 =>
         upK Try.prog (sAlloc T_api_Packet) w10 fun p13 w11 =>
         upK Try.prog (sStore T_api_Packet p13 t91) w11 fun tu w12 =>
         pureK Try.prog (sBin .lss T_int (.tmp 93) (.const (.int .i64 0)) t86 (.int .i64 0)) fun t94 =>
         ifB t94
         (pureK Try.prog (sBin .neq T_api_Errno (.tmp 101) (.const (.int .i64 4)) t92 (.int .i64 4)) fun t102 =>
          ifB t102
          (K (.bool false) w12)
          (J1 x8.1 w12))
         (readK Try.prog (sBlt .len #[T_s_api_Packet] T_int #[false] #[x8.1]) w12 fun t98 =>
          pureK Try.prog (sBin .geq T_int (.tmp 96) (.tmp 98) t86 t98) fun t99 =>
          ifB t99
          (pureK Try.prog (sBin .neq T_api_Errno (.tmp 101) (.const (.int .i64 4)) t92 (.int .i64 4)) fun t102_1 =>
           ifB t102_1
           (K (.bool false) w12)
           (J1 x8.1 w12))
          (pureK Try.prog (sBin .neq T_api_Errno (.tmp 103) (.const (.int .i64 0)) t92 (.int .i64 0)) fun t104 =>
           ifB t104
           (K (.bool false) (tick w12))
           (readK Try.prog (sLoad T_api_Packet p13) (tick w12) fun t106 =>
            pureK Try.prog (sIdxAddr T_s_api_Packet x8.1 t86) fun t109 =>
            readK Try.prog (sLoad T_api_Packet t109) (tick w12) fun t110 =>
            pureK Try.prog (sBin .neq T_api_Packet (.tmp 106) (.tmp 110) t106 t110) fun t111 =>
            ifB t111
            (K (.bool false) (tick w12))
            (pureK Try.prog (sSlice T_s_api_Packet x8.1 none (some t86) none) fun t116 =>
             pureK Try.prog (sBin .add T_int (.tmp 119) (.const (.int .i64 1)) t86 (.int .i64 1)) fun t120 =>
             pureK Try.prog (sSlice T_s_api_Packet x8.1 (some t120) none none) fun t121 =>
             upK Try.prog (sBuildSlice T_s_api_Packet 0 #[]) (tick (tick w12)) fun t113 w13 =>
             upK Try.prog (sBlt .append #[T_s_api_Packet, T_s_api_Packet] T_s_api_Packet #[false, false] #[t113, t116]) w13 fun t117 w14 =>
             upK Try.prog (sBlt .append #[T_s_api_Packet, T_s_api_Packet] T_s_api_Packet #[false, false] #[t117, t121]) w14 fun t122 w15 =>
             J1 t122 w15)))))
        (ifB t15
         (upK Try.prog (sCall F_net_Net_List #[t16]) w8 fun t126 w16 =>
          upK Try.prog (sCall F_errataref07_Same #[t126, x8.1]) w16 fun t128 w17 =>
          K t128 w17)
         (K (.bool false) w8)))
       (x4.1, (.int .i64 0), ()) w4))
     ((.slice none 0 0), (.int .i64 0), ()) w3)))
theorem erratalaw07_NetOrders.pt_eq : erratalaw07_NetOrders.pt = fun l0 picks1 w K => FN Try.prog Try.f3 (bodyOf Try.f3) [4] [l0, picks1] w K := by kernel_rfl
theorem erratalaw07_NetOrders.call {l0 picks1 : Value} {w : World} {K : Value → World → Prop} (h : erratalaw07_NetOrders.pt l0 picks1 w K) : Calls Try.prog F_erratalaw07_NetOrders #[l0, picks1] w (retK K) :=
  calls_FN (args := [l0, picks1]) Try.func3 (by kernel_rfl) (by rw [erratalaw07_NetOrders.pt_eq] at h; exact h)
theorem erratalaw07_NetOrders.up {l0 picks1 : Value} {w : World} {K : Value → World → Prop} (h : Calls Try.prog F_erratalaw07_NetOrders #[l0, picks1] w (retK K)) : upK Try.prog (sCall F_erratalaw07_NetOrders #[l0, picks1]) w K :=
  up_call (fn := Try.f3) Try.func3 (by kernel_rfl) (by kernel_rfl) h

/-- errata/erratalaw07.NetSides -/
def erratalaw07_NetSides.pt (mask0 late1 more2 : Value) (w : World) (K : Value → World → Prop) : Prop :=
  upK Try.prog (sCall F_erratalaw07_small #[]) w fun t17 w1 =>
  upK Try.prog (sCall F_net_New #[]) w1 fun t18 w2 =>
  pureK Try.prog (sBin .eql T_p_net_Net (.tmp 19) (.const (.pointer none)) t18 (.pointer none)) fun t20 =>
  ifB t20
  (ifB t17
   (pureK Try.prog (sBin .neq T_p_net_Net (.tmp 31) (.const (.pointer none)) t18 (.pointer none)) fun t32 =>
    K t32 w2)
   (K (.bool false) w2))
  (pureK Try.prog (sBin .lss T_int (.tmp 22) (.const (.int .i64 0)) more2 (.int .i64 0)) fun t23 =>
   ifB t23
   (ifB t17
    (pureK Try.prog (sBin .neq T_p_net_Net (.tmp 31) (.const (.pointer none)) t18 (.pointer none)) fun t32_1 =>
     K t32_1 w2)
    (K (.bool false) w2))
   (pureK Try.prog (sBin .gtr T_int (.tmp 26) (.const (.int .i64 600)) more2 (.int .i64 600)) fun t27 =>
    ifB t27
    (ifB t17
     (pureK Try.prog (sBin .neq T_p_net_Net (.tmp 31) (.const (.pointer none)) t18 (.pointer none)) fun t32_2 =>
      K t32_2 w2)
     (K (.bool false) w2))
    (let J1 : World → Prop := fun w3 =>
     (LOOP (X := Value × Unit) (fun x4 w4 next4 =>
       pureK Try.prog (sBin .lss T_int (.tmp 39) (.const (.int .i64 16)) x4.1 (.int .i64 16)) fun t40 =>
       ifB t40
       (let J2 : World → Prop := fun w5 =>
        (pureK Try.prog (sBin .add T_int (.tmp 41) (.const (.int .i64 1)) x4.1 (.int .i64 1)) fun t42 =>
         next4 (t42, ()) w5)
        LOOP (X := Value × Unit) (fun x6 w6 next6 =>
         pureK Try.prog (sBin .lss T_int (.tmp 43) (.const (.int .i64 16)) x6.1 (.int .i64 16)) fun t44 =>
         ifB t44
         (let J3 : World → Prop := fun w7 =>
          (pureK Try.prog (sBin .add T_int (.tmp 45) (.const (.int .i64 1)) x6.1 (.int .i64 1)) fun t46 =>
           next6 (t46, ()) w7)
          upK Try.prog (sConv T_int T_uint x4.1) w6 fun t49 w8 =>
          pureK Try.prog (sBin .shr T_int (.tmp 47) (.tmp 49) mask0 t49) fun t50 =>
          pureK Try.prog (sBin .and T_int (.tmp 50) (.const (.int .i64 1)) t50 (.int .i64 1)) fun t51 =>
          upK Try.prog (sConv T_int T_uint x6.1) w8 fun t54 w9 =>
          pureK Try.prog (sBin .shr T_int (.tmp 52) (.tmp 54) mask0 t54) fun t55 =>
          pureK Try.prog (sBin .and T_int (.tmp 55) (.const (.int .i64 1)) t55 (.int .i64 1)) fun t56 =>
          pureK Try.prog (sBin .eql T_int (.tmp 51) (.tmp 56) t51 t56) fun t57 =>
          upK Try.prog (sCall F_net_Net_Send #[t18, x4.1, x6.1, (.string ⟨#[120]⟩)]) w9 fun t61 w10 =>
          pureK Try.prog (sBin .eql T_int (.tmp 62) (.tmp 63) x4.1 x6.1) fun t64 =>
          ifB t64
          (pureK Try.prog (sBin .neq T_api_Errno (.tmp 65) (.const (.int .i64 1)) t61 (.int .i64 1)) fun t66 =>
           ifB t66
           (K (.bool false) w10)
           (upK Try.prog (sCall F_net_Net_Hear #[t18, x4.1, x6.1]) w10 fun t71 w11 =>
            pureK Try.prog (sUn .not t71) fun t72 =>
            ifB t72
            (K (.bool false) w11)
            (J3 w11)))
          (let J4 : World → Prop := fun w12 =>
           (upK Try.prog (sCall F_net_Net_Deliver #[t18, (.int .i64 0)]) w12 fun t80 w13 =>
            pureK Try.prog (sExtract t80 0) fun t81 =>
            pureK Try.prog (sExtract t80 1) fun t82 =>
            upK Try.prog (sAlloc T_api_Packet) w13 fun p13 w14 =>
            upK Try.prog (sStore T_api_Packet p13 t81) w14 fun tu w15 =>
            let J5 : World → Prop := fun w16 =>
            (ifB late1
             (upK Try.prog (sCall F_net_Net_Heal #[t18]) w16 fun t121 w17 =>
              J3 w17)
             (J3 w16))
            upK Try.prog (sCall F_net_Net_Hear #[t18, x4.1, x6.1]) w15 fun t86 w18 =>
            pureK Try.prog (sBin .neq T_bool (.tmp 86) (.tmp 87) t86 t57) fun t88 =>
            ifB t88
            (K (.bool false) w18)
            (pureK Try.prog (sBin .eql T_api_Errno (.tmp 91) (.const (.int .i64 0)) t82 (.int .i64 0)) fun t92 =>
             pureK Try.prog (sBin .neq T_bool (.tmp 90) (.tmp 92) t57 t92) fun t93 =>
             ifB t93
             (K (.bool false) w18)
             (ifB t57
              (pureK Try.prog (sFieldAddr T_api_Packet p13 0) fun t98 =>
               readK Try.prog (sLoad T_int t98) w18 fun t99 =>
               pureK Try.prog (sBin .neq T_int (.tmp 99) (.tmp 100) t99 x4.1) fun t101 =>
               ifB t101
               (K (.bool false) w18)
               (pureK Try.prog (sFieldAddr T_api_Packet p13 1) fun t103 =>
                readK Try.prog (sLoad T_int t103) w18 fun t104 =>
                pureK Try.prog (sBin .neq T_int (.tmp 104) (.tmp 105) t104 x6.1) fun t106 =>
                ifB t106
                (K (.bool false) w18)
                (pureK Try.prog (sBin .eql T_api_Errno (.tmp 111) (.const (.int .i64 0)) t61 (.int .i64 0)) fun t112 =>
                 ifB t57
                 (pureK Try.prog (sBin .neq T_bool (.tmp 112) (.tmp 116) t112 (.bool true)) fun t117 =>
                  ifB t117
                  (K (.bool false) w18)
                  (J5 w18))
                 (pureK Try.prog (sBin .neq T_bool (.tmp 112) (.tmp 116) t112 late1) fun t117_1 =>
                  ifB t117_1
                  (K (.bool false) w18)
                  (J5 w18)))))
              (pureK Try.prog (sBin .eql T_api_Errno (.tmp 111) (.const (.int .i64 0)) t61 (.int .i64 0)) fun t112_1 =>
               ifB t57
               (pureK Try.prog (sBin .neq T_bool (.tmp 112) (.tmp 116) t112_1 (.bool true)) fun t117_2 =>
                ifB t117_2
                (K (.bool false) w18)
                (J5 w18))
               (pureK Try.prog (sBin .neq T_bool (.tmp 112) (.tmp 116) t112_1 late1) fun t117_3 =>
                ifB t117_3
                (K (.bool false) w18)
                (J5 w18))))))
           ifB late1
           (upK Try.prog (sCall F_net_Net_Split #[t18, mask0]) w10 fun t77 w19 =>
            J4 w19)
           (J4 w10)))
         (J2 w6))
        ((.int .i64 0), ()) w4)
       (upK Try.prog (sCall F_net_Net_Heal #[t18]) w4 fun t123 w20 =>
        LOOP (X := Value × Unit) (fun x21 w21 next21 =>
         pureK Try.prog (sBin .lss T_int (.tmp 124) (.tmp 125) x21.1 more2) fun t126 =>
         ifB t126
         (let J6 : World → Prop := fun w22 =>
          (pureK Try.prog (sBin .add T_int (.tmp 127) (.const (.int .i64 1)) x21.1 (.int .i64 1)) fun t128 =>
           next21 (t128, ()) w22)
          pureK Try.prog (sBin .and T_int (.tmp 130) (.const (.int .i64 15)) x21.1 (.int .i64 15)) fun t131 =>
          pureK Try.prog (sBin .add T_int (.tmp 132) (.const (.int .i64 1)) x21.1 (.int .i64 1)) fun t133 =>
          pureK Try.prog (sBin .and T_int (.tmp 133) (.const (.int .i64 15)) t133 (.int .i64 15)) fun t134 =>
          upK Try.prog (sCall F_net_Net_Send #[t18, t131, t134, (.string ⟨#[121]⟩)]) w21 fun t135 w23 =>
          pureK Try.prog (sBin .eql T_api_Errno (.tmp 136) (.const (.int .i64 0)) t135 (.int .i64 0)) fun t137 =>
          pureK Try.prog (sBin .lss T_int (.tmp 138) (.const (.int .i64 500)) x21.1 (.int .i64 500)) fun t139 =>
          pureK Try.prog (sBin .neq T_bool (.tmp 137) (.tmp 139) t137 t139) fun t140 =>
          ifB t140
          (K (.bool false) w23)
          (pureK Try.prog (sBin .neq T_api_Errno (.tmp 142) (.const (.int .i64 0)) t135 (.int .i64 0)) fun t143 =>
           ifB t143
           (pureK Try.prog (sBin .neq T_api_Errno (.tmp 145) (.const (.int .i64 6)) t135 (.int .i64 6)) fun t146 =>
            ifB t146
            (K (.bool false) w23)
            (J6 w23))
           (J6 w23)))
         (ifB t17
          (upK Try.prog (sCall F_net_Net_Count #[t18]) w21 fun t152 w24 =>
           pureK Try.prog (sBlt .min #[T_int, T_int] T_int #[false, true] #[more2, (.int .i64 500)]) fun t154 =>
           pureK Try.prog (sBin .eql T_int (.tmp 152) (.tmp 154) t152 t154) fun t155 =>
           ifB t155
           (pureK Try.prog (sBin .lss T_int (.tmp 158) (.const (.int .i64 500)) more2 (.int .i64 500)) fun t159 =>
            ifB t159
            (upK Try.prog (sCall F_net_Net_Send #[t18, (.int .i64 (-1)), (.int .i64 0), (.string ⟨#[]⟩)]) w24 fun t168 w25 =>
             pureK Try.prog (sBin .eql T_api_Errno (.tmp 168) (.const (.int .i64 1)) t168 (.int .i64 1)) fun t169 =>
             ifB t169
             (upK Try.prog (sCall F_net_Net_Send #[t18, (.int .i64 0), (.int .i64 16), (.string ⟨#[]⟩)]) w25 fun t173 w26 =>
              pureK Try.prog (sBin .eql T_api_Errno (.tmp 173) (.const (.int .i64 1)) t173 (.int .i64 1)) fun t174 =>
              K t174 w26)
             (K (.bool false) w25))
            (upK Try.prog (sCall F_net_Net_Double #[t18, (.int .i64 3)]) w24 fun t162 w27 =>
             pureK Try.prog (sBin .eql T_api_Errno (.tmp 162) (.const (.int .i64 6)) t162 (.int .i64 6)) fun t163 =>
             ifB t163
             (upK Try.prog (sCall F_net_Net_Send #[t18, (.int .i64 (-1)), (.int .i64 0), (.string ⟨#[]⟩)]) w27 fun t168_1 w28 =>
              pureK Try.prog (sBin .eql T_api_Errno (.tmp 168) (.const (.int .i64 1)) t168_1 (.int .i64 1)) fun t169_1 =>
              ifB t169_1
              (upK Try.prog (sCall F_net_Net_Send #[t18, (.int .i64 0), (.int .i64 16), (.string ⟨#[]⟩)]) w28 fun t173_1 w29 =>
               pureK Try.prog (sBin .eql T_api_Errno (.tmp 173) (.const (.int .i64 1)) t173_1 (.int .i64 1)) fun t174_1 =>
               K t174_1 w29)
              (K (.bool false) w28))
             (K (.bool false) w27)))
           (K (.bool false) w24))
          (K (.bool false) w21)))
        ((.int .i64 0), ()) w20))
      ((.int .i64 0), ()) w3)
     pureK Try.prog (sUn .not late1) fun t35 =>
     ifB t35
     (upK Try.prog (sCall F_net_Net_Split #[t18, mask0]) w2 fun t38 w30 =>
      J1 w30)
     (J1 w2))))
theorem erratalaw07_NetSides.pt_eq : erratalaw07_NetSides.pt = fun mask0 late1 more2 w K => FN Try.prog Try.f4 (bodyOf Try.f4) [6] [mask0, late1, more2] w K := by kernel_rfl
theorem erratalaw07_NetSides.call {mask0 late1 more2 : Value} {w : World} {K : Value → World → Prop} (h : erratalaw07_NetSides.pt mask0 late1 more2 w K) : Calls Try.prog F_erratalaw07_NetSides #[mask0, late1, more2] w (retK K) :=
  calls_FN (args := [mask0, late1, more2]) Try.func4 (by kernel_rfl) (by rw [erratalaw07_NetSides.pt_eq] at h; exact h)
theorem erratalaw07_NetSides.up {mask0 late1 more2 : Value} {w : World} {K : Value → World → Prop} (h : Calls Try.prog F_erratalaw07_NetSides #[mask0, late1, more2] w (retK K)) : upK Try.prog (sCall F_erratalaw07_NetSides #[mask0, late1, more2]) w K :=
  up_call (fn := Try.f4) Try.func4 (by kernel_rfl) (by kernel_rfl) h

/-- errata/erratalaw07.NetHonest -/
def erratalaw07_NetHonest.pt (l0 : Value) (w : World) (K : Value → World → Prop) : Prop :=
  upK Try.prog (sCall F_erratalaw07_small #[]) w fun t14 w1 =>
  upK Try.prog (sCall F_net_New #[]) w1 fun t15 w2 =>
  upK Try.prog (sCall F_erratalaw07_few #[l0, (.int .i64 200)]) w2 fun t17 w3 =>
  pureK Try.prog (sUn .not t17) fun t18 =>
  ifB t18
  (ifB t14
   (pureK Try.prog (sBin .neq T_p_net_Net (.tmp 25) (.const (.pointer none)) t15 (.pointer none)) fun t26 =>
    K t26 w3)
   (K (.bool false) w3))
  (pureK Try.prog (sBin .eql T_p_net_Net (.tmp 20) (.const (.pointer none)) t15 (.pointer none)) fun t21 =>
   ifB t21
   (ifB t14
    (pureK Try.prog (sBin .neq T_p_net_Net (.tmp 25) (.const (.pointer none)) t15 (.pointer none)) fun t26_1 =>
     K t26_1 w3)
    (K (.bool false) w3))
   (LOOP (X := Value × Value × Value × Unit) (fun x4 w4 next4 =>
     readK Try.prog (sBlt .len #[T_s_erratalaw07_Op] T_int #[false] #[l0]) w4 fun t30 =>
     pureK Try.prog (sBin .lss T_int (.tmp 28) (.tmp 30) x4.2.2.1 t30) fun t31 =>
     ifB t31
     (let J1 : Value → Value → World → Prop := fun made5 got6 w5 =>
      (pureK Try.prog (sBin .add T_int (.tmp 32) (.const (.int .i64 1)) x4.2.2.1 (.int .i64 1)) fun t33 =>
       next4 (made5, got6, t33, ()) w5)
      pureK Try.prog (sIdxAddr T_s_erratalaw07_Op l0 x4.2.2.1) fun t36 =>
      readK Try.prog (sLoad T_erratalaw07_Op t36) w4 fun t37 =>
      upK Try.prog (sAlloc T_erratalaw07_Op) w4 fun x8 w6 =>
      upK Try.prog (sStore T_erratalaw07_Op x8 t37) w6 fun tu w7 =>
      upK Try.prog (sCall F_net_Net_List #[t15]) w7 fun t39 w8 =>
      readK Try.prog (sLoad T_erratalaw07_Op x8) w8 fun t42 =>
      upK Try.prog (sCall F_erratalaw07_do #[t15, t42]) w8 fun t43 w9 =>
      pureK Try.prog (sExtract t43 0) fun t44 =>
      pureK Try.prog (sExtract t43 1) fun t45 =>
      upK Try.prog (sAlloc T_api_Packet) w9 fun p10 w10 =>
      upK Try.prog (sStore T_api_Packet p10 t44) w10 fun tu_1 w11 =>
      pureK Try.prog (sBin .neq T_api_Errno (.tmp 46) (.const (.int .i64 0)) t45 (.int .i64 0)) fun t47 =>
      ifB t47
      (readK Try.prog (sLoad T_api_Packet p10) w11 fun t48 =>
       pureK Try.prog (sBuild T_api_Packet #[]) fun t49 =>
       pureK Try.prog (sBin .neq T_api_Packet (.tmp 48) (.tmp 49) t48 t49) fun t50 =>
       ifB t50
       (K (.bool false) w11)
       (J1 x4.1 x4.2.1 w11))
      (pureK Try.prog (sFieldAddr T_erratalaw07_Op x8 0) fun t51 =>
       readK Try.prog (sLoad T_int t51) w11 fun t52 =>
       pureK Try.prog (sBin .and T_int (.tmp 52) (.const (.int .i64 7)) t52 (.int .i64 7)) fun t53 =>
       let J2 : Value → World → Prop := fun t54 w12 =>
       (ifB t54
        (pureK Try.prog (sFieldAddr T_erratalaw07_Op x8 1) fun t59 =>
         readK Try.prog (sLoad T_int t59) w12 fun t60 =>
         pureK Try.prog (sFieldAddr T_erratalaw07_Op x8 2) fun t61 =>
         readK Try.prog (sLoad T_int t61) w12 fun t62 =>
         upK Try.prog (sCall F_net_Net_Hear #[t15, t60, t62]) w12 fun t63 w13 =>
         pureK Try.prog (sUn .not t63) fun t64 =>
         ifB t64
         (K (.bool false) w13)
         (pureK Try.prog (sFieldAddr T_erratalaw07_Op x8 1) fun t66 =>
          readK Try.prog (sLoad T_int t66) w13 fun t67 =>
          pureK Try.prog (sFieldAddr T_erratalaw07_Op x8 2) fun t68 =>
          readK Try.prog (sLoad T_int t68) w13 fun t69 =>
          pureK Try.prog (sBin .eql T_int (.tmp 67) (.tmp 69) t67 t69) fun t70 =>
          ifB t70
          (K (.bool false) w13)
          (pureK Try.prog (sFieldAddr T_erratalaw07_Op x8 1) fun t73 =>
           readK Try.prog (sLoad T_int t73) w13 fun t74 =>
           pureK Try.prog (sFieldAddr T_erratalaw07_Op x8 2) fun t75 =>
           readK Try.prog (sLoad T_int t75) w13 fun t76 =>
           pureK Try.prog (sFieldAddr T_erratalaw07_Op x8 3) fun t77 =>
           readK Try.prog (sLoad T_string t77) w13 fun t78 =>
           pureK Try.prog (sBuild T_api_Packet #[(0, t74), (1, t76), (2, t78)]) fun t79 =>
           upK Try.prog (sBuildSlice T_s_api_Packet 1 #[(0, t79)]) w13 fun t80 w14 =>
           upK Try.prog (sBlt .append #[T_s_api_Packet, T_s_api_Packet] T_s_api_Packet #[false, false] #[x4.1, t80]) w14 fun t81 w15 =>
           J1 t81 x4.2.1 w15)))
        (pureK Try.prog (sBin .eql T_int (.tmp 53) (.const (.int .i64 3)) t53 (.int .i64 3)) fun t83 =>
         ifB t83
         (pureK Try.prog (sFieldAddr T_api_Packet p10 0) fun t85 =>
          readK Try.prog (sLoad T_int t85) w12 fun t86 =>
          pureK Try.prog (sFieldAddr T_api_Packet p10 1) fun t87 =>
          readK Try.prog (sLoad T_int t87) w12 fun t88 =>
          upK Try.prog (sCall F_net_Net_Hear #[t15, t86, t88]) w12 fun t89 w16 =>
          pureK Try.prog (sUn .not t89) fun t90 =>
          ifB t90
          (K (.bool false) w16)
          (readK Try.prog (sLoad T_api_Packet p10) w16 fun t92 =>
           upK Try.prog (sBuildSlice T_s_api_Packet 1 #[(0, t92)]) w16 fun t93 w17 =>
           upK Try.prog (sBlt .append #[T_s_api_Packet, T_s_api_Packet] T_s_api_Packet #[false, false] #[x4.2.1, t93]) w17 fun t94 w18 =>
           J1 x4.1 t94 w18))
         (pureK Try.prog (sBin .eql T_int (.tmp 53) (.const (.int .i64 5)) t53 (.int .i64 5)) fun t96 =>
          ifB t96
          (pureK Try.prog (sFieldAddr T_erratalaw07_Op x8 1) fun t97 =>
           readK Try.prog (sLoad T_int t97) w12 fun t98 =>
           pureK Try.prog (sBin .lss T_int (.tmp 98) (.const (.int .i64 0)) t98 (.int .i64 0)) fun t99 =>
           ifB t99
           (K (.bool false) w12)
           (pureK Try.prog (sFieldAddr T_erratalaw07_Op x8 1) fun t101 =>
            readK Try.prog (sLoad T_int t101) w12 fun t102 =>
            readK Try.prog (sBlt .len #[T_s_api_Packet] T_int #[false] #[t39]) w12 fun t104 =>
            pureK Try.prog (sBin .geq T_int (.tmp 102) (.tmp 104) t102 t104) fun t105 =>
            ifB t105
            (K (.bool false) w12)
            (pureK Try.prog (sFieldAddr T_erratalaw07_Op x8 1) fun t109 =>
             readK Try.prog (sLoad T_int t109) w12 fun t110 =>
             pureK Try.prog (sIdxAddr T_s_api_Packet t39 t110) fun t111 =>
             readK Try.prog (sLoad T_api_Packet t111) w12 fun t112 =>
             upK Try.prog (sBuildSlice T_s_api_Packet 1 #[(0, t112)]) w12 fun t113 w19 =>
             upK Try.prog (sBlt .append #[T_s_api_Packet, T_s_api_Packet] T_s_api_Packet #[false, false] #[x4.1, t113]) w19 fun t114 w20 =>
             J1 t114 x4.2.1 w20)))
          (J1 x4.1 x4.2.1 w12))))
       pureK Try.prog (sBin .eql T_int (.tmp 53) (.const (.int .i64 0)) t53 (.int .i64 0)) fun t55 =>
       ifB t55
       (J2 t55 w11)
       (pureK Try.prog (sBin .eql T_int (.tmp 53) (.const (.int .i64 1)) t53 (.int .i64 1)) fun t56 =>
        ifB t56
        (J2 t56 w11)
        (pureK Try.prog (sBin .eql T_int (.tmp 53) (.const (.int .i64 2)) t53 (.int .i64 2)) fun t57 =>
         J2 t57 w11))))
     (upK Try.prog (sBuildSlice T_s_api_Packet 0 #[]) w4 fun t115 w21 =>
      upK Try.prog (sBlt .append #[T_s_api_Packet, T_s_api_Packet] T_s_api_Packet #[false, false] #[t115, x4.2.1]) w21 fun t117 w22 =>
      upK Try.prog (sCall F_net_Net_List #[t15]) w22 fun t119 w23 =>
      upK Try.prog (sBlt .append #[T_s_api_Packet, T_s_api_Packet] T_s_api_Packet #[false, false] #[t117, t119]) w23 fun t120 w24 =>
      LOOP (X := Value × Unit) (fun x25 w25 next25 =>
       readK Try.prog (sBlt .len #[T_s_api_Packet] T_int #[false] #[t120]) w25 fun t123 =>
       pureK Try.prog (sBin .lss T_int (.tmp 121) (.tmp 123) x25.1 t123) fun t124 =>
       ifB t124
       (pureK Try.prog (sIdxAddr T_s_api_Packet t120 x25.1) fun t130 =>
        readK Try.prog (sLoad T_api_Packet t130) (tick w25) fun t131 =>
        pureK Try.prog (sIdxAddr T_s_api_Packet t120 x25.1) fun t136 =>
        readK Try.prog (sLoad T_api_Packet t136) (tick w25) fun t137 =>
        upK Try.prog (sCall F_erratalaw07_count #[t120, t131]) (tick w25) fun t132 w26 =>
        Is Try.prog (sLoad T_api_Packet t136) t137 w26 ∧ upK Try.prog (sCall F_erratalaw07_count #[x4.1, t137]) w26 fun t138 w27 =>
        pureK Try.prog (sBin .gtr T_int (.tmp 132) (.tmp 138) t132 t138) fun t139 =>
        ifB t139
        (K (.bool false) w27)
        (pureK Try.prog (sBin .add T_int (.tmp 125) (.const (.int .i64 1)) x25.1 (.int .i64 1)) fun t126 =>
         next25 (t126, ()) w27))
       (K t14 w25))
      ((.int .i64 0), ()) w24))
    ((.slice none 0 0), (.slice none 0 0), (.int .i64 0), ()) w3))
theorem erratalaw07_NetHonest.pt_eq : erratalaw07_NetHonest.pt = fun l0 w K => FN Try.prog Try.f5 (bodyOf Try.f5) [2] [l0] w K := by kernel_rfl
theorem erratalaw07_NetHonest.call {l0 : Value} {w : World} {K : Value → World → Prop} (h : erratalaw07_NetHonest.pt l0 w K) : Calls Try.prog F_erratalaw07_NetHonest #[l0] w (retK K) :=
  calls_FN (args := [l0]) Try.func5 (by kernel_rfl) (by rw [erratalaw07_NetHonest.pt_eq] at h; exact h)
theorem erratalaw07_NetHonest.up {l0 : Value} {w : World} {K : Value → World → Prop} (h : Calls Try.prog F_erratalaw07_NetHonest #[l0] w (retK K)) : upK Try.prog (sCall F_erratalaw07_NetHonest #[l0]) w K :=
  up_call (fn := Try.f5) Try.func5 (by kernel_rfl) (by kernel_rfl) h

/-- errata/erratalaw07.NetTells -/
def erratalaw07_NetTells.pt (l0 at1 a2 b3 : Value) (w : World) (K : Value → World → Prop) : Prop :=
  upK Try.prog (sCall F_erratalaw07_small #[]) w fun t19 w1 =>
  upK Try.prog (sCall F_net_New #[]) w1 fun t20 w2 =>
  pureK Try.prog (sBuild T_errataref07_Net #[]) fun t21 =>
  upK Try.prog (sBox T_errataref07_Net t21) w2 fun t22 w3 =>
  upK Try.prog (sCall F_erratalaw07_few #[l0, (.int .i64 600)]) w3 fun t24 w4 =>
  pureK Try.prog (sUn .not t24) fun t25 =>
  ifB t25
  (ifB t19
   (pureK Try.prog (sBin .neq T_p_net_Net (.tmp 32) (.const (.pointer none)) t20 (.pointer none)) fun t33 =>
    K t33 w4)
   (K (.bool false) w4))
  (pureK Try.prog (sBin .eql T_p_net_Net (.tmp 27) (.const (.pointer none)) t20 (.pointer none)) fun t28 =>
   ifB t28
   (ifB t19
    (pureK Try.prog (sBin .neq T_p_net_Net (.tmp 32) (.const (.pointer none)) t20 (.pointer none)) fun t33_1 =>
     K t33_1 w4)
    (K (.bool false) w4))
   (upK Try.prog (sCall F_net_Net_Copy #[t20]) w4 fun t36 w5 =>
    upK Try.prog (sCall F_errataref07_Net_Copy #[t22]) w5 fun t38 w6 =>
    LOOP (X := Value × Value × Value × Unit) (fun x7 w7 next7 =>
     readK Try.prog (sBlt .len #[T_s_erratalaw07_Op] T_int #[false] #[l0]) w7 fun t41 =>
     pureK Try.prog (sBin .lss T_int (.tmp 39) (.tmp 41) x7.2.2.1 t41) fun t42 =>
     ifB t42
     (let J1 : Value → Value → World → Prop := fun c12 d13 w8 =>
      (pureK Try.prog (sIdxAddr T_s_erratalaw07_Op l0 x7.2.2.1) fun t56 =>
       readK Try.prog (sLoad T_erratalaw07_Op t56) w8 fun t57 =>
       upK Try.prog (sCall F_erratalaw07_do #[t20, t57]) w8 fun t58 w9 =>
       pureK Try.prog (sExtract t58 0) fun t59 =>
       pureK Try.prog (sExtract t58 1) fun t60 =>
       upK Try.prog (sAlloc T_api_Packet) w9 fun p15 w10 =>
       upK Try.prog (sStore T_api_Packet p15 t59) w10 fun tu w11 =>
       pureK Try.prog (sIdxAddr T_s_erratalaw07_Op l0 x7.2.2.1) fun t65 =>
       readK Try.prog (sLoad T_erratalaw07_Op t65) w11 fun t66 =>
       upK Try.prog (sCall F_erratalaw07_model #[t22, t66]) w11 fun t67 w12 =>
       pureK Try.prog (sExtract t67 0) fun t68 =>
       pureK Try.prog (sExtract t67 1) fun t69 =>
       upK Try.prog (sAlloc T_api_Packet) w12 fun q17 w13 =>
       upK Try.prog (sStore T_api_Packet q17 t68) w13 fun tu_1 w14 =>
       readK Try.prog (sLoad T_api_Packet p15) (tick w14) fun t70 =>
       readK Try.prog (sLoad T_api_Packet q17) (tick w14) fun t71 =>
       pureK Try.prog (sBin .neq T_api_Packet (.tmp 70) (.tmp 71) t70 t71) fun t72 =>
       ifB t72
       (K (.bool false) (tick w14))
       (pureK Try.prog (sBin .neq T_api_Errno (.tmp 74) (.tmp 75) t60 t69) fun t76 =>
        ifB t76
        (K (.bool false) (tick w14))
        (pureK Try.prog (sNil t22) fun t82 =>
         pureK Try.prog (sFieldAddr T_errataref07_Net t82 0) fun t83 =>
         readK Try.prog (sLoad T_s_api_Packet t83) (tick w14) fun t84 =>
         readK Try.prog (sBlt .len #[T_s_api_Packet] T_int #[false] #[t84]) (tick w14) fun t85 =>
         upK Try.prog (sCall F_net_Net_Count #[t20]) (tick w14) fun t80 w15 =>
         Is Try.prog (sBlt .len #[T_s_api_Packet] T_int #[false] #[t84]) t85 w15 ∧ Is Try.prog (sLoad T_s_api_Packet t83) t84 w15 ∧ pureK Try.prog (sBin .neq T_int (.tmp 80) (.tmp 85) t80 t85) fun t86 =>
         ifB t86
         (K (.bool false) w15)
         (upK Try.prog (sCall F_net_Net_Hear #[t20, a2, b3]) w15 fun t92 w16 =>
          upK Try.prog (sCall F_errataref07_Net_Hear #[t22, a2, b3]) w16 fun t96 w17 =>
          pureK Try.prog (sBin .neq T_bool (.tmp 92) (.tmp 96) t92 t96) fun t97 =>
          ifB t97
          (K (.bool false) w17)
          (pureK Try.prog (sBin .add T_int (.tmp 43) (.const (.int .i64 1)) x7.2.2.1 (.int .i64 1)) fun t44 =>
           next7 (c12, d13, t44, ()) w17)))))
      pureK Try.prog (sBin .eql T_int (.tmp 45) (.tmp 46) x7.2.2.1 at1) fun t47 =>
      ifB t47
      (upK Try.prog (sCall F_net_Net_Copy #[t20]) w7 fun t49 w18 =>
       upK Try.prog (sCall F_errataref07_Net_Copy #[t22]) w18 fun t51 w19 =>
       J1 t49 t51 w19)
      (J1 x7.1 x7.2.1 w7))
     (pureK Try.prog (sBin .eql T_p_net_Net (.tmp 99) (.const (.pointer none)) x7.1 (.pointer none)) fun t100 =>
      ifB t100
      (K (.bool false) w7)
      (ifB t19
       (pureK Try.prog (sNil t22) fun t106 =>
        pureK Try.prog (sFieldAddr T_errataref07_Net t106 0) fun t107 =>
        readK Try.prog (sLoad T_s_api_Packet t107) (tick w7) fun t108 =>
        upK Try.prog (sCall F_net_Net_List #[t20]) (tick w7) fun t104 w20 =>
        Is Try.prog (sLoad T_s_api_Packet t107) t108 w20 ∧ upK Try.prog (sCall F_errataref07_Same #[t104, t108]) w20 fun t109 w21 =>
        ifB t109
        (pureK Try.prog (sNil x7.2.1) fun t115 =>
         pureK Try.prog (sFieldAddr T_errataref07_Net t115 0) fun t116 =>
         readK Try.prog (sLoad T_s_api_Packet t116) w21 fun t117 =>
         upK Try.prog (sCall F_net_Net_List #[x7.1]) w21 fun t113 w22 =>
         Is Try.prog (sLoad T_s_api_Packet t116) t117 w22 ∧ upK Try.prog (sCall F_errataref07_Same #[t113, t117]) w22 fun t118 w23 =>
         ifB t118
         (upK Try.prog (sCall F_net_Net_Hear #[x7.1, a2, b3]) w23 fun t124 w24 =>
          upK Try.prog (sCall F_errataref07_Net_Hear #[x7.2.1, a2, b3]) w24 fun t128 w25 =>
          pureK Try.prog (sBin .eql T_bool (.tmp 124) (.tmp 128) t124 t128) fun t129 =>
          K t129 w25)
         (K (.bool false) w23))
        (K (.bool false) w21))
       (K (.bool false) (tick w7)))))
    (t36, t38, (.int .i64 0), ()) w6))
theorem erratalaw07_NetTells.pt_eq : erratalaw07_NetTells.pt = fun l0 at1 a2 b3 w K => FN Try.prog Try.f6 (bodyOf Try.f6) [8] [l0, at1, a2, b3] w K := by kernel_rfl
theorem erratalaw07_NetTells.call {l0 at1 a2 b3 : Value} {w : World} {K : Value → World → Prop} (h : erratalaw07_NetTells.pt l0 at1 a2 b3 w K) : Calls Try.prog F_erratalaw07_NetTells #[l0, at1, a2, b3] w (retK K) :=
  calls_FN (args := [l0, at1, a2, b3]) Try.func6 (by kernel_rfl) (by rw [erratalaw07_NetTells.pt_eq] at h; exact h)
theorem erratalaw07_NetTells.up {l0 at1 a2 b3 : Value} {w : World} {K : Value → World → Prop} (h : Calls Try.prog F_erratalaw07_NetTells #[l0, at1, a2, b3] w (retK K)) : upK Try.prog (sCall F_erratalaw07_NetTells #[l0, at1, a2, b3]) w K :=
  up_call (fn := Try.f6) Try.func6 (by kernel_rfl) (by kernel_rfl) h

/-- errata/erratalaw07.small -/
def erratalaw07_small.pt (w : World) (K : Value → World → Prop) : Prop :=
  upK Try.prog (sCall F_net_New #[]) w fun t15 w1 =>
  upK Try.prog (sCall F_net_New #[]) w1 fun t16 w2 =>
  pureK Try.prog (sBin .eql T_p_net_Net (.tmp 17) (.const (.pointer none)) t15 (.pointer none)) fun t18 =>
  ifB t18
  (K (.bool false) w2)
  (pureK Try.prog (sBin .eql T_p_net_Net (.tmp 20) (.const (.pointer none)) t16 (.pointer none)) fun t21 =>
   ifB t21
   (K (.bool false) w2)
   (upK Try.prog (sCall F_net_Net_Send #[t15, (.int .i64 0), (.int .i64 1), (.string ⟨#[97]⟩)]) w2 fun t24 w3 =>
    upK Try.prog (sCall F_net_Net_Send #[t15, (.int .i64 0), (.int .i64 2), (.string ⟨#[98]⟩)]) w3 fun t26 w4 =>
    upK Try.prog (sCall F_net_Net_Deliver #[t15, (.int .i64 1)]) w4 fun t29 w5 =>
    pureK Try.prog (sExtract t29 0) fun t30 =>
    pureK Try.prog (sExtract t29 1) fun t31 =>
    upK Try.prog (sAlloc T_api_Packet) w5 fun x5 w6 =>
    upK Try.prog (sStore T_api_Packet x5 t30) w6 fun tu w7 =>
    upK Try.prog (sCall F_net_Net_Deliver #[t15, (.int .i64 0)]) w7 fun t34 w8 =>
    pureK Try.prog (sExtract t34 0) fun t35 =>
    pureK Try.prog (sExtract t34 1) fun t36 =>
    upK Try.prog (sAlloc T_api_Packet) w8 fun y7 w9 =>
    upK Try.prog (sStore T_api_Packet y7 t35) w9 fun tu_1 w10 =>
    upK Try.prog (sCall F_net_Net_Send #[t16, (.int .i64 0), (.int .i64 1), (.string ⟨#[97]⟩)]) w10 fun t38 w11 =>
    upK Try.prog (sCall F_net_Net_Split #[t16, (.int .i64 1)]) w11 fun t40 w12 =>
    upK Try.prog (sCall F_net_Net_Deliver #[t16, (.int .i64 0)]) w12 fun t43 w13 =>
    pureK Try.prog (sExtract t43 0) fun t44 =>
    pureK Try.prog (sExtract t43 1) fun t45 =>
    upK Try.prog (sAlloc T_api_Packet) w13 fun t9 w14 =>
    upK Try.prog (sStore T_api_Packet t9 t44) w14 fun tu_2 w15 =>
    upK Try.prog (sCall F_net_Net_Count #[t16]) w15 fun t47 w16 =>
    pureK Try.prog (sBin .eql T_int (.tmp 47) (.const (.int .i64 0)) t47 (.int .i64 0)) fun t48 =>
    upK Try.prog (sCall F_net_Net_Split #[t16, (.int .i64 3)]) w16 fun t50 w17 =>
    upK Try.prog (sCall F_net_Net_Send #[t16, (.int .i64 0), (.int .i64 1), (.string ⟨#[97]⟩)]) w17 fun t52 w18 =>
    upK Try.prog (sCall F_net_Net_Send #[t16, (.int .i64 1), (.int .i64 2), (.string ⟨#[98]⟩)]) w18 fun t54 w19 =>
    pureK Try.prog (sBin .eql T_api_Errno (.tmp 55) (.const (.int .i64 0)) t24 (.int .i64 0)) fun t56 =>
    ifB t56
    (pureK Try.prog (sBin .eql T_api_Errno (.tmp 58) (.const (.int .i64 0)) t26 (.int .i64 0)) fun t59 =>
     ifB t59
     (pureK Try.prog (sBin .eql T_api_Errno (.tmp 62) (.const (.int .i64 0)) t31 (.int .i64 0)) fun t63 =>
      ifB t63
      (pureK Try.prog (sBin .eql T_api_Errno (.tmp 66) (.const (.int .i64 0)) t36 (.int .i64 0)) fun t67 =>
       ifB t67
       (readK Try.prog (sLoad T_api_Packet x5) w19 fun t70 =>
        pureK Try.prog (sBuild T_api_Packet #[(0, (.int .i64 0)), (1, (.int .i64 2)), (2, (.string ⟨#[98]⟩))]) fun t71 =>
        pureK Try.prog (sBin .eql T_api_Packet (.tmp 70) (.tmp 71) t70 t71) fun t72 =>
        ifB t72
        (pureK Try.prog (sFieldAddr T_api_Packet y7 1) fun t75 =>
         readK Try.prog (sLoad T_int t75) w19 fun t76 =>
         pureK Try.prog (sBin .eql T_int (.tmp 76) (.const (.int .i64 1)) t76 (.int .i64 1)) fun t77 =>
         ifB t77
         (pureK Try.prog (sFieldAddr T_api_Packet y7 2) fun t80 =>
          readK Try.prog (sLoad T_string t80) w19 fun t81 =>
          pureK Try.prog (sBin .eql T_string (.tmp 81) (.const (.string ⟨#[97]⟩)) t81 (.string ⟨#[97]⟩)) fun t82 =>
          ifB t82
          (pureK Try.prog (sBin .eql T_api_Errno (.tmp 86) (.const (.int .i64 10)) t45 (.int .i64 10)) fun t87 =>
           ifB t87
           (ifB t48
            (pureK Try.prog (sBin .eql T_api_Errno (.tmp 93) (.const (.int .i64 0)) t52 (.int .i64 0)) fun t94 =>
             ifB t94
             (pureK Try.prog (sBin .eql T_api_Errno (.tmp 97) (.const (.int .i64 10)) t54 (.int .i64 10)) fun t98 =>
              ifB t98
              (upK Try.prog (sCall F_net_Net_Hear #[t16, (.int .i64 0), (.int .i64 1)]) w19 fun t102 w20 =>
               ifB t102
               (upK Try.prog (sCall F_net_Net_Hear #[t16, (.int .i64 1), (.int .i64 2)]) w20 fun t106 w21 =>
                pureK Try.prog (sUn .not t106) fun t107 =>
                K t107 w21)
               (K (.bool false) w20))
              (K (.bool false) w19))
             (K (.bool false) w19))
            (K (.bool false) w19))
           (K (.bool false) w19))
          (K (.bool false) w19))
         (K (.bool false) w19))
        (K (.bool false) w19))
       (K (.bool false) w19))
      (K (.bool false) w19))
     (K (.bool false) w19))
    (K (.bool false) w19)))
theorem erratalaw07_small.pt_eq : erratalaw07_small.pt = fun  w K => FN Try.prog Try.f7 (bodyOf Try.f7) [0] [] w K := by kernel_rfl
theorem erratalaw07_small.call {w : World} {K : Value → World → Prop} (h : erratalaw07_small.pt  w K) : Calls Try.prog F_erratalaw07_small #[] w (retK K) :=
  calls_FN (args := []) Try.func7 (by kernel_rfl) (by rw [erratalaw07_small.pt_eq] at h; exact h)
theorem erratalaw07_small.up {w : World} {K : Value → World → Prop} (h : Calls Try.prog F_erratalaw07_small #[] w (retK K)) : upK Try.prog (sCall F_erratalaw07_small #[]) w K :=
  up_call (fn := Try.f7) Try.func7 (by kernel_rfl) (by kernel_rfl) h

/-- errata/net.New -/
def net_New.pt (w : World) (K : Value → World → Prop) : Prop :=
  pureK Try.prog (sBuild T_net_Net #[]) fun t1 =>
  upK Try.prog (sBox T_net_Net t1) w fun t2 w1 =>
  K t2 w1
theorem net_New.pt_eq : net_New.pt = fun  w K => FN Try.prog Try.f8 (bodyOf Try.f8) [0] [] w K := by kernel_rfl
theorem net_New.call {w : World} {K : Value → World → Prop} (h : net_New.pt  w K) : Calls Try.prog F_net_New #[] w (retK K) :=
  calls_FN (args := []) Try.func8 (by kernel_rfl) (by rw [net_New.pt_eq] at h; exact h)
theorem net_New.up {w : World} {K : Value → World → Prop} (h : Calls Try.prog F_net_New #[] w (retK K)) : upK Try.prog (sCall F_net_New #[]) w K :=
  up_call (fn := Try.f8) Try.func8 (by kernel_rfl) (by kernel_rfl) h

/-- errata/erratalaw07.few -/
def erratalaw07_few.pt (l0 most1 : Value) (w : World) (K : Value → World → Prop) : Prop :=
  let J1 : World → Prop := fun w1 =>
  (readK Try.prog (sBlt .len #[T_s_erratalaw07_Op] T_int #[false] #[l0]) w1 fun t24 =>
   pureK Try.prog (sBin .leq T_int (.tmp 24) (.tmp 25) t24 most1) fun t26 =>
   K t26 w1)
  LOOP (X := Value × Unit) (fun x2 w2 next2 =>
   readK Try.prog (sBlt .len #[T_s_erratalaw07_Op] T_int #[false] #[l0]) w2 fun t8 =>
   pureK Try.prog (sBin .lss T_int (.tmp 6) (.tmp 8) x2.1 t8) fun t9 =>
   ifB t9
   (pureK Try.prog (sBin .lss T_int (.tmp 11) (.const (.int .i64 1000)) x2.1 (.int .i64 1000)) fun t12 =>
    ifB t12
    (pureK Try.prog (sIdxAddr T_s_erratalaw07_Op l0 x2.1) fun t18 =>
     pureK Try.prog (sFieldAddr T_erratalaw07_Op t18 3) fun t19 =>
     readK Try.prog (sLoad T_string t19) w2 fun t20 =>
     readK Try.prog (sBlt .len #[T_string] T_int #[false] #[t20]) w2 fun t21 =>
     pureK Try.prog (sBin .gtr T_int (.tmp 21) (.const (.int .i64 100)) t21 (.int .i64 100)) fun t22 =>
     ifB t22
     (K (.bool false) w2)
     (pureK Try.prog (sBin .add T_int (.tmp 14) (.const (.int .i64 1)) x2.1 (.int .i64 1)) fun t15 =>
      next2 (t15, ()) w2))
    (J1 w2))
   (J1 w2))
  ((.int .i64 0), ()) w
theorem erratalaw07_few.pt_eq : erratalaw07_few.pt = fun l0 most1 w K => FN Try.prog Try.f9 (bodyOf Try.f9) [4] [l0, most1] w K := by kernel_rfl
theorem erratalaw07_few.call {l0 most1 : Value} {w : World} {K : Value → World → Prop} (h : erratalaw07_few.pt l0 most1 w K) : Calls Try.prog F_erratalaw07_few #[l0, most1] w (retK K) :=
  calls_FN (args := [l0, most1]) Try.func9 (by kernel_rfl) (by rw [erratalaw07_few.pt_eq] at h; exact h)
theorem erratalaw07_few.up {l0 most1 : Value} {w : World} {K : Value → World → Prop} (h : Calls Try.prog F_erratalaw07_few #[l0, most1] w (retK K)) : upK Try.prog (sCall F_erratalaw07_few #[l0, most1]) w K :=
  up_call (fn := Try.f9) Try.func9 (by kernel_rfl) (by kernel_rfl) h

/-- (*errata/net.Net).Send -/
def net_Net_Send.pt (n0 from1 to2 body3 : Value) (w : World) (K : Value → World → Prop) : Prop :=
  upK Try.prog (sCall F_net_end #[from1]) w fun t11 w1 =>
  pureK Try.prog (sUn .not t11) fun t12 =>
  ifB t12
  (K (.int .i64 1) w1)
  (upK Try.prog (sCall F_net_end #[to2]) w1 fun t15 w2 =>
   pureK Try.prog (sUn .not t15) fun t16 =>
   ifB t16
   (K (.int .i64 1) w2)
   (pureK Try.prog (sBin .eql T_int (.tmp 19) (.tmp 20) from1 to2) fun t21 =>
    ifB t21
    (K (.int .i64 1) w2)
    (upK Try.prog (sCall F_net_Net_Hear #[n0, from1, to2]) w2 fun t27 w3 =>
     pureK Try.prog (sUn .not t27) fun t28 =>
     ifB t28
     (K (.int .i64 10) w3)
     (pureK Try.prog (sNil n0) fun t31 =>
      pureK Try.prog (sFieldAddr T_net_Net t31 0) fun t32 =>
      readK Try.prog (sLoad T_s_api_Packet t32) w3 fun t33 =>
      readK Try.prog (sBlt .len #[T_s_api_Packet] T_int #[false] #[t33]) w3 fun t34 =>
      pureK Try.prog (sBin .geq T_int (.tmp 34) (.const (.int .i64 500)) t34 (.int .i64 500)) fun t35 =>
      ifB t35
      (K (.int .i64 6) w3)
      (pureK Try.prog (sNil n0) fun t38 =>
       pureK Try.prog (sFieldAddr T_net_Net t38 0) fun t39 =>
       readK Try.prog (sLoad T_s_api_Packet t39) w3 fun t40 =>
       pureK Try.prog (sBuild T_api_Packet #[(0, from1), (1, to2), (2, body3)]) fun t44 =>
       upK Try.prog (sBuildSlice T_s_api_Packet 1 #[(0, t44)]) w3 fun t45 w4 =>
       upK Try.prog (sBlt .append #[T_s_api_Packet, T_s_api_Packet] T_s_api_Packet #[false, false] #[t40, t45]) w4 fun t46 w5 =>
       pureK Try.prog (sNil n0) fun t47 =>
       pureK Try.prog (sFieldAddr T_net_Net t47 0) fun t48 =>
       upK Try.prog (sStore T_s_api_Packet t48 t46) w5 fun tu w6 =>
       K (.int .i64 0) w6)))))
theorem net_Net_Send.pt_eq : net_Net_Send.pt = fun n0 from1 to2 body3 w K => FN Try.prog Try.f10 (bodyOf Try.f10) [8] [n0, from1, to2, body3] w K := by kernel_rfl
theorem net_Net_Send.call {n0 from1 to2 body3 : Value} {w : World} {K : Value → World → Prop} (h : net_Net_Send.pt n0 from1 to2 body3 w K) : Calls Try.prog F_net_Net_Send #[n0, from1, to2, body3] w (retK K) :=
  calls_FN (args := [n0, from1, to2, body3]) Try.func10 (by kernel_rfl) (by rw [net_Net_Send.pt_eq] at h; exact h)
theorem net_Net_Send.up {n0 from1 to2 body3 : Value} {w : World} {K : Value → World → Prop} (h : Calls Try.prog F_net_Net_Send #[n0, from1, to2, body3] w (retK K)) : upK Try.prog (sCall F_net_Net_Send #[n0, from1, to2, body3]) w K :=
  up_call (fn := Try.f10) Try.func10 (by kernel_rfl) (by kernel_rfl) h

/-- (*errata/net.Net).Deliver -/
def net_Net_Deliver.pt (n0 i1 : Value) (w : World) (K : Value → World → Prop) : Prop :=
  upK Try.prog (sAlloc T_api_Packet) w fun t4 w1 =>
  upK Try.prog (sCall F_net_Net_take #[n0, i1]) w1 fun t11 w2 =>
  pureK Try.prog (sExtract t11 0) fun t12 =>
  pureK Try.prog (sExtract t11 1) fun t13 =>
  upK Try.prog (sAlloc T_api_Packet) w2 fun p6 w3 =>
  upK Try.prog (sStore T_api_Packet p6 t12) w3 fun tu w4 =>
  pureK Try.prog (sUn .not t13) fun t16 =>
  ifB t16
  (pureK Try.prog (sBuild T_api_Packet #[]) fun t17 =>
   upK Try.prog (sStore T_api_Packet t4 t17) w4 fun tu_1 w5 =>
   readV Try.prog (do loadVar T_api_Packet (← asAddr t4)) w5 fun t4_1 =>
   K (.tuple #[t4_1, (.int .i64 4)]) w5)
  (pureK Try.prog (sFieldAddr T_api_Packet p6 0) fun t20 =>
   readK Try.prog (sLoad T_int t20) w4 fun t21 =>
   pureK Try.prog (sFieldAddr T_api_Packet p6 1) fun t22 =>
   readK Try.prog (sLoad T_int t22) w4 fun t23 =>
   upK Try.prog (sCall F_net_Net_Hear #[n0, t21, t23]) w4 fun t24 w6 =>
   pureK Try.prog (sUn .not t24) fun t25 =>
   ifB t25
   (pureK Try.prog (sBuild T_api_Packet #[]) fun t26 =>
    upK Try.prog (sStore T_api_Packet t4 t26) w6 fun tu_2 w7 =>
    readV Try.prog (do loadVar T_api_Packet (← asAddr t4)) w7 fun t4_2 =>
    K (.tuple #[t4_2, (.int .i64 10)]) w7)
   (readK Try.prog (sLoad T_api_Packet p6) w6 fun t27 =>
    upK Try.prog (sStore T_api_Packet t4 t27) w6 fun tu_3 w8 =>
    readV Try.prog (do loadVar T_api_Packet (← asAddr t4)) w8 fun t4_3 =>
    K (.tuple #[t4_3, (.int .i64 0)]) w8))
theorem net_Net_Deliver.pt_eq : net_Net_Deliver.pt = fun n0 i1 w K => FN Try.prog Try.f11 (bodyOf Try.f11) [5] [n0, i1] w K := by kernel_rfl
theorem net_Net_Deliver.call {n0 i1 : Value} {w : World} {K : Value → World → Prop} (h : net_Net_Deliver.pt n0 i1 w K) : Calls Try.prog F_net_Net_Deliver #[n0, i1] w (retK K) :=
  calls_FN (args := [n0, i1]) Try.func11 (by kernel_rfl) (by rw [net_Net_Deliver.pt_eq] at h; exact h)
theorem net_Net_Deliver.up {n0 i1 : Value} {w : World} {K : Value → World → Prop} (h : Calls Try.prog F_net_Net_Deliver #[n0, i1] w (retK K)) : upK Try.prog (sCall F_net_Net_Deliver #[n0, i1]) w K :=
  up_call (fn := Try.f11) Try.func11 (by kernel_rfl) (by kernel_rfl) h

/-- errata/errataref07.Same -/
def errataref07_Same.pt (a0 b1 : Value) (w : World) (K : Value → World → Prop) : Prop :=
  readK Try.prog (sBlt .len #[T_s_api_Packet] T_int #[false] #[a0]) w fun t7 =>
  readK Try.prog (sBlt .len #[T_s_api_Packet] T_int #[false] #[b1]) w fun t9 =>
  pureK Try.prog (sBin .neq T_int (.tmp 7) (.tmp 9) t7 t9) fun t10 =>
  ifB t10
  (K (.bool false) w)
  (LOOP (X := Value × Unit) (fun x1 w1 next1 =>
    readK Try.prog (sBlt .len #[T_s_api_Packet] T_int #[false] #[a0]) w1 fun t13 =>
    pureK Try.prog (sBin .lss T_int (.tmp 11) (.tmp 13) x1.1 t13) fun t14 =>
    ifB t14
    (pureK Try.prog (sIdxAddr T_s_api_Packet a0 x1.1) fun t19 =>
     readK Try.prog (sLoad T_api_Packet t19) (tick w1) fun t20 =>
     pureK Try.prog (sIdxAddr T_s_api_Packet b1 x1.1) fun t23 =>
     readK Try.prog (sLoad T_api_Packet t23) (tick w1) fun t24 =>
     pureK Try.prog (sBin .neq T_api_Packet (.tmp 20) (.tmp 24) t20 t24) fun t25 =>
     ifB t25
     (K (.bool false) (tick w1))
     (pureK Try.prog (sBin .add T_int (.tmp 15) (.const (.int .i64 1)) x1.1 (.int .i64 1)) fun t16 =>
      next1 (t16, ()) (tick w1)))
    (K (.bool true) w1))
   ((.int .i64 0), ()) w)
theorem errataref07_Same.pt_eq : errataref07_Same.pt = fun a0 b1 w K => FN Try.prog Try.f12 (bodyOf Try.f12) [4] [a0, b1] w K := by kernel_rfl
theorem errataref07_Same.call {a0 b1 : Value} {w : World} {K : Value → World → Prop} (h : errataref07_Same.pt a0 b1 w K) : Calls Try.prog F_errataref07_Same #[a0, b1] w (retK K) :=
  calls_FN (args := [a0, b1]) Try.func12 (by kernel_rfl) (by rw [errataref07_Same.pt_eq] at h; exact h)
theorem errataref07_Same.up {a0 b1 : Value} {w : World} {K : Value → World → Prop} (h : Calls Try.prog F_errataref07_Same #[a0, b1] w (retK K)) : upK Try.prog (sCall F_errataref07_Same #[a0, b1]) w K :=
  up_call (fn := Try.f12) Try.func12 (by kernel_rfl) (by kernel_rfl) h

/-- (*errata/net.Net).List -/
def net_Net_List.pt (n0 : Value) (w : World) (K : Value → World → Prop) : Prop :=
  pureK Try.prog (sNil n0) fun t4 =>
  pureK Try.prog (sFieldAddr T_net_Net t4 0) fun t5 =>
  readK Try.prog (sLoad T_s_api_Packet t5) w fun t6 =>
  upK Try.prog (sCall F_slices_Clone_s_api_Packet_api_Packet #[t6]) w fun t7 w1 =>
  K t7 w1
theorem net_Net_List.pt_eq : net_Net_List.pt = fun n0 w K => FN Try.prog Try.f13 (bodyOf Try.f13) [2] [n0] w K := by kernel_rfl
theorem net_Net_List.call {n0 : Value} {w : World} {K : Value → World → Prop} (h : net_Net_List.pt n0 w K) : Calls Try.prog F_net_Net_List #[n0] w (retK K) :=
  calls_FN (args := [n0]) Try.func13 (by kernel_rfl) (by rw [net_Net_List.pt_eq] at h; exact h)
theorem net_Net_List.up {n0 : Value} {w : World} {K : Value → World → Prop} (h : Calls Try.prog F_net_Net_List #[n0] w (retK K)) : upK Try.prog (sCall F_net_Net_List #[n0]) w K :=
  up_call (fn := Try.f13) Try.func13 (by kernel_rfl) (by kernel_rfl) h

/-- (*errata/net.Net).Split -/
def net_Net_Split.pt (n0 mask1 : Value) (w : World) (K : Value → World → Prop) : Prop :=
  pureK Try.prog (sBin .and T_int (.tmp 5) (.const (.int .i64 65535)) mask1 (.int .i64 65535)) fun t6 =>
  pureK Try.prog (sNil n0) fun t7 =>
  pureK Try.prog (sFieldAddr T_net_Net t7 1) fun t8 =>
  upK Try.prog (sStore T_int t8 t6) w fun tu w1 =>
  K (.tuple #[]) w1
theorem net_Net_Split.pt_eq : net_Net_Split.pt = fun n0 mask1 w K => FN Try.prog Try.f14 (bodyOf Try.f14) [] [n0, mask1] w K := by kernel_rfl
theorem net_Net_Split.call {n0 mask1 : Value} {w : World} {K : Value → World → Prop} (h : net_Net_Split.pt n0 mask1 w K) : Calls Try.prog F_net_Net_Split #[n0, mask1] w (retK K) :=
  calls_FN (args := [n0, mask1]) Try.func14 (by kernel_rfl) (by rw [net_Net_Split.pt_eq] at h; exact h)
theorem net_Net_Split.up {n0 mask1 : Value} {w : World} {K : Value → World → Prop} (h : Calls Try.prog F_net_Net_Split #[n0, mask1] w (retK K)) : upK Try.prog (sCall F_net_Net_Split #[n0, mask1]) w K :=
  up_call (fn := Try.f14) Try.func14 (by kernel_rfl) (by kernel_rfl) h

/-- (*errata/net.Net).Hear -/
def net_Net_Hear.pt (n0 a1 b2 : Value) (w : World) (K : Value → World → Prop) : Prop :=
  upK Try.prog (sCall F_net_end #[a1]) (tick w) fun t8 w1 =>
  ifB t8
  (upK Try.prog (sCall F_net_end #[b2]) w1 fun t11 w2 =>
   ifB t11
   (pureK Try.prog (sNil n0) fun t15 =>
    pureK Try.prog (sFieldAddr T_net_Net t15 1) fun t16 =>
    readK Try.prog (sLoad T_int t16) w2 fun t17 =>
    pureK Try.prog (sBin .shr T_int (.tmp 17) (.tmp 18) t17 a1) fun t19 =>
    pureK Try.prog (sBin .and T_int (.tmp 19) (.const (.int .i64 1)) t19 (.int .i64 1)) fun t20 =>
    pureK Try.prog (sNil n0) fun t22 =>
    pureK Try.prog (sFieldAddr T_net_Net t22 1) fun t23 =>
    readK Try.prog (sLoad T_int t23) w2 fun t24 =>
    pureK Try.prog (sBin .shr T_int (.tmp 24) (.tmp 25) t24 b2) fun t26 =>
    pureK Try.prog (sBin .and T_int (.tmp 26) (.const (.int .i64 1)) t26 (.int .i64 1)) fun t27 =>
    pureK Try.prog (sBin .eql T_int (.tmp 20) (.tmp 27) t20 t27) fun t28 =>
    K t28 w2)
   (K (.bool false) w2))
  (K (.bool false) w1)
theorem net_Net_Hear.pt_eq : net_Net_Hear.pt = fun n0 a1 b2 w K => FN Try.prog Try.f15 (bodyOf Try.f15) [6] [n0, a1, b2] w K := by kernel_rfl
theorem net_Net_Hear.call {n0 a1 b2 : Value} {w : World} {K : Value → World → Prop} (h : net_Net_Hear.pt n0 a1 b2 w K) : Calls Try.prog F_net_Net_Hear #[n0, a1, b2] w (retK K) :=
  calls_FN (args := [n0, a1, b2]) Try.func15 (by kernel_rfl) (by rw [net_Net_Hear.pt_eq] at h; exact h)
theorem net_Net_Hear.up {n0 a1 b2 : Value} {w : World} {K : Value → World → Prop} (h : Calls Try.prog F_net_Net_Hear #[n0, a1, b2] w (retK K)) : upK Try.prog (sCall F_net_Net_Hear #[n0, a1, b2]) w K :=
  up_call (fn := Try.f15) Try.func15 (by kernel_rfl) (by kernel_rfl) h

/-- (*errata/net.Net).Heal -/
def net_Net_Heal.pt (n0 : Value) (w : World) (K : Value → World → Prop) : Prop :=
  pureK Try.prog (sNil n0) fun t3 =>
  pureK Try.prog (sFieldAddr T_net_Net t3 1) fun t4 =>
  upK Try.prog (sStore T_int t4 (.int .i64 0)) w fun tu w1 =>
  K (.tuple #[]) w1
theorem net_Net_Heal.pt_eq : net_Net_Heal.pt = fun n0 w K => FN Try.prog Try.f16 (bodyOf Try.f16) [] [n0] w K := by kernel_rfl
theorem net_Net_Heal.call {n0 : Value} {w : World} {K : Value → World → Prop} (h : net_Net_Heal.pt n0 w K) : Calls Try.prog F_net_Net_Heal #[n0] w (retK K) :=
  calls_FN (args := [n0]) Try.func16 (by kernel_rfl) (by rw [net_Net_Heal.pt_eq] at h; exact h)
theorem net_Net_Heal.up {n0 : Value} {w : World} {K : Value → World → Prop} (h : Calls Try.prog F_net_Net_Heal #[n0] w (retK K)) : upK Try.prog (sCall F_net_Net_Heal #[n0]) w K :=
  up_call (fn := Try.f16) Try.func16 (by kernel_rfl) (by kernel_rfl) h

/-- (*errata/net.Net).Count -/
def net_Net_Count.pt (n0 : Value) (w : World) (K : Value → World → Prop) : Prop :=
  pureK Try.prog (sNil n0) fun t4 =>
  pureK Try.prog (sFieldAddr T_net_Net t4 0) fun t5 =>
  readK Try.prog (sLoad T_s_api_Packet t5) w fun t6 =>
  readK Try.prog (sBlt .len #[T_s_api_Packet] T_int #[false] #[t6]) w fun t7 =>
  K t7 w
theorem net_Net_Count.pt_eq : net_Net_Count.pt = fun n0 w K => FN Try.prog Try.f17 (bodyOf Try.f17) [2] [n0] w K := by kernel_rfl
theorem net_Net_Count.call {n0 : Value} {w : World} {K : Value → World → Prop} (h : net_Net_Count.pt n0 w K) : Calls Try.prog F_net_Net_Count #[n0] w (retK K) :=
  calls_FN (args := [n0]) Try.func17 (by kernel_rfl) (by rw [net_Net_Count.pt_eq] at h; exact h)
theorem net_Net_Count.up {n0 : Value} {w : World} {K : Value → World → Prop} (h : Calls Try.prog F_net_Net_Count #[n0] w (retK K)) : upK Try.prog (sCall F_net_Net_Count #[n0]) w K :=
  up_call (fn := Try.f17) Try.func17 (by kernel_rfl) (by kernel_rfl) h

/-- (*errata/net.Net).Double -/
def net_Net_Double.pt (n0 i1 : Value) (w : World) (K : Value → World → Prop) : Prop :=
  pureK Try.prog (sBin .lss T_int (.tmp 6) (.const (.int .i64 0)) i1 (.int .i64 0)) fun t7 =>
  ifB t7
  (K (.int .i64 4) w)
  (pureK Try.prog (sNil n0) fun t11 =>
   pureK Try.prog (sFieldAddr T_net_Net t11 0) fun t12 =>
   readK Try.prog (sLoad T_s_api_Packet t12) w fun t13 =>
   readK Try.prog (sBlt .len #[T_s_api_Packet] T_int #[false] #[t13]) w fun t14 =>
   pureK Try.prog (sBin .geq T_int (.tmp 9) (.tmp 14) i1 t14) fun t15 =>
   ifB t15
   (K (.int .i64 4) w)
   (pureK Try.prog (sNil n0) fun t19 =>
    pureK Try.prog (sFieldAddr T_net_Net t19 0) fun t20 =>
    readK Try.prog (sLoad T_s_api_Packet t20) w fun t21 =>
    readK Try.prog (sBlt .len #[T_s_api_Packet] T_int #[false] #[t21]) w fun t22 =>
    pureK Try.prog (sBin .geq T_int (.tmp 22) (.const (.int .i64 500)) t22 (.int .i64 500)) fun t23 =>
    ifB t23
    (K (.int .i64 6) w)
    (pureK Try.prog (sNil n0) fun t26 =>
     pureK Try.prog (sFieldAddr T_net_Net t26 0) fun t27 =>
     readK Try.prog (sLoad T_s_api_Packet t27) (tick w) fun t28 =>
     pureK Try.prog (sNil n0) fun t30 =>
     pureK Try.prog (sFieldAddr T_net_Net t30 0) fun t31 =>
     readK Try.prog (sLoad T_s_api_Packet t31) (tick w) fun t32 =>
     pureK Try.prog (sIdxAddr T_s_api_Packet t32 i1) fun t34 =>
     readK Try.prog (sLoad T_api_Packet t34) (tick w) fun t35 =>
     upK Try.prog (sBuildSlice T_s_api_Packet 1 #[(0, t35)]) (tick w) fun t36 w1 =>
     Is Try.prog (sLoad T_s_api_Packet t27) t28 w1 ∧ upK Try.prog (sBlt .append #[T_s_api_Packet, T_s_api_Packet] T_s_api_Packet #[false, false] #[t28, t36]) w1 fun t37 w2 =>
     pureK Try.prog (sNil n0) fun t38 =>
     pureK Try.prog (sFieldAddr T_net_Net t38 0) fun t39 =>
     upK Try.prog (sStore T_s_api_Packet t39 t37) w2 fun tu w3 =>
     K (.int .i64 0) w3)))
theorem net_Net_Double.pt_eq : net_Net_Double.pt = fun n0 i1 w K => FN Try.prog Try.f18 (bodyOf Try.f18) [4] [n0, i1] w K := by kernel_rfl
theorem net_Net_Double.call {n0 i1 : Value} {w : World} {K : Value → World → Prop} (h : net_Net_Double.pt n0 i1 w K) : Calls Try.prog F_net_Net_Double #[n0, i1] w (retK K) :=
  calls_FN (args := [n0, i1]) Try.func18 (by kernel_rfl) (by rw [net_Net_Double.pt_eq] at h; exact h)
theorem net_Net_Double.up {n0 i1 : Value} {w : World} {K : Value → World → Prop} (h : Calls Try.prog F_net_Net_Double #[n0, i1] w (retK K)) : upK Try.prog (sCall F_net_Net_Double #[n0, i1]) w K :=
  up_call (fn := Try.f18) Try.func18 (by kernel_rfl) (by kernel_rfl) h

/-- errata/erratalaw07.do -/
def erratalaw07_do.pt (n0 x1 : Value) (w : World) (K : Value → World → Prop) : Prop :=
  upK Try.prog (sBox T_erratalaw07_Op x1) w fun x3 w1 =>
  upK Try.prog (sAlloc T_api_Packet) w1 fun t4 w2 =>
  pureK Try.prog (sFieldAddr T_erratalaw07_Op x3 0) fun t6 =>
  readK Try.prog (sLoad T_int t6) w2 fun t7 =>
  pureK Try.prog (sBin .and T_int (.tmp 7) (.const (.int .i64 7)) t7 (.int .i64 7)) fun t8 =>
  pureK Try.prog (sBin .eql T_int (.tmp 8) (.const (.int .i64 3)) t8 (.int .i64 3)) fun t10 =>
  ifB t10
  (pureK Try.prog (sFieldAddr T_erratalaw07_Op x3 1) fun t12 =>
   readK Try.prog (sLoad T_int t12) w2 fun t13 =>
   upK Try.prog (sCall F_net_Net_Deliver #[n0, t13]) w2 fun t14 w3 =>
   pureK Try.prog (sExtract t14 0) fun t15 =>
   pureK Try.prog (sExtract t14 1) fun t16 =>
   upK Try.prog (sStore T_api_Packet t4 t15) w3 fun tu w4 =>
   readV Try.prog (do loadVar T_api_Packet (← asAddr t4)) w4 fun t4_1 =>
   K (.tuple #[t4_1, t16]) w4)
  (pureK Try.prog (sBin .eql T_int (.tmp 8) (.const (.int .i64 4)) t8 (.int .i64 4)) fun t18 =>
   ifB t18
   (pureK Try.prog (sBuild T_api_Packet #[]) fun t19 =>
    pureK Try.prog (sFieldAddr T_erratalaw07_Op x3 1) fun t21 =>
    readK Try.prog (sLoad T_int t21) w2 fun t22 =>
    upK Try.prog (sCall F_net_Net_Drop #[n0, t22]) w2 fun t23 w5 =>
    upK Try.prog (sStore T_api_Packet t4 t19) w5 fun tu_1 w6 =>
    readV Try.prog (do loadVar T_api_Packet (← asAddr t4)) w6 fun t4_2 =>
    K (.tuple #[t4_2, t23]) w6)
   (pureK Try.prog (sBin .eql T_int (.tmp 8) (.const (.int .i64 5)) t8 (.int .i64 5)) fun t25 =>
    ifB t25
    (pureK Try.prog (sBuild T_api_Packet #[]) fun t26 =>
     pureK Try.prog (sFieldAddr T_erratalaw07_Op x3 1) fun t28 =>
     readK Try.prog (sLoad T_int t28) w2 fun t29 =>
     upK Try.prog (sCall F_net_Net_Double #[n0, t29]) w2 fun t30 w7 =>
     upK Try.prog (sStore T_api_Packet t4 t26) w7 fun tu_2 w8 =>
     readV Try.prog (do loadVar T_api_Packet (← asAddr t4)) w8 fun t4_3 =>
     K (.tuple #[t4_3, t30]) w8)
    (pureK Try.prog (sBin .eql T_int (.tmp 8) (.const (.int .i64 6)) t8 (.int .i64 6)) fun t32 =>
     ifB t32
     (pureK Try.prog (sFieldAddr T_erratalaw07_Op x3 1) fun t34 =>
      readK Try.prog (sLoad T_int t34) w2 fun t35 =>
      upK Try.prog (sCall F_net_Net_Split #[n0, t35]) w2 fun t36 w9 =>
      pureK Try.prog (sBuild T_api_Packet #[]) fun t37 =>
      upK Try.prog (sStore T_api_Packet t4 t37) w9 fun tu_3 w10 =>
      readV Try.prog (do loadVar T_api_Packet (← asAddr t4)) w10 fun t4_4 =>
      K (.tuple #[t4_4, (.int .i64 0)]) w10)
     (pureK Try.prog (sBin .eql T_int (.tmp 8) (.const (.int .i64 7)) t8 (.int .i64 7)) fun t39 =>
      ifB t39
      (upK Try.prog (sCall F_net_Net_Heal #[n0]) w2 fun t41 w11 =>
       pureK Try.prog (sBuild T_api_Packet #[]) fun t42 =>
       upK Try.prog (sStore T_api_Packet t4 t42) w11 fun tu_4 w12 =>
       readV Try.prog (do loadVar T_api_Packet (← asAddr t4)) w12 fun t4_5 =>
       K (.tuple #[t4_5, (.int .i64 0)]) w12)
      (pureK Try.prog (sBuild T_api_Packet #[]) fun t43 =>
       pureK Try.prog (sFieldAddr T_erratalaw07_Op x3 1) fun t45 =>
       readK Try.prog (sLoad T_int t45) w2 fun t46 =>
       pureK Try.prog (sFieldAddr T_erratalaw07_Op x3 2) fun t47 =>
       readK Try.prog (sLoad T_int t47) w2 fun t48 =>
       pureK Try.prog (sFieldAddr T_erratalaw07_Op x3 3) fun t49 =>
       readK Try.prog (sLoad T_string t49) w2 fun t50 =>
       upK Try.prog (sCall F_net_Net_Send #[n0, t46, t48, t50]) w2 fun t51 w13 =>
       upK Try.prog (sStore T_api_Packet t4 t43) w13 fun tu_5 w14 =>
       readV Try.prog (do loadVar T_api_Packet (← asAddr t4)) w14 fun t4_6 =>
       K (.tuple #[t4_6, t51]) w14)))))
theorem erratalaw07_do.pt_eq : erratalaw07_do.pt = fun n0 x1 w K => FN Try.prog Try.f19 (bodyOf Try.f19) [5] [n0, x1] w K := by kernel_rfl
theorem erratalaw07_do.call {n0 x1 : Value} {w : World} {K : Value → World → Prop} (h : erratalaw07_do.pt n0 x1 w K) : Calls Try.prog F_erratalaw07_do #[n0, x1] w (retK K) :=
  calls_FN (args := [n0, x1]) Try.func19 (by kernel_rfl) (by rw [erratalaw07_do.pt_eq] at h; exact h)
theorem erratalaw07_do.up {n0 x1 : Value} {w : World} {K : Value → World → Prop} (h : Calls Try.prog F_erratalaw07_do #[n0, x1] w (retK K)) : upK Try.prog (sCall F_erratalaw07_do #[n0, x1]) w K :=
  up_call (fn := Try.f19) Try.func19 (by kernel_rfl) (by kernel_rfl) h

/-- errata/erratalaw07.count -/
def erratalaw07_count.pt (l0 p1 : Value) (w : World) (K : Value → World → Prop) : Prop :=
  upK Try.prog (sBox T_api_Packet p1) w fun p3 w1 =>
  LOOP (X := Value × Value × Unit) (fun x2 w2 next2 =>
   readK Try.prog (sBlt .len #[T_s_api_Packet] T_int #[false] #[l0]) w2 fun t9 =>
   pureK Try.prog (sBin .lss T_int (.tmp 7) (.tmp 9) x2.2.1 t9) fun t10 =>
   ifB t10
   (let J1 : Value → World → Prop := fun n5 w3 =>
    (pureK Try.prog (sBin .add T_int (.tmp 11) (.const (.int .i64 1)) x2.2.1 (.int .i64 1)) fun t12 =>
     next2 (n5, t12, ()) w3)
    pureK Try.prog (sIdxAddr T_s_api_Packet l0 x2.2.1) fun t15 =>
    readK Try.prog (sLoad T_api_Packet t15) (tick w2) fun t16 =>
    readK Try.prog (sLoad T_api_Packet p3) (tick w2) fun t17 =>
    pureK Try.prog (sBin .eql T_api_Packet (.tmp 16) (.tmp 17) t16 t17) fun t18 =>
    ifB t18
    (pureK Try.prog (sBin .add T_int (.tmp 19) (.const (.int .i64 1)) x2.1 (.int .i64 1)) fun t20 =>
     J1 t20 (tick w2))
    (J1 x2.1 (tick w2)))
   (K x2.1 w2))
  ((.int .i64 0), (.int .i64 0), ()) w1
theorem erratalaw07_count.pt_eq : erratalaw07_count.pt = fun l0 p1 w K => FN Try.prog Try.f20 (bodyOf Try.f20) [4] [l0, p1] w K := by kernel_rfl
theorem erratalaw07_count.call {l0 p1 : Value} {w : World} {K : Value → World → Prop} (h : erratalaw07_count.pt l0 p1 w K) : Calls Try.prog F_erratalaw07_count #[l0, p1] w (retK K) :=
  calls_FN (args := [l0, p1]) Try.func20 (by kernel_rfl) (by rw [erratalaw07_count.pt_eq] at h; exact h)
theorem erratalaw07_count.up {l0 p1 : Value} {w : World} {K : Value → World → Prop} (h : Calls Try.prog F_erratalaw07_count #[l0, p1] w (retK K)) : upK Try.prog (sCall F_erratalaw07_count #[l0, p1]) w K :=
  up_call (fn := Try.f20) Try.func20 (by kernel_rfl) (by kernel_rfl) h

/-- (*errata/net.Net).Copy -/
def net_Net_Copy.pt (n0 : Value) (w : World) (K : Value → World → Prop) : Prop :=
  pureK Try.prog (sNil n0) fun t4 =>
  pureK Try.prog (sFieldAddr T_net_Net t4 0) fun t5 =>
  readK Try.prog (sLoad T_s_api_Packet t5) (tick w) fun t6 =>
  pureK Try.prog (sNil n0) fun t9 =>
  pureK Try.prog (sFieldAddr T_net_Net t9 1) fun t10 =>
  readK Try.prog (sLoad T_int t10) (tick w) fun t11 =>
  upK Try.prog (sCall F_slices_Clone_s_api_Packet_api_Packet #[t6]) (tick w) fun t7 w1 =>
  Is Try.prog (sLoad T_int t10) t11 w1 ∧ pureK Try.prog (sBuild T_net_Net #[(0, t7), (1, t11)]) fun t12 =>
  upK Try.prog (sBox T_net_Net t12) w1 fun t13 w2 =>
  K t13 w2
theorem net_Net_Copy.pt_eq : net_Net_Copy.pt = fun n0 w K => FN Try.prog Try.f21 (bodyOf Try.f21) [2] [n0] w K := by kernel_rfl
theorem net_Net_Copy.call {n0 : Value} {w : World} {K : Value → World → Prop} (h : net_Net_Copy.pt n0 w K) : Calls Try.prog F_net_Net_Copy #[n0] w (retK K) :=
  calls_FN (args := [n0]) Try.func21 (by kernel_rfl) (by rw [net_Net_Copy.pt_eq] at h; exact h)
theorem net_Net_Copy.up {n0 : Value} {w : World} {K : Value → World → Prop} (h : Calls Try.prog F_net_Net_Copy #[n0] w (retK K)) : upK Try.prog (sCall F_net_Net_Copy #[n0]) w K :=
  up_call (fn := Try.f21) Try.func21 (by kernel_rfl) (by kernel_rfl) h

/-- (*errata/errataref07.Net).Copy -/
def errataref07_Net_Copy.pt (n0 : Value) (w : World) (K : Value → World → Prop) : Prop :=
  pureK Try.prog (sNil n0) fun t5 =>
  pureK Try.prog (sFieldAddr T_errataref07_Net t5 0) fun t6 =>
  readK Try.prog (sLoad T_s_api_Packet t6) (tick w) fun t7 =>
  pureK Try.prog (sNil n0) fun t10 =>
  pureK Try.prog (sFieldAddr T_errataref07_Net t10 1) fun t11 =>
  readK Try.prog (sLoad T_int t11) (tick w) fun t12 =>
  upK Try.prog (sBuildSlice T_s_api_Packet 0 #[]) (tick w) fun t3 w1 =>
  Is Try.prog (sLoad T_int t11) t12 w1 ∧ Is Try.prog (sLoad T_s_api_Packet t6) t7 w1 ∧ upK Try.prog (sBlt .append #[T_s_api_Packet, T_s_api_Packet] T_s_api_Packet #[false, false] #[t3, t7]) w1 fun t8 w2 =>
  Is Try.prog (sLoad T_int t11) t12 w2 ∧ pureK Try.prog (sBuild T_errataref07_Net #[(0, t8), (1, t12)]) fun t13 =>
  upK Try.prog (sBox T_errataref07_Net t13) w2 fun t14 w3 =>
  K t14 w3
theorem errataref07_Net_Copy.pt_eq : errataref07_Net_Copy.pt = fun n0 w K => FN Try.prog Try.f22 (bodyOf Try.f22) [2] [n0] w K := by kernel_rfl
theorem errataref07_Net_Copy.call {n0 : Value} {w : World} {K : Value → World → Prop} (h : errataref07_Net_Copy.pt n0 w K) : Calls Try.prog F_errataref07_Net_Copy #[n0] w (retK K) :=
  calls_FN (args := [n0]) Try.func22 (by kernel_rfl) (by rw [errataref07_Net_Copy.pt_eq] at h; exact h)
theorem errataref07_Net_Copy.up {n0 : Value} {w : World} {K : Value → World → Prop} (h : Calls Try.prog F_errataref07_Net_Copy #[n0] w (retK K)) : upK Try.prog (sCall F_errataref07_Net_Copy #[n0]) w K :=
  up_call (fn := Try.f22) Try.func22 (by kernel_rfl) (by kernel_rfl) h

/-- errata/erratalaw07.model -/
def erratalaw07_model.pt (n0 x1 : Value) (w : World) (K : Value → World → Prop) : Prop :=
  upK Try.prog (sBox T_erratalaw07_Op x1) w fun x3 w1 =>
  upK Try.prog (sAlloc T_api_Packet) w1 fun t4 w2 =>
  pureK Try.prog (sFieldAddr T_erratalaw07_Op x3 0) fun t6 =>
  readK Try.prog (sLoad T_int t6) w2 fun t7 =>
  pureK Try.prog (sBin .and T_int (.tmp 7) (.const (.int .i64 7)) t7 (.int .i64 7)) fun t8 =>
  pureK Try.prog (sBin .eql T_int (.tmp 8) (.const (.int .i64 3)) t8 (.int .i64 3)) fun t10 =>
  ifB t10
  (pureK Try.prog (sFieldAddr T_erratalaw07_Op x3 1) fun t12 =>
   readK Try.prog (sLoad T_int t12) w2 fun t13 =>
   upK Try.prog (sCall F_errataref07_Net_Deliver #[n0, t13]) w2 fun t14 w3 =>
   pureK Try.prog (sExtract t14 0) fun t15 =>
   pureK Try.prog (sExtract t14 1) fun t16 =>
   upK Try.prog (sStore T_api_Packet t4 t15) w3 fun tu w4 =>
   readV Try.prog (do loadVar T_api_Packet (← asAddr t4)) w4 fun t4_1 =>
   K (.tuple #[t4_1, t16]) w4)
  (pureK Try.prog (sBin .eql T_int (.tmp 8) (.const (.int .i64 4)) t8 (.int .i64 4)) fun t18 =>
   ifB t18
   (pureK Try.prog (sBuild T_api_Packet #[]) fun t19 =>
    pureK Try.prog (sFieldAddr T_erratalaw07_Op x3 1) fun t21 =>
    readK Try.prog (sLoad T_int t21) w2 fun t22 =>
    upK Try.prog (sCall F_errataref07_Net_Drop #[n0, t22]) w2 fun t23 w5 =>
    upK Try.prog (sStore T_api_Packet t4 t19) w5 fun tu_1 w6 =>
    readV Try.prog (do loadVar T_api_Packet (← asAddr t4)) w6 fun t4_2 =>
    K (.tuple #[t4_2, t23]) w6)
   (pureK Try.prog (sBin .eql T_int (.tmp 8) (.const (.int .i64 5)) t8 (.int .i64 5)) fun t25 =>
    ifB t25
    (pureK Try.prog (sBuild T_api_Packet #[]) fun t26 =>
     pureK Try.prog (sFieldAddr T_erratalaw07_Op x3 1) fun t28 =>
     readK Try.prog (sLoad T_int t28) w2 fun t29 =>
     upK Try.prog (sCall F_errataref07_Net_Double #[n0, t29]) w2 fun t30 w7 =>
     upK Try.prog (sStore T_api_Packet t4 t26) w7 fun tu_2 w8 =>
     readV Try.prog (do loadVar T_api_Packet (← asAddr t4)) w8 fun t4_3 =>
     K (.tuple #[t4_3, t30]) w8)
    (pureK Try.prog (sBin .eql T_int (.tmp 8) (.const (.int .i64 6)) t8 (.int .i64 6)) fun t32 =>
     ifB t32
     (pureK Try.prog (sFieldAddr T_erratalaw07_Op x3 1) fun t34 =>
      readK Try.prog (sLoad T_int t34) w2 fun t35 =>
      upK Try.prog (sCall F_errataref07_Net_Split #[n0, t35]) w2 fun t36 w9 =>
      pureK Try.prog (sBuild T_api_Packet #[]) fun t37 =>
      upK Try.prog (sStore T_api_Packet t4 t37) w9 fun tu_3 w10 =>
      readV Try.prog (do loadVar T_api_Packet (← asAddr t4)) w10 fun t4_4 =>
      K (.tuple #[t4_4, (.int .i64 0)]) w10)
     (pureK Try.prog (sBin .eql T_int (.tmp 8) (.const (.int .i64 7)) t8 (.int .i64 7)) fun t39 =>
      ifB t39
      (upK Try.prog (sCall F_errataref07_Net_Split #[n0, (.int .i64 0)]) w2 fun t41 w11 =>
       pureK Try.prog (sBuild T_api_Packet #[]) fun t42 =>
       upK Try.prog (sStore T_api_Packet t4 t42) w11 fun tu_4 w12 =>
       readV Try.prog (do loadVar T_api_Packet (← asAddr t4)) w12 fun t4_5 =>
       K (.tuple #[t4_5, (.int .i64 0)]) w12)
      (pureK Try.prog (sBuild T_api_Packet #[]) fun t43 =>
       pureK Try.prog (sFieldAddr T_erratalaw07_Op x3 1) fun t45 =>
       readK Try.prog (sLoad T_int t45) w2 fun t46 =>
       pureK Try.prog (sFieldAddr T_erratalaw07_Op x3 2) fun t47 =>
       readK Try.prog (sLoad T_int t47) w2 fun t48 =>
       pureK Try.prog (sFieldAddr T_erratalaw07_Op x3 3) fun t49 =>
       readK Try.prog (sLoad T_string t49) w2 fun t50 =>
       upK Try.prog (sCall F_errataref07_Net_Send #[n0, t46, t48, t50]) w2 fun t51 w13 =>
       upK Try.prog (sStore T_api_Packet t4 t43) w13 fun tu_5 w14 =>
       readV Try.prog (do loadVar T_api_Packet (← asAddr t4)) w14 fun t4_6 =>
       K (.tuple #[t4_6, t51]) w14)))))
theorem erratalaw07_model.pt_eq : erratalaw07_model.pt = fun n0 x1 w K => FN Try.prog Try.f23 (bodyOf Try.f23) [5] [n0, x1] w K := by kernel_rfl
theorem erratalaw07_model.call {n0 x1 : Value} {w : World} {K : Value → World → Prop} (h : erratalaw07_model.pt n0 x1 w K) : Calls Try.prog F_erratalaw07_model #[n0, x1] w (retK K) :=
  calls_FN (args := [n0, x1]) Try.func23 (by kernel_rfl) (by rw [erratalaw07_model.pt_eq] at h; exact h)
theorem erratalaw07_model.up {n0 x1 : Value} {w : World} {K : Value → World → Prop} (h : Calls Try.prog F_erratalaw07_model #[n0, x1] w (retK K)) : upK Try.prog (sCall F_erratalaw07_model #[n0, x1]) w K :=
  up_call (fn := Try.f23) Try.func23 (by kernel_rfl) (by kernel_rfl) h

/-- (*errata/errataref07.Net).Hear -/
def errataref07_Net_Hear.pt (n0 a1 b2 : Value) (w : World) (K : Value → World → Prop) : Prop :=
  pureK Try.prog (sBin .lss T_int (.tmp 7) (.const (.int .i64 0)) a1 (.int .i64 0)) fun t8 =>
  ifB t8
  (K (.bool false) w)
  (pureK Try.prog (sBin .gtr T_int (.tmp 10) (.const (.int .i64 15)) a1 (.int .i64 15)) fun t11 =>
   ifB t11
   (K (.bool false) w)
   (pureK Try.prog (sBin .lss T_int (.tmp 14) (.const (.int .i64 0)) b2 (.int .i64 0)) fun t15 =>
    ifB t15
    (K (.bool false) w)
    (pureK Try.prog (sBin .gtr T_int (.tmp 18) (.const (.int .i64 15)) b2 (.int .i64 15)) fun t19 =>
     ifB t19
     (K (.bool false) w)
     (upK Try.prog (sCall F_errataref07_Net_side #[n0, a1]) w fun t23 w1 =>
      upK Try.prog (sCall F_errataref07_Net_side #[n0, b2]) w1 fun t26 w2 =>
      pureK Try.prog (sBin .eql T_int (.tmp 23) (.tmp 26) t23 t26) fun t27 =>
      K t27 w2))))
theorem errataref07_Net_Hear.pt_eq : errataref07_Net_Hear.pt = fun n0 a1 b2 w K => FN Try.prog Try.f24 (bodyOf Try.f24) [6] [n0, a1, b2] w K := by kernel_rfl
theorem errataref07_Net_Hear.call {n0 a1 b2 : Value} {w : World} {K : Value → World → Prop} (h : errataref07_Net_Hear.pt n0 a1 b2 w K) : Calls Try.prog F_errataref07_Net_Hear #[n0, a1, b2] w (retK K) :=
  calls_FN (args := [n0, a1, b2]) Try.func24 (by kernel_rfl) (by rw [errataref07_Net_Hear.pt_eq] at h; exact h)
theorem errataref07_Net_Hear.up {n0 a1 b2 : Value} {w : World} {K : Value → World → Prop} (h : Calls Try.prog F_errataref07_Net_Hear #[n0, a1, b2] w (retK K)) : upK Try.prog (sCall F_errataref07_Net_Hear #[n0, a1, b2]) w K :=
  up_call (fn := Try.f24) Try.func24 (by kernel_rfl) (by kernel_rfl) h

/-- errata/net.end -/
def net_end.pt (a0 : Value) (w : World) (K : Value → World → Prop) : Prop :=
  pureK Try.prog (sBin .geq T_int (.tmp 3) (.const (.int .i64 0)) a0 (.int .i64 0)) fun t4 =>
  ifB t4
  (pureK Try.prog (sBin .lss T_int (.tmp 6) (.const (.int .i64 16)) a0 (.int .i64 16)) fun t7 =>
   K t7 w)
  (K (.bool false) w)
theorem net_end.pt_eq : net_end.pt = fun a0 w K => FN Try.prog Try.f25 (bodyOf Try.f25) [2] [a0] w K := by kernel_rfl
theorem net_end.call {a0 : Value} {w : World} {K : Value → World → Prop} (h : net_end.pt a0 w K) : Calls Try.prog F_net_end #[a0] w (retK K) :=
  calls_FN (args := [a0]) Try.func25 (by kernel_rfl) (by rw [net_end.pt_eq] at h; exact h)
theorem net_end.up {a0 : Value} {w : World} {K : Value → World → Prop} (h : Calls Try.prog F_net_end #[a0] w (retK K)) : upK Try.prog (sCall F_net_end #[a0]) w K :=
  up_call (fn := Try.f25) Try.func25 (by kernel_rfl) (by kernel_rfl) h

/-- (*errata/net.Net).take -/
def net_Net_take.pt (n0 i1 : Value) (w : World) (K : Value → World → Prop) : Prop :=
  upK Try.prog (sAlloc T_api_Packet) w fun t4 w1 =>
  pureK Try.prog (sBin .lss T_int (.tmp 7) (.const (.int .i64 0)) i1 (.int .i64 0)) fun t8 =>
  ifB t8
  (pureK Try.prog (sBuild T_api_Packet #[]) fun t18 =>
   upK Try.prog (sStore T_api_Packet t4 t18) w1 fun tu w2 =>
   readV Try.prog (do loadVar T_api_Packet (← asAddr t4)) w2 fun t4_1 =>
   K (.tuple #[t4_1, (.bool false)]) w2)
  (pureK Try.prog (sNil n0) fun t12 =>
   pureK Try.prog (sFieldAddr T_net_Net t12 0) fun t13 =>
   readK Try.prog (sLoad T_s_api_Packet t13) w1 fun t14 =>
   readK Try.prog (sBlt .len #[T_s_api_Packet] T_int #[false] #[t14]) w1 fun t15 =>
   pureK Try.prog (sBin .geq T_int (.tmp 10) (.tmp 15) i1 t15) fun t16 =>
   ifB t16
   (pureK Try.prog (sBuild T_api_Packet #[]) fun t18_1 =>
    upK Try.prog (sStore T_api_Packet t4 t18_1) w1 fun tu_1 w3 =>
    readV Try.prog (do loadVar T_api_Packet (← asAddr t4)) w3 fun t4_2 =>
    K (.tuple #[t4_2, (.bool false)]) w3)
   (pureK Try.prog (sNil n0) fun t20 =>
    pureK Try.prog (sFieldAddr T_net_Net t20 0) fun t21 =>
    readK Try.prog (sLoad T_s_api_Packet t21) w1 fun t22 =>
    pureK Try.prog (sIdxAddr T_s_api_Packet t22 i1) fun t24 =>
    readK Try.prog (sLoad T_api_Packet t24) w1 fun t25 =>
    upK Try.prog (sAlloc T_api_Packet) w1 fun p6 w4 =>
    upK Try.prog (sStore T_api_Packet p6 t25) w4 fun tu_2 w5 =>
    pureK Try.prog (sNil n0) fun t28 =>
    pureK Try.prog (sFieldAddr T_net_Net t28 0) fun t29 =>
    readK Try.prog (sLoad T_s_api_Packet t29) w5 fun t30 =>
    pureK Try.prog (sBin .add T_int (.tmp 32) (.const (.int .i64 1)) i1 (.int .i64 1)) fun t33 =>
    upK Try.prog (sCall F_slices_Delete_s_api_Packet_api_Packet #[t30, i1, t33]) w5 fun t34 w6 =>
    pureK Try.prog (sNil n0) fun t35 =>
    pureK Try.prog (sFieldAddr T_net_Net t35 0) fun t36 =>
    upK Try.prog (sStore T_s_api_Packet t36 t34) w6 fun tu_3 w7 =>
    readK Try.prog (sLoad T_api_Packet p6) w7 fun t37 =>
    upK Try.prog (sStore T_api_Packet t4 t37) w7 fun tu_4 w8 =>
    readV Try.prog (do loadVar T_api_Packet (← asAddr t4)) w8 fun t4_3 =>
    K (.tuple #[t4_3, (.bool true)]) w8))
theorem net_Net_take.pt_eq : net_Net_take.pt = fun n0 i1 w K => FN Try.prog Try.f26 (bodyOf Try.f26) [5] [n0, i1] w K := by kernel_rfl
theorem net_Net_take.call {n0 i1 : Value} {w : World} {K : Value → World → Prop} (h : net_Net_take.pt n0 i1 w K) : Calls Try.prog F_net_Net_take #[n0, i1] w (retK K) :=
  calls_FN (args := [n0, i1]) Try.func26 (by kernel_rfl) (by rw [net_Net_take.pt_eq] at h; exact h)
theorem net_Net_take.up {n0 i1 : Value} {w : World} {K : Value → World → Prop} (h : Calls Try.prog F_net_Net_take #[n0, i1] w (retK K)) : upK Try.prog (sCall F_net_Net_take #[n0, i1]) w K :=
  up_call (fn := Try.f26) Try.func26 (by kernel_rfl) (by kernel_rfl) h

/-- slices.Clone[[]errata/api.Packet,errata/api.Packet] -/
def slices_Clone_s_api_Packet_api_Packet.pt (s0 : Value) (w : World) (K : Value → World → Prop) : Prop :=
  pureK Try.prog (sBin .eql T_s_api_Packet (.tmp 3) (.const (.slice none 0 0)) s0 (.slice none 0 0)) fun t4 =>
  ifB t4
  (K (.slice none 0 0) w)
  (upK Try.prog (sBuildSlice T_s_api_Packet 0 #[]) w fun t5 w1 =>
   upK Try.prog (sBlt .append #[T_s_api_Packet, T_s_api_Packet] T_s_api_Packet #[false, false] #[t5, s0]) w1 fun t7 w2 =>
   K t7 w2)
theorem slices_Clone_s_api_Packet_api_Packet.pt_eq : slices_Clone_s_api_Packet_api_Packet.pt = fun s0 w K => FN Try.prog Try.f27 (bodyOf Try.f27) [2] [s0] w K := by kernel_rfl
theorem slices_Clone_s_api_Packet_api_Packet.call {s0 : Value} {w : World} {K : Value → World → Prop} (h : slices_Clone_s_api_Packet_api_Packet.pt s0 w K) : Calls Try.prog F_slices_Clone_s_api_Packet_api_Packet #[s0] w (retK K) :=
  calls_FN (args := [s0]) Try.func27 (by kernel_rfl) (by rw [slices_Clone_s_api_Packet_api_Packet.pt_eq] at h; exact h)
theorem slices_Clone_s_api_Packet_api_Packet.up {s0 : Value} {w : World} {K : Value → World → Prop} (h : Calls Try.prog F_slices_Clone_s_api_Packet_api_Packet #[s0] w (retK K)) : upK Try.prog (sCall F_slices_Clone_s_api_Packet_api_Packet #[s0]) w K :=
  up_call (fn := Try.f27) Try.func27 (by kernel_rfl) (by kernel_rfl) h

/-- (*errata/net.Net).Drop -/
def net_Net_Drop.pt (n0 i1 : Value) (w : World) (K : Value → World → Prop) : Prop :=
  upK Try.prog (sCall F_net_Net_take #[n0, i1]) w fun t10 w1 =>
  pureK Try.prog (sExtract t10 0) fun t11 =>
  pureK Try.prog (sExtract t10 1) fun t12 =>
  upK Try.prog (sAlloc T_api_Packet) w1 fun t5 w2 =>
  upK Try.prog (sStore T_api_Packet t5 t11) w2 fun tu w3 =>
  pureK Try.prog (sUn .not t12) fun t14 =>
  ifB t14
  (K (.int .i64 4) w3)
  (K (.int .i64 0) w3)
theorem net_Net_Drop.pt_eq : net_Net_Drop.pt = fun n0 i1 w K => FN Try.prog Try.f28 (bodyOf Try.f28) [4] [n0, i1] w K := by kernel_rfl
theorem net_Net_Drop.call {n0 i1 : Value} {w : World} {K : Value → World → Prop} (h : net_Net_Drop.pt n0 i1 w K) : Calls Try.prog F_net_Net_Drop #[n0, i1] w (retK K) :=
  calls_FN (args := [n0, i1]) Try.func28 (by kernel_rfl) (by rw [net_Net_Drop.pt_eq] at h; exact h)
theorem net_Net_Drop.up {n0 i1 : Value} {w : World} {K : Value → World → Prop} (h : Calls Try.prog F_net_Net_Drop #[n0, i1] w (retK K)) : upK Try.prog (sCall F_net_Net_Drop #[n0, i1]) w K :=
  up_call (fn := Try.f28) Try.func28 (by kernel_rfl) (by kernel_rfl) h

/-- (*errata/errataref07.Net).Deliver -/
def errataref07_Net_Deliver.pt (n0 i1 : Value) (w : World) (K : Value → World → Prop) : Prop :=
  upK Try.prog (sAlloc T_api_Packet) w fun t4 w1 =>
  pureK Try.prog (sBin .lss T_int (.tmp 7) (.const (.int .i64 0)) i1 (.int .i64 0)) fun t8 =>
  ifB t8
  (pureK Try.prog (sBuild T_api_Packet #[]) fun t18 =>
   upK Try.prog (sStore T_api_Packet t4 t18) w1 fun tu w2 =>
   readV Try.prog (do loadVar T_api_Packet (← asAddr t4)) w2 fun t4_1 =>
   K (.tuple #[t4_1, (.int .i64 4)]) w2)
  (pureK Try.prog (sNil n0) fun t12 =>
   pureK Try.prog (sFieldAddr T_errataref07_Net t12 0) fun t13 =>
   readK Try.prog (sLoad T_s_api_Packet t13) w1 fun t14 =>
   readK Try.prog (sBlt .len #[T_s_api_Packet] T_int #[false] #[t14]) w1 fun t15 =>
   pureK Try.prog (sBin .geq T_int (.tmp 10) (.tmp 15) i1 t15) fun t16 =>
   ifB t16
   (pureK Try.prog (sBuild T_api_Packet #[]) fun t18_1 =>
    upK Try.prog (sStore T_api_Packet t4 t18_1) w1 fun tu_1 w3 =>
    readV Try.prog (do loadVar T_api_Packet (← asAddr t4)) w3 fun t4_2 =>
    K (.tuple #[t4_2, (.int .i64 4)]) w3)
   (pureK Try.prog (sNil n0) fun t20 =>
    pureK Try.prog (sFieldAddr T_errataref07_Net t20 0) fun t21 =>
    readK Try.prog (sLoad T_s_api_Packet t21) w1 fun t22 =>
    pureK Try.prog (sIdxAddr T_s_api_Packet t22 i1) fun t24 =>
    readK Try.prog (sLoad T_api_Packet t24) w1 fun t25 =>
    upK Try.prog (sAlloc T_api_Packet) w1 fun p6 w4 =>
    upK Try.prog (sStore T_api_Packet p6 t25) w4 fun tu_2 w5 =>
    upK Try.prog (sCall F_errataref07_Net_remove #[n0, i1]) w5 fun t28 w6 =>
    pureK Try.prog (sFieldAddr T_api_Packet p6 0) fun t30 =>
    readK Try.prog (sLoad T_int t30) w6 fun t31 =>
    pureK Try.prog (sFieldAddr T_api_Packet p6 1) fun t32 =>
    readK Try.prog (sLoad T_int t32) w6 fun t33 =>
    upK Try.prog (sCall F_errataref07_Net_Hear #[n0, t31, t33]) w6 fun t34 w7 =>
    pureK Try.prog (sUn .not t34) fun t35 =>
    ifB t35
    (pureK Try.prog (sBuild T_api_Packet #[]) fun t36 =>
     upK Try.prog (sStore T_api_Packet t4 t36) w7 fun tu_3 w8 =>
     readV Try.prog (do loadVar T_api_Packet (← asAddr t4)) w8 fun t4_3 =>
     K (.tuple #[t4_3, (.int .i64 10)]) w8)
    (readK Try.prog (sLoad T_api_Packet p6) w7 fun t37 =>
     upK Try.prog (sStore T_api_Packet t4 t37) w7 fun tu_4 w9 =>
     readV Try.prog (do loadVar T_api_Packet (← asAddr t4)) w9 fun t4_4 =>
     K (.tuple #[t4_4, (.int .i64 0)]) w9)))
theorem errataref07_Net_Deliver.pt_eq : errataref07_Net_Deliver.pt = fun n0 i1 w K => FN Try.prog Try.f29 (bodyOf Try.f29) [5] [n0, i1] w K := by kernel_rfl
theorem errataref07_Net_Deliver.call {n0 i1 : Value} {w : World} {K : Value → World → Prop} (h : errataref07_Net_Deliver.pt n0 i1 w K) : Calls Try.prog F_errataref07_Net_Deliver #[n0, i1] w (retK K) :=
  calls_FN (args := [n0, i1]) Try.func29 (by kernel_rfl) (by rw [errataref07_Net_Deliver.pt_eq] at h; exact h)
theorem errataref07_Net_Deliver.up {n0 i1 : Value} {w : World} {K : Value → World → Prop} (h : Calls Try.prog F_errataref07_Net_Deliver #[n0, i1] w (retK K)) : upK Try.prog (sCall F_errataref07_Net_Deliver #[n0, i1]) w K :=
  up_call (fn := Try.f29) Try.func29 (by kernel_rfl) (by kernel_rfl) h

/-- (*errata/errataref07.Net).Drop -/
def errataref07_Net_Drop.pt (n0 i1 : Value) (w : World) (K : Value → World → Prop) : Prop :=
  pureK Try.prog (sBin .lss T_int (.tmp 5) (.const (.int .i64 0)) i1 (.int .i64 0)) fun t6 =>
  ifB t6
  (K (.int .i64 4) w)
  (pureK Try.prog (sNil n0) fun t10 =>
   pureK Try.prog (sFieldAddr T_errataref07_Net t10 0) fun t11 =>
   readK Try.prog (sLoad T_s_api_Packet t11) w fun t12 =>
   readK Try.prog (sBlt .len #[T_s_api_Packet] T_int #[false] #[t12]) w fun t13 =>
   pureK Try.prog (sBin .geq T_int (.tmp 8) (.tmp 13) i1 t13) fun t14 =>
   ifB t14
   (K (.int .i64 4) w)
   (upK Try.prog (sCall F_errataref07_Net_remove #[n0, i1]) w fun t18 w1 =>
    K (.int .i64 0) w1))
theorem errataref07_Net_Drop.pt_eq : errataref07_Net_Drop.pt = fun n0 i1 w K => FN Try.prog Try.f30 (bodyOf Try.f30) [4] [n0, i1] w K := by kernel_rfl
theorem errataref07_Net_Drop.call {n0 i1 : Value} {w : World} {K : Value → World → Prop} (h : errataref07_Net_Drop.pt n0 i1 w K) : Calls Try.prog F_errataref07_Net_Drop #[n0, i1] w (retK K) :=
  calls_FN (args := [n0, i1]) Try.func30 (by kernel_rfl) (by rw [errataref07_Net_Drop.pt_eq] at h; exact h)
theorem errataref07_Net_Drop.up {n0 i1 : Value} {w : World} {K : Value → World → Prop} (h : Calls Try.prog F_errataref07_Net_Drop #[n0, i1] w (retK K)) : upK Try.prog (sCall F_errataref07_Net_Drop #[n0, i1]) w K :=
  up_call (fn := Try.f30) Try.func30 (by kernel_rfl) (by kernel_rfl) h

/-- (*errata/errataref07.Net).Double -/
def errataref07_Net_Double.pt (n0 i1 : Value) (w : World) (K : Value → World → Prop) : Prop :=
  pureK Try.prog (sBin .lss T_int (.tmp 5) (.const (.int .i64 0)) i1 (.int .i64 0)) fun t6 =>
  ifB t6
  (K (.int .i64 4) w)
  (pureK Try.prog (sNil n0) fun t10 =>
   pureK Try.prog (sFieldAddr T_errataref07_Net t10 0) fun t11 =>
   readK Try.prog (sLoad T_s_api_Packet t11) w fun t12 =>
   readK Try.prog (sBlt .len #[T_s_api_Packet] T_int #[false] #[t12]) w fun t13 =>
   pureK Try.prog (sBin .geq T_int (.tmp 8) (.tmp 13) i1 t13) fun t14 =>
   ifB t14
   (K (.int .i64 4) w)
   (pureK Try.prog (sNil n0) fun t17 =>
    pureK Try.prog (sFieldAddr T_errataref07_Net t17 0) fun t18 =>
    readK Try.prog (sLoad T_s_api_Packet t18) w fun t19 =>
    readK Try.prog (sBlt .len #[T_s_api_Packet] T_int #[false] #[t19]) w fun t20 =>
    pureK Try.prog (sBin .geq T_int (.tmp 20) (.const (.int .i64 500)) t20 (.int .i64 500)) fun t21 =>
    ifB t21
    (K (.int .i64 6) w)
    (let J1 : World → Prop := fun w1 =>
     (K (.int .i64 0) w1)
     pureK Try.prog (sNil n0) fun t25 =>
     pureK Try.prog (sFieldAddr T_errataref07_Net t25 0) fun t26 =>
     readK Try.prog (sLoad T_s_api_Packet t26) (tick w) fun t27 =>
     pureK Try.prog (sNil n0) fun t30 =>
     pureK Try.prog (sFieldAddr T_errataref07_Net t30 0) fun t31 =>
     readK Try.prog (sLoad T_s_api_Packet t31) (tick w) fun t32 =>
     pureK Try.prog (sIdxAddr T_s_api_Packet t32 i1) fun t34 =>
     readK Try.prog (sLoad T_api_Packet t34) (tick w) fun t35 =>
     ((upK Try.prog (sBuildSlice T_s_api_Packet 0 #[]) (tick w) fun t23 w2 =>
       Is Try.prog (sLoad T_api_Packet t34) t35 w2 ∧ Is Try.prog (sLoad T_s_api_Packet t31) t32 w2 ∧ Is Try.prog (sLoad T_s_api_Packet t26) t27 w2 ∧ ((upK Try.prog (sBlt .append #[T_s_api_Packet, T_s_api_Packet] T_s_api_Packet #[false, false] #[t23, t27]) w2 fun t28 w3 =>
         Is Try.prog (sLoad T_api_Packet t34) t35 w3 ∧ Is Try.prog (sLoad T_s_api_Packet t31) t32 w3 ∧ upK Try.prog (sBuildSlice T_s_api_Packet 1 #[(0, t35)]) w3 fun t36 w4 =>
         Is Try.prog (sLoad T_s_api_Packet t26) t27 w4 ∧ upK Try.prog (sBlt .append #[T_s_api_Packet, T_s_api_Packet] T_s_api_Packet #[false, false] #[t28, t36]) w4 fun t37 w5 =>
         pureK Try.prog (sNil n0) fun t38 =>
         pureK Try.prog (sFieldAddr T_errataref07_Net t38 0) fun t39 =>
         upK Try.prog (sStore T_s_api_Packet t39 t37) w5 fun tu w6 =>
         J1 w6)
        ∧ (upK Try.prog (sBuildSlice T_s_api_Packet 1 #[(0, t35)]) w2 fun t36_1 w7 =>
         Is Try.prog (sLoad T_s_api_Packet t26) t27 w7 ∧ upK Try.prog (sBlt .append #[T_s_api_Packet, T_s_api_Packet] T_s_api_Packet #[false, false] #[t23, t27]) w7 fun t28_1 w8 =>
         Is Try.prog (sLoad T_api_Packet t34) t35 w8 ∧ Is Try.prog (sLoad T_s_api_Packet t31) t32 w8 ∧ upK Try.prog (sBlt .append #[T_s_api_Packet, T_s_api_Packet] T_s_api_Packet #[false, false] #[t28_1, t36_1]) w8 fun t37_1 w9 =>
         pureK Try.prog (sNil n0) fun t38_1 =>
         pureK Try.prog (sFieldAddr T_errataref07_Net t38_1 0) fun t39_1 =>
         upK Try.prog (sStore T_s_api_Packet t39_1 t37_1) w9 fun tu_1 w10 =>
         J1 w10)))
      ∧ (upK Try.prog (sBuildSlice T_s_api_Packet 1 #[(0, t35)]) (tick w) fun t36_2 w11 =>
       Is Try.prog (sLoad T_s_api_Packet t26) t27 w11 ∧ upK Try.prog (sBuildSlice T_s_api_Packet 0 #[]) w11 fun t23_1 w12 =>
       Is Try.prog (sLoad T_api_Packet t34) t35 w12 ∧ Is Try.prog (sLoad T_s_api_Packet t31) t32 w12 ∧ Is Try.prog (sLoad T_s_api_Packet t26) t27 w12 ∧ upK Try.prog (sBlt .append #[T_s_api_Packet, T_s_api_Packet] T_s_api_Packet #[false, false] #[t23_1, t27]) w12 fun t28_2 w13 =>
       Is Try.prog (sLoad T_api_Packet t34) t35 w13 ∧ Is Try.prog (sLoad T_s_api_Packet t31) t32 w13 ∧ upK Try.prog (sBlt .append #[T_s_api_Packet, T_s_api_Packet] T_s_api_Packet #[false, false] #[t28_2, t36_2]) w13 fun t37_2 w14 =>
       pureK Try.prog (sNil n0) fun t38_2 =>
       pureK Try.prog (sFieldAddr T_errataref07_Net t38_2 0) fun t39_2 =>
       upK Try.prog (sStore T_s_api_Packet t39_2 t37_2) w14 fun tu_2 w15 =>
       J1 w15)))))
theorem errataref07_Net_Double.pt_eq : errataref07_Net_Double.pt = fun n0 i1 w K => FN Try.prog Try.f31 (bodyOf Try.f31) [4] [n0, i1] w K := by kernel_rfl
theorem errataref07_Net_Double.call {n0 i1 : Value} {w : World} {K : Value → World → Prop} (h : errataref07_Net_Double.pt n0 i1 w K) : Calls Try.prog F_errataref07_Net_Double #[n0, i1] w (retK K) :=
  calls_FN (args := [n0, i1]) Try.func31 (by kernel_rfl) (by rw [errataref07_Net_Double.pt_eq] at h; exact h)
theorem errataref07_Net_Double.up {n0 i1 : Value} {w : World} {K : Value → World → Prop} (h : Calls Try.prog F_errataref07_Net_Double #[n0, i1] w (retK K)) : upK Try.prog (sCall F_errataref07_Net_Double #[n0, i1]) w K :=
  up_call (fn := Try.f31) Try.func31 (by kernel_rfl) (by kernel_rfl) h

/-- (*errata/errataref07.Net).Split -/
def errataref07_Net_Split.pt (n0 mask1 : Value) (w : World) (K : Value → World → Prop) : Prop :=
  pureK Try.prog (sBin .and T_int (.tmp 5) (.const (.int .i64 65535)) mask1 (.int .i64 65535)) fun t6 =>
  pureK Try.prog (sNil n0) fun t7 =>
  pureK Try.prog (sFieldAddr T_errataref07_Net t7 1) fun t8 =>
  upK Try.prog (sStore T_int t8 t6) w fun tu w1 =>
  K (.tuple #[]) w1
theorem errataref07_Net_Split.pt_eq : errataref07_Net_Split.pt = fun n0 mask1 w K => FN Try.prog Try.f32 (bodyOf Try.f32) [] [n0, mask1] w K := by kernel_rfl
theorem errataref07_Net_Split.call {n0 mask1 : Value} {w : World} {K : Value → World → Prop} (h : errataref07_Net_Split.pt n0 mask1 w K) : Calls Try.prog F_errataref07_Net_Split #[n0, mask1] w (retK K) :=
  calls_FN (args := [n0, mask1]) Try.func32 (by kernel_rfl) (by rw [errataref07_Net_Split.pt_eq] at h; exact h)
theorem errataref07_Net_Split.up {n0 mask1 : Value} {w : World} {K : Value → World → Prop} (h : Calls Try.prog F_errataref07_Net_Split #[n0, mask1] w (retK K)) : upK Try.prog (sCall F_errataref07_Net_Split #[n0, mask1]) w K :=
  up_call (fn := Try.f32) Try.func32 (by kernel_rfl) (by kernel_rfl) h

/-- (*errata/errataref07.Net).Send -/
def errataref07_Net_Send.pt (n0 from1 to2 body3 : Value) (w : World) (K : Value → World → Prop) : Prop :=
  pureK Try.prog (sBin .lss T_int (.tmp 9) (.const (.int .i64 0)) from1 (.int .i64 0)) fun t10 =>
  ifB t10
  (K (.int .i64 1) w)
  (pureK Try.prog (sBin .gtr T_int (.tmp 12) (.const (.int .i64 15)) from1 (.int .i64 15)) fun t13 =>
   ifB t13
   (K (.int .i64 1) w)
   (pureK Try.prog (sBin .lss T_int (.tmp 16) (.const (.int .i64 0)) to2 (.int .i64 0)) fun t17 =>
    ifB t17
    (K (.int .i64 1) w)
    (pureK Try.prog (sBin .gtr T_int (.tmp 20) (.const (.int .i64 15)) to2 (.int .i64 15)) fun t21 =>
     ifB t21
     (K (.int .i64 1) w)
     (pureK Try.prog (sBin .eql T_int (.tmp 24) (.tmp 25) from1 to2) fun t26 =>
      ifB t26
      (K (.int .i64 1) w)
      (upK Try.prog (sCall F_errataref07_Net_Hear #[n0, from1, to2]) w fun t31 w1 =>
       pureK Try.prog (sUn .not t31) fun t32 =>
       ifB t32
       (K (.int .i64 10) w1)
       (pureK Try.prog (sNil n0) fun t34 =>
        pureK Try.prog (sFieldAddr T_errataref07_Net t34 0) fun t35 =>
        readK Try.prog (sLoad T_s_api_Packet t35) w1 fun t36 =>
        readK Try.prog (sBlt .len #[T_s_api_Packet] T_int #[false] #[t36]) w1 fun t37 =>
        pureK Try.prog (sBin .geq T_int (.tmp 37) (.const (.int .i64 500)) t37 (.int .i64 500)) fun t38 =>
        ifB t38
        (K (.int .i64 6) w1)
        (pureK Try.prog (sNil n0) fun t41 =>
         pureK Try.prog (sFieldAddr T_errataref07_Net t41 0) fun t42 =>
         readK Try.prog (sLoad T_s_api_Packet t42) w1 fun t43 =>
         pureK Try.prog (sBuild T_api_Packet #[(0, from1), (1, to2), (2, body3)]) fun t47 =>
         upK Try.prog (sBuildSlice T_s_api_Packet 1 #[(0, t47)]) w1 fun t48 w2 =>
         upK Try.prog (sBlt .append #[T_s_api_Packet, T_s_api_Packet] T_s_api_Packet #[false, false] #[t43, t48]) w2 fun t49 w3 =>
         pureK Try.prog (sNil n0) fun t50 =>
         pureK Try.prog (sFieldAddr T_errataref07_Net t50 0) fun t51 =>
         upK Try.prog (sStore T_s_api_Packet t51 t49) w3 fun tu w4 =>
         K (.int .i64 0) w4)))))))
theorem errataref07_Net_Send.pt_eq : errataref07_Net_Send.pt = fun n0 from1 to2 body3 w K => FN Try.prog Try.f33 (bodyOf Try.f33) [8] [n0, from1, to2, body3] w K := by kernel_rfl
theorem errataref07_Net_Send.call {n0 from1 to2 body3 : Value} {w : World} {K : Value → World → Prop} (h : errataref07_Net_Send.pt n0 from1 to2 body3 w K) : Calls Try.prog F_errataref07_Net_Send #[n0, from1, to2, body3] w (retK K) :=
  calls_FN (args := [n0, from1, to2, body3]) Try.func33 (by kernel_rfl) (by rw [errataref07_Net_Send.pt_eq] at h; exact h)
theorem errataref07_Net_Send.up {n0 from1 to2 body3 : Value} {w : World} {K : Value → World → Prop} (h : Calls Try.prog F_errataref07_Net_Send #[n0, from1, to2, body3] w (retK K)) : upK Try.prog (sCall F_errataref07_Net_Send #[n0, from1, to2, body3]) w K :=
  up_call (fn := Try.f33) Try.func33 (by kernel_rfl) (by kernel_rfl) h

/-- (*errata/errataref07.Net).side -/
def errataref07_Net_side.pt (n0 a1 : Value) (w : World) (K : Value → World → Prop) : Prop :=
  pureK Try.prog (sNil n0) fun t6 =>
  pureK Try.prog (sFieldAddr T_errataref07_Net t6 1) fun t7 =>
  readK Try.prog (sLoad T_int t7) w fun t8 =>
  upK Try.prog (sConv T_int T_uint a1) w fun t10 w1 =>
  pureK Try.prog (sBin .shr T_int (.tmp 8) (.tmp 10) t8 t10) fun t11 =>
  pureK Try.prog (sBin .and T_int (.tmp 11) (.const (.int .i64 1)) t11 (.int .i64 1)) fun t12 =>
  K t12 w1
theorem errataref07_Net_side.pt_eq : errataref07_Net_side.pt = fun n0 a1 w K => FN Try.prog Try.f34 (bodyOf Try.f34) [4] [n0, a1] w K := by kernel_rfl
theorem errataref07_Net_side.call {n0 a1 : Value} {w : World} {K : Value → World → Prop} (h : errataref07_Net_side.pt n0 a1 w K) : Calls Try.prog F_errataref07_Net_side #[n0, a1] w (retK K) :=
  calls_FN (args := [n0, a1]) Try.func34 (by kernel_rfl) (by rw [errataref07_Net_side.pt_eq] at h; exact h)
theorem errataref07_Net_side.up {n0 a1 : Value} {w : World} {K : Value → World → Prop} (h : Calls Try.prog F_errataref07_Net_side #[n0, a1] w (retK K)) : upK Try.prog (sCall F_errataref07_Net_side #[n0, a1]) w K :=
  up_call (fn := Try.f34) Try.func34 (by kernel_rfl) (by kernel_rfl) h

/-- slices.Delete[[]errata/api.Packet,errata/api.Packet] -/
def slices_Delete_s_api_Packet_api_Packet.pt (s0 i1 j2 : Value) (w : World) (K : Value → World → Prop) : Prop :=
  readK Try.prog (sBlt .len #[T_s_api_Packet] T_int #[false] #[s0]) w fun t12 =>
  pureK Try.prog (sSlice T_s_api_Packet s0 (some i1) (some j2) (some t12)) fun t13 =>
  pureK Try.prog (sBin .eql T_int (.tmp 14) (.tmp 15) i1 j2) fun t16 =>
  ifB t16
  (K s0 w)
  (readK Try.prog (sBlt .len #[T_s_api_Packet] T_int #[false] #[s0]) w fun t19 =>
   pureK Try.prog (sSlice T_s_api_Packet s0 none (some i1) none) fun t22 =>
   pureK Try.prog (sSlice T_s_api_Packet s0 (some j2) none none) fun t25 =>
   upK Try.prog (sBlt .append #[T_s_api_Packet, T_s_api_Packet] T_s_api_Packet #[false, false] #[t22, t25]) (tick w) fun t26 w1 =>
   readK Try.prog (sBlt .len #[T_s_api_Packet] T_int #[false] #[t26]) w1 fun t29 =>
   pureK Try.prog (sSlice T_s_api_Packet t26 (some t29) (some t19) none) fun t31 =>
   upK Try.prog (sBlt .clear #[T_s_api_Packet] T_ #[false] #[t31]) w1 fun tu w2 =>
   K t26 w2)
theorem slices_Delete_s_api_Packet_api_Packet.pt_eq : slices_Delete_s_api_Packet_api_Packet.pt = fun s0 i1 j2 w K => FN Try.prog Try.f35 (bodyOf Try.f35) [6] [s0, i1, j2] w K := by kernel_rfl
theorem slices_Delete_s_api_Packet_api_Packet.call {s0 i1 j2 : Value} {w : World} {K : Value → World → Prop} (h : slices_Delete_s_api_Packet_api_Packet.pt s0 i1 j2 w K) : Calls Try.prog F_slices_Delete_s_api_Packet_api_Packet #[s0, i1, j2] w (retK K) :=
  calls_FN (args := [s0, i1, j2]) Try.func35 (by kernel_rfl) (by rw [slices_Delete_s_api_Packet_api_Packet.pt_eq] at h; exact h)
theorem slices_Delete_s_api_Packet_api_Packet.up {s0 i1 j2 : Value} {w : World} {K : Value → World → Prop} (h : Calls Try.prog F_slices_Delete_s_api_Packet_api_Packet #[s0, i1, j2] w (retK K)) : upK Try.prog (sCall F_slices_Delete_s_api_Packet_api_Packet #[s0, i1, j2]) w K :=
  up_call (fn := Try.f35) Try.func35 (by kernel_rfl) (by kernel_rfl) h

/-- (*errata/errataref07.Net).remove -/
def errataref07_Net_remove.pt (n0 i1 : Value) (w : World) (K : Value → World → Prop) : Prop :=
  pureK Try.prog (sNil n0) fun t7 =>
  pureK Try.prog (sFieldAddr T_errataref07_Net t7 0) fun t8 =>
  readK Try.prog (sLoad T_s_api_Packet t8) (tick w) fun t9 =>
  pureK Try.prog (sSlice T_s_api_Packet t9 none (some i1) none) fun t11 =>
  pureK Try.prog (sNil n0) fun t14 =>
  pureK Try.prog (sFieldAddr T_errataref07_Net t14 0) fun t15 =>
  readK Try.prog (sLoad T_s_api_Packet t15) (tick w) fun t16 =>
  pureK Try.prog (sBin .add T_int (.tmp 17) (.const (.int .i64 1)) i1 (.int .i64 1)) fun t18 =>
  pureK Try.prog (sSlice T_s_api_Packet t16 (some t18) none none) fun t19 =>
  upK Try.prog (sBuildSlice T_s_api_Packet 0 #[]) (tick w) fun t5 w1 =>
  Is Try.prog (sLoad T_s_api_Packet t15) t16 w1 ∧ Is Try.prog (sLoad T_s_api_Packet t8) t9 w1 ∧ upK Try.prog (sBlt .append #[T_s_api_Packet, T_s_api_Packet] T_s_api_Packet #[false, false] #[t5, t11]) w1 fun t12 w2 =>
  Is Try.prog (sLoad T_s_api_Packet t15) t16 w2 ∧ upK Try.prog (sBlt .append #[T_s_api_Packet, T_s_api_Packet] T_s_api_Packet #[false, false] #[t12, t19]) w2 fun t20 w3 =>
  pureK Try.prog (sNil n0) fun t21 =>
  pureK Try.prog (sFieldAddr T_errataref07_Net t21 0) fun t22 =>
  upK Try.prog (sStore T_s_api_Packet t22 t20) w3 fun tu w4 =>
  K (.tuple #[]) w4
theorem errataref07_Net_remove.pt_eq : errataref07_Net_remove.pt = fun n0 i1 w K => FN Try.prog Try.f36 (bodyOf Try.f36) [] [n0, i1] w K := by kernel_rfl
theorem errataref07_Net_remove.call {n0 i1 : Value} {w : World} {K : Value → World → Prop} (h : errataref07_Net_remove.pt n0 i1 w K) : Calls Try.prog F_errataref07_Net_remove #[n0, i1] w (retK K) :=
  calls_FN (args := [n0, i1]) Try.func36 (by kernel_rfl) (by rw [errataref07_Net_remove.pt_eq] at h; exact h)
theorem errataref07_Net_remove.up {n0 i1 : Value} {w : World} {K : Value → World → Prop} (h : Calls Try.prog F_errataref07_Net_remove #[n0, i1] w (retK K)) : upK Try.prog (sCall F_errataref07_Net_remove #[n0, i1]) w K :=
  up_call (fn := Try.f36) Try.func36 (by kernel_rfl) (by kernel_rfl) h

end Go.Proofs.Ytollnmlnpngmfaa
